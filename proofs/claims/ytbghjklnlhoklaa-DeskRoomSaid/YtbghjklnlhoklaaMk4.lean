/-
  The program's pool of names in memory: what it is, and how a step of it turns it. Plain: no program walked. No condition.
  The program's pool of names: what reads it (of, at, Head, Gen, Alive). No condition.
-/
import Derived.Test.YtbghjklnlhoklaaMk1
namespace Go.Proofs.Ytbghjklnlhoklaa
open Go.RowKit

structure Ix where
  (gen bound : Int) (alive : Bool)
structure Sh where
  (all : List Ix) (free : List Int)
/-- Where a shard's indices lie, and the value of its free slice. -/
structure ShL where
  (A : Nat) (fv : Value)
structure Lay where
  (P S : Nat) (sh : List ShL)

/-- The blocks, each with a number of its own: 0 the pool, 1 the shards, 2 + 2k the indices of shard k, 3 + 2k its row. -/
def Lay.has (L : Lay) : Nat → Nat → Prop
  | 0, b => L.P = b
  | 1, b => L.S = b
  | t + 2, b => ∃ l, L.sh[t / 2]? = some l ∧ ((t % 2 = 0 ∧ l.A = b) ∨ (t % 2 = 1 ∧ l.fv.ownBlock = some b))
def Lay.own (L : Lay) (b : Nat) : Prop := ∃ t, L.has t b

structure ShInv (m : Sh) : Prop where
  few : m.all.length ≤ 16
  rng : ∀ (i : Nat) (x : Ix), m.all[i]? = some x → 0 ≤ x.gen ∧ x.gen ≤ 1048576 ∧ 0 ≤ x.bound ∧ x.bound ≤ 1048576 ∧ (x.alive = true → x.gen < 1048576)
  fr : ∀ f ∈ m.free, (0 : Int) ≤ f ∧ f < m.all.length
  nd : m.free.Nodup
  dead : ∀ f ∈ m.free, ∀ (x : Ix), m.all[f.toNat]? = some x → x.alive = false

/-- One shard. -/
structure ShAt (w : World) (cur : Array Value) (k : Nat) (m : Sh) (l : ShL) : Prop where
  slA : cur[k * 2]? = some (.slice (some ⟨l.A, 0, none⟩) m.all.length m.all.length)
  slF : cur[k * 2 + 1]? = some l.fv
  rows : ∃ ca, w.heap[l.A]? = some (.cells ca 126 (0, 0)) ∧ ca.size = 3 * m.all.length ∧ ∀ (i : Nat) (x : Ix), m.all[i]? = some x → ca[i * 3]? = some (.int .i64 x.gen) ∧ ca[i * 3 + 1]? = some (.int .i64 x.bound) ∧ ca[i * 3 + 2]? = some (.bool x.alive)
  free : Sl w 3 1 l.fv m.free.length (m.free.map (Value.int .i64))
  inv : ShInv m

/-- A pool of n shards, of which the first are made. -/
structure PoolN (w : World) (L : Lay) (M : List Sh) (n : Nat) : Prop where
  len : L.sh.length = M.length
  le : M.length ≤ n
  few : n ≤ 16
  top : w.heap[L.P]? = some (.cells #[.slice (some ⟨L.S, 0, none⟩) n n] 116 (0, 0))
  shards : ∃ cur, w.heap[L.S]? = some (.cells cur 119 (0, 0)) ∧ cur.size = 2 * n ∧ (∀ j, M.length ≤ j → j < n → cur[j * 2]? = some (.slice none 0 0) ∧ cur[j * 2 + 1]? = some (.slice none 0 0)) ∧ ∀ (k : Nat) (m : Sh) (l : ShL), M[k]? = some m → L.sh[k]? = some l → ShAt w cur k m l
  apart : ∀ t t' b, L.has t b → L.has t' b → t = t'

abbrev PoolAt (w : World) (L : Lay) (M : List Sh) : Prop := PoolN w L M M.length

/-- What has turned: blocks of F alone, and what is new. -/
structure Chg (w w' : World) (F : Nat → Prop) : Prop where
  os : w'.os = w.os
  tape : w'.tape = w.tape
  output : w'.output = w.output
  size : w.heap.size ≤ w'.heap.size
  block : ∀ k, k < w.heap.size → ¬ F k → w'.heap[k]? = w.heap[k]?

theorem Chg.of_below {w w' : World} {F : Nat → Prop} (h : Below w.heap.size w w') : Chg w w' F := ⟨h.os, h.tape, h.output, h.size, fun k hk _ => h.block k hk⟩
theorem Chg.refl (w : World) (F : Nat → Prop) : Chg w w F := Chg.of_below (Below.refl _ _)
theorem Chg.trans {w w' w'' : World} {F F' : Nat → Prop} (h : Chg w w' F) (h' : Chg w' w'' F') (hF : ∀ b, b < w.heap.size → F' b → F b) : Chg w w'' F :=
  ⟨h'.os.trans h.os, h'.tape.trans h.tape, h'.output.trans h.output, Nat.le_trans h.size h'.size, fun k hk hn => (h'.block k (Nat.lt_of_lt_of_le hk h.size) (fun e => hn (hF k hk e))).trans (h.block k hk hn)⟩
theorem Chg.mono {w w' : World} {F F' : Nat → Prop} (h : Chg w w' F) (hF : ∀ b, b < w.heap.size → F b → F' b) : Chg w w' F' := ⟨h.os, h.tape, h.output, h.size, fun k hk hn => h.block k hk fun e => hn (hF k hk e)⟩
theorem Chg.setCell {w w' : World} {F : Nat → Prop} (h : Chg w w' F) (a : Addr) (u : Value) (ha : F a.block ∨ w.heap.size ≤ a.block) : Chg w (w'.setCell a u) F :=
  ⟨h.os, h.tape, h.output, by have := h.size; simpa [World.setCell] using this, fun k hk hn => (Below.heap_setCell _ _ _ _ (by rintro rfl; rcases ha with ha | ha; exact hn ha; omega)).trans (h.block k hk hn)⟩
theorem Chg.then_below {w w' w'' : World} {F : Nat → Prop} (h : Chg w w' F) (h' : Below w.heap.size w' w'') : Chg w w'' F :=
  ⟨h'.os.trans h.os, h'.tape.trans h.tape, h'.output.trans h.output, Nat.le_trans h.size h'.size, fun k hk hn => (h'.block k hk).trans (h.block k hk hn)⟩
theorem Chg.of_turned {w w' : World} {b : Option Nat} {F : Nat → Prop} (h : Turned w w' b) (hF : ∀ k, b = some k → k < w.heap.size → F k) : Chg w w' F :=
  ⟨h.os, h.tape, h.output, h.size, fun k hk hn => h.block k hk (fun e => hn (hF k e.symm hk))⟩
theorem Chg.cell {w w' : World} {F : Nat → Prop} (h : Chg w w' F) {a : Addr} (hs : a.block < w.heap.size) (hn : ¬ F a.block) : w'.cell? a = w.cell? a := World.cell?_of_block (w := w) (h.block _ hs hn)
theorem Chg.frozen {w w' : World} {F : Nat → Prop} (h : Chg w w' F) {a : Addr} (hs : a.block < w.heap.size) (hn : ¬ F a.block) : w'.frozen? a = w.frozen? a := World.frozen?_of_block (w := w) (h.block _ hs hn)
/-- If all that has turned is not below B. -/
theorem Chg.below {w w' : World} {F : Nat → Prop} {B : Nat} (h : Chg w w' F) (hB : B ≤ w.heap.size) (hF : ∀ b, F b → B ≤ b) : Below B w w' :=
  ⟨h.os, h.tape, h.output, h.size, fun k hk => h.block k (by omega) fun e => by have := hF k e; omega⟩

theorem lt_of_heap {w : World} {b : Nat} {o : Obj} (h : w.heap[b]? = some o) : b < w.heap.size := (Array.getElem?_eq_some_iff.1 h).1

theorem Sl.lt {w : World} {e : TypeId} {size : Nat} {v : Value} {n : Nat} {xs : List Value} (h : Sl w e size v n xs) {g : Nat} (hg : v.ownBlock = some g) : g < w.heap.size := by
  obtain ⟨_, ⟨rfl, _⟩ | ⟨g', off, cap, cur, rfl, hb, _⟩⟩ := h
  · cases hg
  · simp [Value.ownBlock] at hg
    subst hg
    exact lt_of_heap hb

/-- Any block of the pool's lies below the heap's end. -/
theorem PoolN.lt {w : World} {L : Lay} {M : List Sh} {n : Nat} (h : PoolN w L M n) {b : Nat} (hb : L.own b) : b < w.heap.size := by
  obtain ⟨t, ht⟩ := hb
  obtain ⟨cur, hS, _, _, hsh⟩ := h.shards
  match t, ht with
  | 0, ht => subst ht; exact lt_of_heap h.top
  | 1, ht => subst ht; exact lt_of_heap hS
  | t + 2, ht =>
    obtain ⟨l, hl, hor⟩ := ht
    have hk : t / 2 < M.length := by rw [← h.len]; exact (List.getElem?_eq_some_iff.1 hl).1
    have hs := hsh _ _ l (List.getElem?_eq_getElem hk) hl
    rcases hor with ⟨_, rfl⟩ | ⟨_, hg⟩
    · obtain ⟨ca, hca, _⟩ := hs.rows
      exact lt_of_heap hca
    · exact hs.free.lt hg

theorem ShAt.keep {w w' : World} {cur : Array Value} {k : Nat} {m : Sh} {l : ShL} (h : ShAt w cur k m l) {cur' : Array Value} (h0 : cur'[k * 2]? = cur[k * 2]?) (h1 : cur'[k * 2 + 1]? = cur[k * 2 + 1]?)
    (hA : w'.heap[l.A]? = w.heap[l.A]?) (hF : ∀ g, l.fv.ownBlock = some g → w'.heap[g]? = w.heap[g]?) : ShAt w' cur' k m l :=
  ⟨by rw [h0]; exact h.slA, by rw [h1]; exact h.slF, by rw [hA]; exact h.rows, h.free.keep hF, h.inv⟩

/-- Of the pool's blocks nothing has turned. -/
theorem PoolN.keep {w w' : World} {L : Lay} {M : List Sh} {n : Nat} (h : PoolN w L M n) (hk : ∀ b, L.own b → w'.heap[b]? = w.heap[b]?) : PoolN w' L M n := by
  obtain ⟨cur, hS, hsz, hrest, hsh⟩ := h.shards
  refine ⟨h.len, h.le, h.few, by rw [hk _ ⟨0, rfl⟩]; exact h.top, ⟨cur, by rw [hk _ ⟨1, rfl⟩]; exact hS, hsz, hrest, fun k m l hm hl => (hsh k m l hm hl).keep rfl rfl (hk _ ⟨2 * k + 2, l, ?_, .inl ⟨?_, rfl⟩⟩) fun g hg => hk _ ⟨2 * k + 1 + 2, l, ?_, .inr ⟨?_, hg⟩⟩⟩, h.apart⟩
  · rw [show 2 * k / 2 = k by omega]; exact hl
  · omega
  · rw [show (2 * k + 1) / 2 = k by omega]; exact hl
  · omega

theorem PoolN.below {w w' : World} {L : Lay} {M : List Sh} {n : Nat} (h : PoolN w L M n) {B : Nat} (hb : Below B w w') (hB : ∀ b, L.own b → b < B) : PoolN w' L M n := h.keep fun b ho => hb.block b (hB b ho)
theorem PoolN.grown {w w' : World} {L : Lay} {M : List Sh} {n : Nat} (h : PoolN w L M n) (hb : Below w.heap.size w w') : PoolN w' L M n := h.below hb fun _ ho => h.lt ho
theorem PoolN.chg {w w' : World} {L : Lay} {M : List Sh} {n : Nat} (h : PoolN w L M n) {F : Nat → Prop} (hc : Chg w w' F) (hF : ∀ b, L.own b → ¬ F b) : PoolN w' L M n := h.keep fun b ho => hc.block b (h.lt ho) (hF b ho)

/-- A step of the pool: it is M' now; of other blocks than its own nothing has turned; its blocks are those that it had, or new. -/
def Stp (w : World) (L : Lay) (w' : World) (M' : List Sh) : Prop := ∃ L', L'.P = L.P ∧ PoolAt w' L' M' ∧ Chg w w' L.own ∧ ∀ b, L'.own b → L.own b ∨ w.heap.size ≤ b

theorem Stp.of_grown {w w' : World} {L : Lay} {M : List Sh} (h : PoolAt w L M) (hb : Below w.heap.size w w') : Stp w L w' M := ⟨L, rfl, h.grown hb, Chg.of_below hb, fun _ h => .inl h⟩

/-- The blocks of one shard: the shards' own, its indices, its row. -/
def Lay.at (L : Lay) (l : ShL) (b : Nat) : Prop := b = L.S ∨ b = l.A ∨ l.fv.ownBlock = some b

theorem Lay.own_at {L : Lay} {l : ShL} {k : Nat} (hl : L.sh[k]? = some l) {b : Nat} (h : L.at l b) : L.own b := by
  rcases h with rfl | rfl | h
  · exact ⟨1, rfl⟩
  · exact ⟨2 * k + 2, l, by rw [show 2 * k / 2 = k by omega]; exact hl, .inl ⟨by omega, rfl⟩⟩
  · exact ⟨2 * k + 1 + 2, l, by rw [show (2 * k + 1) / 2 = k by omega]; exact hl, .inr ⟨by omega, h⟩⟩

theorem Lay.has_A {L : Lay} {l : ShL} {k : Nat} (hl : L.sh[k]? = some l) : L.has (2 * k + 2) l.A := ⟨l, by rw [show 2 * k / 2 = k by omega]; exact hl, .inl ⟨by omega, rfl⟩⟩
theorem Lay.has_F {L : Lay} {l : ShL} {k : Nat} (hl : L.sh[k]? = some l) {g : Nat} (hg : l.fv.ownBlock = some g) : L.has (2 * k + 1 + 2) g := ⟨l, by rw [show (2 * k + 1) / 2 = k by omega]; exact hl, .inr ⟨by omega, hg⟩⟩

theorem PoolN.S_ne_A {w : World} {L : Lay} {M : List Sh} {n : Nat} (h : PoolN w L M n) {k : Nat} {l : ShL} (hl : L.sh[k]? = some l) : L.S ≠ l.A := fun e => by
  have := h.apart 1 (2 * k + 2) l.A e (Lay.has_A hl); omega
theorem PoolN.S_ne_F {w : World} {L : Lay} {M : List Sh} {n : Nat} (h : PoolN w L M n) {k : Nat} {l : ShL} (hl : L.sh[k]? = some l) {g : Nat} (hg : l.fv.ownBlock = some g) : L.S ≠ g := fun e => by
  have := h.apart 1 _ g e (Lay.has_F hl hg); omega
theorem PoolN.A_ne_F {w : World} {L : Lay} {M : List Sh} {n : Nat} (h : PoolN w L M n) {k k' : Nat} {l l' : ShL} (hl : L.sh[k]? = some l) (hl' : L.sh[k']? = some l') {g : Nat} (hg : l'.fv.ownBlock = some g) : l.A ≠ g := fun e => by
  have := h.apart _ _ g (e ▸ Lay.has_A hl) (Lay.has_F hl' hg); omega

def Lay.put (L : Lay) (k : Nat) (l : ShL) : Lay := { L with sh := L.sh.set k l }

/-- One shard's blocks have turned, into another shard's. -/
theorem PoolN.updN {w w' : World} {L : Lay} {M : List Sh} {n : Nat} (h : PoolN w L M n) {k : Nat} {l : ShL} (hl : L.sh[k]? = some l) {m' : Sh} {l' : ShL} (hA : l'.A = l.A)
    (hc : Chg w w' (L.at l)) (hf : ∀ g, l'.fv.ownBlock = some g → l.fv.ownBlock = some g ∨ w.heap.size ≤ g)
    (hS : ∀ cur, w.heap[L.S]? = some (.cells cur 119 (0, 0)) → cur.size = 2 * n → (∀ m l, M[k]? = some m → L.sh[k]? = some l → ShAt w cur k m l) →
      ∃ cur', w'.heap[L.S]? = some (.cells cur' 119 (0, 0)) ∧ cur'.size = cur.size ∧ (∀ j, j / 2 ≠ k → cur'[j]? = cur[j]?) ∧ ShAt w' cur' k m' l') :
    PoolN w' (L.put k l') (M.set k m') n ∧ ∀ b, (L.put k l').own b → L.own b ∨ w.heap.size ≤ b := by
  obtain ⟨cur, hcur, hsz, hrest, hsh⟩ := h.shards
  obtain ⟨cur', hcur', hsz', hoth, hnew⟩ := hS cur hcur hsz fun m l hm hl => hsh k m l hm hl
  have hkl : k < L.sh.length := (List.getElem?_eq_some_iff.1 hl).1
  have hhas : ∀ t b, Lay.has (L.put k l') t b → L.has t b ∨ (t = 2 * k + 1 + 2 ∧ w.heap.size ≤ b) := by
    intro t b ht
    match t, ht with
    | 0, ht => exact .inl ht
    | 1, ht => exact .inl ht
    | t + 2, ht =>
      obtain ⟨x, hx, hor⟩ := ht
      simp only [Lay.put, List.getElem?_set] at hx
      split at hx
      · rename_i hk
        obtain rfl : l' = x := by simpa using hx
        rcases hor with ⟨h0, h1⟩ | ⟨h0, h1⟩
        · exact .inl ⟨l, by rw [← hk]; exact hl, .inl ⟨h0, by rw [← hA]; exact h1⟩⟩
        · rcases hf b h1 with h2 | h2
          · exact .inl ⟨l, by rw [← hk]; exact hl, .inr ⟨h0, h2⟩⟩
          · exact .inr ⟨by omega, h2⟩
      · exact .inl ⟨x, hx, hor⟩
  have hPn : ¬ L.at l L.P := by
    rintro (e | e | e)
    · have := h.apart 0 1 L.P rfl e.symm; omega
    · have := h.apart 0 (2 * k + 2) L.P rfl (e ▸ Lay.has_A hl); omega
    · have := h.apart 0 _ L.P rfl (Lay.has_F hl e); omega
  have hkM : k < M.length := by rw [← h.len]; exact hkl
  refine ⟨⟨by simp [Lay.put, h.len], by simpa using h.le, h.few, ?_, ⟨cur', hcur', by simp [hsz', hsz], fun j hj hjn => ?_, fun k2 m2 l2 hm2 hl2 => ?_⟩, ?_⟩, ?_⟩
  · exact (hc.block _ (lt_of_heap h.top) hPn).trans h.top
  · rw [List.length_set] at hj
    rw [hoth _ (by omega), hoth _ (by omega)]
    exact hrest j hj hjn
  · simp only [Lay.put, List.getElem?_set] at hm2 hl2
    by_cases hk : k = k2
    · subst hk
      rw [if_pos rfl, if_pos (by rw [← h.len]; exact hkl)] at hm2
      rw [if_pos rfl, if_pos hkl] at hl2
      cases hm2; cases hl2
      exact hnew
    · rw [if_neg hk] at hm2 hl2
      have hs2 := hsh k2 m2 l2 hm2 hl2
      refine hs2.keep (hoth _ (by omega)) (hoth _ (by omega)) (hc.block _ ?_ ?_) fun g hg => hc.block _ (hs2.free.lt hg) ?_
      · obtain ⟨ca, hca, _⟩ := hs2.rows; exact lt_of_heap hca
      · rintro (e | e | e)
        · exact h.S_ne_A hl2 e.symm
        · have := h.apart _ _ _ (Lay.has_A hl2) (e ▸ Lay.has_A hl); omega
        · exact h.A_ne_F hl2 hl e rfl
      · rintro (e | e | e)
        · exact h.S_ne_F hl2 hg e.symm
        · exact h.A_ne_F hl hl2 hg e.symm
        · have := h.apart _ _ _ (Lay.has_F hl2 hg) (Lay.has_F hl e); omega
  · intro t t' b ht ht'
    rcases hhas t b ht with a | ⟨a, hb⟩ <;> rcases hhas t' b ht' with a' | ⟨a', hb'⟩
    · exact h.apart t t' b a a'
    · have := h.lt ⟨t, a⟩; omega
    · have := h.lt ⟨t', a'⟩; omega
    · omega
  · rintro b ⟨t, ht⟩
    rcases hhas t b ht with a | ⟨_, hb⟩
    · exact .inl ⟨t, a⟩
    · exact .inr hb

theorem PoolN.toAt {w : World} {L : Lay} {M : List Sh} {n : Nat} (h : PoolN w L M n) (hn : n = M.length) : PoolAt w L M := by subst hn; exact h

theorem PoolAt.upd {w w' : World} {L : Lay} {M : List Sh} (h : PoolAt w L M) {k : Nat} {l : ShL} (hl : L.sh[k]? = some l) {m' : Sh} {l' : ShL} (hA : l'.A = l.A)
    (hc : Chg w w' (L.at l)) (hf : ∀ g, l'.fv.ownBlock = some g → l.fv.ownBlock = some g ∨ w.heap.size ≤ g)
    (hS : ∀ cur, w.heap[L.S]? = some (.cells cur 119 (0, 0)) → cur.size = 2 * M.length → (∀ m l, M[k]? = some m → L.sh[k]? = some l → ShAt w cur k m l) →
      ∃ cur', w'.heap[L.S]? = some (.cells cur' 119 (0, 0)) ∧ cur'.size = cur.size ∧ (∀ j, j / 2 ≠ k → cur'[j]? = cur[j]?) ∧ ShAt w' cur' k m' l') :
    PoolAt w' (L.put k l') (M.set k m') ∧ ∀ b, (L.put k l').own b → L.own b ∨ w.heap.size ≤ b := by
  have := h.updN hl hA hc hf hS
  exact ⟨this.1.toAt (by simp), this.2⟩

theorem Stp.trans {w w' w'' : World} {L : Lay} {M' M'' : List Sh} (h : Stp w L w' M') (h2 : ∀ L', L'.P = L.P → PoolAt w' L' M' → Stp w' L' w'' M'') : Stp w L w'' M'' := by
  obtain ⟨L', hP, hp, hc, ho⟩ := h
  obtain ⟨L'', hP', hp', hc', ho'⟩ := h2 L' hP hp
  refine ⟨L'', hP'.trans hP, hp', hc.trans hc' fun b hb h1 => ?_, fun b hb => ?_⟩
  · rcases ho b h1 with h | h
    · exact h
    · omega
  · rcases ho' b hb with h | h
    · exact ho b h
    · exact .inr (Nat.le_trans hc.size h)

theorem Stp.then_below {w w' w'' : World} {L : Lay} {M' : List Sh} (h : Stp w L w' M') (hb : Below w'.heap.size w' w'') : Stp w L w'' M' := h.trans fun _ _ h2 => Stp.of_grown h2 hb
theorem Stp.from_below {w w' w'' : World} {L : Lay} {M' : List Sh} (hb : Below w.heap.size w w') (h : Stp w' L w'' M') : Stp w L w'' M' := by
  obtain ⟨L', hP, hp', hc, ho⟩ := h
  exact ⟨L', hP, hp', (Chg.of_below hb).trans hc fun _ _ h => h, fun b h => (ho b h).imp_right fun h => Nat.le_trans hb.size h⟩

theorem heap_setCell_same (w : World) (b o : Nat) (u : Value) (cs : Array Value) (e : TypeId) (fr : Nat × Nat) (h : w.heap[b]? = some (.cells cs e fr)) : (w.setCell ⟨b, o, none⟩ u).heap[b]? = some (.cells (cs.setIfInBounds o u) e fr) := by
  simp [World.setCell, Array.getElem?_modify, h]

theorem set_self (ca : Array Value) (j : Nat) (v : Value) (h : j < ca.size) : (ca.setIfInBounds j v)[j]? = some v := by simp [h]

/-- The cells of an index have turned. -/
theorem PoolAt.set_row {w w' : World} {L : Lay} {M : List Sh} (h : PoolAt w L M) {k i : Nat} {m : Sh} {l : ShL} {x' : Ix} (hm : M[k]? = some m) (hl : L.sh[k]? = some l) (hil : i < m.all.length)
    (hc : Chg w w' (fun b => b = l.A))
    (hr : ∀ ca : Array Value, w.heap[l.A]? = some (.cells ca 126 (0, 0)) → ca.size = 3 * m.all.length → (∀ x, m.all[i]? = some x → ca[i * 3]? = some (.int .i64 x.gen) ∧ ca[i * 3 + 1]? = some (.int .i64 x.bound) ∧ ca[i * 3 + 2]? = some (.bool x.alive)) →
      ∃ ca' : Array Value, w'.heap[l.A]? = some (.cells ca' 126 (0, 0)) ∧ ca'.size = ca.size ∧ (∀ j, j / 3 ≠ i → ca'[j]? = ca[j]?) ∧ ca'[i * 3]? = some (.int .i64 x'.gen) ∧ ca'[i * 3 + 1]? = some (.int .i64 x'.bound) ∧ ca'[i * 3 + 2]? = some (.bool x'.alive))
    (hi : ShInv { m with all := m.all.set i x' }) : PoolAt w' L (M.set k { m with all := m.all.set i x' }) := by
  have hput : L.put k l = L := by
    obtain ⟨hk, e⟩ := List.getElem?_eq_some_iff.1 hl
    subst e
    simp [Lay.put]
  have hup := fun hS => (h.upd hl (m' := { m with all := m.all.set i x' }) (l' := l) (w' := w') rfl (hc.mono fun b _ e => .inr (.inl e)) (fun g hg => .inl hg) hS).1
  rw [hput] at hup
  refine hup fun cur hcur _ hsh => ⟨cur, ?_, rfl, fun _ _ => rfl, ?_⟩
  · rw [hc.block _ (lt_of_heap hcur) (h.S_ne_A hl)]; exact hcur
  · have hs := hsh m l hm hl
    obtain ⟨ca, hca, hsz, hrow⟩ := hs.rows
    obtain ⟨ca', hca', hsz', hoth, r0, r1, r2⟩ := hr ca hca hsz (hrow i)
    refine ⟨by simpa using hs.slA, hs.slF, ⟨ca', hca', by rw [hsz', hsz]; simp, fun j y hy => ?_⟩, hs.free.keep fun g hg => hc.block _ (hs.free.lt hg) (fun e => h.A_ne_F hl hl hg e.symm), hi⟩
    simp only [List.getElem?_set] at hy
    by_cases hij : i = j
    · subst hij
      rw [if_pos rfl, if_pos hil] at hy
      obtain rfl : x' = y := by simpa using hy
      exact ⟨r0, r1, r2⟩
    · rw [if_neg hij] at hy
      obtain ⟨q0, q1, q2⟩ := hrow j y hy
      exact ⟨by rw [hoth _ (by omega)]; exact q0, by rw [hoth _ (by omega)]; exact q1, by rw [hoth _ (by omega)]; exact q2⟩

/-- A cell of an index is stored into. -/
theorem PoolAt.set_ix {w : World} {L : Lay} {M : List Sh} (h : PoolAt w L M) {k i : Nat} {m : Sh} {l : ShL} {x x' : Ix} (hm : M[k]? = some m) (hl : L.sh[k]? = some l) (hx : m.all[i]? = some x) (q : Nat) (v : Value)
    (hv : (q = 0 ∧ x' = { x with gen := x'.gen } ∧ v = .int .i64 x'.gen) ∨ (q = 1 ∧ x' = { x with bound := x'.bound } ∧ v = .int .i64 x'.bound) ∨ (q = 2 ∧ x' = { x with alive := x'.alive } ∧ v = .bool x'.alive))
    (hi : ShInv { m with all := m.all.set i x' }) : PoolAt (w.setCell ⟨l.A, i * 3 + q, none⟩ v) L (M.set k { m with all := m.all.set i x' }) := by
  have hil : i < m.all.length := (List.getElem?_eq_some_iff.1 hx).1
  refine h.set_row hm hl hil ((Chg.refl _ _).setCell _ _ (.inl rfl)) (fun ca hca hsz hrow => ⟨ca.setIfInBounds (i * 3 + q) v, heap_setCell_same _ _ _ _ _ _ _ hca, by simp, fun j hj => Array.getElem?_setIfInBounds_ne (by rcases hv with ⟨rfl, _⟩ | ⟨rfl, _⟩ | ⟨rfl, _⟩ <;> omega), ?_⟩) hi
  obtain ⟨r0, r1, r2⟩ := hrow x hx
  rcases hv with ⟨rfl, e, rfl⟩ | ⟨rfl, e, rfl⟩ | ⟨rfl, e, rfl⟩
  · refine ⟨?_, ?_, ?_⟩
    · exact set_self _ _ _ (by omega)
    · rw [Array.getElem?_setIfInBounds_ne (by omega), r1, e]
    · rw [Array.getElem?_setIfInBounds_ne (by omega), r2, e]
  · refine ⟨?_, ?_, ?_⟩
    · rw [Array.getElem?_setIfInBounds_ne (by omega), r0, e]
    · exact set_self _ _ _ (by omega)
    · rw [Array.getElem?_setIfInBounds_ne (by omega), r2, e]
  · refine ⟨?_, ?_, ?_⟩
    · rw [Array.getElem?_setIfInBounds_ne (by omega), r0, e]
    · rw [Array.getElem?_setIfInBounds_ne (by omega), r1, e]
    · exact set_self _ _ _ (by omega)

/-- Both the generation and whether it is somebody's are stored into. -/
theorem PoolAt.set_ga {w : World} {L : Lay} {M : List Sh} (h : PoolAt w L M) {k i : Nat} {m : Sh} {l : ShL} {x x' : Ix} (hm : M[k]? = some m) (hl : L.sh[k]? = some l) (hx : m.all[i]? = some x) (hb : x'.bound = x.bound)
    (hi : ShInv { m with all := m.all.set i x' }) : PoolAt ((w.setCell ⟨l.A, i * 3, none⟩ (.int .i64 x'.gen)).setCell ⟨l.A, i * 3 + 2, none⟩ (.bool x'.alive)) L (M.set k { m with all := m.all.set i x' }) := by
  have hil : i < m.all.length := (List.getElem?_eq_some_iff.1 hx).1
  have hc : Chg w ((w.setCell ⟨l.A, i * 3, none⟩ (.int .i64 x'.gen)).setCell ⟨l.A, i * 3 + 2, none⟩ (.bool x'.alive)) (fun b => b = l.A) :=
    ((Chg.refl w (fun b => b = l.A)).setCell ⟨l.A, i * 3, none⟩ (.int .i64 x'.gen) (.inl rfl)).setCell ⟨l.A, i * 3 + 2, none⟩ (.bool x'.alive) (.inl rfl)
  refine h.set_row hm hl hil hc (fun ca hca hsz hrow => ?_) hi
  have e1 := heap_setCell_same w l.A (i * 3) (.int .i64 x'.gen) ca _ _ hca
  have e2 := heap_setCell_same _ l.A (i * 3 + 2) (.bool x'.alive) _ _ _ e1
  refine ⟨_, e2, by simp, fun j hj => ?_, ?_, ?_, ?_⟩
  · rw [Array.getElem?_setIfInBounds_ne (by omega), Array.getElem?_setIfInBounds_ne (by omega)]
  · rw [Array.getElem?_setIfInBounds_ne (by omega)]; exact set_self _ _ _ (by omega)
  · rw [Array.getElem?_setIfInBounds_ne (by omega), Array.getElem?_setIfInBounds_ne (by omega), (hrow x hx).2.1, hb]
  · exact set_self _ _ _ (by simp; omega)

/-- A shard's row is another one: in a world in which the row's block alone has turned, and new ones. -/
theorem PoolN.set_freeN {w w1 : World} {L : Lay} {M : List Sh} {n : Nat} (h : PoolN w L M n) {k : Nat} {m : Sh} {l : ShL} (hm : M[k]? = some m) (hl : L.sh[k]? = some l) {v : Value} {fr : List Int}
    (hc : Chg w w1 (fun b => l.fv.ownBlock = some b)) (hs : Sl w1 3 1 v fr.length (fr.map (Value.int .i64))) (hf : ∀ g, v.ownBlock = some g → l.fv.ownBlock = some g ∨ w.heap.size ≤ g)
    (hi : ShInv { m with free := fr }) : PoolN (w1.setCell ⟨L.S, k * 2 + 1, none⟩ v) (L.put k { l with fv := v }) (M.set k { m with free := fr }) n ∧ ∀ b, (L.put k { l with fv := v }).own b → L.own b ∨ w.heap.size ≤ b := by
  refine h.updN hl (l' := { l with fv := v }) rfl ((hc.mono fun b _ e => .inr (.inr e)).setCell _ _ (.inl (.inl rfl))) hf fun cur hcur hsz hsh => ⟨cur.setIfInBounds (k * 2 + 1) v, ?_, by simp, fun j hj => ?_, ?_⟩
  · exact heap_setCell_same _ _ _ _ _ _ _ ((hc.block _ (lt_of_heap hcur) fun e => h.S_ne_F hl e rfl).trans hcur)
  · rw [Array.getElem?_setIfInBounds_ne (by omega)]
  · have hs0 := hsh m l hm hl
    obtain ⟨ca, hca, hz, hr⟩ := hs0.rows
    have hkM : k < M.length := (List.getElem?_eq_some_iff.1 hm).1
    have hle := h.le
    refine ⟨?_, ?_, ⟨ca, ?_, hz, hr⟩, hs.keep fun g hg => ?_, hi⟩
    · rw [Array.getElem?_setIfInBounds_ne (by omega)]; exact hs0.slA
    · exact set_self _ _ _ (by omega)
    · rw [Below.heap_setCell _ _ _ _ (h.S_ne_A hl).symm]
      exact (hc.block _ (lt_of_heap hca) fun e => h.A_ne_F hl hl e rfl).trans hca
    · refine Below.heap_setCell _ _ _ _ fun e => ?_
      rcases hf g hg with e2 | e2
      · exact h.S_ne_F hl e2 e.symm
      · have : g < w.heap.size := by rw [e]; exact lt_of_heap hcur
        omega

theorem PoolAt.set_free {w w1 : World} {L : Lay} {M : List Sh} (h : PoolAt w L M) {k : Nat} {m : Sh} {l : ShL} (hm : M[k]? = some m) (hl : L.sh[k]? = some l) {v : Value} {fr : List Int}
    (hc : Chg w w1 (fun b => l.fv.ownBlock = some b)) (hs : Sl w1 3 1 v fr.length (fr.map (Value.int .i64))) (hf : ∀ g, v.ownBlock = some g → l.fv.ownBlock = some g ∨ w.heap.size ≤ g)
    (hi : ShInv { m with free := fr }) : PoolAt (w1.setCell ⟨L.S, k * 2 + 1, none⟩ v) (L.put k { l with fv := v }) (M.set k { m with free := fr }) ∧ ∀ b, (L.put k { l with fv := v }).own b → L.own b ∨ w.heap.size ≤ b := by
  have := h.set_freeN hm hl hc hs hf hi
  exact ⟨this.1.toAt (by simp), this.2⟩

theorem Stp.same {w w' : World} {L : Lay} {M' : List Sh} (h : PoolAt w' L M') (hc : Chg w w' L.own) : Stp w L w' M' := ⟨L, rfl, h, hc, fun _ h => .inl h⟩

theorem nodup_le : ∀ (n : Nat) (l : List Int), l.Nodup → (∀ f ∈ l, 0 ≤ f ∧ f < n) → l.length ≤ n
  | 0, l, _, h => by
    cases l with
    | nil => simp
    | cons a t => have := h a (by simp); omega
  | n + 1, l, hn, h => by
    have h1 := nodup_le n (l.erase (n : Int)) (hn.erase _) (fun f hf => by
      have hm := (List.Nodup.mem_erase_iff hn).1 hf
      have := h f hm.2
      exact ⟨this.1, by omega⟩)
    by_cases hm : (n : Int) ∈ l
    · rw [List.length_erase_of_mem hm] at h1; omega
    · rw [List.erase_of_not_mem hm] at h1; omega

theorem ShInv.free_le {m : Sh} (h : ShInv m) : m.free.length ≤ 16 := by
  have := nodup_le m.all.length m.free h.nd h.fr
  have := h.few
  omega

end Go.Proofs.Ytbghjklnlhoklaa
namespace Go.Proofs.Ytbghjklnlhoklaa
open Go.RowKit

def shOf (M : List Sh) (k : Int) : Option Sh := if 0 ≤ k then M[k.toNat]? else none
def ixOf (M : List Sh) (k i : Int) : Option Ix := (shOf M k).bind fun m => if 0 ≤ i then m.all[i.toNat]? else none

theorem shOf_nat {w : World} {L : Lay} {M : List Sh} (h : PoolAt w L M) {k : Int} {m : Sh} (hm : shOf M k = some m) : ∃ (k' : Nat) (l : ShL), k = k' ∧ M[k']? = some m ∧ L.sh[k']? = some l := by
  unfold shOf at hm
  split at hm
  · have hk : k.toNat < L.sh.length := by rw [h.len]; exact (List.getElem?_eq_some_iff.1 hm).1
    exact ⟨k.toNat, L.sh[k.toNat], by omega, hm, List.getElem?_eq_getElem hk⟩
  · cases hm

theorem ixOf_nat {w : World} {L : Lay} {M : List Sh} (h : PoolAt w L M) {k i : Int} {x : Ix} (hx : ixOf M k i = some x) : ∃ (k' i' : Nat) (m : Sh) (l : ShL), k = k' ∧ i = i' ∧ M[k']? = some m ∧ L.sh[k']? = some l ∧ m.all[i']? = some x := by
  unfold ixOf at hx
  obtain ⟨m, hm, hy⟩ := Option.bind_eq_some_iff.1 hx
  obtain ⟨k', l, hk, hm', hl⟩ := shOf_nat h hm
  split at hy
  · exact ⟨k', i.toNat, m, l, hk, by omega, hm', hl, hy⟩
  · cases hy

theorem PoolN.sh {w : World} {L : Lay} {M : List Sh} {n : Nat} (h : PoolN w L M n) {k : Nat} {m : Sh} {l : ShL} (hm : M[k]? = some m) (hl : L.sh[k]? = some l) :
    w.cell? ⟨L.S, k * 2, none⟩ = some (.slice (some ⟨l.A, 0, none⟩) m.all.length m.all.length) ∧ w.cell? ⟨L.S, k * 2 + 1, none⟩ = some l.fv ∧ (∀ o, w.frozen? ⟨L.S, o, none⟩ = false) ∧ (∀ o, w.frozen? ⟨l.A, o, none⟩ = false) ∧ ShInv m ∧ k < M.length ∧ Sl w 3 1 l.fv m.free.length (m.free.map (Value.int .i64)) := by
  obtain ⟨cur, hcur, _, _, hsh⟩ := h.shards
  have hs := hsh k m l hm hl
  obtain ⟨ca, hca, _⟩ := hs.rows
  exact ⟨by simp [World.cell?, hcur, hs.slA], by simp [World.cell?, hcur, hs.slF], fun o => by simp [World.frozen?, hcur], fun o => by simp [World.frozen?, hca], hs.inv, (List.getElem?_eq_some_iff.1 hm).1, hs.free⟩

theorem PoolN.ix {w : World} {L : Lay} {M : List Sh} {n : Nat} (h : PoolN w L M n) {k i : Nat} {m : Sh} {l : ShL} {x : Ix} (hm : M[k]? = some m) (hl : L.sh[k]? = some l) (hx : m.all[i]? = some x) :
    w.cell? ⟨l.A, i * 3, none⟩ = some (.int .i64 x.gen) ∧ w.cell? ⟨l.A, i * 3 + 1, none⟩ = some (.int .i64 x.bound) ∧ w.cell? ⟨l.A, i * 3 + 2, none⟩ = some (.bool x.alive) := by
  obtain ⟨cur, hcur, _, _, hsh⟩ := h.shards
  have hs := hsh k m l hm hl
  obtain ⟨ca, hca, _, hr⟩ := hs.rows
  obtain ⟨r0, r1, r2⟩ := hr i x hx
  exact ⟨by simp [World.cell?, hca, r0], by simp [World.cell?, hca, r1], by simp [World.cell?, hca, r2]⟩

theorem of_none (w : World) (k : Int) : Calls Try.prog 75 #[.pointer none, .int .i64 k] w fun e w' => e = .returned (.pointer none) ∧ w = w' := by
  go_enter Try.func75, Try.ntmps75
  go_wp2
  go_ret
  exact ⟨rfl, rfl⟩

theorem of_any (w : World) (L : Lay) (M : List Sh) (k : Int) (h : PoolAt w L M) :
    Calls Try.prog 75 #[.pointer (some ⟨L.P, 0, none⟩), .int .i64 k] w fun e w' => e = .returned (.pointer (if 0 ≤ k ∧ k < M.length then some ⟨L.S, k.toNat * 2, none⟩ else none)) ∧ w = w' := by
  have hf := h.few
  have hc : w.cell? ⟨L.P, 0, none⟩ = some (.slice (some ⟨L.S, 0, none⟩) M.length M.length) := by simp [World.cell?, h.top]
  generalize M.length = n at *
  by_cases h1 : 0 ≤ k ∧ k < n
  · rw [if_pos h1]
    obtain ⟨h1, h2⟩ := h1
    go_enter Try.func75, Try.ntmps75
    go_wp2
    go_ret
    exact ⟨rfl, rfl⟩
  · rw [if_neg h1]
    by_cases h2 : k < 0
    · go_enter Try.func75, Try.ntmps75
      go_wp2
      go_ret
      exact ⟨rfl, rfl⟩
    · have h3 : (n : Int) ≤ k := by omega
      clear h1
      go_enter Try.func75, Try.ntmps75
      go_wp2
      go_ret
      exact ⟨rfl, rfl⟩

theorem of_in (w : World) (L : Lay) (M : List Sh) (k : Nat) (m : Sh) (h : PoolAt w L M) (hm : M[k]? = some m) :
    Calls Try.prog 75 #[.pointer (some ⟨L.P, 0, none⟩), .int .i64 k] w fun e w' => e = .returned (.pointer (some ⟨L.S, k * 2, none⟩)) ∧ w = w' := by
  have hk : k < M.length := (List.getElem?_eq_some_iff.1 hm).1
  have hof := of_any w L M k h
  rwa [if_pos (by omega), Int.toNat_natCast] at hof

theorem of_out (w : World) (L : Lay) (M : List Sh) (k : Int) (h : PoolAt w L M) (hm : shOf M k = none) :
    Calls Try.prog 75 #[.pointer (some ⟨L.P, 0, none⟩), .int .i64 k] w fun e w' => e = .returned (.pointer none) ∧ w = w' := by
  have hof := of_any w L M k h
  rwa [if_neg] at hof
  rintro ⟨h1, h2⟩
  unfold shOf at hm
  rw [if_pos h1, List.getElem?_eq_none_iff] at hm
  omega

theorem at_in (w : World) (L : Lay) (M : List Sh) (k i : Nat) (m : Sh) (l : ShL) (h : PoolAt w L M) (hm : M[k]? = some m) (hl : L.sh[k]? = some l) (hi : i < m.all.length) :
    Calls Try.prog 72 #[.pointer (some ⟨L.P, 0, none⟩), .int .i64 k, .int .i64 i] w fun e w' => e = .returned (.tuple #[.pointer (some ⟨L.S, k * 2, none⟩), .pointer (some ⟨l.A, i * 3, none⟩)]) ∧ Below w.heap.size w w' := by
  obtain ⟨hcA, _, _, _, hinv, hk, _⟩ := h.sh hm hl
  have hsm := hinv.few
  have hof := of_in w L M k m h hm
  have HOF := Lib.hid hof
  clear hof hm hl hinv
  generalize m.all.length = q at *
  go_enter Try.func72, Try.ntmps72
  go_wp2_with (go_at_call 75; refine HOF.out.mono ?_; rintro e w' ⟨rfl, rfl⟩)
  go_quiet (fail)
  go_wp2
  go_ret2
  exact ⟨rfl, below_drewN (Below.refl _ _) _⟩

theorem at_none (w : World) (k i : Int) : Calls Try.prog 72 #[.pointer none, .int .i64 k, .int .i64 i] w fun e w' => e = .returned (.tuple #[.pointer none, .pointer none]) ∧ Below w.heap.size w w' := by
  go_enter Try.func72, Try.ntmps72
  go_wp2_with (go_at_call 75; refine (of_none _ _).mono ?_; rintro e w' ⟨rfl, rfl⟩)
  go_ret2
  exact ⟨rfl, Below.refl _ _⟩

theorem at_out (w : World) (L : Lay) (M : List Sh) (k i : Int) (h : PoolAt w L M) (ho : ixOf M k i = none) :
    Calls Try.prog 72 #[.pointer (some ⟨L.P, 0, none⟩), .int .i64 k, .int .i64 i] w fun e w' => e = .returned (.tuple #[.pointer none, .pointer none]) ∧ Below w.heap.size w w' := by
  cases hm : shOf M k with
  | none =>
    have HOF := Lib.hid (of_out w L M k h hm)
    clear hm ho
    go_enter Try.func72, Try.ntmps72
    go_wp2_with (go_at_call 75; refine HOF.out.mono ?_; rintro e w' ⟨rfl, rfl⟩)
    go_ret2
    exact ⟨rfl, Below.refl _ _⟩
  | some m =>
    simp only [ixOf, hm, Option.bind_some] at ho
    obtain ⟨k', l, rfl, hm', hl⟩ := shOf_nat h hm
    have HOF := Lib.hid (of_in w L M k' m h hm')
    obtain ⟨hcA, _, _, _, hinv, hk, _⟩ := h.sh hm' hl
    have hsm := hinv.few
    clear hm hm' hl hinv
    by_cases h2 : i < 0
    · clear ho
      generalize m.all.length = q at *
      go_enter Try.func72, Try.ntmps72
      go_wp2_with (go_at_call 75; refine HOF.out.mono ?_; rintro e w' ⟨rfl, rfl⟩)
      go_ret2
      exact ⟨rfl, Below.refl _ _⟩
    · have h3 : (m.all.length : Int) ≤ i := by rw [if_pos (by omega), List.getElem?_eq_none_iff] at ho; omega
      clear ho
      generalize m.all.length = q at *
      go_enter Try.func72, Try.ntmps72
      go_wp2_with (go_at_call 75; refine HOF.out.mono ?_; rintro e w' ⟨rfl, rfl⟩)
      go_ret2
      exact ⟨rfl, Below.refl _ _⟩

/-- Gen. -/
theorem gen_out (w : World) (L : Lay) (M : List Sh) (k i : Int) (h : PoolAt w L M) (ho : ixOf M k i = none) :
    Calls Try.prog 42 #[.pointer (some ⟨L.P, 0, none⟩), .int .i64 k, .int .i64 i] w fun e w' => e = .returned (.int .i64 0) ∧ Below w.heap.size w w' := by
  have HAT := Lib.hid (at_out w L M k i h ho)
  clear ho
  go_enter Try.func42, Try.ntmps42
  go_wp2_with (go_at_call 72; refine HAT.out.mono ?_; rintro e w' ⟨rfl, hb⟩)
  go_ret
  exact ⟨rfl, hb⟩
theorem gen_none (w : World) (k i : Int) :
    Calls Try.prog 42 #[.pointer none, .int .i64 k, .int .i64 i] w fun e w' => e = .returned (.int .i64 0) ∧ Below w.heap.size w w' := by
  go_enter Try.func42, Try.ntmps42
  go_wp2_with (go_at_call 72; refine (at_none _ _ _).mono ?_; rintro e w' ⟨rfl, hb⟩)
  go_ret
  exact ⟨rfl, hb⟩
theorem gen_in (w : World) (L : Lay) (M : List Sh) (k i : Int) (x : Ix) (h : PoolAt w L M) (hx : ixOf M k i = some x) :
    Calls Try.prog 42 #[.pointer (some ⟨L.P, 0, none⟩), .int .i64 k, .int .i64 i] w fun e w' => e = .returned (.int .i64 x.gen) ∧ Below w.heap.size w w' := by
  obtain ⟨k, i, m, l, rfl, rfl, hm, hl, hx⟩ := ixOf_nat h hx
  obtain ⟨c0, c1, c2⟩ := h.ix hm hl hx
  have HAT := Lib.hid (at_in w L M k i m l h hm hl (List.getElem?_eq_some_iff.1 hx).1)
  clear hm hl hx
  go_enter Try.func42, Try.ntmps42
  go_wp2_with (go_at_call 72; refine HAT.out.mono ?_; rintro e w' ⟨rfl, hb⟩; have c0' := cell_keep hb c0)
  go_ret
  exact ⟨rfl, hb⟩

/-- Alive. -/
def aliveF (M : List Sh) (s i g : Int) : Bool := match ixOf M s i with
  | none => false
  | some x => x.alive && x.gen == g

theorem alive_none (w : World) (s i g : Int) :
    Calls Try.prog 39 #[.pointer none, .agg #[.int .i64 s, .int .i64 i, .int .i64 g]] w fun e w' => e = .returned (.bool false) ∧ Below w.heap.size w w' := by
  go_enter Try.func39, Try.ntmps39
  go_wp2_with (go_at_call 72; refine (at_none _ _ _).mono ?_; rintro e w' ⟨rfl, hb⟩; obtain ⟨d, os, rfl⟩ := more_of hb; clear hb)
  go_quiet (fail)
  go_wp2
  go_ret
  exact ⟨rfl, (by repeat' (first | (with_reducible exact Below.refl _ _) | (with_reducible assumption) | (with_reducible refine below_drewN ?_ _) | (with_reducible refine below_more _ _ _ ?_ ?_) | (with_reducible refine Below.alloc ?_ ?_ _) | (with_reducible refine Below.drew ?_) | (with_reducible refine Below.setCell ?_ ?_ _) | go_size))⟩

theorem alive_any (w : World) (L : Lay) (M : List Sh) (s i g : Int) (h : PoolAt w L M) :
    Calls Try.prog 39 #[.pointer (some ⟨L.P, 0, none⟩), .agg #[.int .i64 s, .int .i64 i, .int .i64 g]] w fun e w' => e = .returned (.bool (aliveF M s i g)) ∧ Below w.heap.size w w' := by
  have hb0 : Below w.heap.size w (w.alloc (.cells #[.int .i64 s, .int .i64 i, .int .i64 g] 33)) := (Below.refl _ _).alloc (Nat.le_refl _) _
  unfold aliveF
  cases hx : ixOf M s i with
  | none =>
    have HAT := Lib.hid (at_out _ L M s i (h.grown hb0) hx)
    clear hx hb0
    go_enter Try.func39, Try.ntmps39
    go_wp2_with (go_at_call 72; refine (HAT.out).mono ?_; rintro e w' ⟨rfl, hb⟩; obtain ⟨d, os, rfl⟩ := more_of hb; clear hb)
    go_quiet (fail)
    go_wp2
    go_ret
    exact ⟨rfl, (by repeat' (first | (with_reducible exact Below.refl _ _) | (with_reducible assumption) | (with_reducible refine below_drewN ?_ _) | (with_reducible refine below_more _ _ _ ?_ ?_) | (with_reducible refine Below.alloc ?_ ?_ _) | (with_reducible refine Below.drew ?_) | (with_reducible refine Below.setCell ?_ ?_ _) | go_size))⟩
  | some x =>
    obtain ⟨s, i, m, l, rfl, rfl, hm, hl, hx'⟩ := ixOf_nat h hx
    have HAT := Lib.hid (at_in _ L M s i m l (h.grown hb0) hm hl (List.getElem?_eq_some_iff.1 hx').1)
    obtain ⟨c0, c1, c2⟩ := (h.grown hb0).ix hm hl hx'
    have k0 := fun d os => cell_keep (more_below _ d os) c0
    have k2 := fun d os => cell_keep (more_below _ d os) c2
    clear hx hm hl hx' hb0 c0 c1 c2
    obtain ⟨gen, bound, alive⟩ := x
    cases alive with
    | false =>
      go_enter Try.func39, Try.ntmps39
      go_wp2_with (go_at_call 72; refine (HAT.out).mono ?_; rintro e w' ⟨rfl, hb⟩; obtain ⟨d, os, rfl⟩ := more_of hb; clear hb)
      go_quiet (fail)
      go_wp2
      go_ret
      exact ⟨rfl, (by repeat' (first | (with_reducible exact Below.refl _ _) | (with_reducible assumption) | (with_reducible refine below_drewN ?_ _) | (with_reducible refine below_more _ _ _ ?_ ?_) | (with_reducible refine Below.alloc ?_ ?_ _) | (with_reducible refine Below.drew ?_) | (with_reducible refine Below.setCell ?_ ?_ _) | go_size))⟩
    | true =>
      go_enter Try.func39, Try.ntmps39
      go_wp2_with (go_at_call 72; refine (HAT.out).mono ?_; rintro e w' ⟨rfl, hb⟩; obtain ⟨d, os, rfl⟩ := more_of hb; clear hb)
      go_quiet (fail)
      go_wp2
      go_ret
      exact ⟨rfl, (by repeat' (first | (with_reducible exact Below.refl _ _) | (with_reducible assumption) | (with_reducible refine below_drewN ?_ _) | (with_reducible refine below_more _ _ _ ?_ ?_) | (with_reducible refine Below.alloc ?_ ?_ _) | (with_reducible refine Below.drew ?_) | (with_reducible refine Below.setCell ?_ ?_ _) | go_size))⟩
end Go.Proofs.Ytbghjklnlhoklaa

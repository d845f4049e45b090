/-
  Chapter texts PoolA: what the claim reaches of them. Conditions stand at each theorem.
-/
import Derived.Test.YtoimjjhopljdmaaGreatY01
namespace Go.Proofs.YtoimjjhopljdmaaGreat
open Go.RowKit

structure Ix where
  (gen bound : Int) (alive : Bool)
structure Sh where
  (all : List Ix) (free : List Int)
structure ShL where
  (A : Nat) (fv : Value)
structure Lay where
  (P S : Nat) (sh : List ShL)

def Lay.has (L : Lay) : Nat → Nat → Prop
  | 0, b => L.P = b
  | 1, b => L.S = b
  | t + 2, b => ∃ l, L.sh[t / 2]? = some l ∧ ((t % 2 = 0 ∧ l.A = b) ∨ (t % 2 = 1 ∧ l.fv.ownBlock = some b))
def Lay.own (L : Lay) (b : Nat) : Prop := ∃ t, L.has t b

structure ShInv (m : Sh) : Prop where
  few : m.all.length ≤ 16
  rng : ∀ (i : Nat) (x : Ix), m.all[i]? = some x → 0 ≤ x.gen ∧ x.gen ≤ 1048576 ∧ 0 ≤ x.bound ∧ x.bound ≤ 1048576 ∧ (x.alive = true → x.gen < 1048576)
  fr : ∀ f ∈ m.free, (0 : Int) ≤ f ∧ f < m.all.length
  nd : m.free.Nodup
  dead : ∀ f ∈ m.free, ∀ (x : Ix), m.all[f.toNat]? = some x → x.alive = false

structure ShAt (w : World) (cur : Array Value) (k : Nat) (m : Sh) (l : ShL) : Prop where
  slA : cur[k * 2]? = some (.slice (some ⟨l.A, 0, none⟩) m.all.length m.all.length)
  slF : cur[k * 2 + 1]? = some l.fv
  rows : ∃ ca, w.heap[l.A]? = some (.cells ca 186 (0, 0)) ∧ ca.size = 3 * m.all.length ∧ ∀ (i : Nat) (x : Ix), m.all[i]? = some x → ca[i * 3]? = some (.int .i64 x.gen) ∧ ca[i * 3 + 1]? = some (.int .i64 x.bound) ∧ ca[i * 3 + 2]? = some (.bool x.alive)
  free : Sl w 3 1 l.fv m.free.length (m.free.map (Value.int .i64))
  inv : ShInv m

structure PoolN (w : World) (L : Lay) (M : List Sh) (n : Nat) : Prop where
  len : L.sh.length = M.length
  le : M.length ≤ n
  few : n ≤ 16
  top : w.heap[L.P]? = some (.cells #[.slice (some ⟨L.S, 0, none⟩) n n] 174 (0, 0))
  shards : ∃ cur, w.heap[L.S]? = some (.cells cur 178 (0, 0)) ∧ cur.size = 2 * n ∧ (∀ j, M.length ≤ j → j < n → cur[j * 2]? = some (.slice none 0 0) ∧ cur[j * 2 + 1]? = some (.slice none 0 0)) ∧ ∀ (k : Nat) (m : Sh) (l : ShL), M[k]? = some m → L.sh[k]? = some l → ShAt w cur k m l
  apart : ∀ t t' b, L.has t b → L.has t' b → t = t'

abbrev PoolAt (w : World) (L : Lay) (M : List Sh) : Prop := PoolN w L M M.length

structure Chg (w w' : World) (F : Nat → Prop) : Prop where
  os : w'.os = w.os
  tape : w'.tape = w.tape
  output : w'.output = w.output
  size : w.heap.size ≤ w'.heap.size
  block : ∀ k, k < w.heap.size → ¬ F k → w'.heap[k]? = w.heap[k]?

theorem Chg.of_below {w w' : World} {F : Nat → Prop} (h : Below w.heap.size w w') : Chg w w' F := ⟨h.os, h.tape, h.output, h.size, fun k hk _ => h.block k hk⟩
theorem Chg.refl (w : World) (F : Nat → Prop) : Chg w w F := Chg.of_below (Below.refl _ _)
theorem Chg.trans {w w' w'' : World} {F F' : Nat → Prop} (h : Chg w w' F) (h' : Chg w' w'' F') (hF : ∀ b, b < w.heap.size → F' b → F b) : Chg w w'' F :=
  ⟨h'.os.trans h.os, h'.tape.trans h.tape, h'.output.trans h.output, Nat.le_trans h.size h'.size, fun k hk hn => (h'.block k (Nat.lt_of_lt_of_le hk h.size) (fun e => hn (hF k hk e))).trans (h.block k hk hn)⟩
theorem Chg.mono {w w' : World} {F F' : Nat → Prop} (h : Chg w w' F) (hF : ∀ b, b < w.heap.size → F b → F' b) : Chg w w' F' := ⟨h.os, h.tape, h.output, h.size, fun k hk hn => h.block k hk fun e => hn (hF k hk e)⟩
theorem Chg.setCell {w w' : World} {F : Nat → Prop} (h : Chg w w' F) (a : Addr) (u : Value) (ha : F a.block ∨ w.heap.size ≤ a.block) : Chg w (w'.setCell a u) F :=
  ⟨h.os, h.tape, h.output, by have := h.size; simpa [World.setCell] using this, fun k hk hn => (Below.heap_setCell _ _ _ _ (by rintro rfl; rcases ha with ha | ha; exact hn ha; omega)).trans (h.block k hk hn)⟩
theorem Chg.then_below {w w' w'' : World} {F : Nat → Prop} (h : Chg w w' F) (h' : Below w.heap.size w' w'') : Chg w w'' F :=
  ⟨h'.os.trans h.os, h'.tape.trans h.tape, h'.output.trans h.output, Nat.le_trans h.size h'.size, fun k hk hn => (h'.block k hk).trans (h.block k hk hn)⟩
theorem Chg.of_turned {w w' : World} {b : Option Nat} {F : Nat → Prop} (h : Turned w w' b) (hF : ∀ k, b = some k → k < w.heap.size → F k) : Chg w w' F :=
  ⟨h.os, h.tape, h.output, h.size, fun k hk hn => h.block k hk (fun e => hn (hF k e.symm hk))⟩
theorem Chg.cell {w w' : World} {F : Nat → Prop} (h : Chg w w' F) {a : Addr} (hs : a.block < w.heap.size) (hn : ¬ F a.block) : w'.cell? a = w.cell? a := World.cell?_of_block (w := w) (h.block _ hs hn)
theorem Chg.frozen {w w' : World} {F : Nat → Prop} (h : Chg w w' F) {a : Addr} (hs : a.block < w.heap.size) (hn : ¬ F a.block) : w'.frozen? a = w.frozen? a := World.frozen?_of_block (w := w) (h.block _ hs hn)
theorem Chg.below {w w' : World} {F : Nat → Prop} {B : Nat} (h : Chg w w' F) (hB : B ≤ w.heap.size) (hF : ∀ b, F b → B ≤ b) : Below B w w' :=
  ⟨h.os, h.tape, h.output, h.size, fun k hk => h.block k (by omega) fun e => by have := hF k e; omega⟩

theorem lt_of_heap {w : World} {b : Nat} {o : Obj} (h : w.heap[b]? = some o) : b < w.heap.size := (Array.getElem?_eq_some_iff.1 h).1

theorem Sl.lt {w : World} {e : TypeId} {size : Nat} {v : Value} {n : Nat} {xs : List Value} (h : Sl w e size v n xs) {g : Nat} (hg : v.ownBlock = some g) : g < w.heap.size := by
  obtain ⟨_, ⟨rfl, _⟩ | ⟨g', off, cap, cur, rfl, hb, _⟩⟩ := h
  · cases hg
  · simp [Value.ownBlock] at hg
    subst hg
    exact lt_of_heap hb

theorem PoolN.lt {w : World} {L : Lay} {M : List Sh} {n : Nat} (h : PoolN w L M n) {b : Nat} (hb : L.own b) : b < w.heap.size := by
  obtain ⟨t, ht⟩ := hb
  obtain ⟨cur, hS, _, _, hsh⟩ := h.shards
  match t, ht with
  | 0, ht => subst ht; exact lt_of_heap h.top
  | 1, ht => subst ht; exact lt_of_heap hS
  | t + 2, ht =>
    obtain ⟨l, hl, hor⟩ := ht
    have hk : t / 2 < M.length := by rw [← h.len]; exact (List.getElem?_eq_some_iff.1 hl).1
    have hs := hsh _ _ l (List.getElem?_eq_getElem hk) hl
    rcases hor with ⟨_, rfl⟩ | ⟨_, hg⟩
    · obtain ⟨ca, hca, _⟩ := hs.rows
      exact lt_of_heap hca
    · exact hs.free.lt hg

theorem ShAt.keep {w w' : World} {cur : Array Value} {k : Nat} {m : Sh} {l : ShL} (h : ShAt w cur k m l) {cur' : Array Value} (h0 : cur'[k * 2]? = cur[k * 2]?) (h1 : cur'[k * 2 + 1]? = cur[k * 2 + 1]?)
    (hA : w'.heap[l.A]? = w.heap[l.A]?) (hF : ∀ g, l.fv.ownBlock = some g → w'.heap[g]? = w.heap[g]?) : ShAt w' cur' k m l :=
  ⟨by rw [h0]; exact h.slA, by rw [h1]; exact h.slF, by rw [hA]; exact h.rows, h.free.keep hF, h.inv⟩

theorem PoolN.keep {w w' : World} {L : Lay} {M : List Sh} {n : Nat} (h : PoolN w L M n) (hk : ∀ b, L.own b → w'.heap[b]? = w.heap[b]?) : PoolN w' L M n := by
  obtain ⟨cur, hS, hsz, hrest, hsh⟩ := h.shards
  refine ⟨h.len, h.le, h.few, by rw [hk _ ⟨0, rfl⟩]; exact h.top, ⟨cur, by rw [hk _ ⟨1, rfl⟩]; exact hS, hsz, hrest, fun k m l hm hl => (hsh k m l hm hl).keep rfl rfl (hk _ ⟨2 * k + 2, l, ?_, .inl ⟨?_, rfl⟩⟩) fun g hg => hk _ ⟨2 * k + 1 + 2, l, ?_, .inr ⟨?_, hg⟩⟩⟩, h.apart⟩
  · rw [show 2 * k / 2 = k by omega]; exact hl
  · omega
  · rw [show (2 * k + 1) / 2 = k by omega]; exact hl
  · omega

theorem PoolN.below {w w' : World} {L : Lay} {M : List Sh} {n : Nat} (h : PoolN w L M n) {B : Nat} (hb : Below B w w') (hB : ∀ b, L.own b → b < B) : PoolN w' L M n := h.keep fun b ho => hb.block b (hB b ho)
theorem PoolN.grown {w w' : World} {L : Lay} {M : List Sh} {n : Nat} (h : PoolN w L M n) (hb : Below w.heap.size w w') : PoolN w' L M n := h.below hb fun _ ho => h.lt ho
def Stp (w : World) (L : Lay) (w' : World) (M' : List Sh) : Prop := ∃ L', L'.P = L.P ∧ PoolAt w' L' M' ∧ Chg w w' L.own ∧ ∀ b, L'.own b → L.own b ∨ w.heap.size ≤ b

theorem Stp.of_grown {w w' : World} {L : Lay} {M : List Sh} (h : PoolAt w L M) (hb : Below w.heap.size w w') : Stp w L w' M := ⟨L, rfl, h.grown hb, Chg.of_below hb, fun _ h => .inl h⟩

def Lay.at (L : Lay) (l : ShL) (b : Nat) : Prop := b = L.S ∨ b = l.A ∨ l.fv.ownBlock = some b

theorem Lay.own_at {L : Lay} {l : ShL} {k : Nat} (hl : L.sh[k]? = some l) {b : Nat} (h : L.at l b) : L.own b := by
  rcases h with rfl | rfl | h
  · exact ⟨1, rfl⟩
  · exact ⟨2 * k + 2, l, by rw [show 2 * k / 2 = k by omega]; exact hl, .inl ⟨by omega, rfl⟩⟩
  · exact ⟨2 * k + 1 + 2, l, by rw [show (2 * k + 1) / 2 = k by omega]; exact hl, .inr ⟨by omega, h⟩⟩

theorem Lay.has_A {L : Lay} {l : ShL} {k : Nat} (hl : L.sh[k]? = some l) : L.has (2 * k + 2) l.A := ⟨l, by rw [show 2 * k / 2 = k by omega]; exact hl, .inl ⟨by omega, rfl⟩⟩
theorem Lay.has_F {L : Lay} {l : ShL} {k : Nat} (hl : L.sh[k]? = some l) {g : Nat} (hg : l.fv.ownBlock = some g) : L.has (2 * k + 1 + 2) g := ⟨l, by rw [show (2 * k + 1) / 2 = k by omega]; exact hl, .inr ⟨by omega, hg⟩⟩

theorem PoolN.S_ne_A {w : World} {L : Lay} {M : List Sh} {n : Nat} (h : PoolN w L M n) {k : Nat} {l : ShL} (hl : L.sh[k]? = some l) : L.S ≠ l.A := fun e => by
  have := h.apart 1 (2 * k + 2) l.A e (Lay.has_A hl); omega
theorem PoolN.S_ne_F {w : World} {L : Lay} {M : List Sh} {n : Nat} (h : PoolN w L M n) {k : Nat} {l : ShL} (hl : L.sh[k]? = some l) {g : Nat} (hg : l.fv.ownBlock = some g) : L.S ≠ g := fun e => by
  have := h.apart 1 _ g e (Lay.has_F hl hg); omega
theorem PoolN.A_ne_F {w : World} {L : Lay} {M : List Sh} {n : Nat} (h : PoolN w L M n) {k k' : Nat} {l l' : ShL} (hl : L.sh[k]? = some l) (hl' : L.sh[k']? = some l') {g : Nat} (hg : l'.fv.ownBlock = some g) : l.A ≠ g := fun e => by
  have := h.apart _ _ g (e ▸ Lay.has_A hl) (Lay.has_F hl' hg); omega

def Lay.put (L : Lay) (k : Nat) (l : ShL) : Lay := { L with sh := L.sh.set k l }

theorem PoolN.updN {w w' : World} {L : Lay} {M : List Sh} {n : Nat} (h : PoolN w L M n) {k : Nat} {l : ShL} (hl : L.sh[k]? = some l) {m' : Sh} {l' : ShL} (hA : l'.A = l.A)
    (hc : Chg w w' (L.at l)) (hf : ∀ g, l'.fv.ownBlock = some g → l.fv.ownBlock = some g ∨ w.heap.size ≤ g)
    (hS : ∀ cur, w.heap[L.S]? = some (.cells cur 178 (0, 0)) → cur.size = 2 * n → (∀ m l, M[k]? = some m → L.sh[k]? = some l → ShAt w cur k m l) →
      ∃ cur', w'.heap[L.S]? = some (.cells cur' 178 (0, 0)) ∧ cur'.size = cur.size ∧ (∀ j, j / 2 ≠ k → cur'[j]? = cur[j]?) ∧ ShAt w' cur' k m' l') :
    PoolN w' (L.put k l') (M.set k m') n ∧ ∀ b, (L.put k l').own b → L.own b ∨ w.heap.size ≤ b := by
  obtain ⟨cur, hcur, hsz, hrest, hsh⟩ := h.shards
  obtain ⟨cur', hcur', hsz', hoth, hnew⟩ := hS cur hcur hsz fun m l hm hl => hsh k m l hm hl
  have hkl : k < L.sh.length := (List.getElem?_eq_some_iff.1 hl).1
  have hhas : ∀ t b, Lay.has (L.put k l') t b → L.has t b ∨ (t = 2 * k + 1 + 2 ∧ w.heap.size ≤ b) := by
    intro t b ht
    match t, ht with
    | 0, ht => exact .inl ht
    | 1, ht => exact .inl ht
    | t + 2, ht =>
      obtain ⟨x, hx, hor⟩ := ht
      simp only [Lay.put, List.getElem?_set] at hx
      split at hx
      · rename_i hk
        obtain rfl : l' = x := by simpa using hx
        rcases hor with ⟨h0, h1⟩ | ⟨h0, h1⟩
        · exact .inl ⟨l, by rw [← hk]; exact hl, .inl ⟨h0, by rw [← hA]; exact h1⟩⟩
        · rcases hf b h1 with h2 | h2
          · exact .inl ⟨l, by rw [← hk]; exact hl, .inr ⟨h0, h2⟩⟩
          · exact .inr ⟨by omega, h2⟩
      · exact .inl ⟨x, hx, hor⟩
  have hPn : ¬ L.at l L.P := by
    rintro (e | e | e)
    · have := h.apart 0 1 L.P rfl e.symm; omega
    · have := h.apart 0 (2 * k + 2) L.P rfl (e ▸ Lay.has_A hl); omega
    · have := h.apart 0 _ L.P rfl (Lay.has_F hl e); omega
  have hkM : k < M.length := by rw [← h.len]; exact hkl
  refine ⟨⟨by simp [Lay.put, h.len], by simpa using h.le, h.few, ?_, ⟨cur', hcur', by simp [hsz', hsz], fun j hj hjn => ?_, fun k2 m2 l2 hm2 hl2 => ?_⟩, ?_⟩, ?_⟩
  · exact (hc.block _ (lt_of_heap h.top) hPn).trans h.top
  · rw [List.length_set] at hj
    rw [hoth _ (by omega), hoth _ (by omega)]
    exact hrest j hj hjn
  · simp only [Lay.put, List.getElem?_set] at hm2 hl2
    by_cases hk : k = k2
    · subst hk
      rw [if_pos rfl, if_pos (by rw [← h.len]; exact hkl)] at hm2
      rw [if_pos rfl, if_pos hkl] at hl2
      cases hm2; cases hl2
      exact hnew
    · rw [if_neg hk] at hm2 hl2
      have hs2 := hsh k2 m2 l2 hm2 hl2
      refine hs2.keep (hoth _ (by omega)) (hoth _ (by omega)) (hc.block _ ?_ ?_) fun g hg => hc.block _ (hs2.free.lt hg) ?_
      · obtain ⟨ca, hca, _⟩ := hs2.rows; exact lt_of_heap hca
      · rintro (e | e | e)
        · exact h.S_ne_A hl2 e.symm
        · have := h.apart _ _ _ (Lay.has_A hl2) (e ▸ Lay.has_A hl); omega
        · exact h.A_ne_F hl2 hl e rfl
      · rintro (e | e | e)
        · exact h.S_ne_F hl2 hg e.symm
        · exact h.A_ne_F hl hl2 hg e.symm
        · have := h.apart _ _ _ (Lay.has_F hl2 hg) (Lay.has_F hl e); omega
  · intro t t' b ht ht'
    rcases hhas t b ht with a | ⟨a, hb⟩ <;> rcases hhas t' b ht' with a' | ⟨a', hb'⟩
    · exact h.apart t t' b a a'
    · have := h.lt ⟨t, a⟩; omega
    · have := h.lt ⟨t', a'⟩; omega
    · omega
  · rintro b ⟨t, ht⟩
    rcases hhas t b ht with a | ⟨_, hb⟩
    · exact .inl ⟨t, a⟩
    · exact .inr hb

theorem PoolN.toAt {w : World} {L : Lay} {M : List Sh} {n : Nat} (h : PoolN w L M n) (hn : n = M.length) : PoolAt w L M := by subst hn; exact h

theorem PoolAt.upd {w w' : World} {L : Lay} {M : List Sh} (h : PoolAt w L M) {k : Nat} {l : ShL} (hl : L.sh[k]? = some l) {m' : Sh} {l' : ShL} (hA : l'.A = l.A)
    (hc : Chg w w' (L.at l)) (hf : ∀ g, l'.fv.ownBlock = some g → l.fv.ownBlock = some g ∨ w.heap.size ≤ g)
    (hS : ∀ cur, w.heap[L.S]? = some (.cells cur 178 (0, 0)) → cur.size = 2 * M.length → (∀ m l, M[k]? = some m → L.sh[k]? = some l → ShAt w cur k m l) →
      ∃ cur', w'.heap[L.S]? = some (.cells cur' 178 (0, 0)) ∧ cur'.size = cur.size ∧ (∀ j, j / 2 ≠ k → cur'[j]? = cur[j]?) ∧ ShAt w' cur' k m' l') :
    PoolAt w' (L.put k l') (M.set k m') ∧ ∀ b, (L.put k l').own b → L.own b ∨ w.heap.size ≤ b := by
  have := h.updN hl hA hc hf hS
  exact ⟨this.1.toAt (by simp), this.2⟩

theorem Stp.trans {w w' w'' : World} {L : Lay} {M' M'' : List Sh} (h : Stp w L w' M') (h2 : ∀ L', L'.P = L.P → PoolAt w' L' M' → Stp w' L' w'' M'') : Stp w L w'' M'' := by
  obtain ⟨L', hP, hp, hc, ho⟩ := h
  obtain ⟨L'', hP', hp', hc', ho'⟩ := h2 L' hP hp
  refine ⟨L'', hP'.trans hP, hp', hc.trans hc' fun b hb h1 => ?_, fun b hb => ?_⟩
  · rcases ho b h1 with h | h
    · exact h
    · omega
  · rcases ho' b hb with h | h
    · exact ho b h
    · exact .inr (Nat.le_trans hc.size h)

theorem Stp.then_below {w w' w'' : World} {L : Lay} {M' : List Sh} (h : Stp w L w' M') (hb : Below w'.heap.size w' w'') : Stp w L w'' M' := h.trans fun _ _ h2 => Stp.of_grown h2 hb
theorem Stp.from_below {w w' w'' : World} {L : Lay} {M' : List Sh} (hb : Below w.heap.size w w') (h : Stp w' L w'' M') : Stp w L w'' M' := by
  obtain ⟨L', hP, hp', hc, ho⟩ := h
  exact ⟨L', hP, hp', (Chg.of_below hb).trans hc fun _ _ h => h, fun b h => (ho b h).imp_right fun h => Nat.le_trans hb.size h⟩

theorem heap_setCell_same (w : World) (b o : Nat) (u : Value) (cs : Array Value) (e : TypeId) (fr : Nat × Nat) (h : w.heap[b]? = some (.cells cs e fr)) : (w.setCell ⟨b, o, none⟩ u).heap[b]? = some (.cells (cs.setIfInBounds o u) e fr) := by
  simp [World.setCell, Array.getElem?_modify, h]

theorem set_self (ca : Array Value) (j : Nat) (v : Value) (h : j < ca.size) : (ca.setIfInBounds j v)[j]? = some v := by simp [h]

theorem PoolAt.set_row {w w' : World} {L : Lay} {M : List Sh} (h : PoolAt w L M) {k i : Nat} {m : Sh} {l : ShL} {x' : Ix} (hm : M[k]? = some m) (hl : L.sh[k]? = some l) (hil : i < m.all.length)
    (hc : Chg w w' (fun b => b = l.A))
    (hr : ∀ ca : Array Value, w.heap[l.A]? = some (.cells ca 186 (0, 0)) → ca.size = 3 * m.all.length → (∀ x, m.all[i]? = some x → ca[i * 3]? = some (.int .i64 x.gen) ∧ ca[i * 3 + 1]? = some (.int .i64 x.bound) ∧ ca[i * 3 + 2]? = some (.bool x.alive)) →
      ∃ ca' : Array Value, w'.heap[l.A]? = some (.cells ca' 186 (0, 0)) ∧ ca'.size = ca.size ∧ (∀ j, j / 3 ≠ i → ca'[j]? = ca[j]?) ∧ ca'[i * 3]? = some (.int .i64 x'.gen) ∧ ca'[i * 3 + 1]? = some (.int .i64 x'.bound) ∧ ca'[i * 3 + 2]? = some (.bool x'.alive))
    (hi : ShInv { m with all := m.all.set i x' }) : PoolAt w' L (M.set k { m with all := m.all.set i x' }) := by
  have hput : L.put k l = L := by
    obtain ⟨hk, e⟩ := List.getElem?_eq_some_iff.1 hl
    subst e
    simp [Lay.put]
  have hup := fun hS => (h.upd hl (m' := { m with all := m.all.set i x' }) (l' := l) (w' := w') rfl (hc.mono fun b _ e => .inr (.inl e)) (fun g hg => .inl hg) hS).1
  rw [hput] at hup
  refine hup fun cur hcur _ hsh => ⟨cur, ?_, rfl, fun _ _ => rfl, ?_⟩
  · rw [hc.block _ (lt_of_heap hcur) (h.S_ne_A hl)]; exact hcur
  · have hs := hsh m l hm hl
    obtain ⟨ca, hca, hsz, hrow⟩ := hs.rows
    obtain ⟨ca', hca', hsz', hoth, r0, r1, r2⟩ := hr ca hca hsz (hrow i)
    refine ⟨by simpa using hs.slA, hs.slF, ⟨ca', hca', by rw [hsz', hsz]; simp, fun j y hy => ?_⟩, hs.free.keep fun g hg => hc.block _ (hs.free.lt hg) (fun e => h.A_ne_F hl hl hg e.symm), hi⟩
    simp only [List.getElem?_set] at hy
    by_cases hij : i = j
    · subst hij
      rw [if_pos rfl, if_pos hil] at hy
      obtain rfl : x' = y := by simpa using hy
      exact ⟨r0, r1, r2⟩
    · rw [if_neg hij] at hy
      obtain ⟨q0, q1, q2⟩ := hrow j y hy
      exact ⟨by rw [hoth _ (by omega)]; exact q0, by rw [hoth _ (by omega)]; exact q1, by rw [hoth _ (by omega)]; exact q2⟩

theorem PoolAt.set_ix {w : World} {L : Lay} {M : List Sh} (h : PoolAt w L M) {k i : Nat} {m : Sh} {l : ShL} {x x' : Ix} (hm : M[k]? = some m) (hl : L.sh[k]? = some l) (hx : m.all[i]? = some x) (q : Nat) (v : Value)
    (hv : (q = 0 ∧ x' = { x with gen := x'.gen } ∧ v = .int .i64 x'.gen) ∨ (q = 1 ∧ x' = { x with bound := x'.bound } ∧ v = .int .i64 x'.bound) ∨ (q = 2 ∧ x' = { x with alive := x'.alive } ∧ v = .bool x'.alive))
    (hi : ShInv { m with all := m.all.set i x' }) : PoolAt (w.setCell ⟨l.A, i * 3 + q, none⟩ v) L (M.set k { m with all := m.all.set i x' }) := by
  have hil : i < m.all.length := (List.getElem?_eq_some_iff.1 hx).1
  refine h.set_row hm hl hil ((Chg.refl _ _).setCell _ _ (.inl rfl)) (fun ca hca hsz hrow => ⟨ca.setIfInBounds (i * 3 + q) v, heap_setCell_same _ _ _ _ _ _ _ hca, by simp, fun j hj => Array.getElem?_setIfInBounds_ne (by rcases hv with ⟨rfl, _⟩ | ⟨rfl, _⟩ | ⟨rfl, _⟩ <;> omega), ?_⟩) hi
  obtain ⟨r0, r1, r2⟩ := hrow x hx
  rcases hv with ⟨rfl, e, rfl⟩ | ⟨rfl, e, rfl⟩ | ⟨rfl, e, rfl⟩
  · refine ⟨?_, ?_, ?_⟩
    · exact set_self _ _ _ (by omega)
    · rw [Array.getElem?_setIfInBounds_ne (by omega), r1, e]
    · rw [Array.getElem?_setIfInBounds_ne (by omega), r2, e]
  · refine ⟨?_, ?_, ?_⟩
    · rw [Array.getElem?_setIfInBounds_ne (by omega), r0, e]
    · exact set_self _ _ _ (by omega)
    · rw [Array.getElem?_setIfInBounds_ne (by omega), r2, e]
  · refine ⟨?_, ?_, ?_⟩
    · rw [Array.getElem?_setIfInBounds_ne (by omega), r0, e]
    · rw [Array.getElem?_setIfInBounds_ne (by omega), r1, e]
    · exact set_self _ _ _ (by omega)

theorem PoolAt.set_ga {w : World} {L : Lay} {M : List Sh} (h : PoolAt w L M) {k i : Nat} {m : Sh} {l : ShL} {x x' : Ix} (hm : M[k]? = some m) (hl : L.sh[k]? = some l) (hx : m.all[i]? = some x) (hb : x'.bound = x.bound)
    (hi : ShInv { m with all := m.all.set i x' }) : PoolAt ((w.setCell ⟨l.A, i * 3, none⟩ (.int .i64 x'.gen)).setCell ⟨l.A, i * 3 + 2, none⟩ (.bool x'.alive)) L (M.set k { m with all := m.all.set i x' }) := by
  have hil : i < m.all.length := (List.getElem?_eq_some_iff.1 hx).1
  have hc : Chg w ((w.setCell ⟨l.A, i * 3, none⟩ (.int .i64 x'.gen)).setCell ⟨l.A, i * 3 + 2, none⟩ (.bool x'.alive)) (fun b => b = l.A) :=
    ((Chg.refl w (fun b => b = l.A)).setCell ⟨l.A, i * 3, none⟩ (.int .i64 x'.gen) (.inl rfl)).setCell ⟨l.A, i * 3 + 2, none⟩ (.bool x'.alive) (.inl rfl)
  refine h.set_row hm hl hil hc (fun ca hca hsz hrow => ?_) hi
  have e1 := heap_setCell_same w l.A (i * 3) (.int .i64 x'.gen) ca _ _ hca
  have e2 := heap_setCell_same _ l.A (i * 3 + 2) (.bool x'.alive) _ _ _ e1
  refine ⟨_, e2, by simp, fun j hj => ?_, ?_, ?_, ?_⟩
  · rw [Array.getElem?_setIfInBounds_ne (by omega), Array.getElem?_setIfInBounds_ne (by omega)]
  · rw [Array.getElem?_setIfInBounds_ne (by omega)]; exact set_self _ _ _ (by omega)
  · rw [Array.getElem?_setIfInBounds_ne (by omega), Array.getElem?_setIfInBounds_ne (by omega), (hrow x hx).2.1, hb]
  · exact set_self _ _ _ (by simp; omega)

theorem PoolN.set_freeN {w w1 : World} {L : Lay} {M : List Sh} {n : Nat} (h : PoolN w L M n) {k : Nat} {m : Sh} {l : ShL} (hm : M[k]? = some m) (hl : L.sh[k]? = some l) {v : Value} {fr : List Int}
    (hc : Chg w w1 (fun b => l.fv.ownBlock = some b)) (hs : Sl w1 3 1 v fr.length (fr.map (Value.int .i64))) (hf : ∀ g, v.ownBlock = some g → l.fv.ownBlock = some g ∨ w.heap.size ≤ g)
    (hi : ShInv { m with free := fr }) : PoolN (w1.setCell ⟨L.S, k * 2 + 1, none⟩ v) (L.put k { l with fv := v }) (M.set k { m with free := fr }) n ∧ ∀ b, (L.put k { l with fv := v }).own b → L.own b ∨ w.heap.size ≤ b := by
  refine h.updN hl (l' := { l with fv := v }) rfl ((hc.mono fun b _ e => .inr (.inr e)).setCell _ _ (.inl (.inl rfl))) hf fun cur hcur hsz hsh => ⟨cur.setIfInBounds (k * 2 + 1) v, ?_, by simp, fun j hj => ?_, ?_⟩
  · exact heap_setCell_same _ _ _ _ _ _ _ ((hc.block _ (lt_of_heap hcur) fun e => h.S_ne_F hl e rfl).trans hcur)
  · rw [Array.getElem?_setIfInBounds_ne (by omega)]
  · have hs0 := hsh m l hm hl
    obtain ⟨ca, hca, hz, hr⟩ := hs0.rows
    have hkM : k < M.length := (List.getElem?_eq_some_iff.1 hm).1
    have hle := h.le
    refine ⟨?_, ?_, ⟨ca, ?_, hz, hr⟩, hs.keep fun g hg => ?_, hi⟩
    · rw [Array.getElem?_setIfInBounds_ne (by omega)]; exact hs0.slA
    · exact set_self _ _ _ (by omega)
    · rw [Below.heap_setCell _ _ _ _ (h.S_ne_A hl).symm]
      exact (hc.block _ (lt_of_heap hca) fun e => h.A_ne_F hl hl e rfl).trans hca
    · refine Below.heap_setCell _ _ _ _ fun e => ?_
      rcases hf g hg with e2 | e2
      · exact h.S_ne_F hl e2 e.symm
      · have : g < w.heap.size := by rw [e]; exact lt_of_heap hcur
        omega

theorem PoolAt.set_free {w w1 : World} {L : Lay} {M : List Sh} (h : PoolAt w L M) {k : Nat} {m : Sh} {l : ShL} (hm : M[k]? = some m) (hl : L.sh[k]? = some l) {v : Value} {fr : List Int}
    (hc : Chg w w1 (fun b => l.fv.ownBlock = some b)) (hs : Sl w1 3 1 v fr.length (fr.map (Value.int .i64))) (hf : ∀ g, v.ownBlock = some g → l.fv.ownBlock = some g ∨ w.heap.size ≤ g)
    (hi : ShInv { m with free := fr }) : PoolAt (w1.setCell ⟨L.S, k * 2 + 1, none⟩ v) (L.put k { l with fv := v }) (M.set k { m with free := fr }) ∧ ∀ b, (L.put k { l with fv := v }).own b → L.own b ∨ w.heap.size ≤ b := by
  have := h.set_freeN hm hl hc hs hf hi
  exact ⟨this.1.toAt (by simp), this.2⟩

theorem Stp.same {w w' : World} {L : Lay} {M' : List Sh} (h : PoolAt w' L M') (hc : Chg w w' L.own) : Stp w L w' M' := ⟨L, rfl, h, hc, fun _ h => .inl h⟩

theorem nodup_le : ∀ (n : Nat) (l : List Int), l.Nodup → (∀ f ∈ l, 0 ≤ f ∧ f < n) → l.length ≤ n
  | 0, l, _, h => by
    cases l with
    | nil => simp
    | cons a t => have := h a (by simp); omega
  | n + 1, l, hn, h => by
    have h1 := nodup_le n (l.erase (n : Int)) (hn.erase _) (fun f hf => by
      have hm := (List.Nodup.mem_erase_iff hn).1 hf
      have := h f hm.2
      exact ⟨this.1, by omega⟩)
    by_cases hm : (n : Int) ∈ l
    · rw [List.length_erase_of_mem hm] at h1; omega
    · rw [List.erase_of_not_mem hm] at h1; omega

theorem ShInv.free_le {m : Sh} (h : ShInv m) : m.free.length ≤ 16 := by
  have := nodup_le m.all.length m.free h.nd h.fr
  have := h.few
  omega

end Go.Proofs.YtoimjjhopljdmaaGreat

/-
  Lapse: what is set aside and not given is given up, as lapseF says. No condition.
-/
import Derived.Test.YtbghjklnlhoklaaMk7
import Derived.Test.YtbghjklnlhoklaaMk8
namespace Go.Proofs.Ytbghjklnlhoklaa
open Go.RowKit

/-- A slice without elements, of whatever capacity. -/
theorem del_empty (g : Nat) (lb : Array Value) (p : Option Addr) (c : Nat) (w : World) :
    Calls Try.prog 77 #[.slice p 0 c, .func (.func g) #[] lb] w fun e w' => e = .returned (.slice p 0 c) ∧ w = w' := by
  have hI : Calls Try.prog 93 #[.slice p 0 c, .func (.func g) #[] lb] w fun e w' => e = .returned (.int .i64 (-1)) ∧ w = w' := by
    go_enter Try.func93, Try.ntmps93
    go_wp2_with fail
    refine wp_loop_rounds 1 ?_
    rw [rounds_succ]
    go_wp2
    go_ret
    exact ⟨rfl, rfl⟩
  go_enter Try.func77, Try.ntmps77
  go_wp2_with (go_at_call 93; refine hI.mono ?_; rintro e w' ⟨rfl, rfl⟩)
  go_ret
  exact ⟨rfl, rfl⟩

/-- Lapse's predicate. -/
theorem lapse1_any (b S A o n c : Nat) (all : List Ix) (f : Int) (W : World) (h0 : W.cell? ⟨b, 0, none⟩ = some (.pointer (some ⟨S, o, none⟩))) (h1 : W.cell? ⟨S, o, none⟩ = some (.slice (some ⟨A, 0, none⟩) n c)) (hn : all.length = n)
    (hf : 0 ≤ f) (x : Ix) (hx : all[f.toNat]? = some x) (hA : ∀ (i : Nat) (x : Ix), all[i]? = some x → W.cell? ⟨A, i * 3, none⟩ = some (.int .i64 x.gen)) :
    Calls Try.prog 87 (#[.int .i64 f] ++ #[.pointer (some ⟨b, 0, none⟩)]) W fun e w' => e = .returned (.bool (genAt all f == 1048576)) ∧ ∃ q, w' = W.drewN q := by
  show Calls Try.prog 87 #[.int .i64 f, .pointer (some ⟨b, 0, none⟩)] W _
  have hg : genAt all f = x.gen := by simp [genAt, hx]
  rw [hg]
  have hlt : f.toNat < n := by rw [← hn]; exact (List.getElem?_eq_some_iff.1 hx).1
  obtain ⟨i, rfl⟩ := Int.eq_ofNat_of_zero_le hf
  rw [Int.toNat_natCast] at hx hlt
  have hc := hA i x hx
  clear hA hx hn hf hg
  go_enter Try.func87, Try.ntmps87
  go_wp2
  go_ret
  exact ⟨rfl, 0, rfl⟩

theorem del_sl2 (g : Nat) (lb : Array Value) (eg : ∀ args w, (callFunc g args).run Try.prog w = .ok (.enter g args) w) (p : Int → Bool) (v : Value) (zs : List Int) (w : World) (hs : Sl w 3 1 v zs.length (zs.map (Value.int .i64)))
    (HC : ∀ W, Turned w W v.ownBlock → ∀ x, x ∈ zs ∨ (x = 0 ∧ zs ≠ []) → Calls Try.prog g (#[.int .i64 x] ++ lb) W fun e w' => e = .returned (.bool (p x)) ∧ ∃ q, w' = W.drewN q) :
    Calls Try.prog 77 #[v, .func (.func g) #[] lb] w fun e w' => ∃ v', e = .returned v' ∧ Kept w w' v v' (zs.filter fun x => !p x) := by
  by_cases h0 : zs = []
  · subst h0
    obtain ⟨pp, cap, hv, _⟩ := hs.cells
    simp only [List.length_nil] at hv
    subst hv
    refine (del_empty g lb pp cap w).mono ?_
    rintro e w' ⟨rfl, rfl⟩
    exact ⟨_, rfl, by simpa using hs, Turned.of_below (Below.refl _ _), rfl, _, _, _, rfl⟩
  · exact del_sl g lb eg p v zs w hs fun W ht x hx => HC W ht x (hx.imp_right fun h => ⟨h, h0⟩)

/-- Behind k shards. -/
def LapO (w : World) (L : Lay) (M : List Sh) (wr : World) (k : Nat) : Prop :=
  ∃ L' : Lay, L'.P = L.P ∧ L'.S = L.S ∧ PoolAt wr L' ((M.take k).map lapSh ++ M.drop k) ∧ Chg w wr L.own ∧ ∀ b, L'.own b → L.own b ∨ w.heap.size ≤ b
/-- Behind q indices of shard k. -/
def LapI (wo : World) (S : Nat) (L1 : Lay) (N : List Sh) (k : Nat) (m : Sh) (wr : World) (q : Nat) : Prop :=
  PoolAt wr L1 (N.set k ⟨lapAll m.all (m.free.take q), m.free⟩) ∧ Chg wo wr L1.own ∧ wo.heap.size < wr.heap.size ∧ wr.cell? ⟨wo.heap.size, 0, none⟩ = some (.pointer (some ⟨S, k * 2, none⟩))

theorem LapI.later {wo wi W : World} {S : Nat} {L1 : Lay} {N : List Sh} {k : Nat} {m : Sh} {q : Nat} (h : LapI wo S L1 N k m wi q) (hb : Below wi.heap.size wi W) : LapI wo S L1 N k m W q :=
  ⟨h.1.grown hb, h.2.1.then_below (hb.mono h.2.1.size), Nat.lt_of_lt_of_le h.2.2.1 hb.size, (hb.cell (p := ⟨wo.heap.size, 0, none⟩) h.2.2.1).trans h.2.2.2⟩

theorem LapI.same {wo wi : World} {S : Nat} {L1 : Lay} {N : List Sh} {k : Nat} {m : Sh} {q f : Nat} {x : Ix} (h : LapI wo S L1 N k m wi q) (hx : (lapAll m.all (m.free.take q))[f]? = some x) (hnx : lapAll m.all (m.free.take (q + 1)) = (lapAll m.all (m.free.take q)).set f (lapIx x)) (hg : ¬ x.gen < x.bound) : LapI wo S L1 N k m wi (q + 1) := by
  have e : lapAll m.all (m.free.take (q + 1)) = lapAll m.all (m.free.take q) := by
    rw [hnx]
    unfold lapIx
    rw [if_neg hg, ← (List.getElem?_eq_some_iff.1 hx).2]
    simp
  unfold LapI
  rw [e]
  exact h

theorem LapI.store {wo wi : World} {S : Nat} {L1 : Lay} {N : List Sh} {k : Nat} {m : Sh} {l : ShL} {q f : Nat} {gen bound : Int} (h : LapI wo S L1 N k m wi q) (hN : ∀ x, (N.set k x)[k]? = some x) (hl : L1.sh[k]? = some l)
    (hx : (lapAll m.all (m.free.take q))[f]? = some ⟨gen, bound, false⟩) (hnx : lapAll m.all (m.free.take (q + 1)) = (lapAll m.all (m.free.take q)).set f (lapIx ⟨gen, bound, false⟩)) (hg : gen < bound)
    (hin : ShInv ⟨lapAll m.all (m.free.take (q + 1)), m.free⟩) (hb : ¬ L1.own wo.heap.size) : LapI wo S L1 N k m (wi.setCell ⟨l.A, f * 3, none⟩ (.int .i64 bound)) (q + 1) := by
  have e : lapIx ⟨gen, bound, false⟩ = ⟨bound, bound, false⟩ := by simp [lapIx, hg]
  rw [e] at hnx
  rw [hnx] at hin
  have h1 := PoolAt.set_ix (M := N.set k ⟨lapAll m.all (m.free.take q), m.free⟩) h.1 (hN _) hl hx 0 (.int .i64 bound) (x' := ⟨bound, bound, false⟩) (.inl ⟨rfl, rfl, rfl⟩) hin
  rw [List.set_set] at h1
  refine ⟨by rw [hnx]; exact h1, h.2.1.setCell _ _ (.inl (Lay.own_at hl (.inr (.inl rfl)))), by simpa [World.setCell] using h.2.2.1, ?_⟩
  have hne : wo.heap.size ≠ l.A := fun e => hb (by rw [e]; exact Lay.own_at hl (.inr (.inl rfl)))
  exact (World.cell?_of_block (w := wi) (a := ⟨wo.heap.size, 0, none⟩) (Below.heap_setCell wi ⟨l.A, f * 3, none⟩ (.int .i64 bound) wo.heap.size hne)).trans h.2.2.2

theorem lap_step {w wo wi W w1 : World} {L L1 : Lay} {M : List Sh} {k : Nat} {m : Sh} {l : ShL} {v' : Value} (hm : M[k]? = some m) (hl : L1.sh[k]? = some l) (hP1 : L1.P = L.P) (hS1 : L1.S = L.S) (hc1 : Chg w wo L.own) (ho1 : ∀ b, L1.own b → L.own b ∨ w.heap.size ≤ b)
    (hI : PoolAt wi L1 (((M.take k).map lapSh ++ M.drop k).set k ⟨lapAll m.all m.free, m.free⟩)) (hIc : Chg wo wi L1.own) (hW : Below wi.heap.size wi W)
    (hk : Kept W w1 l.fv v' (m.free.filter fun f => !(genAt (lapAll m.all m.free) f == 1048576))) (hinv : ShInv m) :
    LapO w L M (w1.setCell ⟨L.S, k * 2 + 1, none⟩ v') (k + 1) := by
  obtain ⟨hs1, ht, ho, _⟩ := hk
  have hkl : k < M.length := (List.getElem?_eq_some_iff.1 hm).1
  have PW : PoolAt W L1 _ := hI.grown hW
  have hN : (((M.take k).map lapSh ++ M.drop k).set k ⟨lapAll m.all m.free, m.free⟩)[k]? = some ⟨lapAll m.all m.free, m.free⟩ := List.getElem?_set_self (by simp; omega)
  obtain ⟨p2, o2⟩ := PW.set_free hN hl (w1 := w1) (Chg.of_turned ht fun k e _ => e) (v := v') hs1 (fun g' hg' => .inl (by rw [← ho]; exact hg')) (lap_inv hinv)
  rw [hS1] at p2
  refine ⟨L1.put k { l with fv := v' }, hP1, hS1, ?_, ?_, fun b hb => ?_⟩
  · have e : (M.take (k + 1)).map lapSh ++ M.drop (k + 1) = ((M.take k).map lapSh ++ M.drop k).set k (lapSh m) := by
      have h1 : M.drop k = m :: M.drop (k + 1) := by rw [List.drop_eq_getElem_cons hkl, (List.getElem?_eq_some_iff.1 hm).2]
      have h2 : M.take (k + 1) = M.take k ++ [m] := by rw [List.take_succ_eq_append_getElem hkl, (List.getElem?_eq_some_iff.1 hm).2]
      rw [h1, h2, List.set_append_right _ _ (by simp; omega), List.length_map, List.length_take, Nat.min_eq_left (by omega), Nat.sub_self]
      simp
    rw [e]
    rw [List.set_set] at p2
    exact p2
  · have c1 : Chg w W L.own := (hc1.trans hIc fun b hb h => (ho1 b h).elim id fun h => absurd hb (by omega)).then_below (hW.mono (by have := hc1.size; have := hIc.size; omega))
    have c2 : Chg w w1 L.own := c1.trans (Chg.of_turned (F := fun b => l.fv.ownBlock = some b) ht fun k e _ => e) fun b hb e => (ho1 b (Lay.own_at hl (.inr (.inr e)))).elim id fun h => absurd hb (by omega)
    exact c2.setCell ⟨L.S, k * 2 + 1, none⟩ _ (.inl ⟨1, rfl⟩)
  · rcases o2 b hb with h | h
    · exact ho1 b h
    · exact .inr (by have := hc1.size; have := hIc.size; have := hW.size; omega)

theorem sum_le : ∀ (l : List Sh), (∀ m ∈ l, lapN m ≤ 16) → (l.map lapN).sum ≤ 16 * l.length
  | [], _ => by simp
  | m :: l, h => by
    have h1 := sum_le l fun m hm => h m (List.mem_cons_of_mem _ hm)
    have h2 := h m (by simp)
    simp only [List.map_cons, List.sum_cons, List.length_cons]
    omega
theorem sum_snoc (M : List Sh) (k : Nat) (m : Sh) (hm : M[k]? = some m) : ((M.take (k + 1)).map lapN).sum = ((M.take k).map lapN).sum + lapCnt m.all m.free := by
  have hkl : k < M.length := (List.getElem?_eq_some_iff.1 hm).1
  rw [List.take_succ_eq_append_getElem hkl, (List.getElem?_eq_some_iff.1 hm).2]
  simp [lapN]

set_option maxRecDepth 100000 in
set_option maxHeartbeats 4000000 in
theorem lapse_any (w : World) (L : Lay) (M : List Sh) (h : PoolAt w L M) :
    Calls Try.prog 65 #[.pointer (some ⟨L.P, 0, none⟩)] w fun e w' => e = .returned (.int .i64 (lapseF M).1) ∧ Stp w L w' (lapseF M).2 := by
  have hfew := h.few
  have hc : w.cell? ⟨L.P, 0, none⟩ = some (.slice (some ⟨L.S, 0, none⟩) M.length M.length) := by simp [World.cell?, h.top]
  have hbP : L.P < w.heap.size := World.block_lt_of_cell? w _ hc
  have hm16 : ∀ m ∈ M, lapN m ≤ 16 := by
    intro m hm
    obtain ⟨k, hk, rfl⟩ := List.getElem_of_mem hm
    have hkl : k < L.sh.length := by rw [h.len]; exact hk
    exact Nat.le_trans (lapCnt_le _ _) (h.sh (List.getElem?_eq_getElem hk) (List.getElem?_eq_getElem hkl)).2.2.2.2.1.free_le
  have HM := Lib.hid hm16
  have HP := Lib.hid h
  clear h hm16
  go_enter Try.func65, Try.ntmps65
  go_wp2_with fail
  go_loopw [3, 17] (fun v i wr => ∃ k : Nat, k ≤ M.length ∧ i = .int .i64 k ∧ v = .int .i64 (((M.take k).map lapN).sum : Nat) ∧ LapO w L M wr k) (fun _ i _ => M.length - (intOf i).toNat)
  case atStart => exact ⟨0, Nat.zero_le _, rfl, by simp, L, rfl, rfl, by simpa using HP.out.grown (by repeat' (first | (with_reducible exact Below.refl _ _) | (with_reducible assumption) | (with_reducible refine below_drewN ?_ _) | (with_reducible refine below_more _ _ _ ?_ ?_) | (with_reducible refine Below.alloc ?_ ?_ _) | (with_reducible refine Below.drew ?_) | (with_reducible refine Below.setCell ?_ ?_ _) | go_size)), (by repeat' (first | (with_reducible exact Chg.refl _ _) | (with_reducible refine Chg.then_alloc ?_ _) | (with_reducible refine Chg.then_drew ?_) | (with_reducible refine Chg.then_more ?_ _ _) | (with_reducible refine Chg.setCell ?_ _ _ (Or.inl ?_)) | (with_reducible refine And.intro ?_ ?_) | go_size)), fun b h => .inl h⟩
  case round =>
    obtain ⟨k, hk, rfl, rfl, hl⟩ := hrel
    obtain ⟨wo, rfl⟩ : ∃ wo : World, wo = wr := ⟨_, rfl⟩
    by_cases hlt : k < M.length
    · obtain ⟨L1, hP1, hS1, hp1, hc1, ho1⟩ := hl
      have hmk : M[k]? = some M[k] := List.getElem?_eq_getElem hlt
      generalize M[k] = m at *
      have hN : ((M.take k).map lapSh ++ M.drop k)[k]? = some m := by
        rw [List.getElem?_append_right (by simp; omega), List.length_map, List.length_take, Nat.min_eq_left hk, Nat.sub_self, List.getElem?_drop, Nat.add_zero]; exact hmk
      have hN2 : ∀ x : Sh, (((M.take k).map lapSh ++ M.drop k).set k x)[k]? = some x := fun x => List.getElem?_set_self (by simp; omega)
      have HSTEP := Lib.hid fun (l : ShL) (hl : L1.sh[k]? = some l) (wi W w1 : World) (v' : Value) => lap_step (wi := wi) (W := W) (w1 := w1) (v' := v') hmk hl hP1 hS1 hc1 ho1
      have hc2 : wo.cell? ⟨L.P, 0, none⟩ = some (.slice (some ⟨L.S, 0, none⟩) M.length M.length) := by
        have ht := hp1.top
        rw [hP1, hS1, show ((M.take k).map lapSh ++ M.drop k).length = M.length by simp; omega] at ht
        simp [World.cell?, ht]
      have hbP2 : L.P < wo.heap.size := World.block_lt_of_cell? wo _ hc2
      have hsum := sum_snoc M k m hmk
      have HSUM := Lib.hid hsum
      have hs16 := sum_le (M.take k) fun m hm => HM.out m (List.mem_of_mem_take hm)
      rw [List.length_take, Nat.min_eq_left hk] at hs16
      generalize ((M.take k).map lapN).sum = nk at *
      generalize hNN : (M.take k).map lapSh ++ M.drop k = N at *
      clear hNN hsum hc1 ho1 hP1
      obtain ⟨l, hl⟩ : ∃ l, L1.sh[k]? = some l := ⟨_, List.getElem?_eq_getElem (by rw [hp1.len]; exact (List.getElem?_eq_some_iff.1 hN).1)⟩
      obtain ⟨d0, d1, fS, fA, hinv, _, hsl⟩ := hp1.sh hN hl
      obtain ⟨pf, cf, hfv, hfl, _⟩ := Sl.cells hsl
      rw [hS1] at d0 d1 fS
      rw [hfv] at d1
      unfold maxLen at hfl
      have hbS : L.S < wo.heap.size := World.block_lt_of_cell? wo _ d0
      have hbx : ¬ L1.own wo.heap.size := fun e => by have := hp1.lt e; omega
      have HBX := Lib.hid hbx
      have HP1 := Lib.hid hp1
      have HFV := Lib.hid hfv
      have HL := Lib.hid hl
      have HN := Lib.hid hN
      have HN2 := Lib.hid hN2
      have HINV := Lib.hid hinv
      have hset : N.set k m = N := by rw [← (List.getElem?_eq_some_iff.1 hN).2]; simp
      have HSET := Lib.hid hset
      have HS1 := Lib.hid hS1
      clear hbx hp1 hsl hfv hl hN hN2 hinv hset hS1 hmk
      go_wp2_with fail
      go_loopw [3, 31] (fun v i wr => ∃ q : Nat, q ≤ m.free.length ∧ i = .int .i64 q ∧ v = .int .i64 ((nk + lapCnt m.all (m.free.take q) : Nat) : Int) ∧ LapI wo L.S L1 N k m wr q) (fun _ i _ => m.free.length - (intOf i).toNat)
      case atStart => exact ⟨0, Nat.zero_le _, rfl, by simp [lapCnt], by rw [List.take_zero]; show PoolAt _ _ (N.set k m); rw [HSET.out]; exact HP1.out.grown (by repeat' (first | (with_reducible exact Below.refl _ _) | (with_reducible assumption) | (with_reducible refine below_drewN ?_ _) | (with_reducible refine below_more _ _ _ ?_ ?_) | (with_reducible refine Below.alloc ?_ ?_ _) | (with_reducible refine Below.drew ?_) | (with_reducible refine Below.setCell ?_ ?_ _) | go_size)), Chg.of_below (by repeat' (first | (with_reducible exact Below.refl _ _) | (with_reducible assumption) | (with_reducible refine below_drewN ?_ _) | (with_reducible refine below_more _ _ _ ?_ ?_) | (with_reducible refine Below.alloc ?_ ?_ _) | (with_reducible refine Below.drew ?_) | (with_reducible refine Below.setCell ?_ ?_ _) | go_size)), by simp, by simp⟩
      case round =>
        obtain ⟨q, hq, rfl, rfl, hi1, hi2, hi3, hi4⟩ := hrel
        obtain ⟨wi, rfl⟩ : ∃ wi : World, wi = wr := ⟨_, rfl⟩
        obtain ⟨e0, e1, fS2, fA2, hinv2, _, hsl2⟩ := hi1.sh (HN2.out _) HL.out
        rw [HS1.out] at e0 e1 fS2
        simp only at e0 hsl2
        rw [lapAll_len] at e0
        obtain ⟨_, _, hv', _, hcq⟩ := Sl.cells hsl2
        rw [HFV.out] at hv' e1
        simp only [Value.slice.injEq, true_and] at hv'
        obtain ⟨rfl, rfl⟩ := hv'
        have hbS2 : L.S < wi.heap.size := World.block_lt_of_cell? wi _ e0
        have hcl := lapCnt_le m.all (m.free.take q)
        have hfl16 := HINV.out.free_le
        rw [List.length_take, Nat.min_eq_left hq] at hcl
        by_cases hqi : q < m.free.length
        · obtain ⟨f, hfq⟩ : ∃ f, m.free[q]? = some f := ⟨_, List.getElem?_eq_getElem hqi⟩
          obtain ⟨h0f, x, hx0, hxq, hal⟩ := lap_at HINV.out hfq
          obtain ⟨f, rfl⟩ := Int.eq_ofNat_of_zero_le h0f
          rw [Int.toNat_natCast] at hx0 hxq
          obtain ⟨c0, c1, c2⟩ := hi1.ix (HN2.out _) HL.out hxq
          obtain ⟨bf, of, rfl, hcapf, hcell⟩ := hcq q hqi
          have hgd : m.free.getD q 0 = f := by simp [List.getD, hfq]
          rw [hgd] at hcell
          have htk : m.free.take (q + 1) = m.free.take q ++ [(f : Int)] := by rw [List.take_succ_eq_append_getElem hqi, (List.getElem?_eq_some_iff.1 hfq).2]
          have hnx := lapAll_snoc m.all (m.free.take q) f
          rw [← htk, Int.toNat_natCast, hxq] at hnx
          have hcn := lapCnt_snoc m.all (m.free.take q) f
          rw [← htk, show lapses m.all (f : Int) = decide (x.gen < x.bound) by simp [lapses, hx0]] at hcn
          have hin := lap_take HINV.out (q + 1) hqi
          have fA3 := fA2 (f * 3)
          have hfa : f < m.all.length := (List.getElem?_eq_some_iff.1 hx0).1
          have hfw := HINV.out.few
          have bA : l.A < wi.heap.size := World.block_lt_of_cell? wi _ c0
          obtain ⟨y0, y1, y2, y3⟩ := lts bA
          have HNX := Lib.hid hnx
          have HCN := Lib.hid hcn
          have HIN := Lib.hid hin
          have HXQ := Lib.hid hxq
          have HI := Lib.hid (show LapI wo L.S L1 N k m wi q from ⟨hi1, hi2, hi3, hi4⟩)
          have hneA : wo.heap.size ≠ l.A := fun e => HBX.out ⟨2 * k + 2, by rw [e]; exact Lay.has_A HL.out⟩
          clear hnx hcn hin htk hgd hfq hx0 hxq hcq hsl2 hinv2 fA2 fS fA hi1 hi2 h0f
          generalize lapCnt m.all (m.free.take q) = cn at *
          obtain ⟨gen, bound, alive⟩ := x
          simp only at hal c0 c1 c2
          subst hal
          by_cases hg : gen < bound
          · go_wp2_with fail
            refine wp_region_more (by kernel_rfl) (by kernel_rfl) ?_
            repeat (go_big_quiet_step (fail))
            refine wpQuiet_nil ?_
            rintro _ ⟨pn, rfl⟩
            go_wp2_with fail
            go_roundw
            case rel => exact ⟨q + 1, by omega, by go_num, by rw [HCN.out, decide_eq_true hg]; go_num, (HI.out.store HN2.out HL.out HXQ.out HNX.out hg HIN.out HBX.out).later (by repeat' (first | (with_reducible exact Below.refl _ _) | (with_reducible assumption) | (with_reducible refine below_drewN ?_ _) | (with_reducible refine below_more _ _ _ ?_ ?_) | (with_reducible refine Below.alloc ?_ ?_ _) | (with_reducible refine Below.drew ?_) | (with_reducible refine Below.setCell ?_ ?_ _) | go_size))⟩
            case measure => simp [intOf]; omega
          · go_wp2_with fail
            refine wp_region_more (by kernel_rfl) (by kernel_rfl) ?_
            repeat (go_big_quiet_step (fail))
            refine wpQuiet_nil ?_
            rintro _ ⟨pn, rfl⟩
            go_wp2_with fail
            go_roundw
            case rel => exact ⟨q + 1, by omega, by go_num, by rw [HCN.out, decide_eq_false (show ¬ gen < bound by omega)]; go_num, (HI.out.same HXQ.out HNX.out (show ¬ gen < bound by omega)).later (by repeat' (first | (with_reducible exact Below.refl _ _) | (with_reducible assumption) | (with_reducible refine below_drewN ?_ _) | (with_reducible refine below_more _ _ _ ?_ ?_) | (with_reducible refine Below.alloc ?_ ?_ _) | (with_reducible refine Below.drew ?_) | (with_reducible refine Below.setCell ?_ ?_ _) | go_size))⟩
            case measure => simp [intOf]; omega
        · obtain rfl : q = m.free.length := by omega
          have HI := Lib.hid (show LapI wo L.S L1 N k m wi m.free.length from ⟨hi1, hi2, hi3, hi4⟩)
          rw [List.take_length] at hi1 hcl
          have hsl3 : Sl wi 3 1 (.slice pf m.free.length cf) m.free.length (m.free.map (Value.int .i64)) := by rw [← HFV.out]; exact hsl2
          have HSL := Lib.hid hsl3
          have FS2 := fS2 (k * 2 + 1)
          clear hi1 hi2 hsl2 hsl3 hcq hinv2 fS2 fA2 fS fA hqi hq
          have hdel : ∀ W, Below wi.heap.size wi W → Calls Try.prog 77 #[.slice pf m.free.length cf, .func (.func 87) #[] #[.pointer (some ⟨wo.heap.size, 0, none⟩)]] W fun e w' =>
              ∃ v', e = .returned v' ∧ (w'.cell? ⟨wo.heap.size, 0, none⟩ = some (.pointer (some ⟨L.S, k * 2, none⟩)) ∧ w'.cell? ⟨L.S, k * 2 + 1, none⟩ = some (.slice pf m.free.length cf) ∧ w'.frozen? ⟨L.S, k * 2 + 1, none⟩ = false ∧ L.S < w'.heap.size ∧ wo.heap.size < w'.heap.size) ∧
                Hid (LapO w L M (w'.setCell ⟨L.S, k * 2 + 1, none⟩ v') (k + 1)) ∧ ∃ p n c, v' = .slice p n c := by
            intro W hW
            have eg : ∀ args w, (callFunc 87 args).run Try.prog w = .ok (.enter 87 args) w := enters_of Try.func87 (by kernel_rfl) rfl
            have hI := HI.out.1
            rw [List.take_length] at hI
            have hS1 := HS1.out
            have nS : (Value.slice pf m.free.length cf).ownBlock ≠ some L.S := fun e => by rw [← HFV.out, ← hS1] at e; exact hI.S_ne_F HL.out e rfl
            have nA : (Value.slice pf m.free.length cf).ownBlock ≠ some l.A := fun e => by rw [← HFV.out] at e; exact hI.A_ne_F HL.out HL.out e rfl
            have nB : (Value.slice pf m.free.length cf).ownBlock ≠ some wo.heap.size := fun e => by rw [← HFV.out] at e; exact HBX.out (Lay.own_at HL.out (.inr (.inr e)))
            have bW := hW.size
            obtain ⟨hb1, hb2⟩ := bcell hW
            have bA : ∀ (i : Nat) (x : Ix), (lapAll m.all m.free)[i]? = some x → l.A < wi.heap.size ∧ wi.cell? ⟨l.A, i * 3, none⟩ = some (.int .i64 x.gen) := fun i x hx => by
              have := (PoolN.ix hI (HN2.out _) HL.out hx).1
              exact ⟨World.block_lt_of_cell? wi _ this, this⟩
            refine (del_sl2 87 _ eg (fun f => genAt (lapAll m.all m.free) f == 1048576) _ m.free W (HSL.out.keep fun g hg => hW.block g (HSL.out.lt hg)) ?_).mono ?_
            · intro W' ht x hx
              have hx0 : 0 ≤ x ∧ x < m.all.length := by
                rcases hx with hx | ⟨rfl, hx⟩
                · exact HINV.out.fr x hx
                · obtain ⟨y, hy⟩ := List.exists_mem_of_ne_nil _ hx
                  have := HINV.out.fr y hy
                  omega
              have hal := lapAll_len m.free m.all
              refine lapse1_any wo.heap.size L.S l.A (k * 2) _ m.all.length (lapAll m.all m.free) x W' ?_ ?_ hal hx0.1 _ (List.getElem?_eq_getElem (by omega)) fun i y hy => ?_
              · exact (ht.cell (a := ⟨wo.heap.size, 0, none⟩) (by simp only; omega) nB).trans ((hb1 _ _ hi3).trans hi4)
              · exact (ht.cell (a := ⟨L.S, k * 2, none⟩) (by simp only; omega) nS).trans ((hb1 _ _ hbS2).trans e0)
              · obtain ⟨y1, y2⟩ := bA i y hy
                exact (ht.cell (a := ⟨l.A, i * 3, none⟩) (by simp only; omega) nA).trans ((hb1 _ _ y1).trans y2)
            · rintro e w' ⟨v', rfl, hk⟩
              have ht := hk.2.1
              have hz := ht.size
              refine ⟨v', rfl, ⟨?_, ?_, ?_, by omega, by omega⟩, Lib.hid (HSTEP.out l HL.out wi W w' v' hI HI.out.2.1 hW (by rw [HFV.out]; exact hk) HINV.out), hk.2.2.2⟩
              · exact (ht.cell (a := ⟨wo.heap.size, 0, none⟩) (by simp only; omega) nB).trans ((hb1 _ _ hi3).trans hi4)
              · exact (ht.cell (a := ⟨L.S, k * 2 + 1, none⟩) (by simp only; omega) nS).trans ((hb1 _ _ hbS2).trans e1)
              · exact (ht.frozen (a := ⟨L.S, k * 2 + 1, none⟩) (by simp only; omega) nS).trans ((hb2 _ _ hbS2).trans FS2)
          have DEL := Lib.hid hdel
          clear hdel
          go_wp2_with fail
          go_region_with (go_at_call 77; refine (DEL.out _ (by repeat' (first | (with_reducible exact Below.refl _ _) | (with_reducible assumption) | (with_reducible refine below_drewN ?_ _) | (with_reducible refine below_more _ _ _ ?_ ?_) | (with_reducible refine Below.alloc ?_ ?_ _) | (with_reducible refine Below.drew ?_) | (with_reducible refine Below.setCell ?_ ?_ _) | go_size))).mono ?_; rintro e w1 ⟨v', rfl, ⟨g1, g2, g3, g4, g5⟩, hO, pv, nv, cv, rfl⟩)
          all_goals
            go_wp2_with fail
            go_roundw
            case rel => exact ⟨k + 1, by omega, by go_num, by rw [HSUM.out]; go_num, hO.out⟩
            case measure => simp [intOf]; omega
    · obtain rfl : k = M.length := by omega
      have hfin : Stp w L wo (lapseF M).2 := by
        obtain ⟨L', h1, _, h3, h4, h5⟩ := hl
        exact ⟨L', h1, by simpa [lapseF] using h3, h4, h5⟩
      have HF := Lib.hid hfin
      have hn : (((M.take M.length).map lapN).sum : Nat) = (M.map lapN).sum := by rw [List.take_length]
      have HN := Lib.hid hn
      clear hfin hl hn
      go_wp2_with fail
      go_ret
      exact ⟨by rw [HN.out]; rfl, HF.out⟩

theorem lapse_p (w : World) (L : Lay) (M : List Sh) (p : Nat) (hP : L.P = p) (h : PoolAt w L M) : Calls Try.prog 65 #[.pointer (some ⟨p, 0, none⟩)] w fun e w' => e = .returned (.int .i64 (lapseF M).1) ∧ Stp w L w' (lapseF M).2 := by
  subst hP; exact lapse_any w L M h
end Go.Proofs.Ytbghjklnlhoklaa

/- Texts TkF TkP SyB PaC PaU: what the claim reaches of them. Conditions stand at each theorem. -/
import Derived.Shelf.SlSortCmp.NoneTotal
import Derived.Test.YtoimjjhopljdmaaGreatP16
set_option maxRecDepth 100000
set_option maxHeartbeats 8000000
namespace Go.Proofs.YtoimjjhopljdmaaGreat
open Go.RowKit
open Go.Proofs.Tryz (prog)
open Go.Value (int)
open Go.IntKind (i64)
open Go.Lib (hid)
section
open Go.Shelf Go.Sort Go.Lib
def renD : Ren := ⟨fun n => if n = 6 then 105 else if n = 14 then 143 else if n = 15 then 144 else if n = 20 then 160 else if n = 21 then 161 else if n = 22 then 162 else if n = 23 then 163 else if n = 24 then 164 else if n = 25 then 165 else if n = 26 then 166 else if n = 27 then 167 else if n = 28 then 168 else if n = 29 then 169 else if n = 46 then 176 else if n = 47 then 177 else if n = 48 then 178 else if n = 49 then 179 else if n = 50 then 180 else if n = 57 then 183 else 0, fun n => if n = 3 then 3 else if n = 4 then 4 else if n = 5 then 5 else if n = 9 then 9 else if n = 22 then 56 else if n = 24 then 30 else if n = 25 then 160 else if n = 39 then 202 else if n = 45 then 214 else if n = 46 then 215 else if n = 50 then 117 else if n = 53 then 221 else if n = 55 then 223 else if n = 66 then 228 else if n = 70 then 232 else if n = 76 then 235 else if n = 77 then 64 else 0, fun _ => 0⟩
theorem laysD : SlLaysF0.n6 prog renD := {
 mixed := by kernel_rfl
 f6 := ⟨Tryz.f105.name, by decide, by kernel_rfl⟩
 f14 := ⟨Tryz.f143.name, by decide, by kernel_rfl⟩
 f15 := by kernel_rfl
 f20 := ⟨Tryz.f160.name, by decide, by kernel_rfl⟩
 f21 := ⟨Tryz.f161.name, by decide, by kernel_rfl⟩
 f22 := ⟨Tryz.f162.name, by decide, by kernel_rfl⟩
 f23 := ⟨Tryz.f163.name, by decide, by kernel_rfl⟩
 f24 := ⟨Tryz.f164.name, by decide, by kernel_rfl⟩
 f25 := ⟨Tryz.f165.name, by decide, by kernel_rfl⟩
 f26 := ⟨Tryz.f166.name, by decide, by kernel_rfl⟩
 f27 := ⟨Tryz.f167.name, by decide, by kernel_rfl⟩
 f28 := by kernel_rfl
 f29 := by kernel_rfl
 f46 := ⟨Tryz.f176.name, by decide, by kernel_rfl⟩
 f47 := by kernel_rfl
 f48 := by kernel_rfl
 f49 := ⟨Tryz.f179.name, by decide, by kernel_rfl⟩
 f50 := ⟨Tryz.f180.name, by decide, by kernel_rfl⟩
 f57 := ⟨Tryz.f183.name, by decide, by kernel_rfl⟩
 t0 := by kernel_rfl
 a0 := fun _ => by kernel_rfl
 z0 := fun _ => by kernel_rfl
 v0 := fun _ => by kernel_rfl
 t3 := by kernel_rfl
 a3 := fun _ => by kernel_rfl
 z3 := fun _ => by kernel_rfl
 v3 := fun _ => by kernel_rfl
 t4 := by kernel_rfl
 a4 := fun _ => by kernel_rfl
 z4 := fun _ => by kernel_rfl
 v4 := fun _ => by kernel_rfl
 t5 := by kernel_rfl
 a5 := fun _ => by kernel_rfl
 z5 := fun _ => by kernel_rfl
 v5 := fun _ => by kernel_rfl
 t9 := by kernel_rfl
 a9 := fun _ => by kernel_rfl
 z9 := fun _ => by kernel_rfl
 v9 := fun _ => by kernel_rfl
 t22 := by kernel_rfl
 a22 := fun _ => by kernel_rfl
 z22 := fun _ => by kernel_rfl
 v22 := fun _ => by kernel_rfl
 t25 := by kernel_rfl
 a25 := fun _ => by kernel_rfl
 z25 := fun _ => by kernel_rfl
 v25 := fun _ => by kernel_rfl
 t39 := by kernel_rfl
 a39 := fun _ => by kernel_rfl
 z39 := fun _ => by kernel_rfl
 v39 := fun _ => by kernel_rfl
 t45 := by kernel_rfl
 a45 := fun _ => by kernel_rfl
 z45 := fun _ => by kernel_rfl
 v45 := fun _ => by kernel_rfl
 t46 := by kernel_rfl
 a46 := fun _ => by kernel_rfl
 z46 := fun _ => by kernel_rfl
 v46 := fun _ => by kernel_rfl
 t50 := by kernel_rfl
 a50 := fun _ => by kernel_rfl
 z50 := fun _ => by kernel_rfl
 v50 := fun _ => by kernel_rfl
 t53 := by kernel_rfl
 a53 := fun _ => by kernel_rfl
 z53 := fun _ => by kernel_rfl
 v53 := fun _ => by kernel_rfl
 t55 := by kernel_rfl
 a55 := fun _ => by kernel_rfl
 z55 := fun _ => by kernel_rfl
 v55 := fun _ => by kernel_rfl
 t66 := by kernel_rfl
 a66 := fun _ => by kernel_rfl
 z66 := fun _ => by kernel_rfl
 v66 := fun _ => by kernel_rfl
 t70 := by kernel_rfl
 a70 := fun _ => by kernel_rfl
 z70 := fun _ => by kernel_rfl
 v70 := fun _ => by kernel_rfl
 t76 := by kernel_rfl
 a76 := fun _ => by kernel_rfl
 z76 := fun _ => by kernel_rfl
 v76 := fun _ => by kernel_rfl
 t77 := by kernel_rfl
 a77 := fun _ => by kernel_rfl
 z77 := fun _ => by kernel_rfl
 v77 := fun _ => by kernel_rfl }
def cmpN (a b : Nid) : Int := cmpId a.s a.i a.g b.s b.i b.g
def sortN (l : List Nid) : List Nid := l.mergeSort fun x y => !(ltOf cmpN) y x
theorem cmpN_ok : CmpOk cmpN where
 neg x y := by have := cmpId_neg x.s x.i x.g y.s y.i y.g; unfold cmpN; omega
 zero x y := by have := cmpId_neg x.s x.i x.g y.s y.i y.g; unfold cmpN; omega
 trans x y z h1 h2 := by have := cmpId_trans x.s x.i x.g y.s y.i y.g z.s z.i z.g h1 h2; unfold cmpN at *; omega
 transl x y z h1 h2 := by have := cmpId_trans x.s x.i x.g y.s y.i y.g z.s z.i z.g (by unfold cmpN at h1; omega) h2; unfold cmpN at *; omega
 transr x y z h1 h2 := by have := cmpId_trans x.s x.i x.g y.s y.i y.g z.s z.i z.g h1 (by unfold cmpN at h2; omega); unfold cmpN at *; omega
theorem ltN_iff (x y : Nid) : ltOf cmpN x y = true ↔ cmpN x y < 0 := by unfold ltOf; simp
theorem ltN_not (x y : Nid) : ltOf cmpN x y = false ↔ 0 ≤ cmpN x y := by unfold ltOf; simp
theorem cmpN_swo : SWO (ltOf cmpN) where
 irrefl x := by rw [ltN_not]; have := cmpN_ok.self x; omega
 trans x y z h1 h2 := by rw [ltN_iff] at *; exact cmpN_ok.transl x y z h1 (by omega)
 ntrans x y z h1 h2 := by
  rw [ltN_not] at *
  have a1 := cmpN_ok.neg y x; have a2 := cmpN_ok.neg z y; have a3 := cmpN_ok.neg z x
  have b1 := cmpN_ok.zero y x; have b2 := cmpN_ok.zero z y
  have a4 := cmpN_ok.neg x z
  have := cmpN_ok.trans z y x (by have := cmpN_ok.neg y z; omega) (by have := cmpN_ok.neg x y; omega)
  omega
theorem cmpN_eq {x y : Nid} (h : cmpN x y = 0) : x = y := by
 obtain ⟨s, i, g⟩ := x
 obtain ⟨s', i', g'⟩ := y
 obtain ⟨rfl, rfl, rfl⟩ := (cmpId_zero _ _ _ _ _ _).1 h
 rfl
theorem eg_cmp : ∀ args w, (callFunc 106 args).run prog w = .ok (.enter 106 args) w := enters_of Tryz.func106 (by kernel_rfl) rfl
theorem cmpLaysN (blk off size : Nat) (w : World) : CmpLays prog 106 #[] nidL 3 cmpN blk off size w := fun m os dk _ x y => by
 have h := compare_grow x.s x.i x.g y.s y.i y.g (sortWorldK nidL 3 w blk off m dk os)
 exact h
theorem holds_of_slN {w : World} {l : List Nid} {blk off cap : Nat} (h : Sl w 30 3 (.slice (some ⟨blk, off, none⟩) l.length cap) l.length (cellsR nidL l)) : blk < w.heap.size ∧ HoldsK nidL 3 w blk off l.toArray := by
 obtain ⟨_, ⟨h0, _⟩ | ⟨g, off', cap', cur, hv, hb, hn, hc, hsz, hr⟩⟩ := h
 · cases h0
 · simp only [Value.slice.injEq, Option.some.injEq, Addr.mk.injEq, and_true, true_and] at hv
   obtain ⟨⟨rfl, rfl⟩, rfl⟩ := hv
   refine ⟨(Array.getElem?_eq_some_iff.1 hb).1, fun t ht => ?_⟩
   rw [size_flatK, List.size_toArray] at ht
   rw [get_flatK _ _ _ _ (by rw [List.size_toArray]; exact ht)]
   have hk : t / 3 < l.length := by omega
   rw [getElem!_pos l.toArray _ (by simpa using hk), List.getElem_toArray]
   have e1 := cellsR_get nidL 3 nidL_len l (t / 3) (t % 3) l[t / 3] (List.getElem?_eq_getElem hk) (Nat.mod_lt _ (by omega))
   rw [show t / 3 * 3 + t % 3 = t by omega] at e1
   have e2 : (nidL l[t / 3])[t % 3]? = some ((nidL l[t / 3])[t % 3]!) := by
    rw [List.getElem!_eq_getElem?_getD]
    have : t % 3 < (nidL l[t / 3]).length := by rw [nidL_len]; exact Nat.mod_lt _ (by omega)
    rw [List.getElem?_eq_getElem this]; rfl
   have h3 := hr t _ (e1.trans e2)
   refine ⟨?_, by simp [World.frozen?, hb]⟩
   show w.cell? ⟨blk, off + t, none⟩ = some ((nidL l[t / 3])[t % 3]!)
   simp [World.cell?, hb, h3]
theorem sl_of_sortedN {w : World} {l l' : List Nid} {blk off cap n : Nat} {os : Array Obj} (h : Sl w 30 3 (.slice (some ⟨blk, off, none⟩) l.length cap) l.length (cellsR nidL l)) (hd : l'.length = l.length) :
 Sl (sortWorldK nidL 3 w blk off n l'.toArray os) 30 3 (.slice (some ⟨blk, off, none⟩) l.length cap) l.length (cellsR nidL l') ∧ Turned w (sortWorldK nidL 3 w blk off n l'.toArray os) (some blk) := by
 obtain ⟨_, ⟨h0, _⟩ | ⟨g, off', cap', cur, hv, hb, hn, hc, hsz, hr⟩⟩ := h
 · cases h0
 · simp only [Value.slice.injEq, Option.some.injEq, Addr.mk.injEq, and_true, true_and] at hv
   obtain ⟨⟨rfl, rfl⟩, rfl⟩ := hv
   have hlt := (Array.getElem?_eq_some_iff.1 hb).1
   have hheap : (sortWorldK nidL 3 w blk off n l'.toArray os).heap[blk]? = some (.cells (putCells id off (flatK nidL 3 l'.toArray) cur) 30 (0, 0)) := by
    unfold sortWorldK putRowK
    simp only [grow]
    rw [Array.getElem?_append_left (by simp [putRow, mapBlock, Sort.ahead]; exact hlt)]
    simp [putRow, mapBlock, Sort.ahead, Array.getElem?_modify, hb, onCells]
   have hF : ∀ j, j < l.length * 3 → (flatK nidL 3 l'.toArray)[j]! = (nidL (l'.toArray[j / 3]!))[j % 3]! := fun j hj => get_flatK _ _ _ _ (by rw [List.size_toArray, hd]; exact hj)
   refine ⟨⟨by rw [cellsR_len nidL 3 nidL_len, hd], .inr ⟨blk, off, cap, _, rfl, hheap, hn, hc, by simp [putCells]; omega, fun j u hj => ?_⟩⟩, ?_⟩
   · have hj' : j < l.length * 3 := by
      have := (List.getElem?_eq_some_iff.1 hj).1; rw [cellsR_len nidL 3 nidL_len, hd] at this; exact this
     have hk : j / 3 < l'.length := by omega
     have e1 := cellsR_get nidL 3 nidL_len l' (j / 3) (j % 3) l'[j / 3] (List.getElem?_eq_getElem hk) (Nat.mod_lt _ (by omega))
     rw [show j / 3 * 3 + j % 3 = j by omega] at e1
     rw [e1] at hj
     have hcj : (cur[off + j]?).isSome = true := by
      have : l.length * 3 ≤ cap * 3 := Nat.mul_le_mul_right _ hn
      rw [Array.getElem?_eq_getElem (by omega)]; rfl
     obtain ⟨y, hy⟩ := Option.isSome_iff_exists.1 hcj
     simp only [putCells, Array.getElem?_mapIdx, hy, Option.map_some]
     rw [if_pos ⟨by omega, by rw [size_flatK, List.size_toArray, hd]; omega⟩, show off + j - off = j by omega]
     show some ((flatK nidL 3 l'.toArray)[j]!) = some u
     rw [hF j hj', getElem!_pos l'.toArray _ (by simpa using hk), List.getElem_toArray, List.getElem!_eq_getElem?_getD, hj]; rfl
   · unfold sortWorldK putRowK
     refine ⟨rfl, rfl, rfl, ?_, fun k hk hne => ?_⟩
     · simp [grow, Sort.ahead]
     · have hgk : blk ≠ k := fun e => hne (by rw [e])
       show ((putRow id (Sort.ahead w n) blk off (flatK nidL 3 l'.toArray)).heap ++ os)[k]? = _
       rw [Array.getElem?_append_left (by simpa [Sort.ahead] using hk)]
       simp [putRow, mapBlock, Array.getElem?_modify, Sort.ahead, hgk]
theorem sortN_any (v : Value) (l : List Nid) (w : World) (h : Sl w 30 3 v l.length (cellsR nidL l)) (hl : l.length ≤ 1000000) :
 Calls prog 105 #[v, .func (.func 106) #[] #[]] w fun e w' => e = .returned (.tuple #[]) ∧ Sl w' 30 3 v l.length (cellsR nidL (sortN l)) ∧ Turned w w' v.ownBlock := by
 have h' := h
 obtain ⟨_, ⟨rfl, h0⟩ | ⟨blk, off, cap, cur, rfl, _⟩⟩ := h'
 · have e := List.eq_nil_of_length_eq_zero h0
   subst e
   refine (AnyF.slices_SortFunc_none (P := prog) (ρ := renD) laysD none 0 _ w).mono ?_
   rintro e w' ⟨rfl, rfl⟩
   exact ⟨rfl, by simpa [sortN] using h, Turned.of_bel (Below.refl _ _)⟩
 · obtain ⟨hlt, hH⟩ := holds_of_slN h
   have hs := AnyQ.slices_SortFunc_total (P := prog) (ρ := renD) laysD 3 (fun w => by kernel_rfl) (fun w => by kernel_rfl) nidL nidL_len nidL_one cmpN cmpN_swo 106 #[] blk off cap l.toArray w eg_cmp (cmpLaysN _ _ _ _) hH hlt (by simp; omega) (fun x y h1 h2 => by
    rw [ltN_not] at h1 h2
    have := cmpN_ok.neg x y
    have := cmpN_ok.neg y x
    exact cmpN_eq (by omega))
   rw [List.size_toArray] at hs
   refine hs.mono ?_
   rintro e w' ⟨rfl, n, os, rfl⟩
   obtain ⟨q1, q2⟩ := sl_of_sortedN (n := n) (os := os) (l' := sortN l) h (by simp [sortN])
   exact ⟨rfl, q1, q2⟩
end
section
open Go.Sort
def befN (a b : Nid) : Bool := ltOf cmpN a b
theorem befN_iff (a b : Nid) : befN a b = true ↔ cmpN a b < 0 := ltN_iff a b
theorem befN_trans {a b c : Nid} (h1 : befN a b = true) (h2 : befN b c = true) : befN a c = true := cmpN_swo.trans a b c h1 h2
theorem befN_irr (a : Nid) : befN a a = false := cmpN_swo.irrefl a
theorem befN_tot {a b : Nid} (h1 : befN a b = false) (h2 : befN b a = false) : a = b := by
 unfold befN at *
 rw [ltN_not] at h1 h2
 have a1 := cmpN_ok.neg a b
 have a2 := cmpN_ok.neg b a
 exact cmpN_eq (by omega)
def witS (n : Nid) (st : List Nid × Bool) (x : Nid) : List Nid × Bool := if !st.2 && befN n x then (st.1 ++ [n] ++ [x], true) else (st.1 ++ [x], st.2)
def witG (n : Nid) (l : List Nid) : List Nid × Bool := l.foldl (witS n) ([], false)
def witE (n : Nid) (r : List Nid × Bool) : List Nid := if r.2 then r.1 else r.1 ++ [n]
def putN (l : List Nid) (n : Nid) : List Nid := if l.contains n then l else witE n (witG n l)
theorem witG_step (n : Nid) {l : List Nid} {t : Nat} {x : Nid} (h : l[t]? = some x) : witG n (l.take (t + 1)) = witS n (witG n (l.take t)) x := by
 have hlt := (List.getElem?_eq_some_iff.1 h).1
 unfold witG
 rw [List.take_succ_eq_append_getElem hlt, List.foldl_append, (List.getElem?_eq_some_iff.1 h).2]; rfl
theorem witS_len (n : Nid) (st : List Nid × Bool) (x : Nid) : (witS n st x).1.length ≤ st.1.length + 2 := by unfold witS; split <;> simp
theorem witG_ok (n : Nid) : ∀ l : List Nid, l.Pairwise (fun a b => befN a b = true) → n ∉ l →
 ∃ a b, l = a ++ b ∧ (∀ x ∈ a, befN x n = true) ∧ (∀ x ∈ b, befN n x = true) ∧ witG n l = if b = [] then (a, false) else (a ++ [n] ++ b, true) := by
 have key : ∀ r : List Nid, r.reverse.Pairwise (fun a b => befN a b = true) → n ∉ r.reverse → ∃ a b, r.reverse = a ++ b ∧ (∀ x ∈ a, befN x n = true) ∧ (∀ x ∈ b, befN n x = true) ∧ witG n r.reverse = if b = [] then (a, false) else (a ++ [n] ++ b, true) := fun r => by
  induction r with
  | nil => intro _ _; exact ⟨[], [], rfl, by simp, by simp, rfl⟩
  | cons x r ih =>
    intro hp hn
    rw [List.reverse_cons] at hp hn ⊢
    obtain ⟨hp1, _, hp2⟩ := List.pairwise_append.1 hp
    obtain ⟨a, b, e, ha, hb, hw⟩ := ih hp1 (fun h => hn (List.mem_append_left _ h))
    have hxn : x ≠ n := fun h => hn (by simp [h])
    have hst : witG n (r.reverse ++ [x]) = witS n (witG n r.reverse) x := by unfold witG; rw [List.foldl_append]; rfl
    rw [hst, hw]
    by_cases hbe : b = []
    · subst hbe
      rw [if_pos rfl]
      unfold witS
      cases hx : befN n x with
      | true => exact ⟨a, [x], by rw [e]; simp, ha, by simpa using hx, by simp⟩
      | false =>
        have hxb : befN x n = true := by
         cases h : befN x n with
         | true => rfl
         | false => exact absurd (befN_tot h hx) hxn
        refine ⟨a ++ [x], [], by rw [e]; simp, fun y hy => ?_, by simp, by simp⟩
        rcases List.mem_append.1 hy with hy | hy
        · exact ha y hy
        · obtain rfl := List.mem_singleton.1 hy; exact hxb
    · rw [if_neg hbe]
      refine ⟨a, b ++ [x], by rw [e]; simp, ha, fun y hy => ?_, ?_⟩
      · rcases List.mem_append.1 hy with hy | hy
        · exact hb y hy
        · obtain rfl := List.mem_singleton.1 hy
          obtain ⟨z, hz⟩ := List.exists_mem_of_ne_nil b hbe
          exact befN_trans (hb z hz) (hp2 z (by rw [e]; exact List.mem_append_right _ hz) y (by simp))
      · rw [if_neg (by simp)]
        unfold witS
        simp
 intro l
 have := key l.reverse
 rw [List.reverse_reverse] at this
 exact this
theorem putN_ok {l : List Nid} (n : Nid) (hp : l.Pairwise fun a b => befN a b = true) : (putN l n).Pairwise (fun a b => befN a b = true) ∧ ∀ x, x ∈ putN l n ↔ x ∈ l ∨ x = n := by
 unfold putN
 by_cases hm : n ∈ l
 · rw [if_pos (by simpa using hm)]
   exact ⟨hp, fun x => ⟨fun h => .inl h, fun h => h.elim id (fun e => e ▸ hm)⟩⟩
 · rw [if_neg (by simpa using hm)]
   obtain ⟨a, b, rfl, ha, hb, hw⟩ := witG_ok n l hp hm
   have e : witE n (witG n (a ++ b)) = a ++ n :: b := by
    rw [hw]
    unfold witE
    by_cases hbe : b = []
    · subst hbe; simp
    · rw [if_neg hbe]; simp
   rw [e]
   obtain ⟨p1, p2, p3⟩ := List.pairwise_append.1 hp
   refine ⟨List.pairwise_append.2 ⟨p1, List.pairwise_cons.2 ⟨hb, p2⟩, fun x hx y hy => ?_⟩, fun x => by simp only [List.mem_append, List.mem_cons]; exact ⟨fun h => h.elim (fun h => .inl (.inl h)) (fun h => h.elim .inr (fun h => .inl (.inr h))), fun h => h.elim (fun h => h.elim .inl (fun h => .inr (.inr h))) (fun h => .inr (.inl h))⟩⟩
   rcases List.mem_cons.1 hy with rfl | hy
   · exact ha x hx
   · exact p3 x hx y hy
def compS (o : List Nid) (x : Nid) : List Nid := if o.getLast? = some x then o else o ++ [x]
def compF (l : List Nid) : List Nid := l.foldl compS []
def setN (l : List Nid) : List Nid := compF (sortN l)
theorem sortN_perm (l : List Nid) : (sortN l).Perm l := List.mergeSort_perm _ _
theorem sortN_pair (l : List Nid) : (sortN l).Pairwise fun a b => befN b a = false := by
 have h := List.pairwise_mergeSort (le := fun x y => !(ltOf cmpN) y x) (fun a b c h1 h2 => by
  simp only [Bool.not_eq_true'] at *; exact cmpN_swo.ntrans c b a h2 h1) (fun a b => by
  cases h : ltOf cmpN b a with
  | false => rfl
  | true =>
    cases h2 : ltOf cmpN a b with
    | false => rfl
    | true => have := cmpN_swo.trans _ _ _ h h2; rw [cmpN_swo.irrefl] at this; cases this) l
 exact h.imp fun {a b} h => by unfold befN; simpa using h
theorem compF_ok : ∀ l : List Nid, l.Pairwise (fun a b => befN b a = false) → (compF l).Pairwise (fun a b => befN a b = true) ∧ (∀ x, x ∈ compF l ↔ x ∈ l) ∧ (compF l).getLast? = l.getLast? := by
 have key : ∀ r : List Nid, r.reverse.Pairwise (fun a b => befN b a = false) → (compF r.reverse).Pairwise (fun a b => befN a b = true) ∧ (∀ x, x ∈ compF r.reverse ↔ x ∈ r.reverse) ∧ (compF r.reverse).getLast? = r.reverse.getLast? := fun r => by
  induction r with
  | nil => intro _; exact ⟨List.Pairwise.nil, by simp [compF], rfl⟩
  | cons x r ih =>
    intro hp
    rw [List.reverse_cons] at hp ⊢
    obtain ⟨hp1, _, hp2⟩ := List.pairwise_append.1 hp
    obtain ⟨h1, h2, h3⟩ := ih hp1
    have hst : compF (r.reverse ++ [x]) = compS (compF r.reverse) x := by unfold compF; rw [List.foldl_append]; rfl
    rw [hst]
    generalize compF r.reverse = o at *
    unfold compS
    by_cases hl : o.getLast? = some x
    · rw [if_pos hl]
      refine ⟨h1, fun y => ?_, by simpa using hl⟩
      rw [h2 y]
      have hx : x ∈ r.reverse := (h2 x).1 (List.mem_of_getLast? hl)
      constructor
      · exact fun h => List.mem_append_left _ h
      · intro h
        rcases List.mem_append.1 h with h | h
        · exact h
        · obtain rfl := List.mem_singleton.1 h; exact hx
    · rw [if_neg hl]
      refine ⟨List.pairwise_append.2 ⟨h1, List.pairwise_singleton _ _, fun y hy z hz => ?_⟩, fun y => by simp [h2 y], by simp⟩
      obtain rfl := List.mem_singleton.1 hz
      have hne : y ≠ z → befN y z = true := fun hn => by
       have h5 := hp2 y ((h2 y).1 hy) z (by simp)
       cases h6 : befN y z with
       | true => rfl
       | false => exact absurd (befN_tot h6 h5) hn
      by_cases hyz : y = z
      · subst hyz
        exfalso
        obtain ⟨o', e⟩ : ∃ o' q, o = o' ++ [q] := by
         rcases List.eq_nil_or_concat o with rfl | ⟨o', q, e⟩
         · cases hy
         · exact ⟨o', q, by simpa using e⟩
        obtain ⟨q, e⟩ := e
        subst e
        rw [List.getLast?_concat] at hl
        have hq : q ≠ y := fun h => hl (by rw [h])
        have hyo : y ∈ o' := by
         rcases List.mem_append.1 hy with h | h
         · exact h
         · exact absurd (List.mem_singleton.1 h).symm hq
        have h7 := (List.pairwise_append.1 h1).2.2 y hyo q (by simp)
        have h8 := hp2 q ((h2 q).1 (by simp)) y (by simp)
        rw [h7] at h8; cases h8
      · exact hne hyz
 intro l
 have := key l.reverse
 rw [List.reverse_reverse] at this
 exact this
theorem setN_ok (l : List Nid) : (setN l).Pairwise (fun a b => befN a b = true) ∧ ∀ x, x ∈ setN l ↔ x ∈ l := by
 obtain ⟨h1, h2, _⟩ := compF_ok (sortN l) (sortN_pair l)
 exact ⟨h1, fun x => (h2 x).trans (sortN_perm l).mem_iff⟩
theorem strict_eq {l l' : List Nid} (h : l.Pairwise fun a b => befN a b = true) (h' : l'.Pairwise fun a b => befN a b = true) (hm : ∀ x, x ∈ l ↔ x ∈ l') : l = l' := by
 have hne : ∀ {a b : Nid}, befN a b = true → a ≠ b := fun h e => by subst e; rw [befN_irr] at h; cases h
 have n1 : l.Nodup := h.imp fun h => hne h
 have n2 : l'.Nodup := h'.imp fun h => hne h
 refine List.Perm.eq_of_pairwise (le := fun a b => befN a b = true) (fun a b _ _ h1 h2 => ?_) h h' ((List.perm_ext_iff_of_nodup n1 n2).2 hm)
 have := befN_trans h1 h2
 rw [befN_irr] at this; cases this
theorem putN_set (l : List Nid) (n : Nid) : putN (setN l) n = setN (l ++ [n]) := by
 obtain ⟨h1, h2⟩ := setN_ok l
 obtain ⟨h3, h4⟩ := putN_ok n h1
 obtain ⟨h5, h6⟩ := setN_ok (l ++ [n])
 exact strict_eq h3 h5 fun x => by rw [h4, h6, h2]; simp
theorem setN_nil : setN [] = [] := by simp [setN, sortN, compF]
theorem putN_all (l d : List Nid) : d.foldl putN (setN l) = setN (l ++ d) := by
 induction d generalizing l with
 | nil => simp
 | cons n d ih => rw [List.foldl_cons, putN_set, ih]; simp
end
def hurtF (b : Bun) (n : Int) : Bun × Bool := if hasB b.m 4 = false ∨ n ≤ 0 then (b, true) else if b.hp ≤ n then (zeroB, false) else ({ b with hp := b.hp - n }, true)
def ageF (b : Bun) : Bun × Bool := if hasB b.m 16 = false then (b, true) else if b.lf ≤ 1 then (zeroB, false) else ({ b with lf := b.lf - 1 }, true)
theorem hurt_any (s i g m x y vx vy hp pw lf n : Int) (w : World) (hh : (-9223372036854775808 ≤ hp ∧ hp ≤ 9223372036854775807)) :
 Calls prog 100 #[.agg #[int i64 s, int i64 i, int i64 g, int i64 m, int i64 x, int i64 y, int i64 vx, int i64 vy, int i64 hp, int i64 pw, int i64 lf], int i64 n] w fun e w' => e = .returned (.tuple #[.agg #[int i64 ((hurtF ⟨s, i, g, m, x, y, vx, vy, hp, pw, lf⟩ n).1).s, int i64 ((hurtF ⟨s, i, g, m, x, y, vx, vy, hp, pw, lf⟩ n).1).i, int i64 ((hurtF ⟨s, i, g, m, x, y, vx, vy, hp, pw, lf⟩ n).1).g, int i64 ((hurtF ⟨s, i, g, m, x, y, vx, vy, hp, pw, lf⟩ n).1).m, int i64 ((hurtF ⟨s, i, g, m, x, y, vx, vy, hp, pw, lf⟩ n).1).x, int i64 ((hurtF ⟨s, i, g, m, x, y, vx, vy, hp, pw, lf⟩ n).1).y, int i64 ((hurtF ⟨s, i, g, m, x, y, vx, vy, hp, pw, lf⟩ n).1).vx, int i64 ((hurtF ⟨s, i, g, m, x, y, vx, vy, hp, pw, lf⟩ n).1).vy, int i64 ((hurtF ⟨s, i, g, m, x, y, vx, vy, hp, pw, lf⟩ n).1).hp, int i64 ((hurtF ⟨s, i, g, m, x, y, vx, vy, hp, pw, lf⟩ n).1).pw, int i64 ((hurtF ⟨s, i, g, m, x, y, vx, vy, hp, pw, lf⟩ n).1).lf], .bool (hurtF ⟨s, i, g, m, x, y, vx, vy, hp, pw, lf⟩ n).2]) ∧ Below w.heap.size w w' := by
 obtain ⟨hh0, hh1⟩ := hh
 cases hb : hasB m 4 with
 | false =>
   simp only [hurtF, hb, true_or, if_true]
   go_enter Tryz.func100, Tryz.ntmps100
   go_wp2_with (go_at_call 136; refine belA (has_any _ _ _ _ _ _ _ _ _ _ _ _ _) fun d os => ?_)
   exact bodyPost_ret (v := .tuple #[.agg #[int i64 s, int i64 i, int i64 g, int i64 m, int i64 x, int i64 y, int i64 vx, int i64 vy, int i64 hp, int i64 pw, int i64 lf], .bool true]) (by simp [results, Tryz.results100, go_sem]) rfl ⟨rfl, bg⟩
 | true =>
   by_cases h1 : n ≤ 0
   · simp only [hurtF, hb, h1, or_true, if_true]
     go_enter Tryz.func100, Tryz.ntmps100
     go_wp2_with (go_at_call 136; refine belA (has_any _ _ _ _ _ _ _ _ _ _ _ _ _) fun d os => ?_)
     exact bodyPost_ret (v := .tuple #[.agg #[int i64 s, int i64 i, int i64 g, int i64 m, int i64 x, int i64 y, int i64 vx, int i64 vy, int i64 hp, int i64 pw, int i64 lf], .bool true]) (by simp [results, Tryz.results100, go_sem]) rfl ⟨rfl, bg⟩
   · by_cases h2 : hp ≤ n
     · simp only [hurtF, hb, h1, Bool.true_eq_false, or_self, if_false, if_pos h2, zeroB]
       have h1' : 0 < n := by omega
       clear h1
       go_enter Tryz.func100, Tryz.ntmps100
       go_wp2_with (go_at_call 136; refine belA (has_any _ _ _ _ _ _ _ _ _ _ _ _ _) fun d os => ?_)
       exact bodyPost_ret (v := .tuple #[.agg #[int i64 0, int i64 0, int i64 0, int i64 0, int i64 0, int i64 0, int i64 0, int i64 0, int i64 0, int i64 0, int i64 0], .bool false]) (by simp [results, Tryz.results100, go_sem]) rfl ⟨rfl, bg⟩
     · simp only [hurtF, hb, h1, Bool.true_eq_false, or_self, if_false, if_neg h2]
       have h1' : 0 < n := by omega
       have h2' : n < hp := by omega
       clear h1 h2
       go_enter Tryz.func100, Tryz.ntmps100
       go_wp2_with (go_at_call 136; refine belA (has_any _ _ _ _ _ _ _ _ _ _ _ _ _) fun d os => ?_)
       exact bodyPost_ret (v := .tuple #[.agg #[int i64 s, int i64 i, int i64 g, int i64 m, int i64 x, int i64 y, int i64 vx, int i64 vy, int i64 (hp - n), int i64 pw, int i64 lf], .bool true]) (by simp [results, Tryz.results100, go_sem]) rfl ⟨rfl, bg⟩
theorem age_any (s i g m x y vx vy hp pw lf : Int) (w : World) (hl : (-9223372036854775808 ≤ lf ∧ lf ≤ 9223372036854775807)) :
 Calls prog 103 #[.agg #[int i64 s, int i64 i, int i64 g, int i64 m, int i64 x, int i64 y, int i64 vx, int i64 vy, int i64 hp, int i64 pw, int i64 lf]] w fun e w' => e = .returned (.tuple #[.agg #[int i64 ((ageF ⟨s, i, g, m, x, y, vx, vy, hp, pw, lf⟩).1).s, int i64 ((ageF ⟨s, i, g, m, x, y, vx, vy, hp, pw, lf⟩).1).i, int i64 ((ageF ⟨s, i, g, m, x, y, vx, vy, hp, pw, lf⟩).1).g, int i64 ((ageF ⟨s, i, g, m, x, y, vx, vy, hp, pw, lf⟩).1).m, int i64 ((ageF ⟨s, i, g, m, x, y, vx, vy, hp, pw, lf⟩).1).x, int i64 ((ageF ⟨s, i, g, m, x, y, vx, vy, hp, pw, lf⟩).1).y, int i64 ((ageF ⟨s, i, g, m, x, y, vx, vy, hp, pw, lf⟩).1).vx, int i64 ((ageF ⟨s, i, g, m, x, y, vx, vy, hp, pw, lf⟩).1).vy, int i64 ((ageF ⟨s, i, g, m, x, y, vx, vy, hp, pw, lf⟩).1).hp, int i64 ((ageF ⟨s, i, g, m, x, y, vx, vy, hp, pw, lf⟩).1).pw, int i64 ((ageF ⟨s, i, g, m, x, y, vx, vy, hp, pw, lf⟩).1).lf], .bool (ageF ⟨s, i, g, m, x, y, vx, vy, hp, pw, lf⟩).2]) ∧ Below w.heap.size w w' := by
 obtain ⟨hh0, hh1⟩ := hl
 cases hb : hasB m 16 with
 | false =>
   simp only [ageF, hb, if_true]
   go_enter Tryz.func103, Tryz.ntmps103
   go_wp2_with (go_at_call 136; refine belA (has_any _ _ _ _ _ _ _ _ _ _ _ _ _) fun d os => ?_)
   exact bodyPost_ret (v := .tuple #[.agg #[int i64 s, int i64 i, int i64 g, int i64 m, int i64 x, int i64 y, int i64 vx, int i64 vy, int i64 hp, int i64 pw, int i64 lf], .bool true]) (by simp [results, Tryz.results103, go_sem]) rfl ⟨rfl, bg⟩
 | true =>
   by_cases h2 : lf ≤ 1
   · simp only [ageF, hb, Bool.true_eq_false, if_false, if_pos h2, zeroB]
     go_enter Tryz.func103, Tryz.ntmps103
     go_wp2_with (go_at_call 136; refine belA (has_any _ _ _ _ _ _ _ _ _ _ _ _ _) fun d os => ?_)
     exact bodyPost_ret (v := .tuple #[.agg #[int i64 0, int i64 0, int i64 0, int i64 0, int i64 0, int i64 0, int i64 0, int i64 0, int i64 0, int i64 0, int i64 0], .bool false]) (by simp [results, Tryz.results103, go_sem]) rfl ⟨rfl, bg⟩
   · simp only [ageF, hb, Bool.true_eq_false, if_false, if_neg h2]
     have h2' : 1 < lf := by omega
     clear h2
     go_enter Tryz.func103, Tryz.ntmps103
     go_wp2_with (go_at_call 136; refine belA (has_any _ _ _ _ _ _ _ _ _ _ _ _ _) fun d os => ?_)
     exact bodyPost_ret (v := .tuple #[.agg #[int i64 s, int i64 i, int i64 g, int i64 m, int i64 x, int i64 y, int i64 vx, int i64 vy, int i64 hp, int i64 pw, int i64 (lf - 1)], .bool true]) (by simp [results, Tryz.results103, go_sem]) rfl ⟨rfl, bg⟩
theorem rHurt_any (s i g m x y vx vy hp pw lf n : Int) (w : World) (hh : (-9223372036854775808 ≤ hp ∧ hp ≤ 9223372036854775807)) (HM : (-9223372036854775808 ≤ m ∧ m ≤ 9223372036854775807)) :
 Calls prog 52 #[.agg #[int i64 s, int i64 i, int i64 g, int i64 m, int i64 x, int i64 y, int i64 vx, int i64 vy, int i64 hp, int i64 pw, int i64 lf], int i64 n] w fun e w' => e = .returned (.tuple #[.agg #[int i64 ((hurtF ⟨s, i, g, m, x, y, vx, vy, hp, pw, lf⟩ n).1).s, int i64 ((hurtF ⟨s, i, g, m, x, y, vx, vy, hp, pw, lf⟩ n).1).i, int i64 ((hurtF ⟨s, i, g, m, x, y, vx, vy, hp, pw, lf⟩ n).1).g, int i64 ((hurtF ⟨s, i, g, m, x, y, vx, vy, hp, pw, lf⟩ n).1).m, int i64 ((hurtF ⟨s, i, g, m, x, y, vx, vy, hp, pw, lf⟩ n).1).x, int i64 ((hurtF ⟨s, i, g, m, x, y, vx, vy, hp, pw, lf⟩ n).1).y, int i64 ((hurtF ⟨s, i, g, m, x, y, vx, vy, hp, pw, lf⟩ n).1).vx, int i64 ((hurtF ⟨s, i, g, m, x, y, vx, vy, hp, pw, lf⟩ n).1).vy, int i64 ((hurtF ⟨s, i, g, m, x, y, vx, vy, hp, pw, lf⟩ n).1).hp, int i64 ((hurtF ⟨s, i, g, m, x, y, vx, vy, hp, pw, lf⟩ n).1).pw, int i64 ((hurtF ⟨s, i, g, m, x, y, vx, vy, hp, pw, lf⟩ n).1).lf], .bool (hurtF ⟨s, i, g, m, x, y, vx, vy, hp, pw, lf⟩ n).2]) ∧ Below w.heap.size w w' := by
 obtain ⟨hh0, hh1⟩ := hh
 have HM := hid HM
 have HB4 := fun W => bit_any m 4 W HM.out.1 HM.out.2 (by omega)
 rw [← hasB_tb4] at HB4
 cases hb : hasB m 4 with
 | false =>
   simp only [hurtF, hb, true_or, if_true]
   have HB4 := hid HB4
   go_enter Tryz.func52, Tryz.ntmps52
   go_wp2_with (go_at_call 41; refine eqA (HB4.out _) ?_)
   exact bodyPost_ret (v := .tuple #[.agg #[int i64 s, int i64 i, int i64 g, int i64 m, int i64 x, int i64 y, int i64 vx, int i64 vy, int i64 hp, int i64 pw, int i64 lf], .bool true]) (by simp [results, Tryz.results52, go_sem]) rfl ⟨rfl, bg⟩
 | true =>
   by_cases h1 : n ≤ 0
   · simp only [hurtF, hb, h1, or_true, if_true]
     have HB4 := hid HB4
     go_enter Tryz.func52, Tryz.ntmps52
     go_wp2_with (go_at_call 41; refine eqA (HB4.out _) ?_)
     exact bodyPost_ret (v := .tuple #[.agg #[int i64 s, int i64 i, int i64 g, int i64 m, int i64 x, int i64 y, int i64 vx, int i64 vy, int i64 hp, int i64 pw, int i64 lf], .bool true]) (by simp [results, Tryz.results52, go_sem]) rfl ⟨rfl, bg⟩
   · by_cases h2 : hp ≤ n
     · simp only [hurtF, hb, h1, Bool.true_eq_false, or_self, if_false, if_pos h2, zeroB]
       have h1' : 0 < n := by omega
       have HB4 := hid HB4
       clear h1
       go_enter Tryz.func52, Tryz.ntmps52
       go_wp2_with (go_at_call 41; refine eqA (HB4.out _) ?_)
       exact bodyPost_ret (v := .tuple #[.agg #[int i64 0, int i64 0, int i64 0, int i64 0, int i64 0, int i64 0, int i64 0, int i64 0, int i64 0, int i64 0, int i64 0], .bool false]) (by simp [results, Tryz.results52, go_sem]) rfl ⟨rfl, bg⟩
     · simp only [hurtF, hb, h1, Bool.true_eq_false, or_self, if_false, if_neg h2]
       have h1' : 0 < n := by omega
       have h2' : n < hp := by omega
       have HB4 := hid HB4
       clear h1 h2
       go_enter Tryz.func52, Tryz.ntmps52
       go_wp2_with (go_at_call 41; refine eqA (HB4.out _) ?_)
       exact bodyPost_ret (v := .tuple #[.agg #[int i64 s, int i64 i, int i64 g, int i64 m, int i64 x, int i64 y, int i64 vx, int i64 vy, int i64 (hp - n), int i64 pw, int i64 lf], .bool true]) (by simp [results, Tryz.results52, go_sem]) rfl ⟨rfl, bg⟩
theorem rAge_any (s i g m x y vx vy hp pw lf : Int) (w : World) (hl : (-9223372036854775808 ≤ lf ∧ lf ≤ 9223372036854775807)) (HM : (-9223372036854775808 ≤ m ∧ m ≤ 9223372036854775807)) :
 Calls prog 56 #[.agg #[int i64 s, int i64 i, int i64 g, int i64 m, int i64 x, int i64 y, int i64 vx, int i64 vy, int i64 hp, int i64 pw, int i64 lf]] w fun e w' => e = .returned (.tuple #[.agg #[int i64 ((ageF ⟨s, i, g, m, x, y, vx, vy, hp, pw, lf⟩).1).s, int i64 ((ageF ⟨s, i, g, m, x, y, vx, vy, hp, pw, lf⟩).1).i, int i64 ((ageF ⟨s, i, g, m, x, y, vx, vy, hp, pw, lf⟩).1).g, int i64 ((ageF ⟨s, i, g, m, x, y, vx, vy, hp, pw, lf⟩).1).m, int i64 ((ageF ⟨s, i, g, m, x, y, vx, vy, hp, pw, lf⟩).1).x, int i64 ((ageF ⟨s, i, g, m, x, y, vx, vy, hp, pw, lf⟩).1).y, int i64 ((ageF ⟨s, i, g, m, x, y, vx, vy, hp, pw, lf⟩).1).vx, int i64 ((ageF ⟨s, i, g, m, x, y, vx, vy, hp, pw, lf⟩).1).vy, int i64 ((ageF ⟨s, i, g, m, x, y, vx, vy, hp, pw, lf⟩).1).hp, int i64 ((ageF ⟨s, i, g, m, x, y, vx, vy, hp, pw, lf⟩).1).pw, int i64 ((ageF ⟨s, i, g, m, x, y, vx, vy, hp, pw, lf⟩).1).lf], .bool (ageF ⟨s, i, g, m, x, y, vx, vy, hp, pw, lf⟩).2]) ∧ Below w.heap.size w w' := by
 obtain ⟨hh0, hh1⟩ := hl
 have HM := hid HM
 have HB4 := fun W => bit_any m 16 W HM.out.1 HM.out.2 (by omega)
 rw [← hasB_tb16] at HB4
 cases hb : hasB m 16 with
 | false =>
   simp only [ageF, hb, if_true]
   have HB4 := hid HB4
   go_enter Tryz.func56, Tryz.ntmps56
   go_wp2_with (go_at_call 41; refine eqA (HB4.out _) ?_)
   exact bodyPost_ret (v := .tuple #[.agg #[int i64 s, int i64 i, int i64 g, int i64 m, int i64 x, int i64 y, int i64 vx, int i64 vy, int i64 hp, int i64 pw, int i64 lf], .bool true]) (by simp [results, Tryz.results56, go_sem]) rfl ⟨rfl, bg⟩
 | true =>
   by_cases h2 : lf ≤ 1
   · simp only [ageF, hb, Bool.true_eq_false, if_false, if_pos h2, zeroB]
     have h2' : lf < 2 := by omega
     have HB4 := hid HB4
     clear h2
     go_enter Tryz.func56, Tryz.ntmps56
     go_wp2_with (go_at_call 41; refine eqA (HB4.out _) ?_)
     exact bodyPost_ret (v := .tuple #[.agg #[int i64 0, int i64 0, int i64 0, int i64 0, int i64 0, int i64 0, int i64 0, int i64 0, int i64 0, int i64 0, int i64 0], .bool false]) (by simp [results, Tryz.results56, go_sem]) rfl ⟨rfl, bg⟩
   · simp only [ageF, hb, Bool.true_eq_false, if_false, if_neg h2]
     have h2' : 2 ≤ lf := by omega
     have HB4 := hid HB4
     clear h2
     go_enter Tryz.func56, Tryz.ntmps56
     go_wp2_with (go_at_call 41; refine eqA (HB4.out _) ?_)
     exact bodyPost_ret (v := .tuple #[.agg #[int i64 s, int i64 i, int i64 g, int i64 m, int i64 x, int i64 y, int i64 vx, int i64 vy, int i64 hp, int i64 pw, int i64 (lf - 1)], .bool true]) (by simp [results, Tryz.results56, go_sem]) rfl ⟨rfl, bg⟩
theorem with_any (s i g m x y vx vy hp pw lf s' i' g' m' x' y' vx' vy' hp' pw' lf' : Int) (w : World) :
 Calls prog 156 #[.agg #[int i64 s, int i64 i, int i64 g, int i64 m, int i64 x, int i64 y, int i64 vx, int i64 vy, int i64 hp, int i64 pw, int i64 lf], .agg #[int i64 s', int i64 i', int i64 g', int i64 m', int i64 x', int i64 y', int i64 vx', int i64 vy', int i64 hp', int i64 pw', int i64 lf']] w fun e w' => e = .returned (withF ⟨s, i, g, m, x, y, vx, vy, hp, pw, lf⟩ ⟨s', i', g', m', x', y', vx', vy', hp', pw', lf'⟩).v ∧ Below w.heap.size w w' := by
 generalize hr : withF _ _ = r
 unfold withF hasB at hr
 dsimp only at hr
 have HR := hid hr
 clear hr
 go_enter Tryz.func156, Tryz.ntmps156
 go_upto_if 12 with (go_in)
 go_cut [] (fun wx => ∃ (n : Nat) (Xx Xy : Int), Hid (Xx = (if (bits BinOp.and IntKind.i64 m' 1 == 1) = true then x' else x) ∧ Xy = (if (bits BinOp.and IntKind.i64 m' 1 == 1) = true then y' else y)) ∧ wx = World.drewN ((((w.alloc (.cells #[int i64 s, int i64 i, int i64 g, int i64 (bits BinOp.or IntKind.i64 m m'), int i64 Xx, int i64 Xy, int i64 vx, int i64 vy, int i64 hp, int i64 pw, int i64 lf] 32)).alloc (.cells #[int i64 s', int i64 i', int i64 g', int i64 m', int i64 x', int i64 y', int i64 vx', int i64 vy', int i64 hp', int i64 pw', int i64 lf'] 32)).alloc (.cells #[int i64 0, int i64 0, int i64 0, int i64 0, int i64 0, int i64 0, int i64 0, int i64 0, int i64 0, int i64 0, int i64 0] 32)).alloc (.cells #[int i64 s', int i64 i', int i64 g', int i64 m', int i64 x', int i64 y', int i64 vx', int i64 vy', int i64 hp', int i64 pw', int i64 lf'] 32)) n)
 case first =>
  go_wp2_with (go_in)
  · go_region
    all_goals (go_wp2_with fail; go_meet; exact ⟨1, x', y', hid (by simp [*]), rfl⟩)
  · go_meet
    exact ⟨0, x, y, hid (by simp [*]), rfl⟩
 obtain ⟨n1, Xx, Xy, HX1, rfl⟩ := hcut
 go_upto_if 20 with (go_in)
 go_cut [] (fun wx => ∃ (n : Nat) (Xvx Xvy : Int), Hid (Xvx = (if (bits BinOp.and IntKind.i64 m' 2 == 2) = true then vx' else vx) ∧ Xvy = (if (bits BinOp.and IntKind.i64 m' 2 == 2) = true then vy' else vy)) ∧ wx = World.drewN (((((w.alloc (.cells #[int i64 s, int i64 i, int i64 g, int i64 (bits BinOp.or IntKind.i64 m m'), int i64 Xx, int i64 Xy, int i64 Xvx, int i64 Xvy, int i64 hp, int i64 pw, int i64 lf] 32)).alloc (.cells #[int i64 s', int i64 i', int i64 g', int i64 m', int i64 x', int i64 y', int i64 vx', int i64 vy', int i64 hp', int i64 pw', int i64 lf'] 32)).alloc (.cells #[int i64 0, int i64 0, int i64 0, int i64 0, int i64 0, int i64 0, int i64 0, int i64 0, int i64 0, int i64 0, int i64 0] 32)).alloc (.cells #[int i64 s', int i64 i', int i64 g', int i64 m', int i64 x', int i64 y', int i64 vx', int i64 vy', int i64 hp', int i64 pw', int i64 lf'] 32)).alloc (.cells #[int i64 s', int i64 i', int i64 g', int i64 m', int i64 x', int i64 y', int i64 vx', int i64 vy', int i64 hp', int i64 pw', int i64 lf'] 32)) n)
 case first =>
  go_wp2_with (go_in)
  · go_region
    all_goals (go_wp2_with fail; go_meet; exact ⟨n1 + 1, vx', vy', hid (by simp [*]), rfl⟩)
  · go_meet
    exact ⟨n1, vx, vy, hid (by simp [*]), rfl⟩
 obtain ⟨n2, Xvx, Xvy, HX2, rfl⟩ := hcut
 go_upto_if 28 with (go_in)
 go_cut [] (fun wx => ∃ (n : Nat) (Xhp : Int), Hid (Xhp = (if (bits BinOp.and IntKind.i64 m' 4 == 4) = true then hp' else hp)) ∧ wx = World.drewN ((((((w.alloc (.cells #[int i64 s, int i64 i, int i64 g, int i64 (bits BinOp.or IntKind.i64 m m'), int i64 Xx, int i64 Xy, int i64 Xvx, int i64 Xvy, int i64 Xhp, int i64 pw, int i64 lf] 32)).alloc (.cells #[int i64 s', int i64 i', int i64 g', int i64 m', int i64 x', int i64 y', int i64 vx', int i64 vy', int i64 hp', int i64 pw', int i64 lf'] 32)).alloc (.cells #[int i64 0, int i64 0, int i64 0, int i64 0, int i64 0, int i64 0, int i64 0, int i64 0, int i64 0, int i64 0, int i64 0] 32)).alloc (.cells #[int i64 s', int i64 i', int i64 g', int i64 m', int i64 x', int i64 y', int i64 vx', int i64 vy', int i64 hp', int i64 pw', int i64 lf'] 32)).alloc (.cells #[int i64 s', int i64 i', int i64 g', int i64 m', int i64 x', int i64 y', int i64 vx', int i64 vy', int i64 hp', int i64 pw', int i64 lf'] 32)).alloc (.cells #[int i64 s', int i64 i', int i64 g', int i64 m', int i64 x', int i64 y', int i64 vx', int i64 vy', int i64 hp', int i64 pw', int i64 lf'] 32)) n)
 case first =>
  go_wp2_with (go_in)
  · go_meet
    exact ⟨n2, hp', hid (by simp [*]), rfl⟩
  · go_meet
    exact ⟨n2, hp, hid (by simp [*]), rfl⟩
 obtain ⟨n3, Xhp, HX3, rfl⟩ := hcut
 go_upto_if 33 with (go_in)
 go_cut [] (fun wx => ∃ (n : Nat) (Xpw : Int), Hid (Xpw = (if (bits BinOp.and IntKind.i64 m' 8 == 8) = true then pw' else pw)) ∧ wx = World.drewN (((((((w.alloc (.cells #[int i64 s, int i64 i, int i64 g, int i64 (bits BinOp.or IntKind.i64 m m'), int i64 Xx, int i64 Xy, int i64 Xvx, int i64 Xvy, int i64 Xhp, int i64 Xpw, int i64 lf] 32)).alloc (.cells #[int i64 s', int i64 i', int i64 g', int i64 m', int i64 x', int i64 y', int i64 vx', int i64 vy', int i64 hp', int i64 pw', int i64 lf'] 32)).alloc (.cells #[int i64 0, int i64 0, int i64 0, int i64 0, int i64 0, int i64 0, int i64 0, int i64 0, int i64 0, int i64 0, int i64 0] 32)).alloc (.cells #[int i64 s', int i64 i', int i64 g', int i64 m', int i64 x', int i64 y', int i64 vx', int i64 vy', int i64 hp', int i64 pw', int i64 lf'] 32)).alloc (.cells #[int i64 s', int i64 i', int i64 g', int i64 m', int i64 x', int i64 y', int i64 vx', int i64 vy', int i64 hp', int i64 pw', int i64 lf'] 32)).alloc (.cells #[int i64 s', int i64 i', int i64 g', int i64 m', int i64 x', int i64 y', int i64 vx', int i64 vy', int i64 hp', int i64 pw', int i64 lf'] 32)).alloc (.cells #[int i64 s', int i64 i', int i64 g', int i64 m', int i64 x', int i64 y', int i64 vx', int i64 vy', int i64 hp', int i64 pw', int i64 lf'] 32)) n)
 case first =>
  go_wp2_with (go_in)
  · go_meet
    exact ⟨n3, pw', hid (by simp [*]), rfl⟩
  · go_meet
    exact ⟨n3, pw, hid (by simp [*]), rfl⟩
 obtain ⟨n4, Xpw, HX4, rfl⟩ := hcut
 go_upto_if 38 with (go_in)
 go_cut [] (fun wx => ∃ (n : Nat) (Xlf : Int), Hid (Xlf = (if (bits BinOp.and IntKind.i64 m' 16 == 16) = true then lf' else lf)) ∧ wx = World.drewN ((((((((w.alloc (.cells #[int i64 s, int i64 i, int i64 g, int i64 (bits BinOp.or IntKind.i64 m m'), int i64 Xx, int i64 Xy, int i64 Xvx, int i64 Xvy, int i64 Xhp, int i64 Xpw, int i64 Xlf] 32)).alloc (.cells #[int i64 s', int i64 i', int i64 g', int i64 m', int i64 x', int i64 y', int i64 vx', int i64 vy', int i64 hp', int i64 pw', int i64 lf'] 32)).alloc (.cells #[int i64 0, int i64 0, int i64 0, int i64 0, int i64 0, int i64 0, int i64 0, int i64 0, int i64 0, int i64 0, int i64 0] 32)).alloc (.cells #[int i64 s', int i64 i', int i64 g', int i64 m', int i64 x', int i64 y', int i64 vx', int i64 vy', int i64 hp', int i64 pw', int i64 lf'] 32)).alloc (.cells #[int i64 s', int i64 i', int i64 g', int i64 m', int i64 x', int i64 y', int i64 vx', int i64 vy', int i64 hp', int i64 pw', int i64 lf'] 32)).alloc (.cells #[int i64 s', int i64 i', int i64 g', int i64 m', int i64 x', int i64 y', int i64 vx', int i64 vy', int i64 hp', int i64 pw', int i64 lf'] 32)).alloc (.cells #[int i64 s', int i64 i', int i64 g', int i64 m', int i64 x', int i64 y', int i64 vx', int i64 vy', int i64 hp', int i64 pw', int i64 lf'] 32)).alloc (.cells #[int i64 s', int i64 i', int i64 g', int i64 m', int i64 x', int i64 y', int i64 vx', int i64 vy', int i64 hp', int i64 pw', int i64 lf'] 32)) n)
 case first =>
  go_wp2_with (go_in)
  · go_meet
    exact ⟨n4, lf', hid (by simp [*]), rfl⟩
  · go_meet
    exact ⟨n4, lf, hid (by simp [*]), rfl⟩
 obtain ⟨n5, Xlf, HX5, rfl⟩ := hcut
 go_wp2
 go_returns
 refine ⟨?_, bg⟩
 go_tidy
 obtain ⟨e1, e2⟩ := HX1.out
 obtain ⟨e3, e4⟩ := HX2.out
 have e5 := HX3.out
 have e6 := HX4.out
 have e7 := HX5.out
 rw [← HR.out, ← e1, ← e2, ← e3, ← e4, ← e5, ← e6, ← e7]
theorem with_call (s i g m x y vx vy hp pw lf s' i' g' m' x' y' vx' vy' hp' pw' lf' : Int) (w : World) :
 Calls prog 156 #[.agg #[int i64 s, int i64 i, int i64 g, int i64 m, int i64 x, int i64 y, int i64 vx, int i64 vy, int i64 hp, int i64 pw, int i64 lf], .agg #[int i64 s', int i64 i', int i64 g', int i64 m', int i64 x', int i64 y', int i64 vx', int i64 vy', int i64 hp', int i64 pw', int i64 lf']] w fun e w' => e = .returned (.agg #[int i64 (withF ⟨s, i, g, m, x, y, vx, vy, hp, pw, lf⟩ ⟨s', i', g', m', x', y', vx', vy', hp', pw', lf'⟩).s, int i64 (withF ⟨s, i, g, m, x, y, vx, vy, hp, pw, lf⟩ ⟨s', i', g', m', x', y', vx', vy', hp', pw', lf'⟩).i, int i64 (withF ⟨s, i, g, m, x, y, vx, vy, hp, pw, lf⟩ ⟨s', i', g', m', x', y', vx', vy', hp', pw', lf'⟩).g, int i64 (withF ⟨s, i, g, m, x, y, vx, vy, hp, pw, lf⟩ ⟨s', i', g', m', x', y', vx', vy', hp', pw', lf'⟩).m, int i64 (withF ⟨s, i, g, m, x, y, vx, vy, hp, pw, lf⟩ ⟨s', i', g', m', x', y', vx', vy', hp', pw', lf'⟩).x, int i64 (withF ⟨s, i, g, m, x, y, vx, vy, hp, pw, lf⟩ ⟨s', i', g', m', x', y', vx', vy', hp', pw', lf'⟩).y, int i64 (withF ⟨s, i, g, m, x, y, vx, vy, hp, pw, lf⟩ ⟨s', i', g', m', x', y', vx', vy', hp', pw', lf'⟩).vx, int i64 (withF ⟨s, i, g, m, x, y, vx, vy, hp, pw, lf⟩ ⟨s', i', g', m', x', y', vx', vy', hp', pw', lf'⟩).vy, int i64 (withF ⟨s, i, g, m, x, y, vx, vy, hp, pw, lf⟩ ⟨s', i', g', m', x', y', vx', vy', hp', pw', lf'⟩).hp, int i64 (withF ⟨s, i, g, m, x, y, vx, vy, hp, pw, lf⟩ ⟨s', i', g', m', x', y', vx', vy', hp', pw', lf'⟩).pw, int i64 (withF ⟨s, i, g, m, x, y, vx, vy, hp, pw, lf⟩ ⟨s', i', g', m', x', y', vx', vy', hp', pw', lf'⟩).lf]) ∧ Below w.heap.size w w' :=
 with_any s i g m x y vx vy hp pw lf s' i' g' m' x' y' vx' vy' hp' pw' lf' w
theorem without_any (s i g m x y vx vy hp pw lf k : Int) (w : World) :
 Calls prog 157 #[.agg #[int i64 s, int i64 i, int i64 g, int i64 m, int i64 x, int i64 y, int i64 vx, int i64 vy, int i64 hp, int i64 pw, int i64 lf], int i64 k] w fun e w' => e = .returned (withoutF ⟨s, i, g, m, x, y, vx, vy, hp, pw, lf⟩ k).v ∧ Below w.heap.size w w' := by
 generalize hr : withoutF _ _ = r
 have HR := hid hr
 clear hr
 go_enter Tryz.func157, Tryz.ntmps157
 go_wp2_with (go_at_call 156; refine (with_call _ _ _ _ _ _ _ _ _ _ _ _ _ _ _ _ _ _ _ _ _ _ _).mono ?_; rintro e w1 ⟨rfl, hb⟩; obtain ⟨d, os, rfl⟩ := more_of hb; clear hb)
 go_returns
 refine ⟨?_, bg⟩
 rw [← HR.out]
 rfl
theorem rWith_any (s i g m x y vx vy hp pw lf s' i' g' m' x' y' vx' vy' hp' pw' lf' : Int) (w : World) (hm0 : -9223372036854775808 ≤ m') (hm1 : m' ≤ 9223372036854775807) :
 Calls prog 132 #[.agg #[int i64 s, int i64 i, int i64 g, int i64 m, int i64 x, int i64 y, int i64 vx, int i64 vy, int i64 hp, int i64 pw, int i64 lf], .agg #[int i64 s', int i64 i', int i64 g', int i64 m', int i64 x', int i64 y', int i64 vx', int i64 vy', int i64 hp', int i64 pw', int i64 lf']] w fun e w' => e = .returned (rWithF ⟨s, i, g, m, x, y, vx, vy, hp, pw, lf⟩ ⟨s', i', g', m', x', y', vx', vy', hp', pw', lf'⟩).v ∧ Below w.heap.size w w' := by
 generalize hr : rWithF _ _ = r
 unfold rWithF at hr
 dsimp only at hr
 have HR := hid hr
 clear hr
 go_enter Tryz.func132, Tryz.ntmps132
 go_upto_if 7 with (go_at_call 41; refine eqA (bit_any _ _ _ (by omega) (by omega) (by omega)) ?_)
 go_cut [] (fun wx => ∃ (Xx Xy : Int), Hid (Xx = (if tb m' 1 = true then x' else x) ∧ Xy = (if tb m' 1 = true then y' else y)) ∧ wx = ((w.alloc (.cells #[int i64 s, int i64 i, int i64 g, int i64 m, int i64 Xx, int i64 Xy, int i64 vx, int i64 vy, int i64 hp, int i64 pw, int i64 lf] 32)).alloc (.cells #[int i64 s', int i64 i', int i64 g', int i64 m', int i64 x', int i64 y', int i64 vx', int i64 vy', int i64 hp', int i64 pw', int i64 lf'] 32)).alloc (.cells #[int i64 0, int i64 0, int i64 0, int i64 0, int i64 0, int i64 0, int i64 0, int i64 0, int i64 0, int i64 0, int i64 0] 32))
 case first =>
  go_wp2_with fail
  · go_meet
    exact ⟨x', y', hid (by simp [*]), rfl⟩
  · go_meet
    exact ⟨x, y, hid (by simp [*]), rfl⟩
 obtain ⟨Xx, Xy, HX1, rfl⟩ := hcut
 go_upto_if 16 with (go_at_call 41; refine eqA (bit_any _ _ _ (by omega) (by omega) (by omega)) ?_)
 go_cut [] (fun wx => ∃ (Xvx Xvy : Int), Hid (Xvx = (if tb m' 2 = true then vx' else vx) ∧ Xvy = (if tb m' 2 = true then vy' else vy)) ∧ wx = ((w.alloc (.cells #[int i64 s, int i64 i, int i64 g, int i64 m, int i64 Xx, int i64 Xy, int i64 Xvx, int i64 Xvy, int i64 hp, int i64 pw, int i64 lf] 32)).alloc (.cells #[int i64 s', int i64 i', int i64 g', int i64 m', int i64 x', int i64 y', int i64 vx', int i64 vy', int i64 hp', int i64 pw', int i64 lf'] 32)).alloc (.cells #[int i64 0, int i64 0, int i64 0, int i64 0, int i64 0, int i64 0, int i64 0, int i64 0, int i64 0, int i64 0, int i64 0] 32))
 case first =>
  go_wp2_with fail
  · go_meet
    exact ⟨vx', vy', hid (by simp [*]), rfl⟩
  · go_meet
    exact ⟨vx, vy, hid (by simp [*]), rfl⟩
 obtain ⟨Xvx, Xvy, HX2, rfl⟩ := hcut
 go_upto_if 25 with (go_at_call 41; refine eqA (bit_any _ _ _ (by omega) (by omega) (by omega)) ?_)
 go_cut [] (fun wx => ∃ (Xhp : Int), Hid (Xhp = (if tb m' 4 = true then hp' else hp)) ∧ wx = ((w.alloc (.cells #[int i64 s, int i64 i, int i64 g, int i64 m, int i64 Xx, int i64 Xy, int i64 Xvx, int i64 Xvy, int i64 Xhp, int i64 pw, int i64 lf] 32)).alloc (.cells #[int i64 s', int i64 i', int i64 g', int i64 m', int i64 x', int i64 y', int i64 vx', int i64 vy', int i64 hp', int i64 pw', int i64 lf'] 32)).alloc (.cells #[int i64 0, int i64 0, int i64 0, int i64 0, int i64 0, int i64 0, int i64 0, int i64 0, int i64 0, int i64 0, int i64 0] 32))
 case first =>
  go_wp2_with fail
  · go_meet
    exact ⟨hp', hid (by simp [*]), rfl⟩
  · go_meet
    exact ⟨hp, hid (by simp [*]), rfl⟩
 obtain ⟨Xhp, HX3, rfl⟩ := hcut
 go_upto_if 31 with (go_at_call 41; refine eqA (bit_any _ _ _ (by omega) (by omega) (by omega)) ?_)
 go_cut [] (fun wx => ∃ (Xpw : Int), Hid (Xpw = (if tb m' 8 = true then pw' else pw)) ∧ wx = ((w.alloc (.cells #[int i64 s, int i64 i, int i64 g, int i64 m, int i64 Xx, int i64 Xy, int i64 Xvx, int i64 Xvy, int i64 Xhp, int i64 Xpw, int i64 lf] 32)).alloc (.cells #[int i64 s', int i64 i', int i64 g', int i64 m', int i64 x', int i64 y', int i64 vx', int i64 vy', int i64 hp', int i64 pw', int i64 lf'] 32)).alloc (.cells #[int i64 0, int i64 0, int i64 0, int i64 0, int i64 0, int i64 0, int i64 0, int i64 0, int i64 0, int i64 0, int i64 0] 32))
 case first =>
  go_wp2_with fail
  · go_meet
    exact ⟨pw', hid (by simp [*]), rfl⟩
  · go_meet
    exact ⟨pw, hid (by simp [*]), rfl⟩
 obtain ⟨Xpw, HX4, rfl⟩ := hcut
 go_upto_if 37 with (go_at_call 41; refine eqA (bit_any _ _ _ (by omega) (by omega) (by omega)) ?_)
 go_cut [] (fun wx => ∃ (Xlf : Int), Hid (Xlf = (if tb m' 16 = true then lf' else lf)) ∧ wx = ((w.alloc (.cells #[int i64 s, int i64 i, int i64 g, int i64 m, int i64 Xx, int i64 Xy, int i64 Xvx, int i64 Xvy, int i64 Xhp, int i64 Xpw, int i64 Xlf] 32)).alloc (.cells #[int i64 s', int i64 i', int i64 g', int i64 m', int i64 x', int i64 y', int i64 vx', int i64 vy', int i64 hp', int i64 pw', int i64 lf'] 32)).alloc (.cells #[int i64 0, int i64 0, int i64 0, int i64 0, int i64 0, int i64 0, int i64 0, int i64 0, int i64 0, int i64 0, int i64 0] 32))
 case first =>
  go_wp2_with fail
  · go_meet
    exact ⟨lf', hid (by simp [*]), rfl⟩
  · go_meet
    exact ⟨lf, hid (by simp [*]), rfl⟩
 obtain ⟨Xlf, HX5, rfl⟩ := hcut
 go_wp2
 go_returns
 refine ⟨?_, bg⟩
 go_tidy
 obtain ⟨e1, e2⟩ := HX1.out
 obtain ⟨e3, e4⟩ := HX2.out
 have e5 := HX3.out
 have e6 := HX4.out
 have e7 := HX5.out
 rw [← HR.out, ← e1, ← e2, ← e3, ← e4, ← e5, ← e6, ← e7]
theorem rWithout_any (s i g m x y vx vy hp pw lf k : Int) (w : World) (hm0 : -9223372036854775808 ≤ k) (hm1 : k ≤ 9223372036854775807) :
 Calls prog 133 #[.agg #[int i64 s, int i64 i, int i64 g, int i64 m, int i64 x, int i64 y, int i64 vx, int i64 vy, int i64 hp, int i64 pw, int i64 lf], int i64 k] w fun e w' => e = .returned (rWithoutF ⟨s, i, g, m, x, y, vx, vy, hp, pw, lf⟩ k).v ∧ Below w.heap.size w w' := by
 generalize hr : rWithoutF _ _ = r
 unfold rWithoutF at hr
 dsimp only at hr
 have HR := hid hr
 clear hr
 go_enter Tryz.func133, Tryz.ntmps133
 go_upto_if 6 with (go_at_call 41; refine eqA (bit_any _ _ _ (by omega) (by omega) (by omega)) ?_)
 go_cut [] (fun wx => ∃ (Xx Xy : Int), Hid (Xx = (if tb k 1 = true then 0 else x) ∧ Xy = (if tb k 1 = true then 0 else y)) ∧ wx = (w.alloc (.cells #[int i64 s, int i64 i, int i64 g, int i64 m, int i64 Xx, int i64 Xy, int i64 vx, int i64 vy, int i64 hp, int i64 pw, int i64 lf] 32)).alloc (.cells #[int i64 0, int i64 0, int i64 0, int i64 0, int i64 0, int i64 0, int i64 0, int i64 0, int i64 0, int i64 0, int i64 0] 32))
 case first =>
  go_wp2_with fail
  · go_meet
    exact ⟨0, 0, hid (by simp [*]), rfl⟩
  · go_meet
    exact ⟨x, y, hid (by simp [*]), rfl⟩
 obtain ⟨Xx, Xy, HX1, rfl⟩ := hcut
 go_upto_if 10 with (go_at_call 41; refine eqA (bit_any _ _ _ (by omega) (by omega) (by omega)) ?_)
 go_cut [] (fun wx => ∃ (Xvx Xvy : Int), Hid (Xvx = (if tb k 2 = true then 0 else vx) ∧ Xvy = (if tb k 2 = true then 0 else vy)) ∧ wx = (w.alloc (.cells #[int i64 s, int i64 i, int i64 g, int i64 m, int i64 Xx, int i64 Xy, int i64 Xvx, int i64 Xvy, int i64 hp, int i64 pw, int i64 lf] 32)).alloc (.cells #[int i64 0, int i64 0, int i64 0, int i64 0, int i64 0, int i64 0, int i64 0, int i64 0, int i64 0, int i64 0, int i64 0] 32))
 case first =>
  go_wp2_with fail
  · go_meet
    exact ⟨0, 0, hid (by simp [*]), rfl⟩
  · go_meet
    exact ⟨vx, vy, hid (by simp [*]), rfl⟩
 obtain ⟨Xvx, Xvy, HX2, rfl⟩ := hcut
 go_upto_if 14 with (go_at_call 41; refine eqA (bit_any _ _ _ (by omega) (by omega) (by omega)) ?_)
 go_cut [] (fun wx => ∃ (Xhp : Int), Hid (Xhp = (if tb k 4 = true then 0 else hp)) ∧ wx = (w.alloc (.cells #[int i64 s, int i64 i, int i64 g, int i64 m, int i64 Xx, int i64 Xy, int i64 Xvx, int i64 Xvy, int i64 Xhp, int i64 pw, int i64 lf] 32)).alloc (.cells #[int i64 0, int i64 0, int i64 0, int i64 0, int i64 0, int i64 0, int i64 0, int i64 0, int i64 0, int i64 0, int i64 0] 32))
 case first =>
  go_wp2_with fail
  · go_meet
    exact ⟨0, hid (by simp [*]), rfl⟩
  · go_meet
    exact ⟨hp, hid (by simp [*]), rfl⟩
 obtain ⟨Xhp, HX3, rfl⟩ := hcut
 go_upto_if 17 with (go_at_call 41; refine eqA (bit_any _ _ _ (by omega) (by omega) (by omega)) ?_)
 go_cut [] (fun wx => ∃ (Xpw : Int), Hid (Xpw = (if tb k 8 = true then 0 else pw)) ∧ wx = (w.alloc (.cells #[int i64 s, int i64 i, int i64 g, int i64 m, int i64 Xx, int i64 Xy, int i64 Xvx, int i64 Xvy, int i64 Xhp, int i64 Xpw, int i64 lf] 32)).alloc (.cells #[int i64 0, int i64 0, int i64 0, int i64 0, int i64 0, int i64 0, int i64 0, int i64 0, int i64 0, int i64 0, int i64 0] 32))
 case first =>
  go_wp2_with fail
  · go_meet
    exact ⟨0, hid (by simp [*]), rfl⟩
  · go_meet
    exact ⟨pw, hid (by simp [*]), rfl⟩
 obtain ⟨Xpw, HX4, rfl⟩ := hcut
 go_upto_if 20 with (go_at_call 41; refine eqA (bit_any _ _ _ (by omega) (by omega) (by omega)) ?_)
 go_cut [] (fun wx => ∃ (Xlf : Int), Hid (Xlf = (if tb k 16 = true then 0 else lf)) ∧ wx = (w.alloc (.cells #[int i64 s, int i64 i, int i64 g, int i64 m, int i64 Xx, int i64 Xy, int i64 Xvx, int i64 Xvy, int i64 Xhp, int i64 Xpw, int i64 Xlf] 32)).alloc (.cells #[int i64 0, int i64 0, int i64 0, int i64 0, int i64 0, int i64 0, int i64 0, int i64 0, int i64 0, int i64 0, int i64 0] 32))
 case first =>
  go_wp2_with fail
  · go_meet
    exact ⟨0, hid (by simp [*]), rfl⟩
  · go_meet
    exact ⟨lf, hid (by simp [*]), rfl⟩
 obtain ⟨Xlf, HX5, rfl⟩ := hcut
 go_wp2
 go_returns
 refine ⟨?_, bg⟩
 go_tidy
 obtain ⟨e1, e2⟩ := HX1.out
 obtain ⟨e3, e4⟩ := HX2.out
 have e5 := HX3.out
 have e6 := HX4.out
 have e7 := HX5.out
 rw [← HR.out, ← e1, ← e2, ← e3, ← e4, ← e5, ← e6, ← e7]
end Go.Proofs.YtoimjjhopljdmaaGreat

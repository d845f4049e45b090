/-
  Chapter texts QmO QmP: what the claim reaches of them. Conditions stand at each theorem.
-/
import Derived.Test.YtmkfjelpekkmmaaQ26
import Derived.Test.YtmkfjelpekkmmaaQ27
namespace Go.Proofs.Ytmkfjelpekkmmaa
open Go.RowKit Go.Shelf Go.Sort

set_option maxRecDepth 100000 in
set_option maxHeartbeats 1000000 in
theorem names_any (v : Value) (l : List Bun) (w : World) (h : BIn w v l) (hl : l.length ≤ 1000000) :
    Calls Try.prog 38 #[v] w fun e w' => ∃ v', e = .returned v' ∧ RNew nidL 48 3 w w' v' (l.map idOf) := by
  obtain ⟨i0, hi0, hz0, hz1, hz2⟩ := info_partsG info_nid
  have H := Lib.hid h
  obtain ⟨p, c, rfl, _⟩ := h
  go_enter Try.func38, Try.ntmps38
  go_wp2_with fail
  go_loopg [3, 8] l.length (fun kx o sx wr => ∃ t : Nat, sx = .int .i64 t ∧ t ≤ l.length ∧ l.length - t ≤ kx ∧ Hid (RNew nidL 48 3 w wr o ((l.take t).map idOf)) ∧ Hid (((l.take t).map idOf).length ≤ t))
  case atStart => exact ⟨0, by go_num, by omega, by omega, Lib.hid (RNew.nil w), Lib.hid (by simp)⟩
  case round =>
    obtain ⟨t, rfl, ht, hkx, HN, HNL⟩ := hrel
    obtain ⟨wa, rfl⟩ : ∃ wa : World, wa = wr := ⟨_, rfl⟩
    by_cases hlt : t < l.length
    · have t1 : (t : Int) < (l.length : Int) := by omega
      obtain ⟨b, hb⟩ : ∃ b, l[t]? = some b := ⟨_, List.getElem?_eq_getElem hlt⟩
      obtain ⟨gb, ob, cb, hv, hgb, hcb⟩ := (H.out.keep HN.out.2.1).cells hb
      simp only [Value.slice.injEq, true_and] at hv
      obtain ⟨rfl, rfl⟩ := hv
      have c0 := hcb 0 _ rfl; have c1 := hcb 1 _ rfl; have c2 := hcb 2 _ rfl; have c3 := hcb 3 _ rfl; have c4 := hcb 4 _ rfl; have c5 := hcb 5 _ rfl; have c6 := hcb 6 _ rfl; have c7 := hcb 7 _ rfl; have c8 := hcb 8 _ rfl; have c9 := hcb 9 _ rfl; have c10 := hcb 10 _ rfl
      simp only [Nat.add_zero] at c0
      have hstep : (l.take (t + 1)).map idOf = (l.take t).map idOf ++ [idOf b] := by
        rw [List.take_succ_eq_append_getElem hlt, List.map_append, show l[t] = b from by have := List.getElem?_eq_getElem hlt; rw [hb] at this; exact (Option.some.inj this).symm]
        rfl
      have HST := Lib.hid hstep
      have hal := HNL.out
      obtain ⟨po, co, hpo⟩ := sl_frm HN.out.1
      subst hpo
      clear hcb hb hstep HNL
      generalize (l.take t).map idOf = acc at *
      obtain ⟨s, i, g, m, x, y, vx, vy, hp, pw, lf⟩ := b
      simp only [idOf] at HST
      go_wp2_with (at_builtin; refine wpList_append_sl _ (by rfl) _ _ 36 (by rfl) 48 i0 _ 3 24 Try.underlying36 hi0 hz0 hz1 hz2 rfl (by omega) _ acc.length (cellsR nidL acc) (by rfl) ((HN.out.grow (w' := _) (by repeat' (first | (with_reducible exact Below.refl _ _) | (with_reducible assumption) | (with_reducible refine below_drewN ?_ _) | (with_reducible refine below_more _ _ _ ?_ ?_) | (with_reducible refine Below.alloc ?_ ?_ _) | (with_reducible refine Below.drew ?_) | (with_reducible refine Below.setCell ?_ ?_ _) | go_size))).1) ⟨_, 0, none⟩ 1 1 [.int .i64 s, .int .i64 i, .int .i64 g] (by rfl) (by rfl) (new_cellsN _ _ _ _ (by simp)) (by simp [Value.oneCell']) (by omega) (by unfold maxLen; omega) (by omega) ?_; intro v' w4 hs4 ht4 ho4)
      have HF := Lib.hid ((HN.out.grow (w' := ((wa.alloc (.cells #[.int .i64 s, .int .i64 i, .int .i64 g, .int .i64 m, .int .i64 x, .int .i64 y, .int .i64 vx, .int .i64 vy, .int .i64 hp, .int .i64 pw, .int .i64 lf] 51)).alloc (.cells #[.int .i64 s, .int .i64 i, .int .i64 g] 48))) (by repeat' (first | (with_reducible exact Below.refl _ _) | (with_reducible assumption) | (with_reducible refine below_drewN ?_ _) | (with_reducible refine below_more _ _ _ ?_ ?_) | (with_reducible refine Below.alloc ?_ ?_ _) | (with_reducible refine Below.drew ?_) | (with_reducible refine Below.setCell ?_ ?_ _) | go_size))).snoc (b := ⟨s, i, g⟩) hs4 ht4 ho4)
      clear hs4 ht4 ho4
      go_wp2_with fail
      go_roundg (l.length - (t + 1))
      case measure => omega
      case rel => exact ⟨t + 1, by go_num, by omega, by omega, by rw [HST.out]; exact HF, Lib.hid (by rw [HST.out]; simp; omega)⟩
    · obtain rfl : t = l.length := by omega
      have HF := Lib.hid HN.out
      rw [List.take_length] at HF
      clear HN
      go_wp2_with fail
      go_ret
      exact ⟨_, rfl, HF.out⟩
set_option maxRecDepth 100000 in
set_option maxHeartbeats 1000000 in
theorem rNames_any (v : Value) (l : List Bun) (w : World) (h : BIn w v l) (hl : l.length ≤ 1000000) :
    Calls Try.prog 22 #[v] w fun e w' => ∃ v', e = .returned v' ∧ RNew nidL 48 3 w w' v' (l.map idOf) := by
  obtain ⟨i0, hi0, hz0, hz1, hz2⟩ := info_partsG info_nid
  have H := Lib.hid h
  obtain ⟨p, c, rfl, _⟩ := h
  go_enter Try.func22, Try.ntmps22
  go_wp2_with fail
  go_loopg [3, 4] l.length (fun kx o sx wr => ∃ t : Nat, sx = .int .i64 t ∧ t ≤ l.length ∧ l.length - t ≤ kx ∧ Hid (RNew nidL 48 3 w wr o ((l.take t).map idOf)) ∧ Hid (((l.take t).map idOf).length ≤ t))
  case atStart => exact ⟨0, by go_num, by omega, by omega, Lib.hid (RNew.nil w), Lib.hid (by simp)⟩
  case round =>
    obtain ⟨t, rfl, ht, hkx, HN, HNL⟩ := hrel
    obtain ⟨wa, rfl⟩ : ∃ wa : World, wa = wr := ⟨_, rfl⟩
    by_cases hlt : t < l.length
    · have t1 : (t : Int) < (l.length : Int) := by omega
      obtain ⟨b, hb⟩ : ∃ b, l[t]? = some b := ⟨_, List.getElem?_eq_getElem hlt⟩
      obtain ⟨gb, ob, cb, hv, hgb, hcb⟩ := (H.out.keep HN.out.2.1).cells hb
      simp only [Value.slice.injEq, true_and] at hv
      obtain ⟨rfl, rfl⟩ := hv
      have c0 := hcb 0 _ rfl; have c1 := hcb 1 _ rfl; have c2 := hcb 2 _ rfl; have c3 := hcb 3 _ rfl; have c4 := hcb 4 _ rfl; have c5 := hcb 5 _ rfl; have c6 := hcb 6 _ rfl; have c7 := hcb 7 _ rfl; have c8 := hcb 8 _ rfl; have c9 := hcb 9 _ rfl; have c10 := hcb 10 _ rfl
      simp only [Nat.add_zero] at c0
      have hstep : (l.take (t + 1)).map idOf = (l.take t).map idOf ++ [idOf b] := by
        rw [List.take_succ_eq_append_getElem hlt, List.map_append, show l[t] = b from by have := List.getElem?_eq_getElem hlt; rw [hb] at this; exact (Option.some.inj this).symm]
        rfl
      have HST := Lib.hid hstep
      have hal := HNL.out
      obtain ⟨po, co, hpo⟩ := sl_frm HN.out.1
      subst hpo
      clear hcb hb hstep HNL
      generalize (l.take t).map idOf = acc at *
      obtain ⟨s, i, g, m, x, y, vx, vy, hp, pw, lf⟩ := b
      simp only [idOf] at HST
      go_wp2_with (at_builtin; refine wpList_append_sl _ (by rfl) _ _ 36 (by rfl) 48 i0 _ 3 24 Try.underlying36 hi0 hz0 hz1 hz2 rfl (by omega) _ acc.length (cellsR nidL acc) (by rfl) ((HN.out.grow (w' := _) (by repeat' (first | (with_reducible exact Below.refl _ _) | (with_reducible assumption) | (with_reducible refine below_drewN ?_ _) | (with_reducible refine below_more _ _ _ ?_ ?_) | (with_reducible refine Below.alloc ?_ ?_ _) | (with_reducible refine Below.drew ?_) | (with_reducible refine Below.setCell ?_ ?_ _) | go_size))).1) ⟨_, 0, none⟩ 1 1 [.int .i64 s, .int .i64 i, .int .i64 g] (by rfl) (by rfl) (new_cellsN _ _ _ _ (by simp)) (by simp [Value.oneCell']) (by omega) (by unfold maxLen; omega) (by omega) ?_; intro v' w4 hs4 ht4 ho4)
      have HF := Lib.hid ((HN.out.grow (w' := (wa.alloc (.cells #[.int .i64 s, .int .i64 i, .int .i64 g] 48))) (by repeat' (first | (with_reducible exact Below.refl _ _) | (with_reducible assumption) | (with_reducible refine below_drewN ?_ _) | (with_reducible refine below_more _ _ _ ?_ ?_) | (with_reducible refine Below.alloc ?_ ?_ _) | (with_reducible refine Below.drew ?_) | (with_reducible refine Below.setCell ?_ ?_ _) | go_size))).snoc (b := ⟨s, i, g⟩) hs4 ht4 ho4)
      clear hs4 ht4 ho4
      go_wp2_with fail
      go_roundg (l.length - (t + 1))
      case measure => omega
      case rel => exact ⟨t + 1, by go_num, by omega, by omega, by rw [HST.out]; exact HF, Lib.hid (by rw [HST.out]; simp; omega)⟩
    · obtain rfl : t = l.length := by omega
      have HF := Lib.hid HN.out
      rw [List.take_length] at HF
      clear HN
      go_wp2_with fail
      go_ret
      exact ⟨_, rfl, HF.out⟩
end Go.Proofs.Ytmkfjelpekkmmaa
namespace Go.Proofs.Ytmkfjelpekkmmaa
open Go.RowKit Go.Shelf Go.Sort

def foundF (qa qn : Int) (hf : Bun → Bool) (L : List Bun) : List Bun := stableF cmpBun (L.filter fun b => matchB qa qn b.m && hf b)
theorem found_any (w : World) (p : Nat) (L : List Bun) (a : Nat → Prop) (h : (stoO p L).holds w a) (hl : L.length ≤ 1000000) (qa qn : Int) (g : FuncId) (lb : Array Value) (eg : ∀ args w, (callFunc g args).run Try.prog w = .ok (.enter g args) w) (hf : Bun → Bool)
    (HH : ∀ W, Below w.heap.size w W → ∀ x : Bun, Calls Try.prog g (#[.agg x.arr] ++ lb) W fun e w' => e = .returned (.bool (hf x)) ∧ Below W.heap.size W w') :
    Calls Try.prog 39 #[.pointer (some ⟨p, 0, none⟩), .agg #[.int .i64 qa, .int .i64 qn], .func (.func g) #[] lb] w fun e w' => ∃ v, e = .returned v ∧ BNew w w' v (foundF qa qn hf L) := by
  obtain ⟨mb, o, V, T, P, hC, hM, hI, hP, hO⟩ := h
  have hlen : (allT T).length ≤ 1000000 := by rw [hP.length_eq]; exact hl
  have h1 := found_seq w (some ⟨p, 0, none⟩) qa qn g lb eg hf (allT T) (allT T).length hlen (fun pre => pre <+: allT T) HH
    (fun W hW hbs hle => all_stops 9 (by omega) _ w.heap.size p mb o V T P W hbs (hC.grow hW) hI (fun b hb => hC.lt hb) hle fun m hm => Nat.le_trans (tab_le hP hm) hl) hlen (fun b => matchB qa qn b.m && hf b) (fun _ => rfl)
  rw [stF_eq (hP.filter _) (hI.unId.sub List.filter_sublist)] at h1
  exact h1
theorem found_none (w : World) (qa qn : Int) (g : FuncId) (lb : Array Value) (eg : ∀ args w, (callFunc g args).run Try.prog w = .ok (.enter g args) w) (hf : Bun → Bool)
    (HH : ∀ W, Below w.heap.size w W → ∀ x : Bun, Calls Try.prog g (#[.agg x.arr] ++ lb) W fun e w' => e = .returned (.bool (hf x)) ∧ Below W.heap.size W w') :
    Calls Try.prog 39 #[.pointer none, .agg #[.int .i64 qa, .int .i64 qn], .func (.func g) #[] lb] w fun e w' => ∃ v, e = .returned v ∧ BNew w w' v (foundF qa qn hf []) :=
  found_seq w none qa qn g lb eg hf [] 0 (by omega) (fun pre => pre <+: []) HH (fun W _ hbs _ => all_none 9 _ W hbs _) (by simp) (fun b => matchB qa qn b.m && hf b) (fun _ => rfl)
theorem always_any (x : Bun) (w : World) : Calls Try.prog 49 #[.agg x.arr] w fun e w' => e = .returned (.bool true) ∧ Below w.heap.size w w' := by
  go_enter Try.func49, Try.ntmps49
  go_wp2_with fail
  go_ret
  exact ⟨rfl, (by repeat' (first | (with_reducible exact Below.refl _ _) | (with_reducible assumption) | (with_reducible refine below_drewN ?_ _) | (with_reducible refine below_more _ _ _ ?_ ?_) | (with_reducible refine Below.alloc ?_ ?_ _) | (with_reducible refine Below.drew ?_) | (with_reducible refine Below.setCell ?_ ?_ _) | go_size))⟩
theorem foundF_len (qa qn : Int) (hf : Bun → Bool) (L : List Bun) : (foundF qa qn hf L).length ≤ L.length := by unfold foundF; rw [stableF_len]; exact List.length_filter_le _ _
def FoundAt (w : World) (v : Value) (L : List Bun) : Prop :=
  L.length ≤ 1000000 ∧ ∀ W, Below w.heap.size w W → ∀ (qa qn : Int) (g : FuncId) (lb : Array Value), (∀ args w, (callFunc g args).run Try.prog w = .ok (.enter g args) w) → ∀ hf : Bun → Bool,
    (∀ W2, Below W.heap.size W W2 → ∀ x : Bun, Calls Try.prog g (#[.agg x.arr] ++ lb) W2 fun e w' => e = .returned (.bool (hf x)) ∧ Below W2.heap.size W2 w') →
    Calls Try.prog 39 #[v, .agg #[.int .i64 qa, .int .i64 qn], .func (.func g) #[] lb] W fun e w' => ∃ v', e = .returned v' ∧ BNew W w' v' (foundF qa qn hf L)
theorem foundAt_sto {w : World} {p : Nat} {L : List Bun} {a : Nat → Prop} (h : (stoO p L).holds w a) (hl : L.length ≤ 1000000) : FoundAt w (.pointer (some ⟨p, 0, none⟩)) L :=
  ⟨hl, fun W hW qa qn g lb eg hf HH => found_any W p L a ((stoO p L).keep _ _ _ h fun b hb => hW.block b ((stoO p L).lt _ _ h b hb)) hl qa qn g lb eg hf HH⟩
theorem foundAt_none (w : World) : FoundAt w (.pointer none) [] := ⟨by simp, fun W _ qa qn g lb eg hf HH => found_none W qa qn g lb eg hf HH⟩
theorem FoundAt.grow {w w' : World} {v : Value} {L : List Bun} (h : FoundAt w v L) (hb : Below w.heap.size w w') : FoundAt w' v L := ⟨h.1, fun W hW => h.2 W (hb.trans (hW.mono hb.size))⟩
set_option maxRecDepth 100000 in
theorem ids_any (w : World) (v : Value) (L : List Bun) (h : FoundAt w v L) (hv : ∃ q, v = .pointer q) (qa qn : Int) :
    Calls Try.prog 26 #[v, .agg #[.int .i64 qa, .int .i64 qn]] w fun e w' => ∃ v', e = .returned v' ∧ RNew nidL 48 3 w w' v' ((foundF qa qn (fun _ => true) L).map idOf) := by
  obtain ⟨q, rfl⟩ := hv
  have HF := Lib.hid (fun W hW => h.2 W hW qa qn 49 #[] (fun _ _ => by kernel_rfl) (fun _ => true) (fun W2 _ x => always_any x W2))
  have hl := Nat.le_trans (foundF_len qa qn (fun _ => true) L) h.1
  generalize foundF qa qn (fun _ => true) L = l at *
  clear h
  go_enter Try.func26, Try.ntmps26
  go_wp2_with fail
  refine (HF.out _ (by repeat' (first | (with_reducible exact Below.refl _ _) | (with_reducible assumption) | (with_reducible refine below_drewN ?_ _) | (with_reducible refine below_more _ _ _ ?_ ?_) | (with_reducible refine Below.alloc ?_ ?_ _) | (with_reducible refine Below.drew ?_) | (with_reducible refine Below.setCell ?_ ?_ _) | go_size))).mono ?_
  rintro e w2 ⟨v2, rfl, hN⟩
  have HNM := Lib.hid (names_any v2 l w2 hN.bin hl)
  have HB : Hid (Below w.heap.size w w2) := Lib.hid (Below.trans (b := w.alloc (.cells #[.int .i64 qa, .int .i64 qn] 23)) (by repeat' (first | (with_reducible exact Below.refl _ _) | (with_reducible assumption) | (with_reducible refine below_drewN ?_ _) | (with_reducible refine below_more _ _ _ ?_ ?_) | (with_reducible refine Below.alloc ?_ ?_ _) | (with_reducible refine Below.drew ?_) | (with_reducible refine Below.setCell ?_ ?_ _) | go_size)) (hN.2.1.mono (by simp)))
  clear hN HF
  go_wp2_with fail
  refine HNM.out.mono ?_
  rintro e w3 ⟨v3, rfl, hR⟩
  have HR := Lib.hid (hR.since HB.out)
  clear hR
  go_wp2_with fail
  go_ret
  exact ⟨_, rfl, HR.out⟩
set_option maxRecDepth 100000 in
theorem count_any (w : World) (v : Value) (L : List Bun) (h : FoundAt w v L) (hv : ∃ q, v = .pointer q) (qa qn : Int) :
    Calls Try.prog 29 #[v, .agg #[.int .i64 qa, .int .i64 qn]] w fun e w' => e = .returned (.int .i64 ((foundF qa qn (fun _ => true) L).length : Int)) ∧ Below w.heap.size w w' := by
  obtain ⟨q, rfl⟩ := hv
  have HF := Lib.hid (fun W hW => h.2 W hW qa qn 49 #[] (fun _ _ => by kernel_rfl) (fun _ => true) (fun W2 _ x => always_any x W2))
  generalize foundF qa qn (fun _ => true) L = l at *
  clear h
  go_enter Try.func29, Try.ntmps29
  go_wp2_with fail
  refine (HF.out _ (by repeat' (first | (with_reducible exact Below.refl _ _) | (with_reducible assumption) | (with_reducible refine below_drewN ?_ _) | (with_reducible refine below_more _ _ _ ?_ ?_) | (with_reducible refine Below.alloc ?_ ?_ _) | (with_reducible refine Below.drew ?_) | (with_reducible refine Below.setCell ?_ ?_ _) | go_size))).mono ?_
  rintro e w2 ⟨v2, rfl, hN⟩
  obtain ⟨p2, c2, rfl⟩ := sl_frm hN.1
  have HB : Hid (Below w.heap.size w w2) := Lib.hid (Below.trans (b := w.alloc (.cells #[.int .i64 qa, .int .i64 qn] 23)) (by repeat' (first | (with_reducible exact Below.refl _ _) | (with_reducible assumption) | (with_reducible refine below_drewN ?_ _) | (with_reducible refine below_more _ _ _ ?_ ?_) | (with_reducible refine Below.alloc ?_ ?_ _) | (with_reducible refine Below.drew ?_) | (with_reducible refine Below.setCell ?_ ?_ _) | go_size)) (hN.2.1.mono (by simp)))
  clear hN HF
  go_wp2_with fail
  go_ret
  exact ⟨rfl, HB.out⟩
theorem within1_any (x0 y0 x1 y1 : Int) (b : Nat) (x : Bun) (w : World) (hb : w.heap[b]? = some (.cells #[.int .i64 x0, .int .i64 y0, .int .i64 x1, .int .i64 y1] 31 (0, 0))) :
    Calls Try.prog 40 (#[.agg x.arr] ++ #[.pointer (some ⟨b, 0, none⟩)]) w fun e w' => e = .returned (.bool (gapF x0 y0 x1 y1 x.x x.y == 0)) ∧ Below w.heap.size w w' := by
  show Calls Try.prog 40 #[.agg x.arr, .pointer (some ⟨b, 0, none⟩)] w _
  have c0 : w.cell? ⟨b, 0, none⟩ = some (.int .i64 x0) := (by simp [World.cell?, hb]); have c1 : w.cell? ⟨b, 1, none⟩ = some (.int .i64 y0) := (by simp [World.cell?, hb]); have c2 : w.cell? ⟨b, 2, none⟩ = some (.int .i64 x1) := (by simp [World.cell?, hb]); have c3 : w.cell? ⟨b, 3, none⟩ = some (.int .i64 y1) := (by simp [World.cell?, hb])
  have lb := lt_of_heap hb
  have HR := Lib.hid (fun W => rhas_any x0 y0 x1 y1 x.x x.y W)
  clear hb
  go_enter Try.func40, Try.ntmps40
  go_wp2_with (go_at_call 41; refine (HR.out _).mono ?_; rintro e w' ⟨rfl, hb⟩; obtain ⟨d, os, rfl⟩ := more_of hb; clear hb)
  go_ret
  exact ⟨rfl, (by repeat' (first | (with_reducible exact Below.refl _ _) | (with_reducible assumption) | (with_reducible refine below_drewN ?_ _) | (with_reducible refine below_more _ _ _ ?_ ?_) | (with_reducible refine Below.alloc ?_ ?_ _) | (with_reducible refine Below.drew ?_) | (with_reducible refine Below.setCell ?_ ?_ _) | go_size))⟩
set_option maxRecDepth 100000 in
theorem qwithin_any (w : World) (v : Value) (L : List Bun) (h : FoundAt w v L) (hv : ∃ q, v = .pointer q) (qa qn x0 y0 x1 y1 : Int) :
    Calls Try.prog 21 #[v, .agg #[.int .i64 qa, .int .i64 qn], .agg #[.int .i64 x0, .int .i64 y0, .int .i64 x1, .int .i64 y1]] w fun e w' => ∃ v', e = .returned v' ∧ RNew nidL 48 3 w w' v' ((foundF qa qn (fun b => gapF x0 y0 x1 y1 b.x b.y == 0) L).map idOf) := by
  obtain ⟨q, rfl⟩ := hv
  have hw : ∃ w1, w1 = (w.alloc (.cells #[.int .i64 qa, .int .i64 qn] 23)).alloc (.cells #[.int .i64 x0, .int .i64 y0, .int .i64 x1, .int .i64 y1] 31) := ⟨_, rfl⟩
  obtain ⟨w1, hw1⟩ := hw
  have hb1 : Below w.heap.size w w1 := by rw [hw1]; exact (by repeat' (first | (with_reducible exact Below.refl _ _) | (with_reducible assumption) | (with_reducible refine below_drewN ?_ _) | (with_reducible refine below_more _ _ _ ?_ ?_) | (with_reducible refine Below.alloc ?_ ?_ _) | (with_reducible refine Below.drew ?_) | (with_reducible refine Below.setCell ?_ ?_ _) | go_size))
  have hrb : w1.heap[w.heap.size + 1]? = some (.cells #[.int .i64 x0, .int .i64 y0, .int .i64 x1, .int .i64 y1] 31 (0, 0)) := by rw [hw1]; exact heap_alloc_new_at _ _ _ (by simp)
  have HF := Lib.hid (h.2 w1 hb1 qa qn 40 #[.pointer (some ⟨w.heap.size + 1, 0, none⟩)] (fun _ _ => by kernel_rfl) (fun b => gapF x0 y0 x1 y1 b.x b.y == 0)
    (fun W2 hW2 x => within1_any x0 y0 x1 y1 _ x W2 ((hW2.block _ (lt_of_heap hrb)).trans hrb)))
  have hl := Nat.le_trans (foundF_len qa qn (fun b => gapF x0 y0 x1 y1 b.x b.y == 0) L) h.1
  generalize foundF qa qn (fun b => gapF x0 y0 x1 y1 b.x b.y == 0) L = l at *
  have HW1 := Lib.hid hw1
  have HB1 := Lib.hid hb1
  clear h hw1 hb1 hrb
  go_enter Try.func21, Try.ntmps21
  go_wp2_with fail
  rw [← HW1.out]
  refine (HF.out).mono ?_
  rintro e w2 ⟨v2, rfl, hN⟩
  have HNM := Lib.hid (names_any v2 l w2 hN.bin hl)
  have HB : Hid (Below w.heap.size w w2) := Lib.hid (HB1.out.trans (hN.2.1.mono HB1.out.size))
  clear hN HF
  go_wp2_with fail
  refine HNM.out.mono ?_
  rintro e w3 ⟨v3, rfl, hR⟩
  have HR := Lib.hid (hR.since HB.out)
  clear hR
  go_wp2_with fail
  go_ret
  exact ⟨_, rfl, HR.out⟩
end Go.Proofs.Ytmkfjelpekkmmaa

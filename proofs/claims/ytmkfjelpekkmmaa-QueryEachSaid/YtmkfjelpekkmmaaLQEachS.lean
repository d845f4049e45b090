/-
  QueryEach: for all entities, every query and how many the law returns true, and the arguments stay as they were. No condition.
-/
import Derived.RangeFuncNested
import Derived.RangeFuncBound
import Derived.RangeFuncCalls
import Derived.RangeFuncLeaves
import Derived.Shelf.Abstract
import Derived.Shelf.RegionOpen
import Derived.OwnWalkIn
import Derived.TacticsInMore
import Derived.LoopNIn
import Derived.LoopIn
import Derived.WalkKit
import Derived.Test.YtmkfjelpekkmmaaProg
import Derived.WalkSpells
import Derived.WalkLawsBesides
import Derived.Handy
import Derived.Lib.Hide
import Derived.Lib.QuietBelow
import Derived.BigQuiet
import Derived.Deep.RegionHeld3
import Derived.Deep.RegionWith
import Derived.Deep.DeepFit
import Derived.Deep.DeepCutAuto
import Derived.Deep.LoopGhost
import Derived.Deep.Light
import Derived.Deep.RegionLaw
import Derived.Deep.RegionLawGrows
import Derived.Shelf.SlSortCmp.KitK
import Derived.Sort.WalkB2
import Derived.Sort.WalkB12
import Derived.Sort.LotA
import Derived.Shelf.SlSortCmp.Insertion
import Derived.StillTailTactics
import Derived.Maps.AppendAt
import Derived.Lib.MinMax
import Derived.BigRegion
import Derived.Shelf.RegionOpenPlain
import Derived.Stop.RegionWithIn
import Derived.Sort.CutIn
import Derived.Test.YtmkfjelpekkmmaaQ01
import Derived.Test.YtmkfjelpekkmmaaQ02
import Derived.Test.YtmkfjelpekkmmaaQ03
import Derived.Test.YtmkfjelpekkmmaaQ04
import Derived.Test.YtmkfjelpekkmmaaQ05
import Derived.Test.YtmkfjelpekkmmaaQ06
import Derived.Test.YtmkfjelpekkmmaaQ07
import Derived.Test.YtmkfjelpekkmmaaQ08
import Derived.Test.YtmkfjelpekkmmaaQ09
import Derived.Test.YtmkfjelpekkmmaaQ10
import Derived.Test.YtmkfjelpekkmmaaQ11
import Derived.Test.YtmkfjelpekkmmaaQ12
import Derived.Test.YtmkfjelpekkmmaaQ13
import Derived.Test.YtmkfjelpekkmmaaQ14
import Derived.Test.YtmkfjelpekkmmaaQ15
import Derived.Test.YtmkfjelpekkmmaaQ16
import Derived.Test.YtmkfjelpekkmmaaQ17
import Derived.Test.YtmkfjelpekkmmaaQ18
import Derived.Test.YtmkfjelpekkmmaaQ19
import Derived.Test.YtmkfjelpekkmmaaQ20
import Derived.Test.YtmkfjelpekkmmaaQ21
import Derived.Test.YtmkfjelpekkmmaaQ22
import Derived.Test.YtmkfjelpekkmmaaQ23
import Derived.Test.YtmkfjelpekkmmaaQ24
import Derived.Test.YtmkfjelpekkmmaaQ25
import Derived.Test.YtmkfjelpekkmmaaQ26
import Derived.Test.YtmkfjelpekkmmaaQ27
import Derived.Test.YtmkfjelpekkmmaaQ28
import Derived.Test.YtmkfjelpekkmmaaQ29
import Derived.Test.YtmkfjelpekkmmaaQ30
import Derived.Test.YtmkfjelpekkmmaaQ31
import Derived.Test.YtmkfjelpekkmmaaQ32
import Derived.Test.YtmkfjelpekkmmaaQ33
import Derived.Test.YtmkfjelpekkmmaaQ34
import Derived.Test.YtmkfjelpekkmmaaQ35
import Derived.Test.YtmkfjelpekkmmaaS04
import Derived.Test.YtmkfjelpekkmmaaS01
import Derived.Test.YtmkfjelpekkmmaaS05
namespace Go.Proofs.Ytmkfjelpekkmmaa.queryEach
open Go.ChangeShapes Go.WideShapes Go.ChangeAt Go.RowKit
open Go.Shelf Go.Sort

theorem BIn.takeQ {w : World} {p : Option Addr} {n cap : Nat} {l : List Bun} (h : BIn w (.slice p n cap) l) (k : Nat) (hk : k ≤ n) : BIn w (.slice p k cap) (l.take k) := by
  obtain ⟨p', cap', hv, h1, h2, h3, h4⟩ := h
  simp only [Value.slice.injEq] at hv
  obtain ⟨rfl, rfl, rfl⟩ := hv
  have e : (l.take k).length = k := by simp; omega
  refine ⟨p, cap, by rw [e], by rw [e]; omega, h2, by rw [e]; omega, fun hn => ?_⟩
  obtain ⟨blk, off, rfl, h5, h6⟩ := h4 (fun e => hn (by rw [e]; simp))
  refine ⟨blk, off, rfl, h5, fun t u hu => ?_⟩
  obtain ⟨b, hb, hbu⟩ := bunCells_split _ t u hu
  have ht : t / 11 < k := by have := (List.getElem?_eq_some_iff.1 hb).1; omega
  rw [List.getElem?_take_of_lt ht] at hb
  have e2 := bunCells_get l (t / 11) (t % 11) b hb (Nat.mod_lt _ (by omega))
  rw [show t / 11 * 11 + t % 11 = t by omega] at e2
  exact h6 t u (e2.trans hbu)
attribute [local go_sem] Oper.semAt_some
theorem each_ask (qa qn : Int) (l : List Bun) : foundF qa qn (fun _ => true) l = askF qa qn l := by
  unfold foundF askF
  simp
theorem mod70 (n : Int) : 0 ≤ (n.tmod 70 + 70).tmod 70 ∧ (n.tmod 70 + 70).tmod 70 < 70 := by
  have h1 := Int.lt_tmod_of_pos n (show (0 : Int) < 70 by omega)
  exact ⟨Int.tmod_nonneg _ (by omega), Int.tmod_lt_of_pos _ (by omega)⟩
set_option maxRecDepth 100000 in
set_option maxHeartbeats 8000000 in
theorem walk (v : Value) (l : List Bun) (qa qn most : Int) (w : World) (hl : BIn w v l) (ha : I64 qa) :
    Calls Try.prog 12 #[v, .agg #[.int .i64 qa, .int .i64 qn], .int .i64 most] w fun e w' => e = .returned (.bool true) ∧ Below w.heap.size w w' := by
  obtain ⟨i0, hi0, hz0, hz1, hz2⟩ := info_parts info_bunJ
  have HLI := Lib.hid (fun W (hW : Below w.heap.size w W) => smade_any W v l (hl.keep hW))
  have hn := made_len l
  have hi := made_i64 l
  have HGO := Lib.hid (good_made l)
  have hm1 := Int.lt_tmod_of_pos most (show (0 : Int) < 70 by omega)
  have hm2 := Int.tmod_lt_of_pos most (show (0 : Int) < 70 by omega)
  have hmm := mod70 most
  clear hl
  refine (callsIn_wide (n := 10)).1 ?_
  refine callsIn_of_wp_marks Try.func12 rfl trivial ?_ rfl
  refine wpIn_wide.2 ?_
  simp only [Try.ntmps12, List.size_toArray, List.length_cons, List.length_nil, Nat.reduceAdd, Nat.reduceSub, Array.replicate_succ, Array.replicate_zero, List.push_toArray, List.append_toArray, List.nil_append, List.cons_append]
  go_wp2_with fail
  refine (awake12 _).mono ?_
  rintro e wA ⟨rfl, hA⟩
  have b0 : Below w.heap.size w wA := Below.trans (b := w.alloc (.cells #[.int .i64 qa, .int .i64 qn] 23)) (by repeat' (first | (with_reducible exact Below.refl _ _) | (with_reducible assumption) | (with_reducible refine below_drewN ?_ _) | (with_reducible refine below_more _ _ _ ?_ ?_) | (with_reducible refine Below.alloc ?_ ?_ _) | (with_reducible refine Below.drew ?_) | (with_reducible refine Below.setCell ?_ ?_ _) | go_size)) (hA.mono (by simp))
  have l0 : w.heap.size < wA.heap.size := by have := hA.size; simp at this; omega
  have bq : wA.heap[w.heap.size]? = some (.cells #[.int .i64 qa, .int .i64 qn] 23 (0, 0)) := (hA.block w.heap.size (by simp)).trans (heap_alloc_new_at _ _ _ rfl)
  have HLA := Lib.hid (HLI.out wA b0)
  clear hA HLI
  go_wp2_with fail
  generalize madeF l = L at *
  refine HLA.out.mono ?_
  rintro e w1 ⟨p, v', rfl, hO⟩
  obtain ⟨pp, cc, rfl⟩ := sl_frm hO.comm.assoc.sl.1
  have hB1 := BIn.of_sl hO.comm.assoc.sl.1
  have b1 := b0.trans (hO.below.mono b0.size)
  have bq1 := (hO.below.block w.heap.size l0).trans bq
  have l1 : w.heap.size < w1.heap.size := Nat.lt_of_lt_of_le l0 hO.below.size
  obtain ⟨o, ⟨a, b, hst, ⟨b5, _, hsl, _, _, hb5⟩, hdis, hiff⟩, hge, _⟩ := hO
  obtain ⟨mb, hM, hamb⟩ := stoM_of hst
  have hpl0 : L ≠ [] → ∀ g off, pp = some ⟨g, off, none⟩ → g < w1.heap.size := fun hne => bin_block hB1 hne
  have HPL := Lib.hid hpl0
  have hage : ∀ x, a x → wA.heap.size ≤ x := fun x hx => hge x ((hiff x).2 (.inl hx))
  have hall : ∀ x, a x → x < w1.heap.size := fun x hx => (stoM p mb L).lt _ _ hM x hx
  have hasl : ∀ x, a x → (Value.slice pp L.length cc).ownBlock ≠ some x := fun x hx e => hdis x hx ((hb5 x).2 (.inl ((hsl.2 x).2 e)))
  have HF1 := Lib.hid (foundAt_sto hst (by omega))
  have HM1 := Lib.hid hM
  have HA1 := Lib.hid (And.intro hage (And.intro hall (And.intro hasl hamb)))
  have HB1 := Lib.hid hB1
  have HBW := Lib.hid b1
  have HBQ := Lib.hid bq1
  clear b0 bq HLA hB1 b1 bq1 hst hsl hb5 hdis hiff hge hM hage hall hasl hamb hpl0
  go_upto_region 4 with fail
  have e7 : ((w1.alloc (.cells #[.pointer (some ⟨p, 0, none⟩)] 32)).alloc (.cells #[.slice pp L.length cc] 29)).heap[w1.heap.size]? = some (.cells #[.pointer (some ⟨p, 0, none⟩)] 32 (0, 0)) := ((World.grownBy_alloc _ _ none).block w1.heap.size (by simp) (by simp)).trans (heap_alloc_new_at _ _ _ rfl)
  have e8 : ((w1.alloc (.cells #[.pointer (some ⟨p, 0, none⟩)] 32)).alloc (.cells #[.slice pp L.length cc] 29)).heap[w1.heap.size + 1]? = some (.cells #[.slice pp L.length cc] 29 (0, 0)) := heap_alloc_new_at _ _ _ (by simp)
  have hb12 : Below w1.heap.size w1 ((w1.alloc (.cells #[.pointer (some ⟨p, 0, none⟩)] 32)).alloc (.cells #[.slice pp L.length cc] 29)) := (by repeat' (first | (with_reducible exact Below.refl _ _) | (with_reducible assumption) | (with_reducible refine below_drewN ?_ _) | (with_reducible refine below_more _ _ _ ?_ ?_) | (with_reducible refine Below.alloc ?_ ?_ _) | (with_reducible refine Below.drew ?_) | (with_reducible refine Below.setCell ?_ ?_ _) | go_size))
  have hs2 : ((w1.alloc (.cells #[.pointer (some ⟨p, 0, none⟩)] 32)).alloc (.cells #[.slice pp L.length cc] 29)).heap.size = w1.heap.size + 2 := by simp
  generalize ((w1.alloc (.cells #[.pointer (some ⟨p, 0, none⟩)] 32)).alloc (.cells #[.slice pp L.length cc] 29)) = w2 at *
  have e4 := (hb12.block w.heap.size l1).trans HBQ.out
  have k40 : w2.cell? ⟨w.heap.size, 0, none⟩ = some (.int .i64 qa) := by simp [World.cell?, e4]
  have k41 : w2.cell? ⟨w.heap.size, 1, none⟩ = some (.int .i64 qn) := by simp [World.cell?, e4]
  have k7 : w2.cell? ⟨w1.heap.size, 0, none⟩ = some (.pointer (some ⟨p, 0, none⟩)) := by simp [World.cell?, e7]
  have k8 : w2.cell? ⟨w1.heap.size + 1, 0, none⟩ = some (.slice pp L.length cc) := by simp [World.cell?, e8]
  have HOF := Lib.hid (rof12_any _ L w2 qa qn (HB1.out.keep hb12) (by omega) ha hi)
  have HE := Lib.hid (And.intro e4 (And.intro e7 e8))
  have HB2 := Lib.hid (HBW.out.trans (hb12.mono (by omega)))
  have HM2 := Lib.hid ((stoM p mb L).keep _ _ _ HM1.out fun x hx => hb12.block x ((stoM p mb L).lt _ _ HM1.out x hx))
  have HF2 := Lib.hid (HF1.out.grow hb12)
  have HT2 := Lib.hid (HB1.out.keep hb12)
  clear e4 e7 e8 hb12 HBW HF1 HM1 HBQ HB1
  go_wp2_with fail
  refine HOF.out.mono ?_
  rintro e w3 ⟨v9, rfl, hN⟩
  obtain ⟨p9, c9, rfl⟩ := sl_frm hN.1
  have hb23 := hN.2.1
  have l2 : w.heap.size < w2.heap.size := by omega
  have l27 : w1.heap.size < w2.heap.size := by omega
  have l28 : w1.heap.size + 1 < w2.heap.size := by omega
  have hs3 := hb23.size
  replace k40 := (hb23.cell (p := ⟨w.heap.size, 0, none⟩) l2).trans k40
  replace k41 := (hb23.cell (p := ⟨w.heap.size, 1, none⟩) l2).trans k41
  replace k7 := (hb23.cell (p := ⟨w1.heap.size, 0, none⟩) l27).trans k7
  replace k8 := (hb23.cell (p := ⟨w1.heap.size + 1, 0, none⟩) l28).trans k8
  have HE3 := Lib.hid (And.intro ((hb23.block w.heap.size l2).trans HE.out.1) (And.intro ((hb23.block w1.heap.size l27).trans HE.out.2.1) ((hb23.block (w1.heap.size + 1) l28).trans HE.out.2.2)))
  have HB3 := Lib.hid (HB2.out.trans (hb23.mono HB2.out.size))
  have HM3 := Lib.hid ((stoM p mb L).keep _ _ _ HM2.out fun x hx => hb23.block x ((stoM p mb L).lt _ _ HM2.out x hx))
  have HF3 := Lib.hid (HF2.out.grow hb23)
  have HT3 := Lib.hid (HT2.out.keep hb23)
  have HW3 := Lib.hid hN.bin
  have H9 := Lib.hid (fun (hne : askF qa qn L ≠ []) g off (e : p9 = some ⟨g, off, none⟩) => (And.intro (bin_block hN.bin hne g off e) (hN.2.2 g (by rw [e]; rfl)) : g < w3.heap.size ∧ w2.heap.size ≤ g))
  have hal : (askF qa qn L).length ≤ 60 := by unfold askF; rw [stableF_len]; exact Nat.le_trans (List.length_filter_le _ _) hn
  clear hN hb23 HE HB2 HM2 HF2 HT2 HOF hi ha
  go_upto_region 6 with fail
  have hmm2 : 0 ≤ (most.tmod 70 + 70) % 70 ∧ (most.tmod 70 + 70) % 70 < 70 := by omega
  obtain ⟨km, hkm⟩ : ∃ km : Nat, (most.tmod 70 + 70) % 70 = (km : Int) := ⟨((most.tmod 70 + 70) % 70).toNat, by omega⟩
  rw [hkm]
  have hka := each_ask qa qn L
  generalize askF qa qn L = ls at *
  obtain ⟨kk, hkk, hkl, hke⟩ : ∃ kk : Nat, min (km : Int) (ls.length : Int) = (kk : Int) ∧ kk ≤ ls.length ∧ allF km ls = ls.take kk := ⟨min km ls.length, by omega, by omega, by
    unfold allF
    rw [if_neg (by omega)]
    rcases Nat.le_total km ls.length with h | h
    · rw [Nat.min_eq_left h]; simp
    · rw [Nat.min_eq_right h, List.take_of_length_le (by simpa using h)]; simp⟩
  have hcap : ls.length ≤ c9 := by
    obtain ⟨_, _, h0, _, _, h3, _⟩ := HW3.out
    simp only [Value.slice.injEq] at h0
    omega
  have hkc : kk ≤ c9 := by omega
  have HALL := Lib.hid (fun W (hW : Below w3.heap.size w3 W) => all12_any W (some ⟨p, 0, none⟩) L qa qn km (HF3.out.grow hW))
  rw [hka, hke] at HALL
  have HTK := Lib.hid (BIn.takeQ HW3.out kk hkl)
  have HS := Lib.hid (fun va vb W h1 h2 => same_any va vb (ls.take kk) (ls.take kk) W h1 h2)
  rw [decide_eq_true rfl] at HS
  have HKA := Lib.hid hka
  have l3 : w.heap.size < w3.heap.size := by omega
  have l37 : w1.heap.size < w3.heap.size := by omega
  have l38 : w1.heap.size + 1 < w3.heap.size := by omega
  clear hke hka hm1 hm2 hmm hmm2 hkm
  go_cut [39] from 28 to 40 (fun c W => c = .bool false ∧ Hid (Below w3.heap.size w3 W))
  case first =>
    go_region_held3 (fun W => (w3).heap.size ≤ W.heap.size ∧ ∀ b o, b < (w3).heap.size → W.cell? ⟨b, o, none⟩ = (w3).cell? ⟨b, o, none⟩) (with_reducible (repeat (first | assumption | exact s_refl _ | exact s_id _ | refine s_more _ _ ?_ | refine s_alloc _ ?_ | refine s_drew ?_))) (first | (go_at_call 33; refine (HALL.out _ (by repeat' (first | (with_reducible exact Below.refl _ _) | (with_reducible assumption) | (with_reducible refine below_drewN ?_ _) | (with_reducible refine below_more _ _ _ ?_ ?_) | (with_reducible refine Below.alloc ?_ ?_ _) | (with_reducible refine Below.drew ?_) | (with_reducible refine Below.setCell ?_ ?_ _) | go_size))).mono ?_; rintro e w' ⟨v1, rfl, hX⟩; obtain ⟨d1, os1, rfl⟩ := more_of hX.2.1) | (go_at_call 32; refine (HS.out _ _ _ (hX.bin.keep (by repeat' (first | (with_reducible exact Below.refl _ _) | (with_reducible assumption) | (with_reducible refine below_drewN ?_ _) | (with_reducible refine below_more _ _ _ ?_ ?_) | (with_reducible refine Below.alloc ?_ ?_ _) | (with_reducible refine Below.drew ?_) | (with_reducible refine Below.setCell ?_ ?_ _) | go_size))) (HTK.out.keep (by repeat' (first | (with_reducible exact Below.refl _ _) | (with_reducible assumption) | (with_reducible refine below_drewN ?_ _) | (with_reducible refine below_more _ _ _ ?_ ?_) | (with_reducible refine Below.alloc ?_ ?_ _) | (with_reducible refine Below.drew ?_) | (with_reducible refine Below.setCell ?_ ?_ _) | go_size)))).mono ?_; rintro e w' ⟨rfl, hb⟩; obtain ⟨d3, os3, rfl⟩ := more_of hb))
    all_goals (go_wp2_with fail; go_meet; exact ⟨rfl, Lib.hid (by repeat' (first | (with_reducible exact Below.refl _ _) | (with_reducible assumption) | (with_reducible refine below_drewN ?_ _) | (with_reducible refine below_more _ _ _ ?_ ?_) | (with_reducible refine Below.alloc ?_ ?_ _) | (with_reducible refine Below.drew ?_) | (with_reducible refine Below.setCell ?_ ?_ _) | go_size))⟩)
  obtain ⟨rfl, HW⟩ := hcut
  have hbc := HW.out
  have hsc := hbc.size
  have lc : w.heap.size < wc.heap.size := by omega
  have lc7 : w1.heap.size < wc.heap.size := by omega
  have lc8 : w1.heap.size + 1 < wc.heap.size := by omega
  replace k40 := (hbc.cell (p := ⟨w.heap.size, 0, none⟩) l3).trans k40
  replace k41 := (hbc.cell (p := ⟨w.heap.size, 1, none⟩) l3).trans k41
  replace k7 := (hbc.cell (p := ⟨w1.heap.size, 0, none⟩) l37).trans k7
  replace k8 := (hbc.cell (p := ⟨w1.heap.size + 1, 0, none⟩) l38).trans k8
  clear HALL HTK HS hbc
  go_wp2_with fail
  refine (each_any _ (some ⟨p, 0, none⟩) qa qn).mono ?_
  rintro e W6 ⟨rfl, rfl⟩
  simp only [World.size_alloc]
  have hB0 : Below w3.heap.size w3 (((wc.alloc (.cells #[.slice none 0 0] 29)).alloc (.cells #[.pointer (some ⟨p, 0, none⟩)] 32)).alloc (.cells #[.int .i64 qa, .int .i64 qn] 23)) := HW.out.trans (Below.mono (B := wc.heap.size) (by repeat' (first | (with_reducible exact Below.refl _ _) | (with_reducible assumption) | (with_reducible refine below_drewN ?_ _) | (with_reducible refine below_more _ _ _ ?_ ?_) | (with_reducible refine Below.alloc ?_ ?_ _) | (with_reducible refine Below.drew ?_) | (with_reducible refine Below.setCell ?_ ?_ _) | go_size)) hsc)
  have b10 : Go.Boxed (((wc.alloc (.cells #[.slice none 0 0] 29)).alloc (.cells #[.pointer (some ⟨p, 0, none⟩)] 32)).alloc (.cells #[.int .i64 qa, .int .i64 qn] 23)) wc.heap.size 29 (.slice none 0 0) := by
    have := ((Go.Boxed.new wc 29 (.slice none 0 0)).alloc (.cells #[.pointer (some ⟨p, 0, none⟩)] 32)).alloc (.cells #[.int .i64 qa, .int .i64 qn] 23)
    simpa only [World.size_alloc] using this
  have b11 : Go.Boxed (((wc.alloc (.cells #[.slice none 0 0] 29)).alloc (.cells #[.pointer (some ⟨p, 0, none⟩)] 32)).alloc (.cells #[.int .i64 qa, .int .i64 qn] 23)) (wc.heap.size + 1) 32 (.pointer (some ⟨p, 0, none⟩)) := by
    have := (Go.Boxed.new (wc.alloc (.cells #[.slice none 0 0] 29)) 32 (.pointer (some ⟨p, 0, none⟩))).alloc (.cells #[.int .i64 qa, .int .i64 qn] 23)
    simpa only [World.size_alloc] using this
  have b12 : (((wc.alloc (.cells #[.slice none 0 0] 29)).alloc (.cells #[.pointer (some ⟨p, 0, none⟩)] 32)).alloc (.cells #[.int .i64 qa, .int .i64 qn] 23)).heap[wc.heap.size + 1 + 1]? = some (.cells #[.int .i64 qa, .int .i64 qn] 23 (0, 0)) := heap_alloc_new_at _ _ _ (by simp)
  have hsz : (((wc.alloc (.cells #[.slice none 0 0] 29)).alloc (.cells #[.pointer (some ⟨p, 0, none⟩)] 32)).alloc (.cells #[.int .i64 qa, .int .i64 qn] 23)).heap.size = wc.heap.size + 3 := by simp
  generalize ((wc.alloc (.cells #[.slice none 0 0] 29)).alloc (.cells #[.pointer (some ⟨p, 0, none⟩)] 32)).alloc (.cells #[.int .i64 qa, .int .i64 qn] 23) = W0 at *
  have HSQ := each_stops 9 (by omega) (wc.heap.size + 1) (wc.heap.size + 1 + 1) wc.heap.size (.pointer (some ⟨p, 0, none⟩)) L qa qn W0 (HF3.out.grow hB0) ⟨_, rfl⟩ b11.cell ⟨by simp [World.cell?, b12], by simp [World.cell?, b12]⟩ b10.cell
  rw [HKA.out] at HSQ
  have EQ : ∀ W, (binOp BinOp.eql 69 (.func (.func 58) #[] #[.pointer (some ⟨wc.heap.size + 1, 0, none⟩), .pointer (some ⟨wc.heap.size + 1 + 1, 0, none⟩)]) .nilFunc).run Try.prog W = .ok (.bool false) W := fun _ => by kernel_rfl
  go_wp2_with fail
  obtain ⟨hge, hlt1, hasl, hamb⟩ := HA1.out
  obtain ⟨e4, e7, e8⟩ := HE3.out
  have e70 := (hB0.block w1.heap.size l37).trans e7
  have e80 := (hB0.block (w1.heap.size + 1) l38).trans e8
  have HE0 := Lib.hid (And.intro e70 e80)
  have HT0 := Lib.hid (HT3.out.keep hB0)
  have HW0 := Lib.hid (HW3.out.keep hB0)
  have hBw : Below w.heap.size w W0 := HB3.out.trans (hB0.mono (by omega))
  have hM0 := (stoM p mb L).keep _ _ _ HM3.out fun x hx => hB0.block x ((stoM p mb L).lt _ _ HM3.out x hx)
  obtain ⟨n10, hn10⟩ : ∃ n, n = wc.heap.size := ⟨_, rfl⟩
  rw [← hn10] at b10 b11 b12 hsz HSQ EQ lc lc7 lc8 ⊢
  have hla : ∀ x, a x → x < n10 := fun x hx => by have := hlt1 x hx; omega
  have h3n : w3.heap.size ≤ n10 := by omega
  have hmb : mb < W0.heap.size := by have := hla mb hamb; omega
  have hn0 : n10 < W0.heap.size := by omega
  have hna7 : ¬ a w1.heap.size := fun e => by have := hlt1 _ e; omega
  have hna8 : ¬ a (w1.heap.size + 1) := fun e => by have := hlt1 _ e; omega
  have hnas : ∀ g off, pp = some ⟨g, off, none⟩ → ¬ a g := fun g off e ha => hasl g ha (by rw [e]; rfl)
  have hini : EaI W0 a p mb n10 L [] W0 := ⟨a, .slice none 0 0, by rw [if_pos rfl]; exact hM0, fun _ _ h => h, fun x hx => ⟨.inl hx, fun e => by cases e⟩, b10, World.ownsRow_nil _ _ _ _, Nat.le_refl _, fun _ _ _ => rfl⟩
  have HLA := Lib.hid hla
  have HNA := Lib.hid (And.intro hna7 (And.intro hna8 hnas))
  have HG0A := Lib.hid hge
  have HL1 := Lib.hid hlt1
  clear hge hlt1 hasl hamb e4 e7 e8 e70 e80 hM0 hna7 hna8 hnas hla HE3 HT3 HW3 HM3 HB3 HF3 HKA hn10
  refine (wpIn_wide (n := 10)).1 ?_
  refine wpIn_rangeFunc_ownH rfl (by omega) (gf := 58) (lb := #[.pointer (some ⟨n10 + 1, 0, none⟩), .pointer (some ⟨n10 + 1 + 1, 0, none⟩)]) rfl trivial (enters_of Try.func58 (by kernel_rfl) rfl)
    HSQ KpE.trans (kpE_b (by omega)) (Below.refl _ _) (fun _ => rfl)
    (fun pre W => EaI W0 a p mb n10 L pre W ∧ Below w.heap.size w W)
    (fun _ _ _ => False)
    (OwnFrom.and (eaI_own W0 a p mb n10 L hmb hn0) (ownFrom_below (Nat.le_refl _) (by omega)))
    (fun _ _ _ _ _ hs _ _ => hs)
    ⟨hini, hBw⟩
    (fun x a' W => ∃ Bx, n10 < Bx ∧ W.heap[Bx]? = some (.cells x.arr 51 (0, 0)) ∧ a' = { tmps := #[v, .agg #[.int .i64 qa, .int .i64 qn], .int .i64 (km : Int), undef, .pointer (some ⟨w.heap.size, 0, none⟩), undef, .bool false, .pointer (some ⟨w1.heap.size, 0, none⟩), .pointer (some ⟨w1.heap.size + 1, 0, none⟩), .slice p9 ls.length c9, .pointer (some ⟨n10, 0, none⟩), .func (.func 58) #[] #[.pointer (some ⟨n10 + 1, 0, none⟩), .pointer (some ⟨n10 + 1 + 1, 0, none⟩)], .pointer (some ⟨Bx, 0, none⟩), undef, .bool true, .bool false, .tuple #[.pointer (some ⟨p, 0, none⟩), .slice pp L.length cc], v, .tuple #[.pointer (some ⟨p, 0, none⟩), .slice pp L.length cc], .pointer (some ⟨p, 0, none⟩), .slice pp L.length cc, .slice pp L.length cc, .agg #[.int .i64 qa, .int .i64 qn], .slice p9 ls.length c9, .int .i64 most, .int .i64 (most.tmod 70), .int .i64 (most.tmod 70 + 70), .int .i64 (km : Int), u28, u29, u30, u31, u32, u33, u34, u35, u36, u37, u38, .bool false, .pointer (some ⟨p, 0, none⟩), .agg #[.int .i64 qa, .int .i64 qn], .func (.func 58) #[] #[.pointer (some ⟨n10 + 1, 0, none⟩), .pointer (some ⟨n10 + 1 + 1, 0, none⟩)], .func (.func 58) #[] #[.pointer (some ⟨n10 + 1, 0, none⟩), .pointer (some ⟨n10 + 1 + 1, 0, none⟩)], .bool false, .func (.func 58) #[] #[.pointer (some ⟨n10 + 1, 0, none⟩), .pointer (some ⟨n10 + 1 + 1, 0, none⟩)], .agg x.arr, undef, undef, undef, undef, undef, undef, undef, undef, undef, undef, undef, undef, undef, undef, undef, undef, undef, undef, undef, undef, undef, undef, undef, undef, undef, undef, undef, undef, undef, undef, undef, undef, undef], defers := [] })
    (fun x a' _ X Y row hs hg hr => by obtain ⟨Bx, h1, h2, h3⟩ := hs; exact ⟨Bx, h1, cells_own Bx 51 (fun (_ : Unit) => x.arr) () X Y row h2 hg (fun r e => (hr r e).2), h3⟩)
    ?assign ?body ?done ?stop
  case assign =>
    rintro l pre x W K ⟨⟨a', v0, hE⟩, hB⟩ hK
    gi_wp2
    exact hK _ _ ((KeepsOthers.alloc _ _).from _) (KpE.grow ((Below.refl _ W).alloc (Nat.le_refl _) _) hE.box.lt) ⟨⟨a', v0, hE.grow hmb hn0 ((Below.refl _ W).alloc (Nat.le_refl _) _)⟩, hB.alloc hB.size _⟩ ⟨W.heap.size, hE.box.lt, heap_alloc_new_at _ _ _ rfl, rfl⟩
  case body =>
    rintro l pre x aa W hl ⟨r, hr⟩ ⟨⟨a', v0, hE⟩, hB⟩ ⟨Bx, hBx, bX, rfl⟩ hlt
    obtain ⟨p0, c0, rfl, hp0⟩ := row_frm2 hE.row
    have hv := hE.box
    have hrow := hE.row
    have c2 := hv.cell
    have fr2 := hv.frozen
    have x0 : W.cell? ⟨Bx, 0, none⟩ = some (.int .i64 x.s) := by simp [World.cell?, bX]
    have x1 : W.cell? ⟨Bx, 1, none⟩ = some (.int .i64 x.i) := by simp [World.cell?, bX]
    have x2 : W.cell? ⟨Bx, 2, none⟩ = some (.int .i64 x.g) := by simp [World.cell?, bX]
    have x3 : W.cell? ⟨Bx, 3, none⟩ = some (.int .i64 x.m) := by simp [World.cell?, bX]
    have x4 : W.cell? ⟨Bx, 4, none⟩ = some (.int .i64 x.x) := by simp [World.cell?, bX]
    have x5 : W.cell? ⟨Bx, 5, none⟩ = some (.int .i64 x.y) := by simp [World.cell?, bX]
    have x6 : W.cell? ⟨Bx, 6, none⟩ = some (.int .i64 x.vx) := by simp [World.cell?, bX]
    have x7 : W.cell? ⟨Bx, 7, none⟩ = some (.int .i64 x.vy) := by simp [World.cell?, bX]
    have x8 : W.cell? ⟨Bx, 8, none⟩ = some (.int .i64 x.hp) := by simp [World.cell?, bX]
    have x9 : W.cell? ⟨Bx, 9, none⟩ = some (.int .i64 x.pw) := by simp [World.cell?, bX]
    have x10 : W.cell? ⟨Bx, 10, none⟩ = some (.int .i64 x.lf) := by simp [World.cell?, bX]
    have lX : Bx < W.heap.size := lt_of_heap bX
    have lG : n10 < W.heap.size := hv.lt
    have hpl : pre.length < 60 := by omega
    have HE := Lib.hid hE
    have HBB := Lib.hid hB
    clear hE bX
    gi_wp2_with (gi_at_builtin; refine wpListIn_append_at _ rfl _ _ 29 rfl n10 51 i0 _ 11 88 Try.underlying29 hi0 hz0 hz1 hz2 rfl (by decide) _ _ _ rfl (hrow.alloc _) ⟨W.heap.size, 0, none⟩ 1 1 (bunL x) rfl rfl (new_cells _ _ _) (bunL_one x) (by unfold maxLen; omega) (by omega) (by simp; omega) ?_; intro v' wq hown' hgrow ho'; obtain ⟨g', cap', rfl⟩ := ownsRow_succ hown'; obtain ⟨hv1, hv3, hr2, hk2, hb4⟩ := hv.appended (by decide) hrow (by omega) (Nat.le_refl _) hown' hgrow; have hc1 := hv1.cell; have hf1 := hv1.frozen)
    have hE1 := HE.out.app (x := x) HLA.out hn0 hgrow ho' hv3 (by rw [List.length_append, cellsR_app, cellsR_one]; exact hr2) hb4
    have HK1 := Lib.hid (And.intro (hk2.from W0.heap.size) (KpE.append hv hn0 hgrow rfl hp0 ho' hv3 : KpE W0.heap.size n10 W _))
    have HB1 := Lib.hid (HBB.out.trans (hb4.mono (show w.heap.size ≤ n10 by omega)))
    clear hk2 hb4 hown' hgrow ho' hv1 hc1 hf1 hr2 hv3 hv hrow hp0 c2 fr2 HBB HE lG lX hBx hr x0 x1 x2 x3 x4 x5 x6 x7 x8 x9 x10
    generalize World.setCell _ _ _ = W1 at *
    obtain ⟨C, hC⟩ : ∃ C, C = if pre = [] then L else [] := ⟨_, rfl⟩
    rw [← hC] at hE1
    have HC := Lib.hid hC
    have HEX := Lib.hid hE1
    have hlW := hE1.size
    have hG0 : Gone a' W1 W1 (stoM p mb (C.drop 0)) ∧ (pre = [] ∨ Below W1.heap.size W1 W1) := ⟨Gone.of_below hE1.sto (Below.refl _ _), .inr (Below.refl _ _)⟩
    have HG0 := Lib.hid hG0
    clear hE1 hC hG0
    gi_loopw [13] (fun ix wr => ∃ t : Nat, ix = .int .i64 t ∧ t ≤ L.length ∧ Hid (Gone a' W1 wr (stoM p mb (C.drop t)) ∧ (pre = [] ∨ Below W1.heap.size W1 wr))) (fun ix _ => L.length - (intOf ix).toNat)
    case atStart => exact ⟨0, rfl, Nat.zero_le _, HG0⟩
    case round =>
      clear HG0
      obtain ⟨t, rfl, ht, HG⟩ := hrel
      have t0 : (0 : Int) ≤ (t : Int) := by omega
      obtain ⟨b', hEr⟩ := HEX.out.gone HLA.out hn0 HG.out.1
      have hs := hEr.size
      have k7 : wr.cell? ⟨w1.heap.size, 0, none⟩ = some (.pointer (some ⟨p, 0, none⟩)) := by
        have := (hEr.frm w1.heap.size (by omega) HNA.out.1).trans HE0.out.1
        simp [World.cell?, this]
      have k8 : wr.cell? ⟨w1.heap.size + 1, 0, none⟩ = some (.slice pp L.length cc) := by
        have := (hEr.frm (w1.heap.size + 1) (by omega) HNA.out.2.1).trans HE0.out.2
        simp [World.cell?, this]
      by_cases htl : t < L.length
      · have t1 : (t : Int) < (L.length : Int) := by omega
        obtain ⟨bb, hbb⟩ : ∃ b, L[t]? = some b := ⟨_, List.getElem?_eq_getElem htl⟩
        obtain ⟨gt, ot, ct, hvt, hgt, hct⟩ := (bin_same HT0.out hs (fun hne g off e => hEr.frm g (by have := HPL.out hne g off e; omega) (HNA.out.2.2 g off e))).cells hbb
        simp only [Value.slice.injEq, true_and] at hvt
        obtain ⟨rfl, rfl⟩ := hvt
        have y0 := hct 0 _ rfl; have y1 := hct 1 _ rfl; have y2 := hct 2 _ rfl
        simp only [Nat.add_zero] at y0
        have HRM := Lib.hid (fun W hW => ea_step HC.out HGO.out hbb HG.out W hW)
        clear hct hbb hEr HG
        gi_upto_region 18 with fail
        gi_region_with (refine ⟨trivial, (CallsIn.inRound l (callsIn_wide.2 (HRM.out _ (by repeat' (first | (with_reducible exact Below.refl _ _) | (with_reducible assumption) | (with_reducible refine below_drewN ?_ _) | (with_reducible refine below_more _ _ _ ?_ ?_) | (with_reducible refine Below.alloc ?_ ?_ _) | (with_reducible refine Below.drew ?_) | (with_reducible refine Below.setCell ?_ ?_ _) | go_size))))).mono ?_⟩; rintro e w' ⟨⟨bo, rfl⟩, hZ⟩; have HZ := Lib.hid hZ; clear hZ)
        all_goals gi_wp2
        all_goals go_roundw
        all_goals first
          | exact ⟨t + 1, by go_num, by omega, HZ⟩
          | (simp [intOf]; omega)
      · obtain rfl : t = L.length := by omega
        have hCn : C.drop L.length = [] := by
          rw [HC.out]
          split
          · exact List.drop_length
          · simp
        rw [hCn] at hEr
        obtain ⟨_, _, hchg, _⟩ := HG.out.1
        have hkp := HEX.out.kp HLA.out hmb hn0 hchg HG.out.2
        have hbe : Below w.heap.size w wr := below_chg HB1.out hchg (by omega) fun x hx => by
          rcases (HEX.out.dis x hx).1 with e | e
          · have := HG0A.out x e; omega
          · omega
        have HRES := Lib.hid (show KeepsFrom W0.heap.size W wr ∧ KpE W0.heap.size n10 W wr ∧ EaI W0 a p mb n10 L (pre ++ [x]) wr ∧ Below w.heap.size w wr from
          ⟨HK1.out.1.trans hkp.2, HK1.out.2.trans hkp.1, ⟨b', _, by rw [if_neg (by simp)]; exact hEr.sto, fun e => absurd e (by simp), hEr.dis, hEr.box, hEr.row, hEr.size, hEr.frm⟩, hbe⟩)
        clear hEr hchg hkp hbe HG
        gi_wp2
        exact HRES.out
  case done =>
    rintro D zs W hD rfl ⟨⟨a', v0, hE⟩, hB⟩ hK
    obtain ⟨p0, c0, rfl, _⟩ := row_frm2 hE.row
    have c10 := hE.box.cell
    have hs := hE.size
    have HGT := Lib.hid (BIn.of_sl (Sl.of_own hE.row))
    have HWT := Lib.hid (bin_same HW0.out hs (fun hne g off e => by
      have h9 := H9.out hne g off e
      exact hE.frm g (by omega) fun ha => by have := HL1.out g ha; omega))
    have k7 : W.cell? ⟨w1.heap.size, 0, none⟩ = some (.pointer (some ⟨p, 0, none⟩)) := by
      have := (hE.frm w1.heap.size (by omega) HNA.out.1).trans HE0.out.1
      simp [World.cell?, this]
    have HE := Lib.hid hE
    have HS := Lib.hid (fun va vb W h1 h2 => same_any va vb zs zs W h1 h2)
    rw [decide_eq_true rfl] at HS
    have HBB := Lib.hid hB
    have HK := Lib.hid hK
    have lW7 : w1.heap.size < W.heap.size := by omega
    clear hE hB hK
    go_wp2_with fail
    refine (HS.out _ _ W HGT.out HWT.out).mono ?_
    rintro e w5 ⟨rfl, hb5⟩
    have k75 := (hb5.cell (p := ⟨w1.heap.size, 0, none⟩) lW7).trans k7
    have HE5 := Lib.hid (HE.out.grow hmb hn0 hb5)
    have HB5 := Lib.hid (HBB.out.trans (hb5.mono HBB.out.size))
    have HK5 := Lib.hid ((hb5.block D (lt_of_heap HK.out)).trans HK.out)
    have HL5 := Lib.hid (slen_o w5 p _ a' (stoM_sto HE5.out.sto))
    clear hb5 HE HBB HK
    by_cases hz : zs = []
    · have hzl : zs.length = 0 := by rw [hz]; rfl
      clear hz
      go_wp2_with fail
      refine (awake12 _).mono ?_
      rintro e w6 ⟨rfl, hb6⟩
      have HK6 := (hb6.block D (lt_of_heap HK5.out)).trans HK5.out
      have hB6 := HB5.out.trans (hb6.mono HB5.out.size)
      clear hb6
      go_wp2_with fail
      refine ⟨by simp, .inl ⟨_, _, rfl, run_takeDeferred HK6, ?_⟩⟩
      exact ⟨_, results_tmp rfl _ _ _, rfl, hB6.trans (belowK_b (w := w) (Nat.le_refl _) w6 D _ _ (by omega) HK6 rfl rfl)⟩
    · have hzl : ¬ zs.length = 0 := by simpa using hz
      have hzl2 : (zs.length : Int) ≠ 0 := by omega
      rw [if_neg hz] at HL5
      clear hz
      go_wp2_with fail
      refine HL5.out.mono ?_
      rintro e w' ⟨rfl, rfl⟩
      go_wp2_with fail
      refine (awake12 _).mono ?_
      rintro e w6 ⟨rfl, hb6⟩
      have HK6 := (hb6.block D (lt_of_heap HK5.out)).trans HK5.out
      have hB6 := HB5.out.trans (hb6.mono HB5.out.size)
      clear hb6
      go_wp2_with fail
      refine ⟨by simp, .inl ⟨_, _, rfl, run_takeDeferred HK6, ?_⟩⟩
      exact ⟨_, results_tmp rfl _ _ _, rfl, hB6.trans (belowK_b (w := w) (Nat.le_refl _) w6 D _ _ (by omega) HK6 rfl rfl)⟩
  case stop =>
    rintro D c pre W _ _ h _
    exact h.elim

set_option maxRecDepth 100000 in
theorem lifted (os : Os) (started : os.Started) (H : Type) (enc : TypeId × Value → H) :
    ReturnsInHanded {} Try.checked os 12 .any (Rows.queryEachSpec.pre6 enc Try.prog Try.f12 Rows.queryEachRow.domain false) (Rows.queryEachSpec.post enc Try.prog Try.f12 false true false false) := by
  refine returnsInHanded_of_change (C := Try.checked) ownKnob0 started (by kernel_rfl) Try.func12
    (ChangeSpec.witness6 (enc := enc) (C := Try.checked) false ⟨#[], #[.slice none 0 0, .agg #[.int .i64 0, .int .i64 0], .int .i64 0], []⟩ 8 (by kernel_rfl) (by kernel_rfl) (by kernel_rfl) (by kernel_rfl)) ?_
  intro W base args ds gs before hval0 hW _ _
  have hval : ∀ (j : Nat) t v, Try.f12.params[j]? = some t → args[j]? = some v → Value.okWide Try.prog W .any base t v := hval0
  have hread : ∀ t ∈ Try.f12.params.toList, Try.prog.readableRec t = true ∧ t < Try.prog.types.size := by
    rw [Try.params12]
    intro t ht
    simp only [List.mem_cons, List.not_mem_nil, or_false] at ht
    rcases ht with rfl | rfl | rfl
    all_goals exact ⟨by kernel_rfl, of_decide_eq_true (by kernel_rfl)⟩
  have hW' := hW
  obtain ⟨p, q, hA0, hV, -, -⟩ := hW'
  have hA : DataW.TrodAll enc Try.prog W 0 (fun _ => true) true Try.f12.params.toList args.toList ds p := hA0
  rw [Try.params12] at hA hval
  obtain ⟨v0, vs0, d0, ds0, p0, q0, hargs, rfl, rfl, h0, r0⟩ := trodAll_cons hA
  obtain ⟨v1, vs1, d1, ds1, p1, q1, rfl, rfl, rfl, h1, r1⟩ := trodAll_cons r0
  obtain ⟨v2, vs2, d2, ds2, p2, q2, rfl, rfl, rfl, h2, r2⟩ := trodAll_cons r1
  obtain ⟨rfl, rfl, rfl⟩ := trodAll_nil r2
  obtain rfl : args = #[v0, v1, v2] := by cases args; simp_all
  obtain ⟨rfl, rfl⟩ := trodVars_none hV
  have k0 := hval 0 29 v0 rfl rfl
  have k1 := hval 1 23 v1 rfl rfl
  have k2 := hval 2 3 v2 rfl rfl
  clear hval hval0 hA0 hV hA
  obtain ⟨l, hl, _⟩ := buns_in k0 h0
  obtain ⟨cc, fuel1, rfl, g1⟩ := agg_of Try.underlying23 k1 h1
  obtain ⟨qa, qn, rfl, ia, _⟩ := read_query g1
  obtain ⟨z, rfl, rfl, rfl, _⟩ := open_int Try.underlying3 k2 h2
  exact (walk _ l _ _ z W hl ia).mono fun e W' ⟨he, hb⟩ => ⟨_, he, post_true rfl rfl hread rfl hW hb⟩

theorem proved : Rows.QueryEachSaid :=
  OpenClaim.holds_of_wide 12 Try.f12 rfl rfl rfl rfl rfl rfl rfl ⟨rfl, rfl, rfl, rfl, rfl⟩ rfl rfl rfl rfl rfl (by kernel_rfl) Try.func12 (by kernel_rfl)
    (of_decide_eq_true (by kernel_rfl)) (by unfold Func.isWrapper; first | (rw [if_pos (by decide +kernel)]; kernel_rfl) | (rw [if_neg (by decide +kernel)]; exact ⟨rfl, rfl⟩))
    (fun os started H enc _ => lifted os started H enc)
end Go.Proofs.Ytmkfjelpekkmmaa.queryEach

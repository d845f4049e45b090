/-
  GhostsOwn: for every world and entities the law returns true, and the arguments stay as they were. No condition.
-/
import Derived.Test.YtcnclcfipabimaaMtl
import Derived.Test.YtcnclcfipabimaaLiv
import Derived.Test.YtcnclcfipabimaaMgd
import Derived.Test.YtcnclcfipabimaaSyF
import Derived.Test.YtcnclcfipabimaaRdC
import Derived.Test.YtcnclcfipabimaaSoP
namespace Go.Proofs.Ytcnclcfipabimaa.ghostsOwn
open Go.ChangeShapes Go.WideShapes Go.ChangeAt Go.RowKit

theorem says_mem {c : Cfg} {k : Int} {l : List Bun} {ks : List Int} {b : Bun} (h : b ∈ saysF c k l ks) : b ∈ l ∧ ofF c b.x b.y ≠ k := by
  unfold saysF at h
  obtain ⟨j, _, hb⟩ := List.mem_flatMap.1 h
  unfold forF at hb
  obtain ⟨h1, h2⟩ := List.mem_filter.1 hb
  unfold forB at h2
  simp only [Bool.and_eq_true, Bool.not_eq_true', beq_eq_false_iff_ne] at h2
  exact ⟨(List.mem_filter.1 ((stF_perm _).mem_iff.1 h1)).1, h2.1⟩
theorem says_facts {c : Cfg} (ho : CfgOk c) {k : Int} (h0 : 0 ≤ k) (h1 : k < c.cols * c.rows) {l : List Bun} (hin : ∀ b ∈ l, inW c b.x b.y = true) (hu : UnId l) :
    (∀ (i : Nat) x, (stableF cmpBun (saysF c k l (besideF c k)))[i]? = some x → (ofF c x.x x.y == k) = false) ∧
    (∀ (i : Nat) x y, (stableF cmpBun (saysF c k l (besideF c k)))[i]? = some x → (stableF cmpBun (saysF c k l (besideF c k)))[i + 1]? = some y → beforeB x.s x.i x.g y.s y.i y.g = true) ∧ (stableF cmpBun (saysF c k l (besideF c k))).length ≤ l.length := by
  refine ⟨fun i x hx => ?_, fun i x y hx hy => ?_, ?_⟩
  · have := says_mem ((stF_perm _).mem_iff.1 (List.mem_of_getElem? hx))
    simpa using this.2
  · have hp := says_all ho h0 h1 hin
    have hun : UnId (saysF c k l (besideF c k)) := (hu.sub List.filter_sublist).perm hp.symm
    have hr := stF_rise hun
    obtain ⟨a1, rfl⟩ := List.getElem?_eq_some_iff.1 hx
    obtain ⟨a2, rfl⟩ := List.getElem?_eq_some_iff.1 hy
    exact List.pairwise_iff_getElem.1 hr i (i + 1) a1 a2 (by omega)
  · rw [stableF_len, (says_all ho h0 h1 hin).length_eq]
    exact List.length_filter_le _ _

set_option maxRecDepth 100000 in
set_option maxHeartbeats 4000000 in
theorem walk (cols rows side radius speed ids queue : Int) (v : Value) (l : List Bun) (w : World) (hl : BIn w v l) (hf : ∀ b ∈ l, MFit b) :
    Calls Try.prog 7 #[.agg #[.int .i64 cols, .int .i64 rows, .int .i64 side, .int .i64 radius, .int .i64 speed, .int .i64 ids, .int .i64 queue], v] w fun e w' => e = .returned (.bool true) ∧ Below w.heap.size w w' := by
  have HMay := Lib.hid (fun W => may_any cols rows side radius speed ids queue W)
  have ho := mayF_ok ⟨cols, rows, side, radius, speed, ids, queue⟩
  generalize mayF ⟨cols, rows, side, radius, speed, ids, queue⟩ = d at *
  obtain ⟨dcols, drows, dside, dradius, dspeed, dids, dqueue⟩ := d
  have HO := Lib.hid ho
  have HLV := Lib.hid (fun W (hW : Below w.heap.size w W) => living_any dcols drows dside dradius dspeed dids dqueue v l W ho (hl.keep hW) hf)
  have HLI := Lib.hid (livF_in ho l)
  have HLU := Lib.hid (livF_un ⟨dcols, drows, dside, dradius, dspeed, dids, dqueue⟩ l)
  have HLM := Lib.hid (livF_may ⟨dcols, drows, dside, dradius, dspeed, dids, dqueue⟩ l)
  have hln := livF_len ⟨dcols, drows, dside, dradius, dspeed, dids, dqueue⟩ l
  generalize livF ⟨dcols, drows, dside, dradius, dspeed, dids, dqueue⟩ l = l0 at *
  obtain ⟨q1, q2⟩ := ho.cnt
  simp only at q1 q2
  obtain ⟨cnt, hcnt⟩ : ∃ cnt : Nat, dcols * drows = (cnt : Int) := ⟨(dcols * drows).toNat, by omega⟩
  have hcn : cnt ≤ 16 := by omega
  have v1 : IntKind.i64.wrap (dcols * drows) = (cnt : Int) := by rw [hcnt, IntKind.wrap_i64]; omega
  have HCNT := Lib.hid hcnt
  clear ho hl hf hcnt q1 q2
  have HSF := Lib.hid (fun k h0 h1 => says_facts HO.out (k := k) h0 h1 HLI.out HLU.out)
  go_enter Try.func7, Try.ntmps7
  go_wp2_with (go_at_call 17; refine (HMay.out _).mono ?_; rintro e w' ⟨rfl, hb⟩; obtain ⟨d, os, rfl⟩ := more_of hb; clear hb)
  refine (znew_ok dcols drows dside dradius dspeed dids dqueue _ HO.out).mono ?_
  rintro e w2 ⟨b, rfl, hb2, hmap, hbb⟩
  have cC : ∀ j, w2.cell? ⟨w.heap.size, j, none⟩ = (#[.int .i64 dcols, .int .i64 drows, .int .i64 dside, .int .i64 dradius, .int .i64 dspeed, .int .i64 dids, .int .i64 dqueue] : Array Value)[j]? := fun j => by rw [hb2.cell (by simp; omega)]; simp [go_sem]
  have l1 : w.heap.size < w2.heap.size := by have := hb2.size; simp at this; omega
  have hb2w : Below w.heap.size w w2 := Below.trans (Below.mono (B := w.heap.size) (by repeat' (first | (with_reducible exact Below.refl _ _) | (with_reducible assumption) | (with_reducible refine below_drewN ?_ _) | (with_reducible refine below_more _ _ _ ?_ ?_) | (with_reducible refine Below.alloc ?_ ?_ _) | (with_reducible refine Below.drew ?_) | (with_reducible refine Below.setCell ?_ ?_ _) | go_size)) (Nat.le_refl _)) (hb2.mono (by simp; omega))
  have HB2 := Lib.hid hb2w
  have HMP := Lib.hid hmap
  have CC2 := Lib.hid cC
  have q0 := cC 0; simp at q0; have q1 := cC 1; simp at q1; have q2 := cC 2; simp at q2; have q3 := cC 3; simp at q3; have q4 := cC 4; simp at q4; have q5 := cC 5; simp at q5; have q6 := cC 6; simp at q6
  clear hb2 hmap hb2w hbb cC
  go_wp2_with fail
  refine (HLV.out _ HB2.out).mono ?_
  rintro e w3 ⟨vl, rfl, hN⟩
  obtain ⟨pl, cl, rfl⟩ := sl_frm hN.1
  have hb3 := hN.2.1
  have HL3 := Lib.hid hN.bin
  have HM3 := Lib.hid (HMP.out.grow hb3)
  have HB3 := Lib.hid (HB2.out.trans (hb3.mono HB2.out.size))
  have CC3 := Lib.hid (box_on hb3 l1 CC2.out)
  have l3 : w.heap.size < w3.heap.size := by have := hb3.size; omega
  clear hN hb3 CC2 HMP HB2 HLV l1 q0 q1 q2 q3 q4 q5 q6
  go_wp2_with fail
  go_loopg [7] cnt (fun kx sx wr => ∃ k : Nat, sx = .int .i64 k ∧ k ≤ cnt ∧ cnt - k ≤ kx ∧ Hid (Below w3.heap.size w3 wr))
  case atStart => exact ⟨0, by go_num, by omega, by omega, Lib.hid (Below.refl _ _)⟩
  case round =>
    obtain ⟨k, rfl, hk, hkx, HK⟩ := hrel
    obtain ⟨wa, rfl⟩ : ∃ wa : World, wa = wr := ⟨_, rfl⟩
    have CA := Lib.hid (box_on HK.out l3 CC3.out)
    have HLA := Lib.hid (HL3.out.keep HK.out)
    have HMA := Lib.hid (HM3.out.grow HK.out)
    have la : w.heap.size < wa.heap.size := Nat.lt_of_lt_of_le l3 HK.out.size
    obtain ⟨f0, f1, f2⟩ := ltz la
    have q0 := CA.out 0; simp at q0; have q1 := CA.out 1; simp at q1; have q2 := CA.out 2; simp at q2; have q3 := CA.out 3; simp at q3; have q4 := CA.out 4; simp at q4; have q5 := CA.out 5; simp at q5; have q6 := CA.out 6; simp at q6
    by_cases hlt : k < cnt
    · have t1 : (k : Int) < (cnt : Int) := by omega
      have hk0 : (0 : Int) ≤ (k : Int) := by omega
      have hk1 : (k : Int) < dcols * drows := by rw [HCNT.out]; omega
      have HT := Lib.hid (told_any b dcols drows dside dradius dspeed dids dqueue k 1 _ l0 wa HMA.out HO.out hk0 hk1 HLA.out (by omega))
      clear hk1
      go_wp2_with fail
      refine HT.out.mono ?_
      rintro e w' ⟨po, no, co, pg, ng, cg, Lg, rfl, hb, hT1, hT2, hT3, hT4, hT5⟩
      obtain ⟨d1, os1, rfl⟩ := more_of hb
      clear HT hb
      go_upto_region 10 with fail
      obtain ⟨k8, g8, s8, b8⟩ := new_box (more wa d1 os1) #[.int .i64 0, .int .i64 1, .slice po no co, .slice none 0 0, .slice none 0 0, .slice none 0 0, .slice pg ng cg, .int .i64 0] 46 (wa.heap.size + os1.size) (by simp)
      have hb8 : Below wa.heap.size wa ((more wa d1 os1).alloc (.cells #[.int .i64 0, .int .i64 1, .slice po no co, .slice none 0 0, .slice none 0 0, .slice none 0 0, .slice pg ng cg, .int .i64 0] 46)) := (by repeat' (first | (with_reducible exact Below.refl _ _) | (with_reducible assumption) | (with_reducible refine below_drewN ?_ _) | (with_reducible refine below_more _ _ _ ?_ ?_) | (with_reducible refine Below.alloc ?_ ?_ _) | (with_reducible refine Below.drew ?_) | (with_reducible refine Below.setCell ?_ ?_ _) | go_size))
      have HNR := Lib.hid (gnear_any (⟨0, 1, po, no, co, none, 0, 0, none, 0, 0, none, 0, 0, pg, ng, cg, 0⟩ : Sta) Lg (blZ ⟨dcols, drows, dside, dradius, dspeed, dids, dqueue⟩ k l0) _ (hT2.keep b8) (hT4.keep b8) (by omega))
      have hsf := HSF.out k hk0 (by rw [HCNT.out]; omega)
      have hnr : nearG Lg ((⟨0, 1, po, no, co, none, 0, 0, none, 0, 0, none, 0, 0, pg, ng, cg, 0⟩ : Sta)).t (blZ ⟨dcols, drows, dside, dradius, dspeed, dids, dqueue⟩ k l0) = stableF cmpBun (saysF ⟨dcols, drows, dside, dradius, dspeed, dids, dqueue⟩ k l0 (besideF ⟨dcols, drows, dside, dradius, dspeed, dids, dqueue⟩ k)) := hT5
      rw [hnr] at HNR
      generalize stableF cmpBun (saysF ⟨dcols, drows, dside, dradius, dspeed, dids, dqueue⟩ k l0 (besideF ⟨dcols, drows, dside, dradius, dspeed, dids, dqueue⟩ k)) = ns at *
      have HSK := Lib.hid hsf
      have hnl : ns.length ≤ 60 := Nat.le_trans hsf.2.2 hln
      generalize ((more wa d1 os1).alloc (.cells #[.int .i64 0, .int .i64 1, .slice po no co, .slice none 0 0, .slice none 0 0, .slice none 0 0, .slice pg ng cg, .int .i64 0] 46)) = w5 at *
      generalize wa.heap.size + os1.size = n8 at *
      clear hT1 hT2 hT3 hT4 hT5 hsf hnr b8 g8 q0 q1 q2 q3 q4 q5 q6 f0 f1 f2 hk0
      have y0 := k8 0; simp at y0; have y1 := k8 1; simp at y1; have y2 := k8 2; simp at y2; have y3 := k8 3; simp at y3; have y4 := k8 4; simp at y4; have y5 := k8 5; simp at y5; have y6 := k8 6; simp at y6; have y7 := k8 7; simp at y7
      have HB8 := Lib.hid hb8
      clear hb8 k8
      go_wp2_with fail
      refine HNR.out.mono ?_
      rintro e w6 ⟨vn, rfl, hNR⟩
      obtain ⟨pn, cn, rfl⟩ := sl_frm hNR.1
      have hb6 := HB8.out.trans (hNR.2.1.mono HB8.out.size)
      have HN6 := Lib.hid hNR.bin
      have HK6 := Lib.hid (HK.out.trans (hb6.mono HK.out.size))
      have CA6 := Lib.hid (box_on hb6 la CA.out)
      have l6 : w.heap.size < w6.heap.size := Nat.lt_of_lt_of_le la hb6.size
      clear hNR hb6 HNR HB8 CA HLA HMA y0 y1 y2 y3 y4 y5 y6 y7 s8 la
      have HOF := Lib.hid (fun x y W => rof_any dcols drows dside dradius dspeed dids dqueue x y W HO.out)
      generalize ofF ⟨dcols, drows, dside, dradius, dspeed, dids, dqueue⟩ = of at *
      go_wp2_with fail
      go_loopg [11] ns.length (fun kx sx wr => ∃ i : Nat, sx = .int .i64 i ∧ i ≤ ns.length ∧ ns.length - i ≤ kx ∧ Hid (Below w6.heap.size w6 wr))
      case atStart => exact ⟨0, by go_num, by omega, by omega, Lib.hid (Below.refl _ _)⟩
      case round =>
        obtain ⟨i, rfl, hi, hkx2, HI⟩ := hrel
        obtain ⟨wb, rfl⟩ : ∃ wb : World, wb = wr := ⟨_, rfl⟩
        have lb : w.heap.size < wb.heap.size := Nat.lt_of_lt_of_le l6 HI.out.size
        obtain ⟨f0, f1, f2⟩ := ltz lb
        by_cases hlt2 : i < ns.length
        · have t2 : (i : Int) < (ns.length : Int) := by omega
          obtain ⟨x0, hx0⟩ : ∃ x0, ns[i]? = some x0 := ⟨_, List.getElem?_eq_getElem hlt2⟩
          obtain ⟨gb, ob, cb, hv, hgb, hcb⟩ := (HN6.out.keep HI.out).cells hx0
          simp only [Value.slice.injEq, true_and] at hv
          obtain ⟨rfl, rfl⟩ := hv
          have c0 := hcb 0 _ rfl; have c1 := hcb 1 _ rfl; have c2 := hcb 2 _ rfl; have c4 := hcb 4 _ rfl; have c5 := hcb 5 _ rfl
          simp only [Nat.add_zero] at c0
          obtain ⟨e0, e1, e2⟩ := ltz hgb
          have ho := HSK.out.1 i x0 hx0
          have HOX := Lib.hid (HOF.out x0.x x0.y)
          generalize of x0.x x0.y = oz at *
          have CB := Lib.hid (box_on HI.out l6 CA6.out)
          have q0 := CB.out 0; simp at q0; have q1 := CB.out 1; simp at q1; have q2 := CB.out 2; simp at q2; have q3 := CB.out 3; simp at q3; have q4 := CB.out 4; simp at q4; have q5 := CB.out 5; simp at q5; have q6 := CB.out 6; simp at q6
          have ek : ¬ oz = (k : Int) := by simpa using ho
          have HX0 := Lib.hid hx0
          clear hcb hx0
          rcases Nat.eq_zero_or_pos i with hi0 | hi0
          · subst hi0
            obtain ⟨s, i, g, m, x, y, vx, vy, hp, pw, lf⟩ := x0
            simp only at HOX c0 c1 c2 c4 c5
            go_wp2_with fail
            refine wp_region_more (by kernel_rfl) (by kernel_rfl) ?_
            repeat (go_big_quiet_step ((first | (go_at_call 36; exact more_call (HOX.out _)))))
            refine wpQuiet_nil ?_
            rintro _ ⟨pq1, rfl⟩
            go_wp2_with fail
            go_roundg (ns.length - 1)
            case measure => omega
            case rel => exact ⟨1, by go_num, by omega, by omega, Lib.hid (HI.out.trans (Below.mono (B := wb.heap.size) (by repeat' (first | (with_reducible exact Below.refl _ _) | (with_reducible assumption) | (with_reducible refine below_drewN ?_ _) | (with_reducible refine below_more _ _ _ ?_ ?_) | (with_reducible refine Below.alloc ?_ ?_ _) | (with_reducible refine Below.drew ?_) | (with_reducible refine Below.setCell ?_ ?_ _) | go_size)) HI.out.size))⟩
          · obtain ⟨j, rfl⟩ : ∃ j, i = j + 1 := ⟨i - 1, by omega⟩
            obtain ⟨y0, hy0⟩ : ∃ y0, ns[j]? = some y0 := ⟨_, List.getElem?_eq_getElem (by omega)⟩
            obtain ⟨_, hcy⟩ := (HN6.out.keep HI.out).cells' hy0
            have d0 := hcy 0 _ rfl; have d1 := hcy 1 _ rfl; have d2 := hcy 2 _ rfl
            simp only [Nat.add_zero] at d0
            have hbf := before_any y0.s y0.i y0.g x0.s x0.i x0.g
            rw [HSK.out.2.1 j y0 x0 hy0 HX0.out] at hbf
            have HBF := Lib.hid hbf
            have hg0 : (0 : Int) < (j : Int) + 1 := by omega
            have ea1 : ((j : Int)).toNat = j := by omega
            have pa1 : (0 : Int) ≤ (j : Int) := by omega
            have ba1 : (j : Int) < (ns.length : Int) := by omega
            have ba2 : (j : Int) + 1 < (ns.length : Int) := by omega
            have ra1 : IntKind.i64.wrap (j : Int) = (j : Int) := by rw [IntKind.wrap_i64]; omega
            clear hcy hy0 hbf HX0
            obtain ⟨s, i, g, m, x, y, vx, vy, hp, pw, lf⟩ := x0
            obtain ⟨s', i', g', m', x', y', vx', vy', hp', pw', lf'⟩ := y0
            simp only at HOX HBF c0 c1 c2 c4 c5 d0 d1 d2
            go_wp2_with fail
            refine wp_region_more (by kernel_rfl) (by kernel_rfl) ?_
            repeat (go_big_quiet_step ((first | (go_at_call 36; exact more_call (HOX.out _)) | (go_at_call 42; exact more_call (HBF.out _)))))
            refine wpQuiet_nil ?_
            rintro _ ⟨pq1, rfl⟩
            go_wp2_with fail
            go_roundg (ns.length - (j + 1 + 1))
            case measure => omega
            case rel => exact ⟨j + 1 + 1, by go_num, by omega, by omega, Lib.hid (HI.out.trans (Below.mono (B := wb.heap.size) (by repeat' (first | (with_reducible exact Below.refl _ _) | (with_reducible assumption) | (with_reducible refine below_drewN ?_ _) | (with_reducible refine below_more _ _ _ ?_ ?_) | (with_reducible refine Below.alloc ?_ ?_ _) | (with_reducible refine Below.drew ?_) | (with_reducible refine Below.setCell ?_ ?_ _) | go_size)) HI.out.size))⟩
        · have t2 : ¬ (i : Int) < (ns.length : Int) := by omega
          obtain rfl : i = ns.length := by omega
          go_wp2_with fail
          go_roundg (cnt - (k + 1))
          case measure => omega
          case rel => exact ⟨k + 1, by go_num, by omega, by omega, Lib.hid (HK6.out.trans (HI.out.mono HK6.out.size))⟩
    · have t1 : ¬ (k : Int) < (cnt : Int) := by omega
      obtain rfl : k = cnt := by omega
      go_wp2_with (go_at_call 23; refine (awake22 _).mono ?_; rintro e w' ⟨rfl, hb⟩; obtain ⟨d, os, rfl⟩ := more_of hb; clear hb)
      go_ret
      exact ⟨rfl, HB3.out.trans ((HK.out.trans (Below.mono (B := wa.heap.size) (by repeat' (first | (with_reducible exact Below.refl _ _) | (with_reducible assumption) | (with_reducible refine below_drewN ?_ _) | (with_reducible refine below_more _ _ _ ?_ ?_) | (with_reducible refine Below.alloc ?_ ?_ _) | (with_reducible refine Below.drew ?_) | (with_reducible refine Below.setCell ?_ ?_ _) | go_size)) HK.out.size)).mono HB3.out.size)⟩
set_option maxRecDepth 100000 in
theorem lifted (os : Os) (started : os.Started) (H : Type) (enc : TypeId × Value → H) :
    ReturnsInHanded {} Try.checked os 7 .any (Rows.ghostsOwnSpec.pre6 enc Try.prog Try.f7 Rows.ghostsOwnRow.domain false) (Rows.ghostsOwnSpec.post enc Try.prog Try.f7 false true false false) := by
  refine returnsInHanded_of_change (C := Try.checked) ownKnob0 started (by kernel_rfl) Try.func7
    (ChangeSpec.witness6 (enc := enc) (C := Try.checked) false ⟨#[], #[.agg #[.int .i64 0, .int .i64 0, .int .i64 0, .int .i64 0, .int .i64 0, .int .i64 0, .int .i64 0], .slice none 0 0], []⟩ 8 (by kernel_rfl) (by kernel_rfl) (by kernel_rfl) (by kernel_rfl)) ?_
  intro W base args ds gs before hval0 hW _ _
  have hval : ∀ (j : Nat) t v, Try.f7.params[j]? = some t → args[j]? = some v → Value.okWide Try.prog W .any base t v := hval0
  have hread : ∀ t ∈ Try.f7.params.toList, Try.prog.readableRec t = true ∧ t < Try.prog.types.size := by
    rw [Try.params7]
    intro t ht
    simp only [List.mem_cons, List.not_mem_nil, or_false] at ht
    rcases ht with rfl | rfl
    all_goals exact ⟨by kernel_rfl, of_decide_eq_true (by kernel_rfl)⟩
  have hW' := hW
  obtain ⟨p, q, hA0, hV, -, -⟩ := hW'
  have hA : DataW.TrodAll enc Try.prog W 0 (fun _ => true) true Try.f7.params.toList args.toList ds p := hA0
  rw [Try.params7] at hA hval
  obtain ⟨v0, vs0, d0, ds0, p0, q0, hargs, rfl, rfl, h0, r0⟩ := trodAll_cons hA
  obtain ⟨v1, vs1, d1, ds1, p1, q1, rfl, rfl, rfl, h1, r1⟩ := trodAll_cons r0
  obtain ⟨rfl, rfl, rfl⟩ := trodAll_nil r1
  obtain rfl : args = #[v0, v1] := by cases args; simp_all
  obtain ⟨rfl, rfl⟩ := trodVars_none hV
  have k0 := hval 0 23 v0 rfl rfl
  have k1 := hval 1 24 v1 rfl rfl
  clear hval hval0 hA0 hV hA
  obtain ⟨cc, fuel0, rfl, g0⟩ := agg_of Try.underlying23 k0 h0
  obtain ⟨zcols, zrows, zside, zradius, zspeed, zids, zqueue, rfl⟩ := read_cfg g0
  obtain ⟨l, hl, hf⟩ := buns_in k1 h1
  exact (walk _ _ _ _ _ _ _ _ l W hl (fun b hb => ⟨(hf b hb).2.2.2.1.1, (hf b hb).2.2.2.1.2⟩)).mono fun e W' ⟨he, hb⟩ => ⟨_, he, post_true rfl rfl hread rfl hW hb⟩

/-- GhostsOwn: true for every input; the arguments stay. -/
theorem proved : Rows.GhostsOwnSaid :=
  OpenClaim.holds_of_wide 7 Try.f7 rfl rfl rfl rfl rfl rfl rfl ⟨rfl, rfl, rfl, rfl, rfl⟩ rfl rfl rfl rfl rfl (by kernel_rfl) Try.func7 (by kernel_rfl)
    (of_decide_eq_true (by kernel_rfl)) (by unfold Func.isWrapper; first | (rw [if_pos (by decide +kernel)]; kernel_rfl) | (rw [if_neg (by decide +kernel)]; exact ⟨rfl, rfl⟩))
    (fun os started H enc _ => lifted os started H enc)
end Go.Proofs.Ytcnclcfipabimaa.ghostsOwn

/-
  PartsSorts: for every list of entities and every name the law returns true, and the arguments stay as they were. No condition.
-/
import Derived.Test.YtloampfkjldmnaaSoP
import Derived.Test.YtloampfkjldmnaaPaK
namespace Go.Proofs.Ytloampfkjldmnaa.partsSorts
open Go.ChangeShapes Go.WideShapes Go.ChangeAt Go.RowKit
open Go.Sort

theorem ltm {a W : Nat} (h : a < W) : (∀ n0 : Nat, a < W + n0) ∧ (∀ n0 n1 : Nat, a < W + n0 + n1) ∧ (∀ n0 n1 n2 : Nat, a < W + n0 + n1 + n2) ∧ (∀ n0 n1 n2 n3 : Nat, a < W + n0 + n1 + n2 + n3) ∧ (∀ n0 n1 n2 n3 n4 : Nat, a < W + n0 + n1 + n2 + n3 + n4) ∧ (∀ n0 n1 n2 n3 n4 n5 : Nat, a < W + n0 + n1 + n2 + n3 + n4 + n5) ∧ (∀ n0 n1 n2 n3 n4 n5 n6 : Nat, a < W + n0 + n1 + n2 + n3 + n4 + n5 + n6) := by
  refine ⟨?_, ?_, ?_, ?_, ?_, ?_, ?_⟩ <;> intros <;> omega
theorem addr_add (b o j : Nat) : Addr.add ⟨b, o, none⟩ j = ⟨b, o + j, none⟩ := by unfold Addr.add; split <;> simp_all
theorem sl_emptyN (W : World) (n : Nat) (hn : n = W.heap.size) : Sl (W.alloc (.cells #[] 34)) 34 11 (.slice (some ⟨n, 0, none⟩) 0 0) 0 [] := by subst hn; exact sl_empty W

set_option maxRecDepth 100000 in
set_option maxHeartbeats 1000000 in
theorem walk (v : Value) (l : List Bun) (s i g : Int) (w : World) (h : BIn w v l) :
    Calls Try.prog 11 #[v, .agg #[.int .i64 s, .int .i64 i, .int .i64 g]] w fun e w' => e = .returned (.bool true) ∧ Below w.heap.size w w' := by
  have H := Lib.hid h
  obtain ⟨i0, hi0, hz0, hz1, hz2⟩ := info_parts info_bunJ
  obtain ⟨pv, cv, rfl, hmx, hpc, hlc, hcl⟩ := h
  unfold maxLen at hmx
  by_cases h300 : 300 < l.length
  · have t0 : (300 : Int) < (l.length : Int) := by omega
    clear hpc hcl
    go_enter Try.func11, Try.ntmps11
    go_wp2_with (go_at_call 34; refine (awake9 _).mono ?_; rintro e w' ⟨rfl, hb⟩; obtain ⟨d, os, rfl⟩ := more_of hb; clear hb)
    go_ret
    exact ⟨rfl, (by repeat' (first | (with_reducible exact Below.refl _ _) | (with_reducible assumption) | (with_reducible refine below_drewN ?_ _) | (with_reducible refine below_more _ _ _ ?_ ?_) | (with_reducible refine Below.alloc ?_ ?_ _) | (with_reducible refine Below.drew ?_) | (with_reducible refine Below.setCell ?_ ?_ _) | go_size))⟩
  have hl : l.length ≤ 300 := by omega
  have t0 : ¬ (300 : Int) < (l.length : Int) := by omega
  have HSE := Lib.hid sl_emptyN
  clear h300
  go_enter Try.func11, Try.ntmps11
  go_upto_region 3 with fail
  go_cut [5] (fun o wx => BNew w wx o l ∧ w.heap.size < wx.heap.size ∧ ∀ j, wx.cell? ⟨w.heap.size, j, none⟩ = (#[.int .i64 s, .int .i64 i, .int .i64 g] : Array Value)[j]?)
  case first =>
    by_cases h0 : l = []
    · subst h0
      clear hcl
      go_wp2_with (at_builtin; refine wpList_append_zero (by rfl) _ _ 22 (by rfl) 34 i0 Try.underlying22 hi0 _ _ 0 0 _ (by rfl) (by rfl) (Nat.le_refl _) ?_)
      go_meet
      refine ⟨⟨HSE.out _ _ (by simp), (by repeat' (first | (with_reducible exact Below.refl _ _) | (with_reducible assumption) | (with_reducible refine below_drewN ?_ _) | (with_reducible refine below_more _ _ _ ?_ ?_) | (with_reducible refine Below.alloc ?_ ?_ _) | (with_reducible refine Below.drew ?_) | (with_reducible refine Below.setCell ?_ ?_ _) | go_size)), fun g hg => by simp [Value.ownBlock] at hg; omega⟩, by simp; omega, fun j => ?_⟩
      simp [go_sem]
    · obtain ⟨blk, off, rfl, h5, h6⟩ := hcl h0
      have hn0 : 0 < l.length := List.length_pos_iff.2 h0
      have hcw : ∀ W, Below w.heap.size w W → ∀ j u, (bunCells l)[j]? = some u → W.cell? (Addr.add ⟨blk, off, none⟩ j) = some u := fun W hW j u hj => by
        have h := h6 j u hj
        rw [addr_add, hW.cell (p := ⟨blk, off + j, none⟩) h5]; exact h
      have HW := Lib.hid hcw
      clear hcw h6 hcl h0
      go_wp2_with (at_builtin; refine wpList_append_sl _ (by rfl) _ _ 22 (by rfl) 34 i0 _ 11 88 Try.underlying22 hi0 hz0 hz1 hz2 rfl (by omega) _ 0 [] (by rfl) (HSE.out _ _ (by simp)) ⟨blk, off, none⟩ l.length cv (bunCells l) (by rfl) (bunCells_len l) (HW.out _ (by repeat' (first | (with_reducible exact Below.refl _ _) | (with_reducible assumption) | (with_reducible refine below_drewN ?_ _) | (with_reducible refine below_more _ _ _ ?_ ?_) | (with_reducible refine Below.alloc ?_ ?_ _) | (with_reducible refine Below.drew ?_) | (with_reducible refine Below.setCell ?_ ?_ _) | go_size))) (bunCells_one l) hn0 (by unfold maxLen; omega) (by omega) ?_; intro v' w1 hs1 ht ho)
      go_meet
      have hb1 := (bnew_of _ (by simp [Value.ownBlock]) hs1 ht ho)
      have hsz := hb1.2.1.size
      refine ⟨⟨hb1.1, Below.trans (by repeat' (first | (with_reducible exact Below.refl _ _) | (with_reducible assumption) | (with_reducible refine below_drewN ?_ _) | (with_reducible refine below_more _ _ _ ?_ ?_) | (with_reducible refine Below.alloc ?_ ?_ _) | (with_reducible refine Below.drew ?_) | (with_reducible refine Below.setCell ?_ ?_ _) | go_size)) (hb1.2.1.mono (by simp)), fun g hg => by have := hb1.2.2 g hg; simp at this; omega⟩, by simp at hsz; omega, fun j => ?_⟩
      rw [hb1.2.1.cell (p := ⟨w.heap.size, j, none⟩) (by simp)]
      simp
  clear hcl
  obtain ⟨hO, hlt1, hbx⟩ := hcut
  obtain ⟨po, co, rfl⟩ := sl_frm hO.1
  have HO := Lib.hid hO
  have HBX := Lib.hid (fun W (hW : Below wc.heap.size wc W) j => (hW.cell (p := ⟨w.heap.size, j, none⟩) hlt1).trans (hbx j))
  clear hO hbx hpc
  go_wp2_with fail
  refine (sorted_any _ l _ HO.out.bin (by omega)).mono ?_
  rintro e w1 ⟨vs, rfl, hS⟩
  generalize hls : stableF cmpBun l = ls at *
  have hlsn : ls.length ≤ l.length := by rw [← hls, stableF_len]; exact Nat.le_refl _
  obtain ⟨ps, cs, rfl⟩ := sl_frm hS.1
  have HS := Lib.hid hS
  have hl1 := hS.2.1.size
  clear hS
  go_wp2_with fail
  refine (rsorted_any _ l _ (H.out.keep (HO.out.2.1.trans (HS.out.2.1.mono HO.out.2.1.size))) (by omega)).mono ?_
  rw [hls]
  rintro e w2 ⟨vw, rfl, hW⟩
  obtain ⟨pw, cw, rfl⟩ := sl_frm hW.1
  have HLS := Lib.hid hls
  have HW := Lib.hid hW
  have hl2 := hW.2.1.size
  have hb2 : Below wc.heap.size wc w2 := HS.out.2.1.trans (HW.out.2.1.mono HS.out.2.1.size)
  have i0 := HBX.out w2 hb2 0; have i1 := HBX.out w2 hb2 1; have i2 := HBX.out w2 hb2 2
  simp at i0 i1 i2
  have HB2 := Lib.hid hb2
  have KS := Lib.hid (fun W (h : Below w2.heap.size w2 W) => HS.out.bin.keep ((HW.out.2.1).trans (h.mono HW.out.2.1.size)))
  have KW := Lib.hid (fun W (h : Below w2.heap.size w2 W) => HW.out.bin.keep h)
  have KL := Lib.hid (fun W (h : Below w2.heap.size w2 W) => H.out.keep (HO.out.2.1.trans ((HB2.out.trans (h.mono HB2.out.size)).mono HO.out.2.1.size)))
  have KO := Lib.hid (fun W (h : Below w2.heap.size w2 W) => HO.out.bin.keep (HB2.out.trans (h.mono HB2.out.size)))
  have hlw : w.heap.size < w2.heap.size := by omega
  obtain ⟨x0, x1, x2, x3, x4, x5, x6⟩ := ltm hlw
  clear hW hls hb2
  go_wp2_with fail
  refine (find_any _ ls s i g _ (KS.out _ (by repeat' (first | (with_reducible exact Below.refl _ _) | (with_reducible assumption) | (with_reducible refine below_drewN ?_ _) | (with_reducible refine below_more _ _ _ ?_ ?_) | (with_reducible refine Below.alloc ?_ ?_ _) | (with_reducible refine Below.drew ?_) | (with_reducible refine Below.setCell ?_ ?_ _) | go_size))) (by omega)).mono ?_; rintro e w' ⟨rfl, hb⟩; obtain ⟨d1, os1, rfl⟩ := more_of hb; clear hb
  go_wp2_with fail
  refine (rfind_any _ ls s i g _ (KW.out _ (by repeat' (first | (with_reducible exact Below.refl _ _) | (with_reducible assumption) | (with_reducible refine below_drewN ?_ _) | (with_reducible refine below_more _ _ _ ?_ ?_) | (with_reducible refine Below.alloc ?_ ?_ _) | (with_reducible refine Below.drew ?_) | (with_reducible refine Below.setCell ?_ ?_ _) | go_size))) (by omega)).mono ?_; rintro e w' ⟨rfl, hb⟩; obtain ⟨d2, os2, rfl⟩ := more_of hb; clear hb
  go_wp2_with fail
  refine (find_any _ l s i g _ (KL.out _ (by repeat' (first | (with_reducible exact Below.refl _ _) | (with_reducible assumption) | (with_reducible refine below_drewN ?_ _) | (with_reducible refine below_more _ _ _ ?_ ?_) | (with_reducible refine Below.alloc ?_ ?_ _) | (with_reducible refine Below.drew ?_) | (with_reducible refine Below.setCell ?_ ?_ _) | go_size))) (by omega)).mono ?_; rintro e w' ⟨rfl, hb⟩; obtain ⟨d3, os3, rfl⟩ := more_of hb; clear hb
  go_wp2_with fail
  refine (rfind_any _ l s i g _ (KL.out _ (by repeat' (first | (with_reducible exact Below.refl _ _) | (with_reducible assumption) | (with_reducible refine below_drewN ?_ _) | (with_reducible refine below_more _ _ _ ?_ ?_) | (with_reducible refine Below.alloc ?_ ?_ _) | (with_reducible refine Below.drew ?_) | (with_reducible refine Below.setCell ?_ ?_ _) | go_size))) (by omega)).mono ?_; rintro e w' ⟨rfl, hb⟩; obtain ⟨d4, os4, rfl⟩ := more_of hb; clear hb
  go_wp2_with fail
  refine (same_any _ _ ls ls _ (KS.out _ (by repeat' (first | (with_reducible exact Below.refl _ _) | (with_reducible assumption) | (with_reducible refine below_drewN ?_ _) | (with_reducible refine below_more _ _ _ ?_ ?_) | (with_reducible refine Below.alloc ?_ ?_ _) | (with_reducible refine Below.drew ?_) | (with_reducible refine Below.setCell ?_ ?_ _) | go_size))) (KW.out _ (by repeat' (first | (with_reducible exact Below.refl _ _) | (with_reducible assumption) | (with_reducible refine below_drewN ?_ _) | (with_reducible refine below_more _ _ _ ?_ ?_) | (with_reducible refine Below.alloc ?_ ?_ _) | (with_reducible refine Below.drew ?_) | (with_reducible refine Below.setCell ?_ ?_ _) | go_size)))).mono ?_
  rw [decide_eq_true rfl]; rintro e w' ⟨rfl, hb⟩; obtain ⟨d5, os5, rfl⟩ := more_of hb; clear hb
  go_wp2_with fail
  refine (same_any _ _ l l _ (KO.out _ (by repeat' (first | (with_reducible exact Below.refl _ _) | (with_reducible assumption) | (with_reducible refine below_drewN ?_ _) | (with_reducible refine below_more _ _ _ ?_ ?_) | (with_reducible refine Below.alloc ?_ ?_ _) | (with_reducible refine Below.drew ?_) | (with_reducible refine Below.setCell ?_ ?_ _) | go_size))) (KL.out _ (by repeat' (first | (with_reducible exact Below.refl _ _) | (with_reducible assumption) | (with_reducible refine below_drewN ?_ _) | (with_reducible refine below_more _ _ _ ?_ ?_) | (with_reducible refine Below.alloc ?_ ?_ _) | (with_reducible refine Below.drew ?_) | (with_reducible refine Below.setCell ?_ ?_ _) | go_size)))).mono ?_
  rw [decide_eq_true rfl]; rintro e w' ⟨rfl, hb⟩; obtain ⟨d6, os6, rfl⟩ := more_of hb; clear hb
  go_upto_region 13 with fail
  have hw6 : Below w.heap.size w (more (more (more (more (more (more w2 d1 os1) d2 os2) d3 os3) d4 os4) d5 os5) d6 os6) := HO.out.2.1.trans ((HB2.out.trans (Below.mono (B := w2.heap.size) (by repeat' (first | (with_reducible exact Below.refl _ _) | (with_reducible assumption) | (with_reducible refine below_drewN ?_ _) | (with_reducible refine below_more _ _ _ ?_ ?_) | (with_reducible refine Below.alloc ?_ ?_ _) | (with_reducible refine Below.drew ?_) | (with_reducible refine Below.setCell ?_ ?_ _) | go_size)) HB2.out.size)).mono HO.out.2.1.size)
  have s6 : w2.heap.size ≤ (more (more (more (more (more (more w2 d1 os1) d2 os2) d3 os3) d4 os4) d5 os5) d6 os6).heap.size := by simp only [more_size]; omega
  have k6 : Below w2.heap.size w2 (more (more (more (more (more (more w2 d1 os1) d2 os2) d3 os3) d4 os4) d5 os5) d6 os6) := (by repeat' (first | (with_reducible exact Below.refl _ _) | (with_reducible assumption) | (with_reducible refine below_drewN ?_ _) | (with_reducible refine below_more _ _ _ ?_ ?_) | (with_reducible refine Below.alloc ?_ ?_ _) | (with_reducible refine Below.drew ?_) | (with_reducible refine Below.setCell ?_ ?_ _) | go_size))
  have KS6 := Lib.hid (HS.out.1.keep fun g hg => (HW.out.2.1.trans (k6.mono HW.out.2.1.size)).block g (sl_lt HS.out.1 hg))
  have KO6 := Lib.hid (HO.out.1.keep fun g hg => (HB2.out.trans (k6.mono HB2.out.size)).block g (sl_lt HO.out.1 hg))
  have HW6 := Lib.hid hw6
  clear hw6 k6
  generalize more (more (more (more (more (more w2 d1 os1) d2 os2) d3 os3) d4 os4) d5 os5) d6 os6 = W5 at *
  have HGS := Lib.hid HS.out.2.2
  have HGO := Lib.hid (fun g hg => sl_lt (g := g) HO.out.1 hg)
  clear KS KW KL KO HBX i0 i1 i2 x0 x1 x2 x3 x4 x5 x6 HS HW HB2 HLS
  go_loopg [16] ls.length (fun kx x wr => ∃ (m : Nat) (xs : List Value), x = .int .i64 m ∧ m ≤ ls.length ∧ ls.length - m ≤ kx ∧ Hid (Sl wr 34 11 (.slice ps ls.length cs) ls.length xs) ∧ Hid (Turned W5 wr (Value.slice ps ls.length cs).ownBlock))
  case atStart => exact ⟨0, _, by go_num, by omega, by omega, KS6, Lib.hid (Turned.of_grown ⟨rfl, rfl, rfl, Nat.le_refl _, fun k hk _ => rfl⟩)⟩
  case round =>
    clear KS6
    obtain ⟨m, xs, rfl, hm, hkx, HSL, HT⟩ := hrel
    by_cases hlt : m < ls.length
    · have t1 : (m : Int) < (ls.length : Int) := by omega
      obtain ⟨g5, o5, rfl⟩ : ∃ g5 o5, ps = some ⟨g5, o5, none⟩ := by
        obtain ⟨_, ⟨h1, h0⟩ | ⟨g', off', cap', cur, hv, _⟩⟩ := HSL.out
        · omega
        · simp only [Value.slice.injEq] at hv; exact ⟨_, _, hv.1⟩
      obtain ⟨⟨u', hc⟩, hf, hsl2, ht2⟩ := sl_store1 HSL.out (t := m * 11 + 3) (by omega) (.int .i64 (-1))
      rw [← Nat.add_assoc] at hc hf hsl2 ht2
      have HS2 := Lib.hid hsl2
      have HT2 := Lib.hid ht2
      clear hsl2 ht2
      go_wp2_with fail
      go_roundg (ls.length - (m + 1))
      case measure => omega
      case rel => exact ⟨m + 1, _, by go_num, by omega, by omega, HS2, Lib.hid (by
        have h1 := HT.out; have h2 := HT2.out
        exact ⟨h2.os.trans h1.os, h2.tape.trans h1.tape, h2.output.trans h1.output, Nat.le_trans h1.size h2.size, fun k hk hne => (h2.block k (Nat.lt_of_lt_of_le hk h1.size) hne).trans (h1.block k hk hne)⟩)⟩
    · have t1 : ¬ (m : Int) < (ls.length : Int) := by omega
      have hgs : ∀ k, (Value.slice ps ls.length cs).ownBlock = some k → wc.heap.size ≤ k := HGS.out
      have hbw : Below w.heap.size w wr := Turned.below_new HT.out (fun k hk => by have := hgs k hk; omega) HW6.out HW6.out.size
      have hko : BIn wr (.slice po l.length co) l := BIn.of_sl (KO6.out.keep fun g hg => HT.out.block g (sl_lt KO6.out hg) (fun e => by have := hgs g e.symm; have := HGO.out g hg; omega))
      have hsm := same_any _ _ l l wr hko (H.out.keep hbw)
      rw [decide_eq_true rfl] at hsm
      have HSM := Lib.hid hsm
      have HBW := Lib.hid hbw
      clear hgs hbw hko hsm
      go_wp2_with fail
      refine HSM.out.mono ?_; rintro e w' ⟨rfl, hb⟩; obtain ⟨d7, os7, rfl⟩ := more_of hb; clear hb
      go_wp2_with (go_at_call 34; refine (awake9 _).mono ?_; rintro e w' ⟨rfl, hb⟩; obtain ⟨d, os, rfl⟩ := more_of hb; clear hb)
      go_ret
      exact ⟨rfl, HBW.out.trans (Below.mono (B := wr.heap.size) (by repeat' (first | (with_reducible exact Below.refl _ _) | (with_reducible assumption) | (with_reducible refine below_drewN ?_ _) | (with_reducible refine below_more _ _ _ ?_ ?_) | (with_reducible refine Below.alloc ?_ ?_ _) | (with_reducible refine Below.drew ?_) | (with_reducible refine Below.setCell ?_ ?_ _) | go_size)) HBW.out.size)⟩

set_option maxRecDepth 100000 in
theorem lifted (os : Os) (started : os.Started) (H : Type) (enc : TypeId × Value → H) :
    ReturnsInHanded {} Try.checked os 11 .any (Rows.partsSortsSpec.pre6 enc Try.prog Try.f11 Rows.partsSortsRow.domain false) (Rows.partsSortsSpec.post enc Try.prog Try.f11 false true false false) := by
  refine returnsInHanded_of_change (C := Try.checked) ownKnob0 started (by kernel_rfl) Try.func11
    (ChangeSpec.witness6 (enc := enc) (C := Try.checked) false ⟨#[], #[.slice none 0 0, .agg #[.int .i64 0, .int .i64 0, .int .i64 0]], []⟩ 8 (by kernel_rfl) (by kernel_rfl) (by kernel_rfl) (by kernel_rfl)) ?_
  intro W base args ds gs before hval0 hW _ _
  have hval : ∀ (j : Nat) t v, Try.f11.params[j]? = some t → args[j]? = some v → Value.okWide Try.prog W .any base t v := hval0
  have hread : ∀ t ∈ Try.f11.params.toList, Try.prog.readableRec t = true ∧ t < Try.prog.types.size := by
    rw [Try.params11]
    intro t ht
    simp only [List.mem_cons, List.not_mem_nil, or_false] at ht
    rcases ht with rfl | rfl
    all_goals exact ⟨by kernel_rfl, of_decide_eq_true (by kernel_rfl)⟩
  have hW' := hW
  obtain ⟨p, q, hA0, hV, -, -⟩ := hW'
  have hA : DataW.TrodAll enc Try.prog W 0 (fun _ => true) true Try.f11.params.toList args.toList ds p := hA0
  rw [Try.params11] at hA hval
  obtain ⟨v0, vs0, d0, ds0, p0, q0, hargs, rfl, rfl, h0, r0⟩ := trodAll_cons hA
  obtain ⟨v1, vs1, d1, ds1, p1, q1, rfl, rfl, rfl, h1, r1⟩ := trodAll_cons r0
  obtain ⟨rfl, rfl, rfl⟩ := trodAll_nil r1
  obtain rfl : args = #[v0, v1] := by cases args; simp_all
  obtain ⟨rfl, rfl⟩ := trodVars_none hV
  have k0 := hval 0 22 v0 rfl rfl
  have k1 := hval 1 32 v1 rfl rfl
  clear hval hval0 hA0 hV hA
  obtain ⟨l, hl, _⟩ := buns_in k0 h0
  obtain ⟨c1, fuel1, rfl, g1⟩ := agg_of Try.underlying32 k1 h1
  obtain ⟨x0, y0, z0, rfl, _⟩ := read_id g1
  exact (walk _ l _ _ _ W hl).mono fun e W' ⟨he, hb⟩ => ⟨_, he, post_true rfl rfl hread rfl hW hb⟩

/-- PartsSorts: true for every input; the arguments stay. -/
theorem proved : Rows.PartsSortsSaid :=
  OpenClaim.holds_of_wide 11 Try.f11 rfl rfl rfl rfl rfl rfl rfl ⟨rfl, rfl, rfl, rfl, rfl⟩ rfl rfl rfl rfl rfl (by kernel_rfl) Try.func11 (by kernel_rfl)
    (of_decide_eq_true (by kernel_rfl)) (by unfold Func.isWrapper; first | (rw [if_pos (by decide +kernel)]; kernel_rfl) | (rw [if_neg (by decide +kernel)]; exact ⟨rfl, rfl⟩))
    (fun os started H enc _ => lifted os started H enc)
end Go.Proofs.Ytloampfkjldmnaa.partsSorts

/-
  SystemsFar: for every radius and all entities the law returns true, and the arguments stay as they were. No condition.
-/
import Derived.Test.YtloampfkjldmnaaShE
import Derived.Test.YtloampfkjldmnaaSyI
namespace Go.Proofs.Ytloampfkjldmnaa.systemsFar
open Go.ChangeShapes Go.WideShapes Go.ChangeAt Go.RowKit

theorem hasB_not8 (m : Int) : hasB (bits .andNot .i64 m 8) 8 = false := by
  have h := hasB_gb (bits .andNot .i64 m 8) 3 (by omega)
  have e : gb 8 3 = true := by have := gb_pow 3 3 (by omega) (by omega); simpa using this
  rw [gb_andNot _ _ _ (by omega), e] at h
  simpa using h
/-- What the law makes of an entity: far away, or without power. -/
def farB (i : Nat) (b : Bun) : Bun := if i % 2 = 0 then { b with x := 1073741824, y := -1073741824 } else { b with m := bits .andNot .i64 b.m 8 }
def farL (l : List Bun) : List Bun := l.mapIdx farB
theorem farL_take (l : List Bun) (k : Nat) (b : Bun) (h : l[k]? = some b) : farL (l.take (k + 1)) = farL (l.take k) ++ [farB k b] := by
  have hk := (List.getElem?_eq_some_iff.1 h).1
  have e : l[k] = b := by have := List.getElem?_eq_getElem hk; rw [h] at this; exact (Option.some.inj this).symm
  unfold farL
  rw [List.take_succ_eq_append_getElem hk, e, List.mapIdx_append]
  have : (l.take k).length = k := by simp; omega
  simp [this]
theorem farB_take (r : Int) (hr : r < 1000) (b c : Bun) (hb : b.x ≤ 536870912) (i : Nat) : takeC r b (farB i c) = false := by
  unfold takeC farB
  split
  · have h1 : clampF 1073741824 = 1073741824 := by decide
    have h2 : clampF b.x ≤ 536870912 := by unfold clampF; omega
    have h3 : ¬ farF b.x b.y 1073741824 (-1073741824) ≤ r := by unfold farF; rw [h1]; omega
    simp only [h3, decide_false, Bool.and_false]
  · have h4 : hasB (bits .andNot .i64 c.m 8) 8 = false := hasB_not8 c.m
    simp only [h4, Bool.and_false, Bool.false_and]
theorem farL_takes (r : Int) (hr : r < 1000) (b : Bun) (hb : b.x ≤ 536870912) (n : Int) : ∀ (l : List Bun), (∀ c ∈ l, ∃ i d, c = farB i d) → takesF r b n l = n
  | [], _ => rfl
  | c :: l, h => by
    obtain ⟨i, d, rfl⟩ := h c (by simp)
    unfold takesF
    rw [farB_take r hr b d hb i]
    exact farL_takes r hr b hb n l fun e he => h e (List.mem_cons_of_mem _ he)
theorem fm_congr {α β : Type} {f g : α → Option β} : ∀ {l : List α}, (∀ b ∈ l, f b = g b) → l.filterMap f = l.filterMap g
  | [], _ => rfl
  | b :: l, h => by
    have h1 := h b (by simp)
    have h2 := fm_congr fun c hc => h c (List.mem_cons_of_mem _ hc)
    simp only [List.filterMap_cons, h1, h2]
theorem farL_hits (r : Int) (hr : r < 1000) (own oth : List Bun) (ho : ∀ b ∈ own, b.x ≤ 536870912) : hitsF r own (farL oth) = hitsF r own [] := by
  unfold hitsF
  refine fm_congr fun b hb => ?_
  have h1 := ho b (stableF_mem own b hb)
  have h2 := farL_takes r hr b h1 (takesF r b 0 own) (farL oth) (fun c hc => by
    unfold farL at hc
    obtain ⟨i, hi, e⟩ := List.mem_mapIdx.1 hc
    exact ⟨i, _, e.symm⟩)
  unfold hitOf
  rw [h2]
  rfl


set_option maxRecDepth 100000 in
set_option maxHeartbeats 1000000 in
theorem walk (r : Int) (v1 v2 : Value) (m1 m2 : List Bun) (w : World) (h1 : BIn w v1 m1) (h2 : BIn w v2 m2) :
    Calls Try.prog 7 #[.int .i64 r, v1, v2] w fun e w' => e = .returned (.bool true) ∧ Below w.heap.size w w' := by
  obtain ⟨i0, hi0, hz0, hz1, hz2⟩ := info_parts info_bunJ
  have F1 := few_any v1 m1 w h1
  have F2 := few_any v2 m2 w h2
  have n1 : (m1.take 60).length ≤ 60 := by simp; omega
  have n2 : (m2.take 60).length ≤ 60 := by simp; omega
  generalize m1.take 60 = l1 at *
  generalize m2.take 60 = l2 at *
  have HF1 := Lib.hid F1
  have HF2 := Lib.hid F2
  have t1 : -1000 < Int.tmod r 1000 := by have := Int.lt_tmod_of_pos r (by omega : (0 : Int) < 1000); omega
  have t2 : Int.tmod r 1000 < 1000 := Int.tmod_lt_of_pos r (by omega)
  clear F1 F2 h1 h2
  go_enter Try.func7, Try.ntmps7
  go_wp2_with fail
  refine HF1.out.mono ?_; rintro e w' ⟨⟨va, rfl, hb1⟩, rfl⟩
  go_wp2_with fail
  refine HF2.out.mono ?_; rintro e w' ⟨⟨vb, rfl, hb2⟩, rfl⟩
  have HB1 := Lib.hid hb1
  have HB2 := Lib.hid hb2
  obtain ⟨pa, ca, rfl, _⟩ := hb1
  obtain ⟨pb, cb, rfl, _⟩ := hb2
  go_upto_region 2 with fail
  go_cut [0] (fun x wx => (∃ q : Int, x = .int .i64 q ∧ 0 ≤ q ∧ q < 1000) ∧ wx = w)
  case first =>
    go_wp2_with fail
    go_meet
    exact ⟨⟨_, rfl, by omega, by omega⟩, rfl⟩
  obtain ⟨⟨q, rfl, hq0, hq1⟩, rfl⟩ := hcut
  clear t1 t2
  go_wp2_with fail
  go_loopg [8, 7] l2.length (fun kx sx o wr => ∃ k : Nat, sx = .int .i64 k ∧ k ≤ l2.length ∧ l2.length - k ≤ kx ∧ Hid (BNew wc wr o (farL (l2.take k))) ∧ Hid ((farL (l2.take k)).length ≤ k))
  case atStart => exact ⟨0, by go_num, by omega, by omega, Lib.hid (BNew.nil wc), Lib.hid (by simp [farL])⟩
  case round =>
    obtain ⟨k, rfl, hk, hkx, HN, HNL⟩ := hrel
    by_cases hlt : k < l2.length
    · have t1 : (k : Int) < (l2.length : Int) := by omega
      obtain ⟨b, hb⟩ : ∃ b, l2[k]? = some b := ⟨_, List.getElem?_eq_getElem hlt⟩
      obtain ⟨gb, ob, cb', hv, hgb, hcb⟩ := (HB2.out.keep HN.out.2.1).cells hb
      simp only [Value.slice.injEq, true_and] at hv
      obtain ⟨rfl, rfl⟩ := hv
      have c0 := hcb 0 _ rfl
      have c1 := hcb 1 _ rfl
      have c2 := hcb 2 _ rfl
      have c3 := hcb 3 _ rfl
      have c4 := hcb 4 _ rfl
      have c5 := hcb 5 _ rfl
      have c6 := hcb 6 _ rfl
      have c7 := hcb 7 _ rfl
      have c8 := hcb 8 _ rfl
      have c9 := hcb 9 _ rfl
      have c10 := hcb 10 _ rfl
      simp only [Nat.add_zero] at c0
      obtain ⟨po, co, rfl⟩ := sl_frm HN.out.1
      have HST := Lib.hid (farL_take l2 k b hb)
      generalize hacc : farL (l2.take k) = acc at *
      have hal := HNL.out
      have HAC := Lib.hid hacc
      have hk0 : (0 : Int) ≤ (k : Int) := Int.natCast_nonneg k
      clear hacc HNL hcb hb
      obtain ⟨s, i, g, m, x, y, vx, vy, hp, pw, lf⟩ := b
      by_cases hpar : k % 2 = 0
      · have hpz : ((k : Int) % 2 == 0) = true := by simp; omega
        have he : farB k ⟨s, i, g, m, x, y, vx, vy, hp, pw, lf⟩ = ⟨s, i, g, m, 1073741824, -1073741824, vx, vy, hp, pw, lf⟩ := by unfold farB; rw [if_pos hpar]
        rw [he] at HST
        clear he hpar
        go_wp2_with (at_builtin; refine wpList_append_sl _ (by rfl) _ _ 22 (by rfl) 34 i0 _ 11 88 Try.underlying22 hi0 hz0 hz1 hz2 rfl (by omega) _ acc.length (bunCells acc) (by rfl) (HN.out.grow (by repeat' (first | (with_reducible exact Below.refl _ _) | (with_reducible assumption) | (with_reducible refine below_drewN ?_ _) | (with_reducible refine below_more _ _ _ ?_ ?_) | (with_reducible refine Below.alloc ?_ ?_ _) | (with_reducible refine Below.drew ?_) | (with_reducible refine Below.setCell ?_ ?_ _) | go_size))).1 ⟨_, 0, none⟩ 1 1 (bunL ⟨s, i, g, m, 1073741824, -1073741824, vx, vy, hp, pw, lf⟩) (by rfl) (by rfl) (new_cellsN _ _ _ _ (by simp)) (bunL_one _) (by omega) (by unfold maxLen; omega) (by omega) ?_; intro v' w4 hs4 ht4 ho4)
        have hm := (HN.out.grow (by repeat' (first | (with_reducible exact Below.refl _ _) | (with_reducible assumption) | (with_reducible refine below_drewN ?_ _) | (with_reducible refine below_more _ _ _ ?_ ?_) | (with_reducible refine Below.alloc ?_ ?_ _) | (with_reducible refine Below.drew ?_) | (with_reducible refine Below.setCell ?_ ?_ _) | go_size))).snoc hs4 ht4 ho4
        have HM := Lib.hid hm
        clear hs4 ht4 ho4 hm
        go_roundg (l2.length - (k + 1))
        case measure => omega
        case rel => exact ⟨k + 1, by go_num, by omega, by omega, Lib.hid (by rw [HST.out]; exact HM.out), Lib.hid (by rw [HST.out]; simp; omega)⟩
      · have hpz : ((k : Int) % 2 == 0) = false := by simp; omega
        have he : farB k ⟨s, i, g, m, x, y, vx, vy, hp, pw, lf⟩ = ⟨s, i, g, bits .andNot .i64 m 8, x, y, vx, vy, hp, pw, lf⟩ := by unfold farB; rw [if_neg hpar]
        rw [he] at HST
        clear he hpar
        go_wp2_with (at_builtin; refine wpList_append_sl _ (by rfl) _ _ 22 (by rfl) 34 i0 _ 11 88 Try.underlying22 hi0 hz0 hz1 hz2 rfl (by omega) _ acc.length (bunCells acc) (by rfl) (HN.out.grow (by repeat' (first | (with_reducible exact Below.refl _ _) | (with_reducible assumption) | (with_reducible refine below_drewN ?_ _) | (with_reducible refine below_more _ _ _ ?_ ?_) | (with_reducible refine Below.alloc ?_ ?_ _) | (with_reducible refine Below.drew ?_) | (with_reducible refine Below.setCell ?_ ?_ _) | go_size))).1 ⟨_, 0, none⟩ 1 1 (bunL ⟨s, i, g, bits .andNot .i64 m 8, x, y, vx, vy, hp, pw, lf⟩) (by rfl) (by rfl) (new_cellsN _ _ _ _ (by simp)) (bunL_one _) (by omega) (by unfold maxLen; omega) (by omega) ?_; intro v' w4 hs4 ht4 ho4)
        have hm := (HN.out.grow (by repeat' (first | (with_reducible exact Below.refl _ _) | (with_reducible assumption) | (with_reducible refine below_drewN ?_ _) | (with_reducible refine below_more _ _ _ ?_ ?_) | (with_reducible refine Below.alloc ?_ ?_ _) | (with_reducible refine Below.drew ?_) | (with_reducible refine Below.setCell ?_ ?_ _) | go_size))).snoc hs4 ht4 ho4
        have HM := Lib.hid hm
        clear hs4 ht4 ho4 hm
        go_roundg (l2.length - (k + 1))
        case measure => omega
        case rel => exact ⟨k + 1, by go_num, by omega, by omega, Lib.hid (by rw [HST.out]; exact HM.out), Lib.hid (by rw [HST.out]; simp; omega)⟩
    · have t1 : ¬ (k : Int) < (l2.length : Int) := by omega
      obtain rfl : k = l2.length := by omega
      rw [List.take_length] at HN HNL
      obtain ⟨po, co, hpo⟩ := sl_frm HN.out.1
      subst hpo
      have hfl : (farL l2).length ≤ 1000 := by unfold farL; simp; omega
      have HFH := Lib.hid (fun ho => farL_hits q hq1 l1 l2 ho)
      obtain ⟨wb, rfl⟩ : ∃ wb : World, wb = wr := ⟨_, rfl⟩
      generalize hfe : farL l2 = fl at *
      clear hfe HB2
      have hlb := HN.out.2.1.size
      go_wp2_with fail
      go_loopg [10] l1.length (fun kx sx wr => ∃ k : Nat, sx = .int .i64 k ∧ k ≤ l1.length ∧ l1.length - k ≤ kx ∧ Hid (∀ t b, t < k → l1[t]? = some b → b.x ≤ 536870912) ∧ Hid (wr = wb))
      case atStart => exact ⟨0, by go_num, by omega, by omega, Lib.hid (fun t b h => by omega), Lib.hid rfl⟩
      case round =>
        obtain ⟨k, rfl, hk, hkx, HX, HE⟩ := hrel
        obtain ⟨wd, rfl⟩ : ∃ wd : World, wd = wr := ⟨_, rfl⟩
        obtain rfl := HE.out
        clear HE
        by_cases hlt : k < l1.length
        · have t1 : (k : Int) < (l1.length : Int) := by omega
          obtain ⟨b, hb⟩ : ∃ b, l1[k]? = some b := ⟨_, List.getElem?_eq_getElem hlt⟩
          obtain ⟨gb, ob, cb', hv, hgb, hcb⟩ := (HB1.out.keep HN.out.2.1).cells hb
          simp only [Value.slice.injEq, true_and] at hv
          obtain ⟨rfl, rfl⟩ := hv
          have c4 := hcb 4 _ rfl
          have HBB := Lib.hid hb
          clear hcb hb
          obtain ⟨s, i, g, m, x, y, vx, vy, hp, pw, lf⟩ := b
          simp only at c4
          by_cases hx : 536870912 < x
          · go_wp2_with (go_at_call 17; refine (awake14 _).mono ?_; rintro e w' ⟨rfl, hb⟩; obtain ⟨d, os, rfl⟩ := more_of hb; clear hb)
            go_ret
            exact ⟨rfl, HN.out.2.1.trans (Below.mono (B := wd.heap.size) (by repeat' (first | (with_reducible exact Below.refl _ _) | (with_reducible assumption) | (with_reducible refine below_drewN ?_ _) | (with_reducible refine below_more _ _ _ ?_ ?_) | (with_reducible refine Below.alloc ?_ ?_ _) | (with_reducible refine Below.drew ?_) | (with_reducible refine Below.setCell ?_ ?_ _) | go_size)) HN.out.2.1.size)⟩
          · have hx2 : x ≤ 536870912 := by omega
            go_wp2_with fail
            go_roundg (l1.length - (k + 1))
            case measure => omega
            case rel => exact ⟨k + 1, by go_num, by omega, by omega, Lib.hid (fun t b ht hb => by
              by_cases htk : t = k
              · subst htk; have := HBB.out; rw [hb] at this; cases this; exact hx2
              · exact HX.out t b (by omega) hb), Lib.hid rfl⟩
        · have t1 : ¬ (k : Int) < (l1.length : Int) := by omega
          obtain rfl : k = l1.length := by omega
          have hfh := HFH.out fun b hb => by
            obtain ⟨t, ht, e⟩ := List.getElem_of_mem hb
            exact HX.out t b ht (by rw [← e]; exact List.getElem?_eq_getElem ht)
          have K1 := Lib.hid (fun W (hW : Below wd.heap.size wd W) => HB1.out.keep (HN.out.2.1.trans (hW.mono HN.out.2.1.size)))
          have q1 := hits_any q _ _ l1 fl wd (K1.out _ (Below.refl _ _)) HN.out.bin (by omega) hfl
          rw [hfh] at q1
          have Q1 := Lib.hid q1
          clear q1 hfh HX HFH
          go_wp2_with fail
          refine Q1.out.mono ?_
          rintro e w6 ⟨vx, rfl, hX⟩
          have HX := Lib.hid hX
          have b6 := hX.2.1
          have z6 := hX.2.1.size
          clear hX
          go_wp2_with fail
          refine (hits_any q _ _ l1 [] _ (K1.out _ b6) ⟨none, 0, rfl, by simp [maxLen], fun _ => rfl, Nat.le_refl _, fun h => absurd rfl h⟩ (by omega) (by simp)).mono ?_
          rintro e w7 ⟨vy, rfl, hY⟩
          have HY := Lib.hid hY
          have b7 : Below wd.heap.size wd w7 := b6.trans (hY.2.1.mono z6)
          have z7 := b7.size
          have HSX := Lib.hid (HX.out.grow hY.2.1).rin
          clear hY b6
          go_wp2_with fail
          refine (sameH_self _ _ _ _ HSX.out HY.out.rin).mono ?_; rintro e w' ⟨rfl, hb⟩; obtain ⟨d1, os1, rfl⟩ := more_of hb; clear hb
          go_wp2_with (go_at_call 17; refine (awake14 _).mono ?_; rintro e w' ⟨rfl, hb⟩; obtain ⟨d, os, rfl⟩ := more_of hb; clear hb)
          go_ret
          have b8 : Below wd.heap.size wd (more (more w7 d1 os1) d os) := (by repeat' (first | (with_reducible exact Below.refl _ _) | (with_reducible assumption) | (with_reducible refine below_drewN ?_ _) | (with_reducible refine below_more _ _ _ ?_ ?_) | (with_reducible refine Below.alloc ?_ ?_ _) | (with_reducible refine Below.drew ?_) | (with_reducible refine Below.setCell ?_ ?_ _) | go_size))
          exact ⟨rfl, HN.out.2.1.trans (b8.mono HN.out.2.1.size)⟩

set_option maxRecDepth 100000 in
theorem lifted (os : Os) (started : os.Started) (H : Type) (enc : TypeId × Value → H) :
    ReturnsInHanded {} Try.checked os 7 .any (Rows.systemsFarSpec.pre6 enc Try.prog Try.f7 Rows.systemsFarRow.domain false) (Rows.systemsFarSpec.post enc Try.prog Try.f7 false true false false) := by
  refine returnsInHanded_of_change (C := Try.checked) ownKnob0 started (by kernel_rfl) Try.func7
    (ChangeSpec.witness6 (enc := enc) (C := Try.checked) false ⟨#[], #[.int .i64 0, .slice none 0 0, .slice none 0 0], []⟩ 8 (by kernel_rfl) (by kernel_rfl) (by kernel_rfl) (by kernel_rfl)) ?_
  intro W base args ds gs before hval0 hW _ _
  have hval : ∀ (j : Nat) t v, Try.f7.params[j]? = some t → args[j]? = some v → Value.okWide Try.prog W .any base t v := hval0
  have hread : ∀ t ∈ Try.f7.params.toList, Try.prog.readableRec t = true ∧ t < Try.prog.types.size := by
    rw [Try.params7]
    intro t ht
    simp only [List.mem_cons, List.not_mem_nil, or_false] at ht
    rcases ht with rfl | rfl | rfl
    all_goals exact ⟨by kernel_rfl, of_decide_eq_true (by kernel_rfl)⟩
  have hW' := hW
  obtain ⟨p, q, hA0, hV, -, -⟩ := hW'
  have hA : DataW.TrodAll enc Try.prog W 0 (fun _ => true) true Try.f7.params.toList args.toList ds p := hA0
  rw [Try.params7] at hA hval
  obtain ⟨v0, vs0, d0, ds0, p0, q0, hargs, rfl, rfl, h0, r0⟩ := trodAll_cons hA
  obtain ⟨v1, vs1, d1, ds1, p1, q1, rfl, rfl, rfl, h1, r1⟩ := trodAll_cons r0
  obtain ⟨v2, vs2, d2, ds2, p2, q2, rfl, rfl, rfl, h2, r2⟩ := trodAll_cons r1
  obtain ⟨rfl, rfl, rfl⟩ := trodAll_nil r2
  obtain rfl : args = #[v0, v1, v2] := by cases args; simp_all
  obtain ⟨rfl, rfl⟩ := trodVars_none hV
  have k0 := hval 0 3 v0 rfl rfl
  have k1 := hval 1 22 v1 rfl rfl
  have k2 := hval 2 22 v2 rfl rfl
  clear hval hval0 hA0 hV hA
  obtain ⟨r, rfl, rfl, rfl, _⟩ := open_int Try.underlying3 k0 h0
  obtain ⟨l1, hl1, _⟩ := buns_in k1 h1
  obtain ⟨l2, hl2, _⟩ := buns_in k2 h2
  exact (walk r _ _ l1 l2 W hl1 hl2).mono fun e W' ⟨he, hb⟩ => ⟨_, he, post_true rfl rfl hread rfl hW hb⟩

/-- SystemsFar: true for every input; the arguments stay. -/
theorem proved : Rows.SystemsFarSaid :=
  OpenClaim.holds_of_wide 7 Try.f7 rfl rfl rfl rfl rfl rfl rfl ⟨rfl, rfl, rfl, rfl, rfl⟩ rfl rfl rfl rfl rfl (by kernel_rfl) Try.func7 (by kernel_rfl)
    (of_decide_eq_true (by kernel_rfl)) (by unfold Func.isWrapper; first | (rw [if_pos (by decide +kernel)]; kernel_rfl) | (rw [if_neg (by decide +kernel)]; exact ⟨rfl, rfl⟩))
    (fun os started H enc _ => lifted os started H enc)
end Go.Proofs.Ytloampfkjldmnaa.systemsFar

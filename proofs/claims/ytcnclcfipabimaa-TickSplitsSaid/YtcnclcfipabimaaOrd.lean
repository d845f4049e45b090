/-
  Chapter 15: Orders: the commands that may be, of unlike beginnings. Condition: the masks fit; not too many entities.
-/
import Derived.Test.YtcnclcfipabimaaMra
import Derived.Test.YtcnclcfipabimaaMtg
namespace Go.Proofs.Ytcnclcfipabimaa
open Go.RowKit

theorem info_cm : (Try.prog.info? 93).map (fun i => (i.zero, i.size, i.bytes)) = some (some (.agg #[.int .i64 0, .int .i64 0, .int .i64 0, .int .i64 0, .int .i64 0, .int .i64 0, .int .i64 0, .int .i64 0, .int .i64 0, .int .i64 0, .int .i64 0, .int .i64 0, .int .i64 0, .int .i64 0, .int .i64 0, .int .i64 0]), 16, 128) := by kernel_rfl
def ownB (l : List Bun) (m : Cm) : Bool := l.all fun b => !idEq b.s b.i b.g m.b.s m.b.i m.b.g
def begB (o : List Cm) (m : Cm) : Bool := o.all fun c => !(c.k == 1) || !idEq c.b.s c.b.i c.b.g m.b.s m.b.i m.b.g
def freshO (l : List Bun) (o : List Cm) (m : Cm) : Bool := cmdB m && (!(m.k == 1) || ownB l m && begB o m)
def addO (l : List Bun) (o : List Cm) (m : Cm) : List Cm := if freshO l o m then o ++ [m] else o
def ordTo (l : List Bun) (ms : List Cm) : List Cm := ms.foldl (addO l) []
/-- The commands that may be, of unlike beginnings. -/
def ordF (l : List Bun) (ms : List Cm) : List Cm := ordTo l (ms.take 40)
theorem ordTo_step (l : List Bun) {ms : List Cm} {t : Nat} {m : Cm} (h : ms[t]? = some m) : ordTo l (ms.take (t + 1)) = addO l (ordTo l (ms.take t)) m := by
  have hlt := (List.getElem?_eq_some_iff.1 h).1
  unfold ordTo
  rw [List.take_succ_eq_append_getElem hlt, (List.getElem?_eq_some_iff.1 h).2, List.foldl_append]; rfl
theorem addO_len (l : List Bun) (o : List Cm) (m : Cm) : (addO l o m).length ≤ o.length + 1 := by unfold addO; split <;> simp
theorem ordTo_len (l : List Bun) (ms : List Cm) : (ordTo l ms).length ≤ ms.length := by
  have key : ∀ (ms o : List Cm), (ms.foldl (addO l) o).length ≤ o.length + ms.length := fun ms => by
    induction ms with
    | nil => intro o; simp
    | cons m ms ih =>
      intro o
      rw [List.foldl_cons]
      have := ih (addO l o m)
      have := addO_len l o m
      simp only [List.length_cons]; omega
  simpa [ordTo] using key ms []
theorem ordTo_mem (l : List Bun) (P : Cm → Prop) : ∀ (ms : List Cm), (∀ m ∈ ms, P m) → ∀ m ∈ ordTo l ms, P m ∧ cmdB m = true := fun ms h => by
  have key : ∀ (ms o : List Cm), (∀ m ∈ ms, P m) → (∀ m ∈ o, P m ∧ cmdB m = true) → ∀ m ∈ ms.foldl (addO l) o, P m ∧ cmdB m = true := fun ms => by
    induction ms with
    | nil => intro o _ ho; exact ho
    | cons x ms ih =>
      intro o hm ho
      rw [List.foldl_cons]
      refine ih _ (fun m hx => hm m (List.mem_cons_of_mem _ hx)) fun m hx => ?_
      unfold addO at hx
      split at hx
      · rename_i hf
        rcases List.mem_append.1 hx with hx | hx
        · exact ho m hx
        · obtain rfl := List.mem_singleton.1 hx
          unfold freshO at hf
          simp only [Bool.and_eq_true] at hf
          exact ⟨hm m (by simp), hf.1⟩
      · exact ho m hx
  exact key ms [] h (fun m hm => by cases hm)
theorem ordF_len (l : List Bun) (ms : List Cm) : (ordF l ms).length ≤ 40 := by
  have := ordTo_len l (ms.take 40)
  unfold ordF
  rw [List.length_take] at this
  omega
theorem ordF_mem (l : List Bun) (P : Cm → Prop) (ms : List Cm) (h : ∀ m ∈ ms, P m) : ∀ m ∈ ordF l ms, P m ∧ cmdB m = true := ordTo_mem l P _ fun m hm => h m (List.mem_of_mem_take hm)

set_option maxRecDepth 100000 in
set_option maxHeartbeats 4000000 in
theorem orders_any (vl vc : Value) (l : List Bun) (ms : List Cm) (w : World) (hl : BIn w vl l) (hm : RIn cmC w vc ms) (hf : ∀ m ∈ ms, CmFit m) :
    Calls Try.prog 40 #[vl, vc] w fun e w' => ∃ v', e = .returned v' ∧ RNew cmC 93 16 w w' v' (ordF l ms) := by
  obtain ⟨j0, hj0, hy0, hy1, hy2⟩ := info_partsG info_cm
  have HL := Lib.hid hl; have HM := Lib.hid hm
  have HMC := Lib.hid (fun (m : Cm) (h : m ∈ ms) W => rMayCmd_s m.k m.s m.i m.g m.b.s m.b.i m.b.g m.b.m m.b.x m.b.y m.b.vx m.b.vy m.b.hp m.b.pw m.b.lf m.mask W (hf m h).1.2.2.2.1)
  have HST := Lib.hid (fun t m h => ordTo_step l (ms := ms) (t := t) (m := m) h)
  have HLN := Lib.hid (fun t => ordTo_len l (ms.take t))
  have hfin : ∀ t, t ≤ ms.length → t ≤ 40 → (ms.length ≤ t ∨ 40 ≤ t) → ordF l ms = ordTo l (ms.take t) := fun t h1 h2 h3 => by
    unfold ordF
    rcases h3 with h3 | h3
    · rw [List.take_of_length_le (by omega), List.take_of_length_le (by omega)]
    · rw [show t = 40 by omega]
  have HFIN := Lib.hid hfin
  have HAD := Lib.hid (fun (o : List Cm) (m : Cm) => (show addO l o m = if (cmdB m && (!(m.k == 1) || ownB l m && begB o m)) = true then o ++ [m] else o from rfl))
  clear hf hfin
  generalize ordF l ms = of at *
  obtain ⟨pl, el, rfl, hml, _⟩ := hl
  obtain ⟨pm, em, rfl, hmm, _⟩ := hm
  unfold maxLen at hml hmm
  go_enter Try.func40, Try.ntmps40
  go_wp2_with fail
  go_loopg [5, 6] ms.length (fun kx o sx wr => ∃ t : Nat, sx = .int .i64 t ∧ t ≤ ms.length ∧ t ≤ 40 ∧ ms.length - t ≤ kx ∧ Hid (RNew cmC 93 16 w wr o (ordTo l (ms.take t))))
  case atStart => exact ⟨0, by go_num, by omega, by omega, by omega, Lib.hid (RNew.nil w)⟩
  case round =>
    obtain ⟨t, rfl, ht, ht4, hkx, HN⟩ := hrel
    obtain ⟨wa, rfl⟩ : ∃ wa : World, wa = wr := ⟨_, rfl⟩
    have hln := HLN.out t
    rw [List.length_take] at hln
    obtain ⟨po, co, hpo⟩ := sl_frm HN.out.1
    subst hpo
    by_cases hlt : t < ms.length
    · have t1 : (t : Int) < (ms.length : Int) := by omega
      by_cases h40 : t < 40
      · have t2 : (t : Int) < 40 := by omega
        obtain ⟨m0, hm0⟩ : ∃ m0, ms[t]? = some m0 := ⟨_, List.getElem?_eq_getElem hlt⟩
        have HMA := Lib.hid (HM.out.keep HN.out.2.1)
        obtain ⟨gb, ob, cb, hv, hgb, hcb⟩ := HMA.out.cells cmC_len hm0
        simp only [Value.slice.injEq, true_and] at hv
        obtain ⟨rfl, rfl⟩ := hv
        have c0 := hcb 0 _ rfl; have c1 := hcb 1 _ rfl; have c2 := hcb 2 _ rfl; have c3 := hcb 3 _ rfl; have c4 := hcb 4 _ rfl; have c5 := hcb 5 _ rfl; have c6 := hcb 6 _ rfl; have c7 := hcb 7 _ rfl; have c8 := hcb 8 _ rfl; have c9 := hcb 9 _ rfl; have c10 := hcb 10 _ rfl; have c11 := hcb 11 _ rfl; have c12 := hcb 12 _ rfl; have c13 := hcb 13 _ rfl; have c14 := hcb 14 _ rfl; have c15 := hcb 15 _ rfl
        simp only [Nat.add_zero] at c0
        obtain ⟨e0, e1, e2⟩ := ltz hgb
        have HSX := Lib.hid (HST.out t m0 hm0)
        have HCX := Lib.hid (HMC.out m0 (List.mem_of_getElem? hm0))
        have HX0 := Lib.hid hm0
        have HAX := Lib.hid (HAD.out (ordTo l (ms.take t)) m0)
        have HCB := Lib.hid hcb
        clear hcb hm0
        generalize ordTo l (ms.take t) = acc at *
        generalize hmy : cmdB m0 = my at *
        have HMY := Lib.hid hmy
        clear hmy
        generalize hm1 : m0 = m1 at *
        obtain ⟨k, s, i, g, ⟨es, ei, eg, m, x, y, vx, vy, hp, pw, lf⟩, mask⟩ := m1
        have HM1 := Lib.hid hm1
        clear hm1
        simp only at HCX HAX c0 c1 c2 c3 c4 c5 c6 c7 c8 c9 c10 c11 c12 c13 c14 c15
        go_wp2_with fail
        refine (HCX.out _).mono ?_; rintro e w' ⟨rfl, hb⟩; obtain ⟨d1, os1, rfl⟩ := more_of hb; clear hb
        generalize hw2 : more wa d1 os1 = w2
        have hb2 : Below wa.heap.size wa w2 := by rw [← hw2]; exact more_below _ _ _
        have HB2 := Lib.hid hb2
        have HL2 := Lib.hid (HL.out.keep (HN.out.2.1.trans (hb2.mono HN.out.2.1.size)))
        have HN2 := Lib.hid (HN.out.grow hb2)
        have HCC := Lib.hid (fun W (hW : Below wa.heap.size wa W) j u (hj : (cmC ⟨k, s, i, g, ⟨es, ei, eg, m, x, y, vx, vy, hp, pw, lf⟩, mask⟩)[j]? = some u) => (hW.cell (p := ⟨gb, ob + t * 16 + j, none⟩) hgb).trans (HCB.out j u hj))
        have sgb := hgb
        clear hw2 hb2 HN HMA HMC HCX HCB HST HLN c0 c1 c2 c3 c4 c5 c6 c7 c8 c9 c10 c11 c12 c13 c14 c15 e0 e1 e2
        by_cases hk : k = 1
        · subst hk
          have hax := HAX.out
          rw [show (my && (!((1 : Int) == 1) || ownB l ⟨1, s, i, g, ⟨es, ei, eg, m, x, y, vx, vy, hp, pw, lf⟩, mask⟩ && begB acc ⟨1, s, i, g, ⟨es, ei, eg, m, x, y, vx, vy, hp, pw, lf⟩, mask⟩)) = ((my && ownB l ⟨1, s, i, g, ⟨es, ei, eg, m, x, y, vx, vy, hp, pw, lf⟩, mask⟩) && begB acc ⟨1, s, i, g, ⟨es, ei, eg, m, x, y, vx, vy, hp, pw, lf⟩, mask⟩) from by cases my <;> simp] at hax
          have HAY := Lib.hid hax
          clear hax HAX
          go_wp2_with fail
          go_loopg [7, 8] l.length (fun kx f sx wr => ∃ q : Nat, sx = .int .i64 q ∧ q ≤ l.length ∧ l.length - q ≤ kx ∧ f = .bool (my && (l.take q).all fun b => !idEq b.s b.i b.g es ei eg) ∧ Hid (Below w2.heap.size w2 wr))
          case atStart => exact ⟨0, by go_num, by omega, by omega, by simp, Lib.hid (Below.refl _ _)⟩
          case round =>
            obtain ⟨q, rfl, hq, hkq, rfl, HW⟩ := hrel
            obtain ⟨wb, rfl⟩ : ∃ wb : World, wb = wr := ⟨_, rfl⟩
            have hba := HB2.out.trans (HW.out.mono HB2.out.size)
            have HBA := Lib.hid hba
            have sgc := Nat.lt_of_lt_of_le sgb hba.size
            have c0 := HCC.out _ hba 0 _ rfl; have c4 := HCC.out _ hba 4 _ rfl; have c5 := HCC.out _ hba 5 _ rfl; have c6 := HCC.out _ hba 6 _ rfl
            simp only [Nat.add_zero] at c0
            clear hba
            by_cases hlq : q < l.length
            · have t3 : (q : Int) < (l.length : Int) := by omega
              obtain ⟨y0, hy0⟩ : ∃ y0, l[q]? = some y0 := ⟨_, List.getElem?_eq_getElem hlq⟩
              obtain ⟨gc, oc, cc, hv, hgc, hcc⟩ := (HL2.out.keep HW.out).cells hy0
              simp only [Value.slice.injEq, true_and] at hv
              obtain ⟨rfl, rfl⟩ := hv
              have x0 := hcc 0 _ rfl
              have x1 := hcc 1 _ rfl
              have x2 := hcc 2 _ rfl
              simp only [Nat.add_zero] at x0
              have hst : (my && (l.take (q + 1)).all fun b => !idEq b.s b.i b.g es ei eg) = ((my && (l.take q).all fun b => !idEq b.s b.i b.g es ei eg) && !idEq y0.s y0.i y0.g es ei eg) := by
                rw [List.take_succ_eq_append_getElem hlq, List.all_append, (List.getElem?_eq_some_iff.1 hy0).2, Bool.and_assoc]; simp
              have HST2 := Lib.hid hst
              clear hst hcc hy0
              generalize (my && (l.take q).all fun b => !idEq b.s b.i b.g es ei eg) = fl at *
              go_wp2_with fail
              cases fl with
              | false =>
                refine wp_region_more (by kernel_rfl) (by kernel_rfl) ?_
                repeat (go_big_quiet_step (fail))
                refine wpQuiet_nil ?_
                rintro _ ⟨pq1, rfl⟩
                go_wp2_with fail
                go_roundg (l.length - (q + 1))
                case measure => omega
                case rel => exact ⟨q + 1, by go_num, by omega, by omega, by rw [HST2.out]; rfl, Lib.hid (HW.out.trans (Below.mono (B := wb.heap.size) (by repeat' (first | (with_reducible exact Below.refl _ _) | (with_reducible assumption) | (with_reducible refine below_drewN ?_ _) | (with_reducible refine below_more _ _ _ ?_ ?_) | (with_reducible refine Below.alloc ?_ ?_ _) | (with_reducible refine Below.drew ?_) | (with_reducible refine Below.setCell ?_ ?_ _) | go_size)) HW.out.size))⟩
              | true =>
                refine wp_region_more (by kernel_rfl) (by kernel_rfl) ?_
                repeat (go_big_quiet_step (fail))
                refine wpQuiet_nil ?_
                rintro _ ⟨pq1, rfl⟩
                go_wp2_with fail
                go_roundg (l.length - (q + 1))
                case measure => omega
                case rel => exact ⟨q + 1, by go_num, by omega, by omega, by rw [HST2.out]; simp, Lib.hid (HW.out.trans (Below.mono (B := wb.heap.size) (by repeat' (first | (with_reducible exact Below.refl _ _) | (with_reducible assumption) | (with_reducible refine below_drewN ?_ _) | (with_reducible refine below_more _ _ _ ?_ ?_) | (with_reducible refine Below.alloc ?_ ?_ _) | (with_reducible refine Below.drew ?_) | (with_reducible refine Below.setCell ?_ ?_ _) | go_size)) HW.out.size))⟩
            · have t3 : ¬ (q : Int) < (l.length : Int) := by omega
              obtain rfl : q = l.length := by omega
              rw [List.take_length]
              have hfl : (my && l.all fun b => !idEq b.s b.i b.g es ei eg) = (my && ownB l ⟨1, s, i, g, ⟨es, ei, eg, m, x, y, vx, vy, hp, pw, lf⟩, mask⟩) := rfl
              rw [hfl]
              generalize (my && ownB l ⟨1, s, i, g, ⟨es, ei, eg, m, x, y, vx, vy, hp, pw, lf⟩, mask⟩) = f1 at *
              have hbeg : begB acc ⟨1, s, i, g, ⟨es, ei, eg, m, x, y, vx, vy, hp, pw, lf⟩, mask⟩ = acc.all fun c => !(c.k == 1) || !idEq c.b.s c.b.i c.b.g es ei eg := rfl
              rw [hbeg] at HAY
              have HN3 := Lib.hid (HN2.out.grow HW.out)
              have hal : acc.length ≤ t := by omega
              clear hfl hbeg HL2 HN2
              go_wp2_with fail
              go_loopg [7, 9] acc.length (fun kx f sx wr => ∃ u : Nat, sx = .int .i64 u ∧ u ≤ acc.length ∧ acc.length - u ≤ kx ∧ f = .bool (f1 && (acc.take u).all fun c => !(c.k == 1) || !idEq c.b.s c.b.i c.b.g es ei eg) ∧ Hid (Below wb.heap.size wb wr))
              case atStart => exact ⟨0, by go_num, by omega, by omega, by simp, Lib.hid (Below.refl _ _)⟩
              case round =>
                clear c0 c4 c5 c6
                obtain ⟨u, rfl, hu, hku, rfl, HU⟩ := hrel
                obtain ⟨wd, rfl⟩ : ∃ wd : World, wd = wr := ⟨_, rfl⟩
                have hbd := HBA.out.trans (HU.out.mono HBA.out.size)
                have sgd := Nat.lt_of_lt_of_le sgb hbd.size
                have c0 := HCC.out _ hbd 0 _ rfl; have c1 := HCC.out _ hbd 1 _ rfl; have c2 := HCC.out _ hbd 2 _ rfl; have c3 := HCC.out _ hbd 3 _ rfl; have c4 := HCC.out _ hbd 4 _ rfl; have c5 := HCC.out _ hbd 5 _ rfl; have c6 := HCC.out _ hbd 6 _ rfl; have c7 := HCC.out _ hbd 7 _ rfl; have c8 := HCC.out _ hbd 8 _ rfl; have c9 := HCC.out _ hbd 9 _ rfl; have c10 := HCC.out _ hbd 10 _ rfl; have c11 := HCC.out _ hbd 11 _ rfl; have c12 := HCC.out _ hbd 12 _ rfl; have c13 := HCC.out _ hbd 13 _ rfl; have c14 := HCC.out _ hbd 14 _ rfl; have c15 := HCC.out _ hbd 15 _ rfl
                simp only [Nat.add_zero] at c0
                clear hbd
                by_cases hlu : u < acc.length
                · have t4 : (u : Int) < (acc.length : Int) := by omega
                  obtain ⟨z0, hz0⟩ : ∃ z0, acc[u]? = some z0 := ⟨_, List.getElem?_eq_getElem hlu⟩
                  obtain ⟨gd, od, cd, hv, hgd, hcd⟩ := (HN3.out.rin.keep HU.out).cells cmC_len hz0
                  simp only [Value.slice.injEq, true_and] at hv
                  obtain ⟨rfl, rfl⟩ := hv
                  have x0 := hcd 0 _ rfl
                  have x4 := hcd 4 _ rfl
                  have x5 := hcd 5 _ rfl
                  have x6 := hcd 6 _ rfl
                  simp only [Nat.add_zero] at x0
                  have hst : (f1 && (acc.take (u + 1)).all fun c => !(c.k == 1) || !idEq c.b.s c.b.i c.b.g es ei eg) = ((f1 && (acc.take u).all fun c => !(c.k == 1) || !idEq c.b.s c.b.i c.b.g es ei eg) && (!(z0.k == 1) || !idEq z0.b.s z0.b.i z0.b.g es ei eg)) := by
                    rw [List.take_succ_eq_append_getElem hlu, List.all_append, (List.getElem?_eq_some_iff.1 hz0).2, Bool.and_assoc]; simp
                  have HST2 := Lib.hid hst
                  clear hst hcd hz0
                  generalize (f1 && (acc.take u).all fun c => !(c.k == 1) || !idEq c.b.s c.b.i c.b.g es ei eg) = fl at *
                  obtain ⟨zk, zs, zi, zg, ⟨zbs, zbi, zbg, zm, zx, zy, zvx, zvy, zhp, zpw, zlf⟩, zmask⟩ := z0
                  simp only at x0 x4 x5 x6 HST2
                  
                  cases fl with
                  | false =>
                    go_wp2_with fail
                    refine wp_region_more (by kernel_rfl) (by kernel_rfl) ?_
                    repeat (go_big_quiet_step (fail))
                    refine wpQuiet_nil ?_
                    rintro _ ⟨pq1, rfl⟩
                    go_wp2_with fail
                    go_roundg (acc.length - (u + 1))
                    case measure => omega
                    case rel => exact ⟨u + 1, by go_num, by omega, by omega, by rw [HST2.out]; rfl, Lib.hid (HU.out.trans (Below.mono (B := wd.heap.size) (by repeat' (first | (with_reducible exact Below.refl _ _) | (with_reducible assumption) | (with_reducible refine below_drewN ?_ _) | (with_reducible refine below_more _ _ _ ?_ ?_) | (with_reducible refine Below.alloc ?_ ?_ _) | (with_reducible refine Below.drew ?_) | (with_reducible refine Below.setCell ?_ ?_ _) | go_size)) HU.out.size))⟩
                  | true =>
                    by_cases hzk : zk = 1
                    · subst hzk
                      go_wp2_with fail
                      refine wp_region_more (by kernel_rfl) (by kernel_rfl) ?_
                      repeat (go_big_quiet_step (fail))
                      refine wpQuiet_nil ?_
                      rintro _ ⟨pq1, rfl⟩
                      go_wp2_with fail
                      go_roundg (acc.length - (u + 1))
                      case measure => omega
                      case rel => exact ⟨u + 1, by go_num, by omega, by omega, by rw [HST2.out]; simp, Lib.hid (HU.out.trans (Below.mono (B := wd.heap.size) (by repeat' (first | (with_reducible exact Below.refl _ _) | (with_reducible assumption) | (with_reducible refine below_drewN ?_ _) | (with_reducible refine below_more _ _ _ ?_ ?_) | (with_reducible refine Below.alloc ?_ ?_ _) | (with_reducible refine Below.drew ?_) | (with_reducible refine Below.setCell ?_ ?_ _) | go_size)) HU.out.size))⟩
                    · have hzk2 : (zk == 1) = false := by simpa using hzk
                      have hzk3 : (zk != 1) = true := by simpa using hzk
                      rw [hzk2] at HST2
                      go_wp2_with fail
                      refine wp_region_more (by kernel_rfl) (by kernel_rfl) ?_
                      repeat (go_big_quiet_step (fail))
                      refine wpQuiet_nil ?_
                      rintro _ ⟨pq1, rfl⟩
                      go_wp2_with fail
                      go_roundg (acc.length - (u + 1))
                      case measure => omega
                      case rel => exact ⟨u + 1, by go_num, by omega, by omega, by rw [HST2.out]; simp, Lib.hid (HU.out.trans (Below.mono (B := wd.heap.size) (by repeat' (first | (with_reducible exact Below.refl _ _) | (with_reducible assumption) | (with_reducible refine below_drewN ?_ _) | (with_reducible refine below_more _ _ _ ?_ ?_) | (with_reducible refine Below.alloc ?_ ?_ _) | (with_reducible refine Below.drew ?_) | (with_reducible refine Below.setCell ?_ ?_ _) | go_size)) HU.out.size))⟩
                · have t4 : ¬ (u : Int) < (acc.length : Int) := by omega
                  obtain rfl : u = acc.length := by omega
                  rw [List.take_length]
                  generalize (f1 && acc.all fun c => !(c.k == 1) || !idEq c.b.s c.b.i c.b.g es ei eg) = fl at *
                  have HBZ := Lib.hid (HU.out)
                  have HN3' := Lib.hid (HN3.out.grow HU.out)
                  cases fl with
                  | false =>
                    have hay := HAY.out
                    simp only [Bool.false_eq_true, if_false] at hay
                    have HAZ := Lib.hid hay
                    clear hay
                    go_wp2_with fail
                    go_roundg (ms.length - (t + 1))
                    case measure => omega
                    case rel => exact ⟨t + 1, by go_num, by omega, by omega, by omega, Lib.hid (by rw [HSX.out, HAZ.out]; exact HN3'.out)⟩
                  | true =>
                    have hay := HAY.out
                    simp only [if_true] at hay
                    have HAZ := Lib.hid hay
                    clear hay
                    go_wp2_with (at_builtin; refine wpList_append_sl _ (by rfl) _ _ 37 (by rfl) 93 j0 _ 16 128 Try.underlying37 hj0 hy0 hy1 hy2 rfl (by omega) _ acc.length (cellsR cmC acc) (by rfl) (HN3'.out.grow (by repeat' (first | (with_reducible exact Below.refl _ _) | (with_reducible assumption) | (with_reducible refine below_drewN ?_ _) | (with_reducible refine below_more _ _ _ ?_ ?_) | (with_reducible refine Below.alloc ?_ ?_ _) | (with_reducible refine Below.drew ?_) | (with_reducible refine Below.setCell ?_ ?_ _) | go_size))).1 ⟨_, 0, none⟩ 1 1 (cmC ⟨1, s, i, g, ⟨es, ei, eg, m, x, y, vx, vy, hp, pw, lf⟩, mask⟩) (by rfl) (by rfl) (new_cellsN _ _ _ _ (by simp)) (cmC_one _) (by omega) (by unfold maxLen; omega) (by omega) ?_; intro v' w4 hs4 ht4 ho4)
                    have hm := (HN3'.out.grow (by repeat' (first | (with_reducible exact Below.refl _ _) | (with_reducible assumption) | (with_reducible refine below_drewN ?_ _) | (with_reducible refine below_more _ _ _ ?_ ?_) | (with_reducible refine Below.alloc ?_ ?_ _) | (with_reducible refine Below.drew ?_) | (with_reducible refine Below.setCell ?_ ?_ _) | go_size))).snoc hs4 ht4 ho4
                    have HM4 := Lib.hid hm
                    clear hs4 ht4 ho4 hm
                    go_roundg (ms.length - (t + 1))
                    case measure => omega
                    case rel => exact ⟨t + 1, by go_num, by omega, by omega, by omega, Lib.hid (by rw [HSX.out, HAZ.out]; exact HM4.out)⟩
        · have hk2 : (k == 1) = false := by simpa using hk
          have hax := HAX.out
          rw [hk2, show (my && (!false || ownB l ⟨k, s, i, g, ⟨es, ei, eg, m, x, y, vx, vy, hp, pw, lf⟩, mask⟩ && begB acc ⟨k, s, i, g, ⟨es, ei, eg, m, x, y, vx, vy, hp, pw, lf⟩, mask⟩)) = my from by simp] at hax
          have HAY := Lib.hid hax
          clear hax HAX
          go_wp2_with fail
          go_loopg [7, 8] 0 (fun kx f sx wr => sx = .int .i64 0 ∧ f = .bool my ∧ w2 = wr)
          case atStart => exact ⟨rfl, rfl, rfl⟩
          case round =>
            obtain ⟨rfl, rfl, rfl⟩ := hrel
            have c0 := HCC.out _ HB2.out 0 _ rfl; have c1 := HCC.out _ HB2.out 1 _ rfl; have c2 := HCC.out _ HB2.out 2 _ rfl; have c3 := HCC.out _ HB2.out 3 _ rfl; have c4 := HCC.out _ HB2.out 4 _ rfl; have c5 := HCC.out _ HB2.out 5 _ rfl; have c6 := HCC.out _ HB2.out 6 _ rfl; have c7 := HCC.out _ HB2.out 7 _ rfl; have c8 := HCC.out _ HB2.out 8 _ rfl; have c9 := HCC.out _ HB2.out 9 _ rfl; have c10 := HCC.out _ HB2.out 10 _ rfl; have c11 := HCC.out _ HB2.out 11 _ rfl; have c12 := HCC.out _ HB2.out 12 _ rfl; have c13 := HCC.out _ HB2.out 13 _ rfl; have c14 := HCC.out _ HB2.out 14 _ rfl; have c15 := HCC.out _ HB2.out 15 _ rfl
            simp only [Nat.add_zero] at c0
            have sgc := Nat.lt_of_lt_of_le sgb HB2.out.size
            
            by_cases hll : 0 < l.length
            · have t3 : (0 : Int) < (l.length : Int) := by omega
              go_wp2_with fail
              go_loopg [7, 9] 0 (fun kx f sx wr => sx = .int .i64 0 ∧ f = .bool my ∧ w2 = wr)
              case atStart => exact ⟨rfl, rfl, rfl⟩
              case round =>
                obtain ⟨rfl, rfl, rfl⟩ := hrel
                by_cases hla : 0 < acc.length
                · have t4 : (0 : Int) < (acc.length : Int) := by omega
                  cases my with
                  | false =>
                    have hay := HAY.out
                    simp only [Bool.false_eq_true, if_false] at hay
                    have HAZ := Lib.hid hay
                    clear hay
                    go_wp2_with fail
                    go_roundg (ms.length - (t + 1))
                    case measure => omega
                    case rel => exact ⟨t + 1, by go_num, by omega, by omega, by omega, Lib.hid (by rw [HSX.out, HAZ.out]; exact HN2.out)⟩
                  | true =>
                    have hay := HAY.out
                    simp only [if_true] at hay
                    have HAZ := Lib.hid hay
                    clear hay
                    go_wp2_with (at_builtin; refine wpList_append_sl _ (by rfl) _ _ 37 (by rfl) 93 j0 _ 16 128 Try.underlying37 hj0 hy0 hy1 hy2 rfl (by omega) _ acc.length (cellsR cmC acc) (by rfl) (HN2.out.grow (by repeat' (first | (with_reducible exact Below.refl _ _) | (with_reducible assumption) | (with_reducible refine below_drewN ?_ _) | (with_reducible refine below_more _ _ _ ?_ ?_) | (with_reducible refine Below.alloc ?_ ?_ _) | (with_reducible refine Below.drew ?_) | (with_reducible refine Below.setCell ?_ ?_ _) | go_size))).1 ⟨_, 0, none⟩ 1 1 (cmC ⟨k, s, i, g, ⟨es, ei, eg, m, x, y, vx, vy, hp, pw, lf⟩, mask⟩) (by rfl) (by rfl) (new_cellsN _ _ _ _ (by simp)) (cmC_one _) (by omega) (by unfold maxLen; omega) (by omega) ?_; intro v' w4 hs4 ht4 ho4)
                    have hm := (HN2.out.grow (by repeat' (first | (with_reducible exact Below.refl _ _) | (with_reducible assumption) | (with_reducible refine below_drewN ?_ _) | (with_reducible refine below_more _ _ _ ?_ ?_) | (with_reducible refine Below.alloc ?_ ?_ _) | (with_reducible refine Below.drew ?_) | (with_reducible refine Below.setCell ?_ ?_ _) | go_size))).snoc hs4 ht4 ho4
                    have HM4 := Lib.hid hm
                    clear hs4 ht4 ho4 hm
                    go_roundg (ms.length - (t + 1))
                    case measure => omega
                    case rel => exact ⟨t + 1, by go_num, by omega, by omega, by omega, Lib.hid (by rw [HSX.out, HAZ.out]; exact HM4.out)⟩
                · have t4 : ¬ (0 : Int) < (acc.length : Int) := by omega
                  cases my with
                  | false =>
                    have hay := HAY.out
                    simp only [Bool.false_eq_true, if_false] at hay
                    have HAZ := Lib.hid hay
                    clear hay
                    go_wp2_with fail
                    go_roundg (ms.length - (t + 1))
                    case measure => omega
                    case rel => exact ⟨t + 1, by go_num, by omega, by omega, by omega, Lib.hid (by rw [HSX.out, HAZ.out]; exact HN2.out)⟩
                  | true =>
                    have hay := HAY.out
                    simp only [if_true] at hay
                    have HAZ := Lib.hid hay
                    clear hay
                    go_wp2_with (at_builtin; refine wpList_append_sl _ (by rfl) _ _ 37 (by rfl) 93 j0 _ 16 128 Try.underlying37 hj0 hy0 hy1 hy2 rfl (by omega) _ acc.length (cellsR cmC acc) (by rfl) (HN2.out.grow (by repeat' (first | (with_reducible exact Below.refl _ _) | (with_reducible assumption) | (with_reducible refine below_drewN ?_ _) | (with_reducible refine below_more _ _ _ ?_ ?_) | (with_reducible refine Below.alloc ?_ ?_ _) | (with_reducible refine Below.drew ?_) | (with_reducible refine Below.setCell ?_ ?_ _) | go_size))).1 ⟨_, 0, none⟩ 1 1 (cmC ⟨k, s, i, g, ⟨es, ei, eg, m, x, y, vx, vy, hp, pw, lf⟩, mask⟩) (by rfl) (by rfl) (new_cellsN _ _ _ _ (by simp)) (cmC_one _) (by omega) (by unfold maxLen; omega) (by omega) ?_; intro v' w4 hs4 ht4 ho4)
                    have hm := (HN2.out.grow (by repeat' (first | (with_reducible exact Below.refl _ _) | (with_reducible assumption) | (with_reducible refine below_drewN ?_ _) | (with_reducible refine below_more _ _ _ ?_ ?_) | (with_reducible refine Below.alloc ?_ ?_ _) | (with_reducible refine Below.drew ?_) | (with_reducible refine Below.setCell ?_ ?_ _) | go_size))).snoc hs4 ht4 ho4
                    have HM4 := Lib.hid hm
                    clear hs4 ht4 ho4 hm
                    go_roundg (ms.length - (t + 1))
                    case measure => omega
                    case rel => exact ⟨t + 1, by go_num, by omega, by omega, by omega, Lib.hid (by rw [HSX.out, HAZ.out]; exact HM4.out)⟩
            · have t3 : ¬ (0 : Int) < (l.length : Int) := by omega
              go_wp2_with fail
              go_loopg [7, 9] 0 (fun kx f sx wr => sx = .int .i64 0 ∧ f = .bool my ∧ w2 = wr)
              case atStart => exact ⟨rfl, rfl, rfl⟩
              case round =>
                obtain ⟨rfl, rfl, rfl⟩ := hrel
                by_cases hla : 0 < acc.length
                · have t4 : (0 : Int) < (acc.length : Int) := by omega
                  cases my with
                  | false =>
                    have hay := HAY.out
                    simp only [Bool.false_eq_true, if_false] at hay
                    have HAZ := Lib.hid hay
                    clear hay
                    go_wp2_with fail
                    go_roundg (ms.length - (t + 1))
                    case measure => omega
                    case rel => exact ⟨t + 1, by go_num, by omega, by omega, by omega, Lib.hid (by rw [HSX.out, HAZ.out]; exact HN2.out)⟩
                  | true =>
                    have hay := HAY.out
                    simp only [if_true] at hay
                    have HAZ := Lib.hid hay
                    clear hay
                    go_wp2_with (at_builtin; refine wpList_append_sl _ (by rfl) _ _ 37 (by rfl) 93 j0 _ 16 128 Try.underlying37 hj0 hy0 hy1 hy2 rfl (by omega) _ acc.length (cellsR cmC acc) (by rfl) (HN2.out.grow (by repeat' (first | (with_reducible exact Below.refl _ _) | (with_reducible assumption) | (with_reducible refine below_drewN ?_ _) | (with_reducible refine below_more _ _ _ ?_ ?_) | (with_reducible refine Below.alloc ?_ ?_ _) | (with_reducible refine Below.drew ?_) | (with_reducible refine Below.setCell ?_ ?_ _) | go_size))).1 ⟨_, 0, none⟩ 1 1 (cmC ⟨k, s, i, g, ⟨es, ei, eg, m, x, y, vx, vy, hp, pw, lf⟩, mask⟩) (by rfl) (by rfl) (new_cellsN _ _ _ _ (by simp)) (cmC_one _) (by omega) (by unfold maxLen; omega) (by omega) ?_; intro v' w4 hs4 ht4 ho4)
                    have hm := (HN2.out.grow (by repeat' (first | (with_reducible exact Below.refl _ _) | (with_reducible assumption) | (with_reducible refine below_drewN ?_ _) | (with_reducible refine below_more _ _ _ ?_ ?_) | (with_reducible refine Below.alloc ?_ ?_ _) | (with_reducible refine Below.drew ?_) | (with_reducible refine Below.setCell ?_ ?_ _) | go_size))).snoc hs4 ht4 ho4
                    have HM4 := Lib.hid hm
                    clear hs4 ht4 ho4 hm
                    go_roundg (ms.length - (t + 1))
                    case measure => omega
                    case rel => exact ⟨t + 1, by go_num, by omega, by omega, by omega, Lib.hid (by rw [HSX.out, HAZ.out]; exact HM4.out)⟩
                · have t4 : ¬ (0 : Int) < (acc.length : Int) := by omega
                  cases my with
                  | false =>
                    have hay := HAY.out
                    simp only [Bool.false_eq_true, if_false] at hay
                    have HAZ := Lib.hid hay
                    clear hay
                    go_wp2_with fail
                    go_roundg (ms.length - (t + 1))
                    case measure => omega
                    case rel => exact ⟨t + 1, by go_num, by omega, by omega, by omega, Lib.hid (by rw [HSX.out, HAZ.out]; exact HN2.out)⟩
                  | true =>
                    have hay := HAY.out
                    simp only [if_true] at hay
                    have HAZ := Lib.hid hay
                    clear hay
                    go_wp2_with (at_builtin; refine wpList_append_sl _ (by rfl) _ _ 37 (by rfl) 93 j0 _ 16 128 Try.underlying37 hj0 hy0 hy1 hy2 rfl (by omega) _ acc.length (cellsR cmC acc) (by rfl) (HN2.out.grow (by repeat' (first | (with_reducible exact Below.refl _ _) | (with_reducible assumption) | (with_reducible refine below_drewN ?_ _) | (with_reducible refine below_more _ _ _ ?_ ?_) | (with_reducible refine Below.alloc ?_ ?_ _) | (with_reducible refine Below.drew ?_) | (with_reducible refine Below.setCell ?_ ?_ _) | go_size))).1 ⟨_, 0, none⟩ 1 1 (cmC ⟨k, s, i, g, ⟨es, ei, eg, m, x, y, vx, vy, hp, pw, lf⟩, mask⟩) (by rfl) (by rfl) (new_cellsN _ _ _ _ (by simp)) (cmC_one _) (by omega) (by unfold maxLen; omega) (by omega) ?_; intro v' w4 hs4 ht4 ho4)
                    have hm := (HN2.out.grow (by repeat' (first | (with_reducible exact Below.refl _ _) | (with_reducible assumption) | (with_reducible refine below_drewN ?_ _) | (with_reducible refine below_more _ _ _ ?_ ?_) | (with_reducible refine Below.alloc ?_ ?_ _) | (with_reducible refine Below.drew ?_) | (with_reducible refine Below.setCell ?_ ?_ _) | go_size))).snoc hs4 ht4 ho4
                    have HM4 := Lib.hid hm
                    clear hs4 ht4 ho4 hm
                    go_roundg (ms.length - (t + 1))
                    case measure => omega
                    case rel => exact ⟨t + 1, by go_num, by omega, by omega, by omega, Lib.hid (by rw [HSX.out, HAZ.out]; exact HM4.out)⟩
      · have t2 : ¬ (t : Int) < 40 := by omega
        go_wp2_with fail
        go_ret
        exact ⟨_, rfl, by rw [HFIN.out t ht ht4 (by omega)]; exact HN.out⟩
    · have t1 : ¬ (t : Int) < (ms.length : Int) := by omega
      go_wp2_with fail
      go_ret
      exact ⟨_, rfl, by rw [HFIN.out t ht ht4 (by omega)]; exact HN.out⟩
end Go.Proofs.Ytcnclcfipabimaa

/-
  Package zones: Beside of a zone that there is not. Condition: the world may be.
-/
import Derived.Test.YtloampfkjldmnaaZnB
namespace Go.Proofs.Ytloampfkjldmnaa
open Go.RowKit

set_option maxRecDepth 100000 in
set_option maxHeartbeats 1000000 in
theorem beside_out (w : World) (b : Nat) (c : Cfg) (k : Int) (h : MapAt w b c) (ho : CfgOk c) (hk : k < 0 ∨ c.cols * c.rows ≤ k) :
    Calls Try.prog 29 #[.pointer (some ⟨b, 0, none⟩), .int .i64 k] w fun e w' => e = .returned (.slice none 0 0) ∧ Below w.heap.size w w' := by
  obtain ⟨n1, n2⟩ := ho.cnt
  have hb := (Array.getElem?_eq_some_iff.1 h).1
  have h0 := h.cell 0
  simp only [List.getElem?_toArray, List.getElem?_cons_zero] at h0
  have k0 := ho.c0
  have k1 := ho.c1
  obtain ⟨cnt, hcnt⟩ : ∃ cnt : Nat, c.cols * c.rows = (cnt : Int) := ⟨(c.cols * c.rows).toNat, by omega⟩
  have hc16 : cnt ≤ 16 := by omega
  have HC := Lib.hid (fun W hW => by have := zcount_any W b c (h.grow hW) ho; rw [hcnt] at this; exact this)
  rw [hcnt] at hk n1 n2
  clear h ho
  generalize c.cols = cols at *
  have HCN := Lib.hid hcnt
  clear hcnt
  go_enter Try.func29, Try.ntmps29
  go_wp2_with fail
  refine (HC.out _ (Below.refl _ _)).mono ?_; rintro e w1 ⟨rfl, hb1⟩
  have hbw : b < w1.heap.size := Nat.lt_of_lt_of_le hb hb1.size
  have h01 := (hb1.cell (p := ⟨b, 0, none⟩) hb).trans h0
  have HB1 := Lib.hid hb1
  clear hb1
  go_wp2_with fail
  go_loopg [11, 5] cnt (fun kx sx so wr => ∃ i : Nat, sx = .int .i64 i ∧ so = .slice none 0 0 ∧ i ≤ cnt ∧ cnt - i ≤ kx ∧ Hid (Below w1.heap.size w1 wr))
  case atStart => exact ⟨0, by go_num, rfl, by omega, by omega, Lib.hid (Below.refl _ _)⟩
  case round =>
    obtain ⟨i, rfl, rfl, hi, hkx, HN⟩ := hrel
    obtain ⟨wa, rfl⟩ : ∃ wa : World, wa = wr := ⟨_, rfl⟩
    by_cases hlt : i < cnt
    · have t1 : (i : Int) < (cnt : Int) := by omega
      have hi0' : (0 : Int) ≤ (i : Int) := Int.natCast_nonneg i
      have h02 := (HN.out.cell (p := ⟨b, 0, none⟩) hbw).trans h01
      have hba : b < wa.heap.size := Nat.lt_of_lt_of_le hbw HN.out.size
      obtain ⟨z0, z1, z2⟩ := ltz hba
      have HC2 := Lib.hid (fun W (hW : Below wa.heap.size wa W) => HC.out W ((HB1.out.trans (HN.out.mono HB1.out.size)).trans (hW.mono (by have := HB1.out.size; have := HN.out.size; omega))))
      have hne : cols ≠ 0 := by omega
      go_upto_region 5 with fail
      go_cut [7, 8] (fun x y wx => ∃ dx dy : Int, x = .int .i64 dx ∧ y = .int .i64 dy ∧ Below wa.heap.size wa wx)
      case first =>
        refine wp_region_more (by kernel_rfl) (by kernel_rfl) ?_
        repeat (go_big_quiet_step (fail))
        refine wpQuiet_nil ?_
        rintro _ ⟨pn, rfl⟩
        go_wp2_with fail
        go_meet
        exact ⟨_, _, rfl, rfl, (by repeat' (first | (with_reducible exact Below.refl _ _) | (with_reducible assumption) | (with_reducible refine below_drewN ?_ _) | (with_reducible refine below_more _ _ _ ?_ ?_) | (with_reducible refine Below.alloc ?_ ?_ _) | (with_reducible refine Below.drew ?_) | (with_reducible refine Below.setCell ?_ ?_ _) | go_size))⟩
      obtain ⟨dx, dy, rfl, rfl, hbc⟩ := hcut
      have HBC := Lib.hid hbc
      have hzc := hbc.size
      clear hbc
      by_cases hk2 : 0 ≤ k
      · have hk3 : ¬ k < (cnt : Int) := by omega
        have hk4 : (cnt : Int) ≤ k := by omega
        clear hk
        go_wp2_with fail
        refine (HC2.out _ HBC.out).mono ?_; rintro e w2 ⟨rfl, hb2⟩
        have HB2 := Lib.hid hb2
        clear hb2
        go_wp2_with fail
        go_roundg (cnt - (i + 1))
        case measure => omega
        case rel => exact ⟨i + 1, by go_num, rfl, by omega, by omega, Lib.hid (HN.out.trans ((HBC.out.trans (HB2.out.mono hzc)).mono HN.out.size))⟩
      · have hk3 : k < 0 := by omega
        clear hk
        go_wp2_with fail
        go_roundg (cnt - (i + 1))
        case measure => omega
        case rel => exact ⟨i + 1, by go_num, rfl, by omega, by omega, Lib.hid (HN.out.trans (HBC.out.mono HN.out.size))⟩
    · have t1 : ¬ (i : Int) < (cnt : Int) := by omega
      go_wp2_with fail
      go_ret
      exact ⟨rfl, HB1.out.trans (HN.out.mono HB1.out.size)⟩
end Go.Proofs.Ytloampfkjldmnaa

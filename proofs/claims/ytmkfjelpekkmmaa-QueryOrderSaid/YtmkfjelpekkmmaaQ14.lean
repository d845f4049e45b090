/-
  Chapter texts SoC: what the claim reaches of them. Conditions stand at each theorem.
-/
import Derived.Test.YtmkfjelpekkmmaaQ13
namespace Go.Proofs.Ytmkfjelpekkmmaa
open Go.Shelf Go.RowKit Go.Lib Go.Sort Go.Proofs

variable {α : Type} [Inhabited α]

def Rotd (enc : α → List Value) (w0 : World) (blk off : Nat) (d : Array α) (a m b : Nat) (w' : World) : Prop :=
  ∃ d' : Array α, d'.size = d.size ∧ (∀ t, d'[t]! = rotG d a m b t) ∧ SWK enc 11 w0 blk off d' w'


set_option maxHeartbeats 4000000 in
set_option maxRecDepth 1000000 in
theorem rotate_any (enc : α → List Value) (f : Value) (blk off cap a m b : Nat) (d0 d : Array α) (w0 w : World)
    (R : RowK enc 11 w0 blk off d0) (hs : d0.size = d.size) (S : SWK enc 11 w0 blk off d w) (ham : a < m) (hmb : m < b) (hb : b ≤ d.size) (hsz : d.size < 4611686018427387904) :
    Calls Try.prog 81 #[.slice (some ⟨blk, off, none⟩) d.size cap, .int .i64 a, .int .i64 m, .int .i64 b, f] w fun e w' => e = .returned (.tuple #[]) ∧ Rotd enc w0 blk off d a m b w' := by
  have S0 : Aside (SWK enc 11 w0 blk off d w) := S
  clear S
  have b1 : (b : Int) ≤ (d.size : Int) := by omega
  have b2 : (a : Int) < (m : Int) := by omega
  have b3 : (m : Int) < (b : Int) := by omega
  go_enter Try.func81, Try.ntmps81
  go_wp2_with fail
  go_loopg [10, 11] (b - a) (fun kx si sj wr => ∃ (i j : Nat) (dk : Array α), si = .int .i64 i ∧ sj = .int .i64 j ∧ 0 < i ∧ 0 < j ∧ i ≤ m ∧ m + j ≤ d.size ∧ i + j ≤ kx ∧ dk.size = d.size ∧ Hid (∀ t, rotG dk (m - i) m (m + j) t = rotG d a m b t) ∧ Aside (SWK enc 11 w0 blk off dk wr))
  case atStart => exact ⟨m - a, b - m, d, by congr 1; omega, by congr 1; omega, by omega, by omega, by omega, by omega, by omega, rfl, Lib.hid (fun t => by rw [show m - (m - a) = a by omega, show m + (b - m) = b by omega]), S0⟩
  case round =>
    clear S0
    obtain ⟨i, j, dk, rfl, rfl, hi0, hj0, him, hjs, hkx, hds, HE, S1⟩ := hrel
    have c1 : (i : Int) ≤ (m : Int) := by omega
    have c2 : (m : Int) + (j : Int) ≤ (d.size : Int) := by omega
    have c3 : 0 < (i : Int) := by omega
    have c4 : 0 < (j : Int) := by omega
    by_cases hij : j < i
    · have t1 : (j : Int) < (i : Int) := by omega
      have t2 : ((i : Int) != (j : Int)) = true := by simp; omega
      have q1 := swapRange enc f blk off cap (m - i) (m) j d0 dk w0 wr R (by omega) S1.out (by omega) (by omega) (by omega)
      rw [hds, show ((m - i : Nat) : Int) = (m : Int) - (i : Int) by omega, show ((m : Nat) : Int) = (m : Int) by omega] at q1
      have Q1 := Lib.hid q1
      clear q1
      go_wp2_with fail
      refine Q1.out.mono ?_
      rintro e w1 ⟨rfl, S2⟩
      have S3 : Aside _ := S2
      clear S2
      go_wp2_with fail
      go_roundg (i - j + j)
      case measure => omega
      case rel => exact ⟨i - j, j, swapN (m - i) m j dk, by congr 1; omega, rfl, by omega, hj0, by omega, hjs, by omega, by rw [size_swapN]; exact hds, Lib.hid (fun t => by rw [← HE.out t]; exact rot_left dk m i j him hij (by omega) t), S3⟩
    · by_cases hji : i < j
      · have t1 : ¬ (j : Int) < (i : Int) := by omega
        have t2 : ((i : Int) != (j : Int)) = true := by simp; omega
        have q1 := swapRange enc f blk off cap (m - i) (m + j - i) i d0 dk w0 wr R (by omega) S1.out (by omega) (by omega) (by omega)
        rw [hds, show ((m - i : Nat) : Int) = (m : Int) - (i : Int) by omega, show ((m + j - i : Nat) : Int) = (m : Int) + (j : Int) - (i : Int) by omega] at q1
        have Q1 := Lib.hid q1
        clear q1
        go_wp2_with fail
        refine Q1.out.mono ?_
        rintro e w1 ⟨rfl, S2⟩
        have S3 : Aside _ := S2
        clear S2
        go_wp2_with fail
        go_roundg (i + (j - i))
        case measure => omega
        case rel => exact ⟨i, j - i, swapN (m - i) (m + j - i) i dk, rfl, by congr 1; omega, hi0, by omega, him, by omega, by omega, by rw [size_swapN]; exact hds, Lib.hid (fun t => by rw [← HE.out t]; exact rot_right dk m i j him hji (by omega) t), S3⟩
      · obtain rfl : i = j := by omega
        clear hij hji
        have q1 := swapRange enc f blk off cap (m - i) (m) i d0 dk w0 wr R (by omega) S1.out (by omega) (by omega) (by omega)
        rw [hds, show ((m - i : Nat) : Int) = (m : Int) - (i : Int) by omega, show ((m : Nat) : Int) = (m : Int) by omega] at q1
        have Q1 := Lib.hid q1
        clear q1
        go_wp2_with fail
        refine Q1.out.mono ?_
        rintro e w1 ⟨rfl, S2⟩
        have S3 : Aside _ := S2
        clear S2
        go_wp2_with fail
        go_returns
        exact ⟨rfl, swapN (m - i) m i dk, by rw [size_swapN]; exact hds, fun t => by rw [← HE.out t]; exact rot_end dk m i him (by omega) t, S3.out⟩
end Go.Proofs.Ytmkfjelpekkmmaa

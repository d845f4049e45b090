/-
  The reference's Far, takes and Hits. Condition: the entities' numbers fit (of every argument they do).
-/
import Derived.Test.YtcnclcfipabimaaShA
import Derived.Test.YtcnclcfipabimaaMpr
import Derived.Test.YtcnclcfipabimaaMsn
namespace Go.Proofs.Ytcnclcfipabimaa
open Go.RowKit

theorem abs_any (n : Int) (w : World) (h0 : -4294967296 ≤ n) (h1 : n ≤ 4294967296) : Calls Try.prog 113 #[.int .i64 n] w fun e w' => e = .returned (.int .i64 (max n (-n))) ∧ w = w' := by
  by_cases h : n < 0
  · rw [show max n (-n) = -n by omega]
    go_enter Try.func113, Try.ntmps113
    go_wp2
    go_ret
    exact ⟨rfl, rfl⟩
  · rw [show max n (-n) = n by omega]
    have h' : 0 ≤ n := by omega
    go_enter Try.func113, Try.ntmps113
    go_wp2
    go_ret
    exact ⟨rfl, rfl⟩

theorem rFar_any (x y u v : Int) (w : World) : Calls Try.prog 74 #[.int .i64 x, .int .i64 y, .int .i64 u, .int .i64 v] w fun e w' => e = .returned (.int .i64 (farF x y u v)) ∧ w = w' := by
  have h1 := clampF_lo x; have h2 := clampF_hi x; have h3 := clampF_lo u; have h4 := clampF_hi u
  have h5 := clampF_lo y; have h6 := clampF_hi y; have h7 := clampF_lo v; have h8 := clampF_hi v
  by_cases hc : max (clampF x - clampF u) (-(clampF x - clampF u)) > max (clampF y - clampF v) (-(clampF y - clampF v))
  · rw [show farF x y u v = max (clampF x - clampF u) (-(clampF x - clampF u)) by unfold farF; omega]
    generalize hcx : clampF x = cx at *
    generalize hcy : clampF y = cy at *
    generalize hcu : clampF u = cu at *
    generalize hcv : clampF v = cv at *
    have HX := Lib.hid (And.intro hcx (And.intro hcy (And.intro hcu hcv)))
    have HA := Lib.hid (fun n W a b => abs_any n W a b)
    have e1 := Lib.hid (fun W => by have := clamp_any x W; exact this)
    have C1 := Lib.hid (fun W => by have h := rClamp_any x W; rw [hcx] at h; exact h)
    have C2 := Lib.hid (fun W => by have h := rClamp_any u W; rw [hcu] at h; exact h)
    have C3 := Lib.hid (fun W => by have h := rClamp_any y W; rw [hcy] at h; exact h)
    have C4 := Lib.hid (fun W => by have h := rClamp_any v W; rw [hcv] at h; exact h)
    clear hcx hcy hcu hcv e1
    go_enter Try.func74, Try.ntmps74
    go_wp2_with fail
    refine (C1.out _).mono ?_; rintro e w' ⟨rfl, rfl⟩
    go_wp2_with fail
    refine (C2.out _).mono ?_; rintro e w' ⟨rfl, rfl⟩
    go_wp2_with fail
    refine (HA.out _ _ (by omega) (by omega)).mono ?_; rintro e w' ⟨rfl, rfl⟩
    go_wp2_with fail
    refine (C3.out _).mono ?_; rintro e w' ⟨rfl, rfl⟩
    go_wp2_with fail
    refine (C4.out _).mono ?_; rintro e w' ⟨rfl, rfl⟩
    go_wp2_with fail
    refine (HA.out _ _ (by omega) (by omega)).mono ?_; rintro e w' ⟨rfl, rfl⟩
    go_wp2_with fail
    go_ret
    exact ⟨rfl, rfl⟩
  · rw [show farF x y u v = max (clampF y - clampF v) (-(clampF y - clampF v)) by unfold farF; omega]
    generalize hcx : clampF x = cx at *
    generalize hcy : clampF y = cy at *
    generalize hcu : clampF u = cu at *
    generalize hcv : clampF v = cv at *
    have HA := Lib.hid (fun n W a b => abs_any n W a b)
    have C1 := Lib.hid (fun W => by have h := rClamp_any x W; rw [hcx] at h; exact h)
    have C2 := Lib.hid (fun W => by have h := rClamp_any u W; rw [hcu] at h; exact h)
    have C3 := Lib.hid (fun W => by have h := rClamp_any y W; rw [hcy] at h; exact h)
    have C4 := Lib.hid (fun W => by have h := rClamp_any v W; rw [hcv] at h; exact h)
    clear hcx hcy hcu hcv
    go_enter Try.func74, Try.ntmps74
    go_wp2_with fail
    refine (C1.out _).mono ?_; rintro e w' ⟨rfl, rfl⟩
    go_wp2_with fail
    refine (C2.out _).mono ?_; rintro e w' ⟨rfl, rfl⟩
    go_wp2_with fail
    refine (HA.out _ _ (by omega) (by omega)).mono ?_; rintro e w' ⟨rfl, rfl⟩
    go_wp2_with fail
    refine (C3.out _).mono ?_; rintro e w' ⟨rfl, rfl⟩
    go_wp2_with fail
    refine (C4.out _).mono ?_; rintro e w' ⟨rfl, rfl⟩
    go_wp2_with fail
    refine (HA.out _ _ (by omega) (by omega)).mono ?_; rintro e w' ⟨rfl, rfl⟩
    go_wp2_with fail
    go_ret
    exact ⟨rfl, rfl⟩
end Go.Proofs.Ytcnclcfipabimaa

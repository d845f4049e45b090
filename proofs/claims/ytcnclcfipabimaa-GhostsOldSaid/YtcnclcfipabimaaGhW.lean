/-
  Chapter 21's reference: Same of ghosts, of states that have nothing but ghosts; Beside of a map that is none. Condition: what was told can be read.
-/
import Derived.Test.YtcnclcfipabimaaMgc
import Derived.Test.YtcnclcfipabimaaSoO
namespace Go.Proofs.Ytcnclcfipabimaa
open Go.RowKit

theorem count_nil (w : World) : Calls Try.prog 49 #[.pointer none] w fun e w' => e = .returned (.int .i64 0) ∧ w = w' := by
  go_enter Try.func49, Try.ntmps49
  go_wp2
  go_ret
  exact ⟨rfl, rfl⟩
set_option maxHeartbeats 1000000 in
theorem beside_nil (w : World) (k : Int) : Calls Try.prog 52 #[.pointer none, .int .i64 k] w fun e w' => ∃ v', e = .returned v' ∧ RNew intL 3 1 w w' v' [] := by
  go_enter Try.func52, Try.ntmps52
  go_wp2_with fail
  refine (count_nil _).mono ?_; rintro e w' ⟨rfl, rfl⟩
  go_wp2_with fail
  refine wp_loop_rounds 1 ?_
  rw [rounds_succ]
  go_wp2_with fail
  go_ret
  exact ⟨_, rfl, (RNew.nil _).since (by repeat' (first | (with_reducible exact Below.refl _ _) | (with_reducible assumption) | (with_reducible refine below_drewN ?_ _) | (with_reducible refine below_more _ _ _ ?_ ?_) | (with_reducible refine Below.alloc ?_ ?_ _) | (with_reducible refine Below.drew ?_) | (with_reducible refine Below.setCell ?_ ?_ _) | go_size))⟩
theorem sameO_nil (w : World) : Calls Try.prog 68 #[.slice none 0 0, .slice none 0 0] w fun e w' => e = .returned (.bool true) ∧ Below w.heap.size w w' := by
  go_enter Try.func68, Try.ntmps68
  go_wp2_with fail
  refine wp_loop_rounds 1 ?_
  rw [rounds_succ]
  go_wp2_with fail
  go_ret
  exact ⟨rfl, (by repeat' (first | (with_reducible exact Below.refl _ _) | (with_reducible assumption) | (with_reducible refine below_drewN ?_ _) | (with_reducible refine below_more _ _ _ ?_ ?_) | (with_reducible refine Below.alloc ?_ ?_ _) | (with_reducible refine Below.drew ?_) | (with_reducible refine Below.setCell ?_ ?_ _) | go_size))⟩
theorem sameI_nil (w : World) : Calls Try.prog 69 #[.slice none 0 0, .slice none 0 0] w fun e w' => e = .returned (.bool true) ∧ Below w.heap.size w w' := by
  go_enter Try.func69, Try.ntmps69
  go_wp2_with fail
  refine wp_loop_rounds 1 ?_
  rw [rounds_succ]
  go_wp2_with fail
  go_ret
  exact ⟨rfl, (by repeat' (first | (with_reducible exact Below.refl _ _) | (with_reducible assumption) | (with_reducible refine below_drewN ?_ _) | (with_reducible refine below_more _ _ _ ?_ ?_) | (with_reducible refine Below.alloc ?_ ?_ _) | (with_reducible refine Below.drew ?_) | (with_reducible refine Below.setCell ?_ ?_ _) | go_size))⟩
/-- Two lists of ghosts that tell the same. -/
def AlikeG (W : World) (L1 L2 : List Gh) : Prop := L1.length = L2.length ∧ ∀ (k : Nat) g1 g2, L1[k]? = some g1 → L2[k]? = some g2 → g1.f = g2.f ∧ g1.t = g2.t ∧ ∃ l, BIn W (.slice g1.p g1.n g1.c) l ∧ BIn W (.slice g2.p g2.n g2.c) l
theorem AlikeG.keep {W W' : World} {L1 L2 : List Gh} (h : AlikeG W L1 L2) (hb : Below W.heap.size W W') : AlikeG W' L1 L2 :=
  ⟨h.1, fun k g1 g2 h1 h2 => let ⟨a, b, l, c, d⟩ := h.2 k g1 g2 h1 h2; ⟨a, b, l, c.keep hb, d.keep hb⟩⟩
theorem alikeG_nil (W : World) : AlikeG W [] [] := ⟨rfl, fun _ _ _ h => by simp at h⟩

set_option maxRecDepth 100000 in
set_option maxHeartbeats 2000000 in
theorem sameG_any (va vb : Value) (L1 L2 : List Gh) (w : World) (h1 : RIn ghL w va L1) (h2 : RIn ghL w vb L2) (hs : AlikeG w L1 L2) :
    Calls Try.prog 33 #[va, vb] w fun e w' => e = .returned (.bool true) ∧ Below w.heap.size w w' := by
  have H1 := Lib.hid h1
  have H2 := Lib.hid h2
  have HS := Lib.hid hs
  obtain ⟨pa, ca, rfl, ma, _⟩ := h1
  obtain ⟨pb, cb, rfl, mb, _⟩ := h2
  unfold maxLen at ma mb
  have hle1 : L1.length ≤ L2.length := Nat.le_of_eq hs.1
  have hle2 : L2.length ≤ L1.length := Nat.le_of_eq hs.1.symm
  have hd : ((L1.length : Int) != (L2.length : Int)) = false := by simp; omega
  have hd2 : (L1.length : Int) = (L2.length : Int) := by omega
  clear hs
  go_enter Try.func33, Try.ntmps33
  go_wp2_with fail
  go_loopg [5] L1.length (fun kx sx wr => ∃ k : Nat, sx = .int .i64 k ∧ k ≤ L1.length ∧ L1.length - k ≤ kx ∧ Hid (Below w.heap.size w wr))
  case atStart => exact ⟨0, by go_num, by omega, by omega, Lib.hid (Below.refl _ _)⟩
  case round =>
    obtain ⟨k, rfl, hk, hkx, HW⟩ := hrel
    by_cases hlt : k < L1.length
    · have t1 : (k : Int) < (L1.length : Int) := by omega
      have t2 : (k : Int) < (L2.length : Int) := by omega
      obtain ⟨g1, hg1⟩ : ∃ g, L1[k]? = some g := ⟨_, List.getElem?_eq_getElem hlt⟩
      obtain ⟨g2, hg2⟩ : ∃ g, L2[k]? = some g := ⟨_, List.getElem?_eq_getElem (by omega)⟩
      obtain ⟨b1, o1, c1, hv1, lg1, q1⟩ := (H1.out.keep HW.out).cells ghL_len hg1
      obtain ⟨b2, o2, c2, hv2, lg2, q2⟩ := (H2.out.keep HW.out).cells ghL_len hg2
      simp only [Value.slice.injEq, true_and] at hv1 hv2
      obtain ⟨rfl, rfl⟩ := hv1
      obtain ⟨rfl, rfl⟩ := hv2
      obtain ⟨hf, ht, l, hl1, hl2⟩ := HS.out.2 k g1 g2 hg1 hg2
      have u0 := q1 0 _ rfl; have y0 := q2 0 _ rfl
      have u1 := q1 1 _ rfl; have y1 := q2 1 _ rfl
      have u2 := q1 2 _ rfl; have y2 := q2 2 _ rfl
      simp only [Nat.add_zero] at u0 y0
      obtain ⟨z0, z1, z2⟩ := ltw lg1
      obtain ⟨x0, x1, x2⟩ := ltw lg2
      have HSM := Lib.hid (fun W' (hW : Below wr.heap.size wr W') => same_any _ _ l l W' (hl1.keep (HW.out.trans (hW.mono HW.out.size))) (hl2.keep (HW.out.trans (hW.mono HW.out.size))))
      rw [decide_eq_true rfl] at HSM
      clear q1 q2 hg1 hg2 hl1 hl2
      obtain ⟨f1, t1', p1, n1, c1'⟩ := g1
      obtain ⟨f2, t2', p2, n2, c2'⟩ := g2
      simp only at hf ht u0 u1 u2 y0 y1 y2 HSM
      subst hf ht
      have hff : (f1 != f1) = false := by simp
      have htt : (t1' != t1') = false := by simp
      go_wp2_with fail
      refine wp_region_more (by kernel_rfl) (by kernel_rfl) ?_
      repeat (go_big_quiet_step ((first | (go_at_call 20; exact more_call (HSM.out _ (by repeat' (first | (with_reducible exact Below.refl _ _) | (with_reducible assumption) | (with_reducible refine below_drewN ?_ _) | (with_reducible refine below_more _ _ _ ?_ ?_) | (with_reducible refine Below.alloc ?_ ?_ _) | (with_reducible refine Below.drew ?_) | (with_reducible refine Below.setCell ?_ ?_ _) | go_size)))))))
      refine wpQuiet_nil ?_
      rintro _ ⟨pm, rfl⟩
      go_wp2_with fail
      go_roundg (L1.length - (k + 1))
      case measure => omega
      case rel => exact ⟨k + 1, by go_num, by omega, by omega, Lib.hid (HW.out.trans (Below.mono (B := wr.heap.size) (by repeat' (first | (with_reducible exact Below.refl _ _) | (with_reducible assumption) | (with_reducible refine below_drewN ?_ _) | (with_reducible refine below_more _ _ _ ?_ ?_) | (with_reducible refine Below.alloc ?_ ?_ _) | (with_reducible refine Below.drew ?_) | (with_reducible refine Below.setCell ?_ ?_ _) | go_size)) HW.out.size))⟩
    · have t1 : ¬ (k : Int) < (L1.length : Int) := by omega
      go_wp2_with fail
      go_ret
      exact ⟨rfl, HW.out⟩


theorem same_nil (w : World) : Calls Try.prog 20 #[.slice none 0 0, .slice none 0 0] w fun e w' => e = .returned (.bool true) ∧ Below w.heap.size w w' := by
  have hn : ∀ W : World, BIn W (.slice none 0 0) [] := fun W => ⟨none, 0, rfl, by simp [maxLen], fun _ => rfl, Nat.le_refl _, fun h => absurd rfl h⟩
  have := same_any _ _ [] [] w (hn w) (hn w)
  rw [decide_eq_true rfl] at this
  exact this
set_option maxRecDepth 100000 in
set_option maxHeartbeats 2000000 in
theorem sameS_any (ep t nx : Int) (pa pb : Option Addr) (na ca nb cb : Nat) (L1 L2 : List Gh) (w : World) (h1 : RIn ghL w (.slice pa na ca) L1) (h2 : RIn ghL w (.slice pb nb cb) L2) (hs : AlikeG w L1 L2) :
    Calls Try.prog 32 #[.agg #[.int .i64 ep, .int .i64 t, .slice none 0 0, .slice none 0 0, .slice none 0 0, .slice none 0 0, .slice pa na ca, .int .i64 nx], .agg #[.int .i64 ep, .int .i64 t, .slice none 0 0, .slice none 0 0, .slice none 0 0, .slice none 0 0, .slice pb nb cb, .int .i64 nx]] w fun e w' => e = .returned (.bool true) ∧ Below w.heap.size w w' := by
  have HG := Lib.hid (fun W (hW : Below w.heap.size w W) => sameG_any _ _ L1 L2 W (h1.keep hW) (h2.keep hW) (hs.keep hW))
  have e1 : (ep != ep) = false := by simp
  have e2 : (t != t) = false := by simp
  have e3 : (nx != nx) = false := by simp
  clear h1 h2 hs
  go_enter Try.func32, Try.ntmps32
  go_wp2_with fail
  refine wp_loop_rounds 1 ?_
  rw [rounds_succ]
  go_wp2_with fail
  refine (same_nil _).mono ?_; rintro e w' ⟨rfl, hb⟩; obtain ⟨d1, os1, rfl⟩ := more_of hb; clear hb
  go_wp2_with fail
  refine (sameO_nil _).mono ?_; rintro e w' ⟨rfl, hb⟩; obtain ⟨d2, os2, rfl⟩ := more_of hb; clear hb
  go_wp2_with fail
  refine (sameI_nil _).mono ?_; rintro e w' ⟨rfl, hb⟩; obtain ⟨d3, os3, rfl⟩ := more_of hb; clear hb
  go_wp2_with fail
  refine (HG.out _ (by repeat' (first | (with_reducible exact Below.refl _ _) | (with_reducible assumption) | (with_reducible refine below_drewN ?_ _) | (with_reducible refine below_more _ _ _ ?_ ?_) | (with_reducible refine Below.alloc ?_ ?_ _) | (with_reducible refine Below.drew ?_) | (with_reducible refine Below.setCell ?_ ?_ _) | go_size))).mono ?_; rintro e w' ⟨rfl, hb⟩; obtain ⟨d4, os4, rfl⟩ := more_of hb; clear hb
  go_wp2_with fail
  go_ret
  exact ⟨rfl, (by repeat' (first | (with_reducible exact Below.refl _ _) | (with_reducible assumption) | (with_reducible refine below_drewN ?_ _) | (with_reducible refine below_more _ _ _ ?_ ?_) | (with_reducible refine Below.alloc ?_ ?_ _) | (with_reducible refine Below.drew ?_) | (with_reducible refine Below.setCell ?_ ?_ _) | go_size))⟩
end Go.Proofs.Ytcnclcfipabimaa

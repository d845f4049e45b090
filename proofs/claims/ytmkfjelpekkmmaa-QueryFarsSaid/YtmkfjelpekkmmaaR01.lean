/-
  Chapter texts SyA QmJ: what the claim reaches of them. Conditions stand at each theorem.
-/
import Derived.Test.YtmkfjelpekkmmaaProg
import Derived.WalkKit
import Derived.WalkSpells
import Derived.WalkLawsBesides
import Derived.Handy
import Derived.Lib.Hide
import Derived.Lib.QuietBelow
import Derived.BigQuiet
import Derived.Deep.RegionHeld3
import Derived.Deep.RegionWith
import Derived.Deep.DeepFit
import Derived.Deep.DeepCutAuto
import Derived.Deep.LoopGhost
import Derived.Deep.Light
import Derived.Lib.MinMax
import Derived.Deep.RegionLaw
import Derived.Deep.RegionLawGrows
import Derived.Test.YtmkfjelpekkmmaaRows
import Derived.ProofKit
import Derived.OpenShut
import Derived.Carry
import Derived.Maps.OwnSet
import Derived.DeepKeys4
import Derived.StillTailTactics
import Derived.StillTail
import Derived.RegionTactic
import Derived.Deep.AppendLies
import Derived.Test.YtmkfjelpekkmmaaQ01
import Derived.Test.YtmkfjelpekkmmaaQ02
import Derived.Test.YtmkfjelpekkmmaaQ03
import Derived.Test.YtmkfjelpekkmmaaQ04
import Derived.Test.YtmkfjelpekkmmaaQ05
import Derived.Test.YtmkfjelpekkmmaaQ06
import Derived.Test.YtmkfjelpekkmmaaQ07
import Derived.Test.YtmkfjelpekkmmaaQ08
import Derived.Test.YtmkfjelpekkmmaaQ09
import Derived.Test.YtmkfjelpekkmmaaQ10
import Derived.Test.YtmkfjelpekkmmaaQ11
import Derived.Test.YtmkfjelpekkmmaaQ12
import Derived.Test.YtmkfjelpekkmmaaQ13
import Derived.Test.YtmkfjelpekkmmaaQ14
import Derived.Test.YtmkfjelpekkmmaaQ15
import Derived.Test.YtmkfjelpekkmmaaQ16
import Derived.Test.YtmkfjelpekkmmaaQ17
import Derived.Test.YtmkfjelpekkmmaaQ18
import Derived.Test.YtmkfjelpekkmmaaQ19
import Derived.Test.YtmkfjelpekkmmaaQ20
import Derived.Test.YtmkfjelpekkmmaaQ21
import Derived.Test.YtmkfjelpekkmmaaQ22
import Derived.Test.YtmkfjelpekkmmaaQ23
import Derived.Test.YtmkfjelpekkmmaaQ24
import Derived.Test.YtmkfjelpekkmmaaQ25
import Derived.Test.YtmkfjelpekkmmaaQ26
import Derived.Test.YtmkfjelpekkmmaaQ27
import Derived.Test.YtmkfjelpekkmmaaQ28
import Derived.Test.YtmkfjelpekkmmaaQ29
import Derived.Test.YtmkfjelpekkmmaaQ30
import Derived.Test.YtmkfjelpekkmmaaQ31
import Derived.Test.YtmkfjelpekkmmaaQ32
import Derived.Test.YtmkfjelpekkmmaaQ33
import Derived.Test.YtmkfjelpekkmmaaQ34
import Derived.Test.YtmkfjelpekkmmaaQ35
namespace Go.Proofs.Ytmkfjelpekkmmaa
open Go.RowKit

theorem farF_bd (x y u v : Int) : 0 ≤ farF x y u v ∧ farF x y u v ≤ 2147483648 := by
  have h1 := clampF_lo x; have h2 := clampF_hi x; have h3 := clampF_lo u; have h4 := clampF_hi u
  have h5 := clampF_lo y; have h6 := clampF_hi y; have h7 := clampF_lo v; have h8 := clampF_hi v
  unfold farF; omega

end Go.Proofs.Ytmkfjelpekkmmaa
namespace Go.Proofs.Ytmkfjelpekkmmaa
open Go.RowKit

set_option maxRecDepth 100000 in
set_option maxHeartbeats 1000000 in
theorem sget_any (w : World) (p : Nat) (L : List Bun) (b : Bun) (a : Nat → Prop) (h : (stoO p L).holds w a) (hb : b ∈ L) :
    Calls Try.prog 27 #[.pointer (some ⟨p, 0, none⟩), .agg #[.int .i64 b.s, .int .i64 b.i, .int .i64 b.g]] w fun e w' => e = .returned (.tuple #[.agg b.arr, .bool true]) ∧ Below w.heap.size w w' := by
  obtain ⟨mb, o, V, T, P, hC, hM, hI, hP, hO⟩ := h
  obtain ⟨m, hm, r, hr⟩ := mem_all.1 (hP.mem_iff.2 hb)
  obtain ⟨hbm, hck, hx⟩ := hI.ent m hm r b hr
  have hn := nfit_of_check hck
  have HH := Lib.hid (fun W (hW : Below w.heap.size w W) => shas_any W p mb o V (fun j => T (j / 8)) P (idOf b) (hC.grow hW) hM hn hI.key)
  rw [show decide (idOf b ∈ P.map fun x => x.1) = true from decide_eq_true (List.mem_map.2 ⟨_, hx, rfl⟩)] at HH
  have hlk := hM.look (idOf b) hn hI.key hx false
  simp only [Bool.false_eq_true, if_false, idOf] at hlk HH
  have HA := Lib.hid (fun W (hW : Below w.heap.size w W) => sat_any W p mb o V T m r b (hC.grow hW) hm hr hbm)
  obtain ⟨w1, hw1, hb1, hc3, hc4, hf3, hf4, hs⟩ := two_boxes w #[.int .i64 b.s, .int .i64 b.i, .int .i64 b.g] #[.int .i64 0, .int .i64 0, .int .i64 0, .int .i64 0, .int .i64 0, .int .i64 0, .int .i64 0, .int .i64 0, .int .i64 0, .int .i64 0, .int .i64 0] 48 51
  have h1 := hC.grow hb1
  have hmc := h1.mcell
  have hmo := h1.map
  have hpl : p < w1.heap.size := h1.lt (.inl rfl)
  have x30 := hc3 0; simp at x30; have x31 := hc3 1; simp at x31; have x32 := hc3 2; simp at x32
  have x40 := hc4 0; simp at x40; have y40 := hf4 0; have x41 := hc4 1; simp at x41; have y41 := hf4 1; have x42 := hc4 2; simp at x42; have y42 := hf4 2; have x43 := hc4 3; simp at x43; have y43 := hf4 3; have x44 := hc4 4; simp at x44; have y44 := hf4 4; have x45 := hc4 5; simp at x45; have y45 := hf4 5; have x46 := hc4 6; simp at x46; have y46 := hf4 6; have x47 := hc4 7; simp at x47; have y47 := hf4 7; have x48 := hc4 8; simp at x48; have y48 := hf4 8; have x49 := hc4 9; simp at x49; have y49 := hf4 9; have x410 := hc4 10; simp at x410; have y410 := hf4 10
  have l3 : w.heap.size < w1.heap.size := by omega
  have l4 : w.heap.size + 1 < w1.heap.size := by omega
  have hlk2 : ∀ d os, (Instr.lookup 85 (.map (some mb)) (.agg #[.int .i64 b.s, .int .i64 b.i, .int .i64 b.g]) false).run Try.prog (more w1 d os) = .ok (.agg #[.int .i64 m, .int .i64 r]) (more w1 d os) := fun d os => hlk _ _ (((more_below w1 d os).block mb (lt_of_heap hmo)).trans hmo)
  have HW1 := Lib.hid hw1
  have HB1 := Lib.hid hb1
  clear hw1 hb1 hc3 hc4 hf3 hf4 hs h1 hmo hlk hn hx hck hbm hr hm hO hP hI hM hC hb
  obtain ⟨s, i, g, m, x, y, vx, vy, hp, pw, lf⟩ := b
  simp only at HH HA hlk2 x30 x31 x32
  go_enter Try.func27, Try.ntmps27
  go_upto_region 1 with fail
  rw [← HW1.out]
  go_upto_region 3 with (go_at_call 50; refine (HH.out _ (HB1.out.trans (Below.mono (B := w1.heap.size) (by repeat' (first | (with_reducible exact Below.refl _ _) | (with_reducible assumption) | (with_reducible refine below_drewN ?_ _) | (with_reducible refine below_more _ _ _ ?_ ?_) | (with_reducible refine Below.alloc ?_ ?_ _) | (with_reducible refine Below.drew ?_) | (with_reducible refine Below.setCell ?_ ?_ _) | go_size)) HB1.out.size))).mono ?_; rintro e w' ⟨rfl, hb⟩; obtain ⟨d, os, rfl⟩ := more_of hb; clear hb)
  refine wp_region_still_tail 7 (by kernel_rfl) (by kernel_rfl) ?_
  simp only [List.take_succ_cons, List.take_zero, List.drop_succ_cons, List.drop_zero]
  repeat (first | still_step)
  refine wpStill_nil ?_
  go_wp2_with (go_at_call 51; refine (HA.out _ (HB1.out.trans (Below.mono (B := w1.heap.size) (by repeat' (first | (with_reducible exact Below.refl _ _) | (with_reducible assumption) | (with_reducible refine below_drewN ?_ _) | (with_reducible refine below_more _ _ _ ?_ ?_) | (with_reducible refine Below.alloc ?_ ?_ _) | (with_reducible refine Below.drew ?_) | (with_reducible refine Below.setCell ?_ ?_ _) | go_size)) HB1.out.size))).mono ?_; rintro e w' ⟨rfl, hb⟩; obtain ⟨d2, os2, rfl⟩ := more_of hb; clear hb; (try rw [more_more]))
  have hbw := HB1.out
  exact bodyPost_ret (v := .tuple #[.agg #[.int .i64 s, .int .i64 i, .int .i64 g, .int .i64 m, .int .i64 x, .int .i64 y, .int .i64 vx, .int .i64 vy, .int .i64 hp, .int .i64 pw, .int .i64 lf], .bool true]) (by simp [results, Try.results27, go_sem, *]) rfl ⟨rfl, (by repeat' (first | (with_reducible exact Below.refl _ _) | (with_reducible assumption) | (with_reducible refine below_drewN ?_ _) | (with_reducible refine below_more _ _ _ ?_ ?_) | (with_reducible refine Below.alloc ?_ ?_ _) | (with_reducible refine Below.drew ?_) | (with_reducible refine Below.setCell ?_ ?_ _) | go_size))⟩
end Go.Proofs.Ytmkfjelpekkmmaa

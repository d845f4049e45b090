/-
  Chapter texts RcA PaA PaP SyC ZnA: what the claim reaches of them. Conditions stand at each theorem.
-/
import Derived.StillTailTactics
import Derived.BigRegion
import Derived.Shelf.RegionOpenPlain
import Derived.Test.YtoimjjhopljdmaaGreatQ08
import Derived.Test.YtoimjjhopljdmaaGreatQ07
namespace Go.Proofs.YtoimjjhopljdmaaGreat
open Go.RowKit

theorem still_ofR {P : Program} {f : FuncId} {args : Array Value} {w : World} {v : Value} (h : Calls P f args w fun e w' => e = .returned v ∧ w = w') : Calls P f args w fun e w'' => e = .returned v ∧ w'' = w := h.mono fun _ _ ⟨a, b⟩ => ⟨a, b.symm⟩
theorem more_selfR (w : World) : more w w.drawn #[] = w := by simp [more]
def boxOk (x0 y0 x1 y1 : Int) : Bool := decide (clampF x0 < clampF x1) && decide (clampF y0 < clampF y1)

set_option maxRecDepth 100000 in
set_option maxHeartbeats 1000000 in
theorem box_any (x0 y0 x1 y1 : Int) (w : World) :
    Calls Tryz.prog 171 #[.agg #[.int .i64 x0, .int .i64 y0, .int .i64 x1, .int .i64 y1]] w fun e w' => e = .returned (.tuple #[.agg #[.int .i64 (clampF x0), .int .i64 (clampF y0), .int .i64 (clampF x1), .int .i64 (clampF y1)], .bool (boxOk x0 y0 x1 y1)]) ∧ Below w.heap.size w w' := by
  have C0 := Lib.hid (fun W => clamp_any x0 W)
  have C1 := Lib.hid (fun W => clamp_any y0 W)
  have C2 := Lib.hid (fun W => clamp_any x1 W)
  have C3 := Lib.hid (fun W => clamp_any y1 W)
  unfold boxOk
  generalize clampF x0 = a0 at *
  generalize clampF y0 = b0 at *
  generalize clampF x1 = a1 at *
  generalize clampF y1 = b1 at *
  go_enter Tryz.func171, Tryz.ntmps171
  go_wp2_with fail
  rw [← more_selfR ((w.alloc _).alloc _)]
  generalize World.drawn _ = d0
  generalize (#[] : Array Obj) = os0
  refine wp_region_still_tail 12 (by kernel_rfl) (by kernel_rfl) ?_
  simp only [List.take_succ_cons, List.take_zero, List.drop_succ_cons, List.drop_zero]
  repeat (first | still_step | (still_call (still_ofR (C0.out _))) | (still_call (still_ofR (C1.out _))) | (still_call (still_ofR (C2.out _))) | (still_call (still_ofR (C3.out _))))
  refine wpStill_nil ?_
  go_wp2_with fail
  generalize d0 + 1 = d1
  have mixed : Tryz.prog.follows .mixedOrders = true := by kernel_rfl
  have hc0 : ∀ j, (more ((w.alloc (.cells #[.int .i64 a0, .int .i64 b0, .int .i64 a1, .int .i64 b1] 54)).alloc (.cells #[.int .i64 0, .int .i64 0, .int .i64 0, .int .i64 0] 54)) d1 os0).cell? ⟨w.heap.size, j, none⟩ = (#[.int .i64 a0, .int .i64 b0, .int .i64 a1, .int .i64 b1] : Array Value)[j]? := fun j => by rw [more_cell _ _ _ _ (by simp; omega)]; simp
  have q0 := hc0 0; have q1 := hc0 1; have q2 := hc0 2; have q3 := hc0 3
  simp only [List.getElem?_toArray, List.getElem?_cons_succ, List.getElem?_cons_zero] at q0 q1 q2 q3
  clear hc0
  cases h1 : decide (a0 < a1) with
  | true =>
    cases h2 : decide (b0 < b1) with
    | true =>
      go_big_region_o
      all_goals go_wp2_with fail
      all_goals exact bodyPost_ret (v := .tuple #[.agg #[.int .i64 a0, .int .i64 b0, .int .i64 a1, .int .i64 b1], .bool true]) (by simp [results, Tryz.results171, go_sem]) rfl ⟨by simp at h1 h2 ⊢; omega, (by repeat' (first | (with_reducible exact Below.refl _ _) | (with_reducible assumption) | (with_reducible refine below_drewN ?_ _) | (with_reducible refine below_more _ _ _ ?_ ?_) | (with_reducible refine Below.alloc ?_ ?_ _) | (with_reducible refine Below.drew ?_) | (with_reducible refine Below.setCell ?_ ?_ _) | go_size))⟩
    | false =>
      go_big_region_o
      all_goals go_wp2_with fail
      all_goals exact bodyPost_ret (v := .tuple #[.agg #[.int .i64 a0, .int .i64 b0, .int .i64 a1, .int .i64 b1], .bool false]) (by simp [results, Tryz.results171, go_sem]) rfl ⟨by simp at h1 h2 ⊢; omega, (by repeat' (first | (with_reducible exact Below.refl _ _) | (with_reducible assumption) | (with_reducible refine below_drewN ?_ _) | (with_reducible refine below_more _ _ _ ?_ ?_) | (with_reducible refine Below.alloc ?_ ?_ _) | (with_reducible refine Below.drew ?_) | (with_reducible refine Below.setCell ?_ ?_ _) | go_size))⟩
  | false =>
    go_big_region_o
    all_goals go_wp2_with fail
    all_goals exact bodyPost_ret (v := .tuple #[.agg #[.int .i64 a0, .int .i64 b0, .int .i64 a1, .int .i64 b1], .bool false]) (by simp [results, Tryz.results171, go_sem]) rfl ⟨by simp at h1 ⊢; omega, (by repeat' (first | (with_reducible exact Below.refl _ _) | (with_reducible assumption) | (with_reducible refine below_drewN ?_ _) | (with_reducible refine below_more _ _ _ ?_ ?_) | (with_reducible refine Below.alloc ?_ ?_ _) | (with_reducible refine Below.drew ?_) | (with_reducible refine Below.setCell ?_ ?_ _) | go_size))⟩

def offF (n lo hi : Int) : Int := max (lo - n) (max (n - hi) 0)
theorem off_any (n lo hi : Int) (w : World) (h0 : -4294967296 ≤ n) (h1 : n ≤ 4294967296) (h2 : -4294967296 ≤ lo) (h3 : lo ≤ 4294967296) (h4 : -4294967296 ≤ hi) (h5 : hi ≤ 4294967296) :
    Calls Tryz.prog 172 #[.int .i64 n, .int .i64 lo, .int .i64 hi] w fun e w' => e = .returned (.int .i64 (offF n lo hi)) ∧ w = w' := by
  generalize hr : offF n lo hi = r
  unfold offF at hr
  have HR := Lib.hid hr
  clear hr
  go_enter Tryz.func172, Tryz.ntmps172
  go_wp2
  go_ret
  exact ⟨ret_int HR.out, rfl⟩

def gapF (x0 y0 x1 y1 x y : Int) : Int := if boxOk x0 y0 x1 y1 then max (offF (clampF x) (clampF x0) (clampF x1 - 1)) (offF (clampF y) (clampF y0) (clampF y1 - 1)) else -1

set_option maxRecDepth 100000 in
set_option maxHeartbeats 1000000 in
theorem gap_any (x0 y0 x1 y1 x y : Int) (w : World) :
    Calls Tryz.prog 150 #[.agg #[.int .i64 x0, .int .i64 y0, .int .i64 x1, .int .i64 y1], .int .i64 x, .int .i64 y] w fun e w' => e = .returned (.int .i64 (gapF x0 y0 x1 y1 x y)) ∧ Below w.heap.size w w' := by
  have HBX := Lib.hid (fun W => box_any x0 y0 x1 y1 W)
  have CX := Lib.hid (fun W => clamp_any x W)
  have CY := Lib.hid (fun W => clamp_any y W)
  have l1 := clampF_lo x0; have l2 := clampF_hi x0; have l3 := clampF_lo y0; have l4 := clampF_hi y0
  have l5 := clampF_lo x1; have l6 := clampF_hi x1; have l7 := clampF_lo y1; have l8 := clampF_hi y1
  have m1 := clampF_lo x; have m2 := clampF_hi x; have m3 := clampF_lo y; have m4 := clampF_hi y
  unfold gapF
  cases hok : boxOk x0 y0 x1 y1 with
  | false =>
    rw [hok] at HBX
    simp only [Bool.false_eq_true, if_false]
    generalize clampF x0 = a0 at *
    generalize clampF y0 = b0 at *
    generalize clampF x1 = a1 at *
    generalize clampF y1 = b1 at *
    go_enter Tryz.func150, Tryz.ntmps150
    go_wp2_with (go_at_call 171; refine (HBX.out _).mono ?_; rintro e w' ⟨rfl, hb⟩; obtain ⟨d, os, rfl⟩ := more_of hb; clear hb)
    go_ret
    exact ⟨rfl, (by repeat' (first | (with_reducible exact Below.refl _ _) | (with_reducible assumption) | (with_reducible refine below_drewN ?_ _) | (with_reducible refine below_more _ _ _ ?_ ?_) | (with_reducible refine Below.alloc ?_ ?_ _) | (with_reducible refine Below.drew ?_) | (with_reducible refine Below.setCell ?_ ?_ _) | go_size))⟩
  | true =>
    rw [hok] at HBX
    simp only [if_true]
    generalize clampF x0 = a0 at *
    generalize clampF y0 = b0 at *
    generalize clampF x1 = a1 at *
    generalize clampF y1 = b1 at *
    generalize clampF x = cx at *
    generalize clampF y = cy at *
    have O1 := Lib.hid (fun W => off_any cx a0 (a1 - 1) W (by omega) (by omega) (by omega) (by omega) (by omega) (by omega))
    have O2 := Lib.hid (fun W => off_any cy b0 (b1 - 1) W (by omega) (by omega) (by omega) (by omega) (by omega) (by omega))
    have r1 : IntKind.i64.wrap (a1 - 1) = a1 - 1 := by rw [IntKind.wrap_i64]; omega
    have r2 : IntKind.i64.wrap (b1 - 1) = b1 - 1 := by rw [IntKind.wrap_i64]; omega
    generalize offF cx a0 (a1 - 1) = p1 at *
    generalize offF cy b0 (b1 - 1) = p2 at *
    clear l1 l2 l3 l4 l5 l6 l7 l8 m1 m2 m3 m4
    go_enter Tryz.func150, Tryz.ntmps150
    go_wp2_with (go_at_call 171; refine (HBX.out _).mono ?_; rintro e w' ⟨rfl, hb⟩; obtain ⟨d, os, rfl⟩ := more_of hb; clear hb)
    refine wp_region_more (by kernel_rfl) (by kernel_rfl) ?_
    repeat (go_big_quiet_step ((first | (go_at_call 155; with_reducible exact more_same (CX.out _)) | (go_at_call 155; with_reducible exact more_same (CY.out _)) | (go_at_call 172; with_reducible exact more_same (O1.out _)) | (go_at_call 172; with_reducible exact more_same (O2.out _)))))
    refine wpQuiet_nil ?_
    rintro _ ⟨pm, rfl⟩
    go_wp2_with fail
    go_ret
    exact ⟨rfl, (by repeat' (first | (with_reducible exact Below.refl _ _) | (with_reducible assumption) | (with_reducible refine below_drewN ?_ _) | (with_reducible refine below_more _ _ _ ?_ ?_) | (with_reducible refine Below.alloc ?_ ?_ _) | (with_reducible refine Below.drew ?_) | (with_reducible refine Below.setCell ?_ ?_ _) | go_size))⟩

theorem rhas_any (x0 y0 x1 y1 x y : Int) (w : World) :
    Calls Tryz.prog 124 #[.agg #[.int .i64 x0, .int .i64 y0, .int .i64 x1, .int .i64 y1], .int .i64 x, .int .i64 y] w fun e w' => e = .returned (.bool (gapF x0 y0 x1 y1 x y == 0)) ∧ Below w.heap.size w w' := by
  have HG := Lib.hid (fun W => gap_any x0 y0 x1 y1 x y W)
  generalize gapF x0 y0 x1 y1 x y = r at *
  go_enter Tryz.func124, Tryz.ntmps124
  go_wp2_with (go_at_call 150; refine (HG.out _).mono ?_; rintro e w' ⟨rfl, hb⟩; obtain ⟨d, os, rfl⟩ := more_of hb; clear hb)
  go_ret
  exact ⟨rfl, (by repeat' (first | (with_reducible exact Below.refl _ _) | (with_reducible assumption) | (with_reducible refine below_drewN ?_ _) | (with_reducible refine below_more _ _ _ ?_ ?_) | (with_reducible refine Below.alloc ?_ ?_ _) | (with_reducible refine Below.drew ?_) | (with_reducible refine Below.setCell ?_ ?_ _) | go_size))⟩

theorem gapF_world (X Y x y : Int) (hx0 : 1 ≤ X) (hx1 : X ≤ 1073741823) (hy0 : 1 ≤ Y) (hy1 : Y ≤ 1073741823) : (gapF 0 0 X Y x y == 0) = decide (0 ≤ x ∧ x < X ∧ 0 ≤ y ∧ y < Y) := by
  have e0 : clampF 0 = 0 := by decide
  have e1 : clampF X = X := clampF_id X (by omega) (by omega)
  have e2 : clampF Y = Y := clampF_id Y (by omega) (by omega)
  have hok : boxOk 0 0 X Y = true := by unfold boxOk; rw [e0, e1, e2]; simp; omega
  unfold gapF
  rw [hok, if_pos rfl, e0, e1, e2, Bool.eq_iff_iff, beq_iff_eq, decide_eq_true_iff]
  unfold offF clampF
  omega
end Go.Proofs.YtoimjjhopljdmaaGreat
namespace Go.Proofs.YtoimjjhopljdmaaGreat
open Go.RowKit

theorem within_any (h : Bool) (n lo hi : Int) (w : World) :
    Calls Tryz.prog 149 #[.bool h, .int .i64 n, .int .i64 lo, .int .i64 hi] w fun e w' => e = .returned (.bool (withinB h n lo hi)) ∧ w = w' := by
  cases h
  · go_enter Tryz.func149, Tryz.ntmps149
    go_wp2
    go_ret
    exact ⟨rfl, rfl⟩
  · by_cases h1 : lo ≤ n
    · go_enter Tryz.func149, Tryz.ntmps149
      go_wp2
      go_ret
      exact ⟨by simp [withinB, inR]; omega, rfl⟩
    · go_enter Tryz.func149, Tryz.ntmps149
      go_wp2
      go_ret
      exact ⟨by simp [withinB, inR]; omega, rfl⟩

theorem has_any (s i g m x y vx vy hp pw lf k : Int) (w : World) :
    Calls Tryz.prog 136 #[.agg #[.int .i64 s, .int .i64 i, .int .i64 g, .int .i64 m, .int .i64 x, .int .i64 y, .int .i64 vx, .int .i64 vy, .int .i64 hp, .int .i64 pw, .int .i64 lf], .int .i64 k] w fun e w' => e = .returned (.bool (hasB m k)) ∧ Below w.heap.size w w' := by
  go_enter Tryz.func136, Tryz.ntmps136
  go_wp2
  go_ret
  exact ⟨rfl, (Below.refl _ _).alloc (Nat.le_refl _) _⟩

set_option maxHeartbeats 400000 in
theorem checkID_any (s i g : Int) (w : World) :
    Calls Tryz.prog 120 #[.agg #[.int .i64 s, .int .i64 i, .int .i64 g]] w fun e w' => e = .returned (.int .i64 (errB (idOk s i g))) ∧ Below w.heap.size w w' := by
  generalize hr : errB _ = r
  have HR := Lib.hid hr
  clear hr
  go_enter Tryz.func120, Tryz.ntmps120
  go_wp2_with (go_at_call 149; refine (within_any _ _ _ _ _).mono ?_; rintro e w' ⟨rfl, rfl⟩)
  all_goals go_ret
  all_goals refine ⟨?_, by go_grown⟩
  all_goals go_tidy
  all_goals (have h := HR.out; rw [← h]; simp_all [errB, idOk, withinB])

theorem some_any (m : Int) (w : World) : Calls Tryz.prog 122 #[.int .i64 m] w fun e w' => e = .returned (.bool (someB m)) ∧ w = w' := by
  generalize hr : someB m = r
  have HR := Lib.hid hr
  clear hr
  go_enter Tryz.func122, Tryz.ntmps122
  go_wp2
  all_goals go_ret
  all_goals refine ⟨?_, rfl⟩
  all_goals go_tidy
  all_goals (have h := HR.out; rw [← h]; simp [someB, *]; try omega)

set_option maxHeartbeats 4000000 in
theorem right_any (s i g m x y vx vy hp pw lf : Int) (w : World) :
    Calls Tryz.prog 123 #[.agg #[.int .i64 s, .int .i64 i, .int .i64 g, .int .i64 m, .int .i64 x, .int .i64 y, .int .i64 vx, .int .i64 vy, .int .i64 hp, .int .i64 pw, .int .i64 lf]] w fun e w' => e = .returned (.bool (rightB ⟨s, i, g, m, x, y, vx, vy, hp, pw, lf⟩)) ∧ Below w.heap.size w w' := by
  generalize hr : rightB _ = r
  unfold rightB at hr
  have HR := Lib.hid hr
  clear hr
  by_cases hm : 0 ≤ m ∧ m ≤ 31
  · obtain ⟨hm0, hm1⟩ := hm
    go_enter Tryz.func123, Tryz.ntmps123
    go_wp2_with fail
    go_region_held3 (fun W => (Below w.heap.size w W ∧ w.heap.size ≤ W.heap.size ∧ w.heap.size < W.heap.size) ∧ ∀ j, W.cell? ⟨w.heap.size, j, none⟩ = (#[.int .i64 s, .int .i64 i, .int .i64 g, .int .i64 m, .int .i64 x, .int .i64 y, .int .i64 vx, .int .i64 vy, .int .i64 hp, .int .i64 pw, .int .i64 lf] : Array Value)[j]?) (first | exact box_new _ _ _ | exact box_keep hb (by assumption))
      (first | (go_at_call 136; refine (has_any _ _ _ _ _ _ _ _ _ _ _ _ _).mono ?_; rintro e w' ⟨rfl, hb⟩))
    go_wp2_with fail
    go_region_held3 (fun W => (Below w.heap.size w W ∧ w.heap.size ≤ W.heap.size ∧ w.heap.size < W.heap.size) ∧ ∀ j, W.cell? ⟨w.heap.size, j, none⟩ = (#[.int .i64 s, .int .i64 i, .int .i64 g, .int .i64 m, .int .i64 x, .int .i64 y, .int .i64 vx, .int .i64 vy, .int .i64 hp, .int .i64 pw, .int .i64 lf] : Array Value)[j]?) (first | exact box_keep hb (by assumption) | exact box_alloc _ (by assumption) | exact box_drew (by assumption))
      (first | (go_at_call 136; refine (has_any _ _ _ _ _ _ _ _ _ _ _ _ _).mono ?_; rintro e w' ⟨rfl, hb⟩))
    go_wp2_with fail
    rename_i hH
    obtain ⟨⟨hB, hsz, -⟩, -⟩ := hH
    simp only [World.size_alloc] at hsz
    refine wp_loop_rounds 8 ?_
    repeat any_goals (rw [rounds_succ]; go_wp2_with (go_at_call 149; refine (within_any _ _ _ _ _).mono ?_; rintro e w' ⟨rfl, rfl⟩))
    all_goals go_ret
    all_goals refine ⟨?_, by go_grown⟩
    all_goals clear hB hsz
    all_goals go_tidy
    all_goals (have h := HR.out; rw [← h]; simp only [Bool.not_eq_true', Bool.not_eq_false'] at *; simp [*, inR])
  · go_enter Tryz.func123, Tryz.ntmps123
    go_wp2_with fail
    all_goals go_ret
    all_goals refine ⟨?_, by go_grown⟩
    all_goals go_tidy
    all_goals (have h := HR.out; rw [← h]; simp [inR]; omega)

end Go.Proofs.YtoimjjhopljdmaaGreat
namespace Go.Proofs.YtoimjjhopljdmaaGreat
open Go.RowKit

abbrev I64 (n : Int) : Prop := -9223372036854775808 ≤ n ∧ n ≤ 9223372036854775807

def gb (m : Int) (i : Nat) : Bool := (BitVec.ofInt 64 m).getLsbD i

theorem wrap_toInt (v : BitVec 64) : IntKind.i64.wrap v.toNat = v.toInt := by
  rw [IntKind.wrap_i64, BitVec.toInt_eq_toNat_cond]
  have := v.isLt
  split <;> omega
theorem bits_or_i64 (m n : Int) : bits .or .i64 m n = (BitVec.ofInt 64 m ||| BitVec.ofInt 64 n).toInt := wrap_toInt _
theorem bits_andNot_i64 (m n : Int) : bits .andNot .i64 m n = (BitVec.ofInt 64 m &&& ~~~(BitVec.ofInt 64 n)).toInt := wrap_toInt _
theorem i64_toInt (v : BitVec 64) : I64 v.toInt := by
  have h1 := BitVec.le_toInt v
  have h2 := BitVec.toInt_lt (x := v)
  unfold I64
  omega
theorem i64_or (m n : Int) : I64 (bits .or .i64 m n) := by rw [bits_or_i64]; exact i64_toInt _
theorem i64_andNot (m n : Int) : I64 (bits .andNot .i64 m n) := by rw [bits_andNot_i64]; exact i64_toInt _
end Go.Proofs.YtoimjjhopljdmaaGreat
namespace Go.Proofs.YtoimjjhopljdmaaGreat
open Go.RowKit

structure Cfg where
  (cols rows side radius speed ids queue : Int)
structure CfgOk (c : Cfg) : Prop where
  c0 : 1 ≤ c.cols
  c1 : c.cols ≤ 4
  r0 : 1 ≤ c.rows
  r1 : c.rows ≤ 4
  s0 : 256 ≤ c.side
  s1 : c.side ≤ 1048576
  a0 : 0 ≤ c.radius
  a1 : c.radius ≤ c.side
  v0 : 0 ≤ c.speed
  v1 : c.speed ≤ c.side
  i0 : 1 ≤ c.ids
  i1 : c.ids ≤ 16
  q0 : 1 ≤ c.queue
  q1 : c.queue ≤ 64


set_option maxHeartbeats 1000000 in
theorem zcheck_ok (cols rows side radius speed ids queue : Int) (w : World) (h : CfgOk ⟨cols, rows, side, radius, speed, ids, queue⟩) :
    Calls Tryz.prog 119 #[.agg #[.int .i64 cols, .int .i64 rows, .int .i64 side, .int .i64 radius, .int .i64 speed, .int .i64 ids, .int .i64 queue]] w fun e w' => e = .returned (.int .i64 0) ∧ Below w.heap.size w w' := by
  obtain ⟨c0, c1, r0, r1, s0, s1, a0, a1, v0, v1, i0, i1, q0, q1⟩ := h
  simp only at c0 c1 r0 r1 s0 s1 a0 a1 v0 v1 i0 i1 q0 q1
  go_enter Tryz.func119, Tryz.ntmps119
  go_wp2_with fail
  refine wp_loop_rounds 8 ?_
  repeat any_goals (rw [rounds_succ]; go_wp2_with fail)
  all_goals go_ret
  exact ⟨rfl, (by repeat' (first | (with_reducible exact Below.refl _ _) | (with_reducible assumption) | (with_reducible refine below_drewN ?_ _) | (with_reducible refine below_more _ _ _ ?_ ?_) | (with_reducible refine Below.alloc ?_ ?_ _) | (with_reducible refine Below.drew ?_) | (with_reducible refine Below.setCell ?_ ?_ _) | go_size))⟩

theorem CfgOk.prod {c : Cfg} (h : CfgOk c) : 256 ≤ c.cols * c.side ∧ c.cols * c.side ≤ 4194304 ∧ 256 ≤ c.rows * c.side ∧ c.rows * c.side ≤ 4194304 := by
  obtain ⟨c0, c1, r0, r1, s0, s1, _⟩ := h
  refine ⟨?_, ?_, ?_, ?_⟩
  · have := Int.mul_le_mul c0 s0 (by omega) (by omega); omega
  · have := Int.mul_le_mul c1 s1 (by omega) (by omega); omega
  · have := Int.mul_le_mul r0 s0 (by omega) (by omega); omega
  · have := Int.mul_le_mul r1 s1 (by omega) (by omega); omega

def MapAt (w : World) (b : Nat) (c : Cfg) : Prop := w.heap[b]? = some (.cells #[.int .i64 c.cols, .int .i64 c.rows, .int .i64 c.side, .int .i64 c.radius, .int .i64 c.speed, .int .i64 c.ids, .int .i64 c.queue, .int .i64 0, .int .i64 0, .int .i64 (c.cols * c.side), .int .i64 (c.rows * c.side)] 142 (0, 0))

set_option maxHeartbeats 1000000 in
theorem znew_ok (cols rows side radius speed ids queue : Int) (w : World) (h : CfgOk ⟨cols, rows, side, radius, speed, ids, queue⟩) :
    Calls Tryz.prog 79 #[.agg #[.int .i64 cols, .int .i64 rows, .int .i64 side, .int .i64 radius, .int .i64 speed, .int .i64 ids, .int .i64 queue]] w fun e w' => ∃ b, e = .returned (.tuple #[.pointer (some ⟨b, 0, none⟩), .int .i64 0]) ∧ Below w.heap.size w w' ∧ MapAt w' b ⟨cols, rows, side, radius, speed, ids, queue⟩ ∧ w.heap.size ≤ b := by
  obtain ⟨p1, p2, p3, p4⟩ := h.prod
  have HC := Lib.hid (fun W => zcheck_ok cols rows side radius speed ids queue W h)
  clear h
  simp only at p1 p2 p3 p4
  generalize hx1 : cols * side = x1 at *
  generalize hy1 : rows * side = y1 at *
  go_enter Tryz.func79, Tryz.ntmps79
  go_wp2_with (go_at_call 119; refine (HC.out _).mono ?_; rintro e w' ⟨rfl, hb⟩; obtain ⟨d, os, rfl⟩ := more_of hb; clear hb)
  go_ret2
  refine ⟨_, rfl, (by repeat' (first | (with_reducible exact Below.refl _ _) | (with_reducible assumption) | (with_reducible refine below_drewN ?_ _) | (with_reducible refine below_more _ _ _ ?_ ?_) | (with_reducible refine Below.alloc ?_ ?_ _) | (with_reducible refine Below.drew ?_) | (with_reducible refine Below.setCell ?_ ?_ _) | go_size)), ?_, by omega⟩
  unfold MapAt
  simp only [hx1, hy1]
  have hn := heap_alloc_new (more (w.alloc (.cells #[.int .i64 cols, .int .i64 rows, .int .i64 side, .int .i64 radius, .int .i64 speed, .int .i64 ids, .int .i64 queue] 23)) d os) (.cells #[.int .i64 cols, .int .i64 rows, .int .i64 side, .int .i64 radius, .int .i64 speed, .int .i64 ids, .int .i64 queue, .int .i64 0, .int .i64 0, .int .i64 x1, .int .i64 y1] 142)
  simpa using hn

def inF (c : Cfg) (x y : Int) : Int × Int := (max 0 (min x (c.cols * c.side - 1)), max 0 (min y (c.rows * c.side - 1)))

theorem MapAt.cell {w : World} {b : Nat} {c : Cfg} (h : MapAt w b c) (j : Nat) : w.cell? ⟨b, j, none⟩ = (#[.int .i64 c.cols, .int .i64 c.rows, .int .i64 c.side, .int .i64 c.radius, .int .i64 c.speed, .int .i64 c.ids, .int .i64 c.queue, .int .i64 0, .int .i64 0, .int .i64 (c.cols * c.side), .int .i64 (c.rows * c.side)] : Array Value)[j]? := by
  simp only [MapAt] at h
  simp [World.cell?, h]

theorem MapAt.grow {w w' : World} {b : Nat} {c : Cfg} (h : MapAt w b c) (hb : Below w.heap.size w w') : MapAt w' b c := (hb.block b (Array.getElem?_eq_some_iff.1 h).1).trans h

set_option maxHeartbeats 1000000 in
theorem zin_any (w : World) (b : Nat) (c : Cfg) (x y : Int) (h : MapAt w b c) (ho : CfgOk c) :
    Calls Tryz.prog 142 #[.pointer (some ⟨b, 0, none⟩), .int .i64 x, .int .i64 y] w fun e w' => e = .returned (.tuple #[.int .i64 (inF c x y).1, .int .i64 (inF c x y).2]) ∧ ∃ n, w' = w.drewN n := by
  obtain ⟨p1, p2, p3, p4⟩ := ho.prod
  have h9 := h.cell 9
  have h10 := h.cell 10
  simp only [List.getElem?_toArray, List.getElem?_cons_succ, List.getElem?_cons_zero] at h9 h10
  simp only [inF]
  clear h ho
  generalize c.cols * c.side = x1 at *
  generalize c.rows * c.side = y1 at *
  go_enter Tryz.func142, Tryz.ntmps142
  go_wp2_with fail
  go_quiet (fail)
  go_wp2_with fail
  all_goals go_ret2
  all_goals exact ⟨rfl, _, rfl⟩

end Go.Proofs.YtoimjjhopljdmaaGreat
namespace Go.Proofs.YtoimjjhopljdmaaGreat
open Go.RowKit

def inW (c : Cfg) (x y : Int) : Bool := decide (0 ≤ x ∧ x < c.cols * c.side ∧ 0 ≤ y ∧ y < c.rows * c.side)
def ofF (c : Cfg) (x y : Int) : Int := if inW c x y then y / c.side * c.cols + x / c.side else -1

theorem div_rng {x n s : Int} (h0 : 0 ≤ x) (h1 : x < n * s) (hs : 0 < s) : 0 ≤ x / s ∧ x / s < n := ⟨Int.ediv_nonneg h0 (by omega), Int.ediv_lt_of_lt_mul hs h1⟩

set_option maxRecDepth 100000 in
set_option maxHeartbeats 1000000 in
theorem zof_any (w : World) (b : Nat) (c : Cfg) (x y : Int) (h : MapAt w b c) (ho : CfgOk c) :
    Calls Tryz.prog 83 #[.pointer (some ⟨b, 0, none⟩), .int .i64 x, .int .i64 y] w fun e w' => e = .returned (.int .i64 (ofF c x y)) ∧ Below w.heap.size w w' := by
  obtain ⟨p1, p2, p3, p4⟩ := ho.prod
  have hb := (Array.getElem?_eq_some_iff.1 h).1
  have hg := gapF_world (c.cols * c.side) (c.rows * c.side) x y (by omega) (by omega) (by omega) (by omega)
  have h0 := h.cell 0; have h2 := h.cell 2; have h7 := h.cell 7; have h8 := h.cell 8; have h9 := h.cell 9; have h10 := h.cell 10
  simp only [List.getElem?_toArray, List.getElem?_cons_succ, List.getElem?_cons_zero] at h0 h2 h7 h8 h9 h10
  have HH := Lib.hid (fun W => rhas_any 0 0 (c.cols * c.side) (c.rows * c.side) x y W)
  have s0 := ho.s0
  have s1 := ho.s1
  have k0 := ho.c0
  have k1 := ho.c1
  have r1 := ho.r1
  unfold ofF
  unfold inW
  rw [hg] at HH
  obtain ⟨z0, z1, z2⟩ := ltz hb
  by_cases hw : 0 ≤ x ∧ x < c.cols * c.side ∧ 0 ≤ y ∧ y < c.rows * c.side
  · have hd : decide (0 ≤ x ∧ x < c.cols * c.side ∧ 0 ≤ y ∧ y < c.rows * c.side) = true := decide_eq_true hw
    rw [hd] at HH ⊢
    rw [if_pos rfl]
    obtain ⟨x0, x1, y0, y1⟩ := hw
    obtain ⟨dx0, dx1⟩ := div_rng x0 x1 (by omega)
    obtain ⟨dy0, dy1⟩ := div_rng y0 y1 (by omega)
    have ey : Int.tdiv y c.side = y / c.side := Int.tdiv_eq_ediv_of_nonneg y0
    have ex : Int.tdiv x c.side = x / c.side := Int.tdiv_eq_ediv_of_nonneg x0
    have hm0 : 0 ≤ y / c.side * c.cols := Int.mul_nonneg dy0 (by omega)
    have hm1 : y / c.side * c.cols ≤ 3 * 4 := Int.mul_le_mul (by omega) k1 (by omega) (by omega)
    clear hd hg h ho
    generalize hcs : c.cols * c.side = cs at *
    generalize hrs : c.rows * c.side = rs at *
    generalize y / c.side = qy at *
    generalize x / c.side = qx at *
    generalize c.side = side at *
    generalize hcc : c.cols = cols at *
    have w1 : IntKind.i64.wrap qy = qy := by rw [IntKind.wrap_i64]; omega
    have w2 : IntKind.i64.wrap qx = qx := by rw [IntKind.wrap_i64]; omega
    have w3 : IntKind.i64.wrap (qy * cols) = qy * cols := by rw [IntKind.wrap_i64]; omega
    have w4 : IntKind.i64.wrap (qy * cols + qx) = qy * cols + qx := by rw [IntKind.wrap_i64]; omega
    have hne : side ≠ 0 := by omega
    go_enter Tryz.func83, Tryz.ntmps83
    go_wp2_with (go_at_call 124; refine (HH.out _).mono ?_; rintro e w' ⟨rfl, hb⟩; obtain ⟨d, os, rfl⟩ := more_of hb; clear hb)
    refine wp_region_more (by kernel_rfl) (by kernel_rfl) ?_
    repeat (go_big_quiet_step (fail))
    refine wpQuiet_nil ?_
    rintro _ ⟨pn, rfl⟩
    go_wp2_with fail
    go_ret
    exact ⟨rfl, (by repeat' (first | (with_reducible exact Below.refl _ _) | (with_reducible assumption) | (with_reducible refine below_drewN ?_ _) | (with_reducible refine below_more _ _ _ ?_ ?_) | (with_reducible refine Below.alloc ?_ ?_ _) | (with_reducible refine Below.drew ?_) | (with_reducible refine Below.setCell ?_ ?_ _) | go_size))⟩
  · have hd : decide (0 ≤ x ∧ x < c.cols * c.side ∧ 0 ≤ y ∧ y < c.rows * c.side) = false := decide_eq_false hw
    rw [hd] at HH ⊢
    simp only [Bool.false_eq_true, if_false]
    clear hd hw hg h ho
    generalize hcs : c.cols * c.side = cs at *
    generalize hrs : c.rows * c.side = rs at *
    go_enter Tryz.func83, Tryz.ntmps83
    go_wp2_with (go_at_call 124; refine (HH.out _).mono ?_; rintro e w' ⟨rfl, hb⟩; obtain ⟨d, os, rfl⟩ := more_of hb; clear hb)
    go_ret
    exact ⟨rfl, (by repeat' (first | (with_reducible exact Below.refl _ _) | (with_reducible assumption) | (with_reducible refine below_drewN ?_ _) | (with_reducible refine below_more _ _ _ ?_ ?_) | (with_reducible refine Below.alloc ?_ ?_ _) | (with_reducible refine Below.drew ?_) | (with_reducible refine Below.setCell ?_ ?_ _) | go_size))⟩
end Go.Proofs.YtoimjjhopljdmaaGreat

/-
  Walks of the reference of chapter 9: May, MayCmd, With, Without. Each function computes its plain twin; new memory alone is written. Condition: masks are ints (64 bits).
  Two commands compared: one bool; package parts' CheckCmd and the reference's MayCmd of a command. Condition: its mask is an int (64 bits).
  A whole command loaded from a box, stored into one. No condition.
-/
import Derived.Test.YtbghjklnlhoklaaPaS
import Derived.Test.YtbghjklnlhoklaaMk2
import Derived.Test.YtbghjklnlhoklaaEq
import Derived.Test.YtbghjklnlhoklaaPaB
import Derived.Test.YtbghjklnlhoklaaMk10
import Derived.Test.YtbghjklnlhoklaaMk1
import Derived.Shelf.SlicesQ.Load
namespace Go.Proofs.Ytbghjklnlhoklaa
open Go.RowKit

set_option maxHeartbeats 2000000 in
theorem rMay_any (s i g m x y vx vy hp pw lf : Int) (w : World) (hm0 : -9223372036854775808 ≤ m) (hm1 : m ≤ 9223372036854775807) :
    Calls Try.prog 49 #[.agg #[.int .i64 s, .int .i64 i, .int .i64 g, .int .i64 m, .int .i64 x, .int .i64 y, .int .i64 vx, .int .i64 vy, .int .i64 hp, .int .i64 pw, .int .i64 lf]] w fun e w' => e = .returned (.bool (rMayB ⟨s, i, g, m, x, y, vx, vy, hp, pw, lf⟩)) ∧ Below w.heap.size w w' := by
  generalize hr : rMayB _ = r
  unfold rMayB at hr
  dsimp only at hr
  have HR := Lib.hid hr
  clear hr
  go_enter Try.func49, Try.ntmps49
  go_wp2_with (first
    | (go_at_call 50; refine (rRightID_any _ _ _ _).mono ?_; rintro e w1 ⟨rfl, hb⟩; obtain ⟨⟨hB1, hs1, hl1⟩, hc1⟩ := box_keep hb (box_new0 w _ _); clear hb)
    | (go_at_call 52; refine (rRight_any _ _ _ _ _ _ _ _ _ _ _ _ (by omega) (by omega)).mono ?_; rintro e w2 ⟨rfl, hb⟩; obtain ⟨⟨hB2, hs2, hl2⟩, hc2⟩ := box_keep hb ⟨⟨hB1, hs1, hl1⟩, hc1⟩; clear hb hB1 hs1 hl1 hc1)
    | (go_at_call 79; refine (bit_any _ _ _ (by omega) (by omega) (by omega)).mono ?_; rintro e w3 ⟨rfl, rfl⟩))
  all_goals (go_ret; refine ⟨?_, by assumption⟩; go_tidy; (have h := HR.out; rw [← h]; simp_all))

set_option maxHeartbeats 4000000 in
theorem rMayCmd_any (k s i g es ei eg m x y vx vy hp pw lf mask : Int) (w : World) (hm0 : -9223372036854775808 ≤ m) (hm1 : m ≤ 9223372036854775807) :
    Calls Try.prog 23 #[.agg #[.int .i64 k, .int .i64 s, .int .i64 i, .int .i64 g, .int .i64 es, .int .i64 ei, .int .i64 eg, .int .i64 m, .int .i64 x, .int .i64 y, .int .i64 vx, .int .i64 vy, .int .i64 hp, .int .i64 pw, .int .i64 lf, .int .i64 mask]] w fun e w' => e = .returned (.bool (rCmdB ⟨k, s, i, g, ⟨es, ei, eg, m, x, y, vx, vy, hp, pw, lf⟩, mask⟩)) ∧ Below w.heap.size w w' := by
  generalize hr : rCmdB _ = r
  unfold rCmdB at hr
  dsimp only at hr
  have HR := Lib.hid hr
  clear hr
  go_enter Try.func23, Try.ntmps23
  go_wp2_with (first
    | (go_at_call 50; refine (rRightID_any _ _ _ _).mono ?_; rintro e w1 ⟨rfl, hb⟩; obtain ⟨⟨hB1, hs1, hl1⟩, hc1⟩ := box_keep hb (box_new0 w _ _); clear hb)
    | (go_at_call 52; refine (rRight_any _ _ _ _ _ _ _ _ _ _ _ _ (by omega) (by omega)).mono ?_; rintro e w2 ⟨rfl, hb⟩; obtain ⟨⟨hB2, hs2, hl2⟩, hc2⟩ := box_keep hb ⟨⟨hB1, hs1, hl1⟩, hc1⟩; clear hb hB1 hs1 hl1 hc1)
    | (go_at_call 49; refine (rMay_any _ _ _ _ _ _ _ _ _ _ _ _ (by omega) (by omega)).mono ?_; rintro e w2 ⟨rfl, hb⟩; obtain ⟨⟨hB2, hs2, hl2⟩, hc2⟩ := box_keep hb (box_new0 w _ _); clear hb)
    | (go_at_call 51; refine (rTakes_any _ _).mono ?_; rintro e w' ⟨rfl, rfl⟩))
  all_goals (go_ret; refine ⟨?_, by first | assumption | go_grown⟩; go_tidy; (have h := HR.out; clear HR; subst h; simp_all [idZero, bunZero]))

end Go.Proofs.Ytbghjklnlhoklaa
namespace Go.Proofs.Ytbghjklnlhoklaa
open Go.RowKit

def cmEq (a b : Cm) : Bool := a.k == b.k && idEq a.s a.i a.g b.s b.i b.g && bunEq a.b b.b && a.mask == b.mask
theorem cmEq_iff (a a2 : Cm) : cmEq a a2 = true ↔ a = a2 := by
  obtain ⟨k, s, i, g, b, mask⟩ := a
  obtain ⟨k', s', i', g', b', mask'⟩ := a2
  simp [cmEq, idEq, bunEq, and_assoc]
theorem cmEq_self (a : Cm) : cmEq a a = true := (cmEq_iff a a).2 rfl
set_option maxRecDepth 10000 in
set_option maxHeartbeats 2000000 in
@[go_sem high] theorem run_eql_cm (k s i g es ei eg m x y vx vy hp pw lf mask k' s' i' g' es' ei' eg' m' x' y' vx' vy' hp' pw' lf' mask' : Int) (W : World) :
    (binOp .eql 37 (.agg #[.int .i64 k, .int .i64 s, .int .i64 i, .int .i64 g, .int .i64 es, .int .i64 ei, .int .i64 eg, .int .i64 m, .int .i64 x, .int .i64 y, .int .i64 vx, .int .i64 vy, .int .i64 hp, .int .i64 pw, .int .i64 lf, .int .i64 mask]) (.agg #[.int .i64 k', .int .i64 s', .int .i64 i', .int .i64 g', .int .i64 es', .int .i64 ei', .int .i64 eg', .int .i64 m', .int .i64 x', .int .i64 y', .int .i64 vx', .int .i64 vy', .int .i64 hp', .int .i64 pw', .int .i64 lf', .int .i64 mask'])).run Try.prog W = .ok (.bool (cmEq ⟨k, s, i, g, ⟨es, ei, eg, m, x, y, vx, vy, hp, pw, lf⟩, mask⟩ ⟨k', s', i', g', ⟨es', ei', eg', m', x', y', vx', vy', hp', pw', lf'⟩, mask'⟩)) W := by
  rw [run_eql_struct]
  by_cases h0 : k = k'
  · by_cases h1 : s = s'
    · by_cases h2 : i = i'
      · by_cases h3 : g = g'
        · by_cases h4 : es = es'
          · by_cases h5 : ei = ei'
            · by_cases h6 : eg = eg'
              · by_cases h7 : m = m'
                · by_cases h8 : x = x'
                  · by_cases h9 : y = y'
                    · by_cases h10 : vx = vx'
                      · by_cases h11 : vy = vy'
                        · by_cases h12 : hp = hp'
                          · by_cases h13 : pw = pw'
                            · by_cases h14 : lf = lf'
                              · by_cases h15 : mask = mask'
                                · simp [go_sem, cmEq, idEq, bunEq, h0, h1, h2, h3, h4, h5, h6, h7, h8, h9, h10, h11, h12, h13, h14, h15]
                                · simp [go_sem, cmEq, idEq, bunEq, h0, h1, h2, h3, h4, h5, h6, h7, h8, h9, h10, h11, h12, h13, h14, h15]
                              · simp [go_sem, cmEq, idEq, bunEq, h0, h1, h2, h3, h4, h5, h6, h7, h8, h9, h10, h11, h12, h13, h14]
                            · simp [go_sem, cmEq, idEq, bunEq, h0, h1, h2, h3, h4, h5, h6, h7, h8, h9, h10, h11, h12, h13]
                          · simp [go_sem, cmEq, idEq, bunEq, h0, h1, h2, h3, h4, h5, h6, h7, h8, h9, h10, h11, h12]
                        · simp [go_sem, cmEq, idEq, bunEq, h0, h1, h2, h3, h4, h5, h6, h7, h8, h9, h10, h11]
                      · simp [go_sem, cmEq, idEq, bunEq, h0, h1, h2, h3, h4, h5, h6, h7, h8, h9, h10]
                    · simp [go_sem, cmEq, idEq, bunEq, h0, h1, h2, h3, h4, h5, h6, h7, h8, h9]
                  · simp [go_sem, cmEq, idEq, bunEq, h0, h1, h2, h3, h4, h5, h6, h7, h8]
                · simp [go_sem, cmEq, idEq, bunEq, h0, h1, h2, h3, h4, h5, h6, h7]
              · simp [go_sem, cmEq, idEq, bunEq, h0, h1, h2, h3, h4, h5, h6]
            · simp [go_sem, cmEq, idEq, bunEq, h0, h1, h2, h3, h4, h5]
          · simp [go_sem, cmEq, idEq, bunEq, h0, h1, h2, h3, h4]
        · simp [go_sem, cmEq, idEq, bunEq, h0, h1, h2, h3]
      · simp [go_sem, cmEq, idEq, bunEq, h0, h1, h2]
    · simp [go_sem, cmEq, idEq, bunEq, h0, h1]
  · simp [go_sem, cmEq, idEq, bunEq, h0]

@[go_sem high] theorem run_neq_cm (k s i g es ei eg m x y vx vy hp pw lf mask k' s' i' g' es' ei' eg' m' x' y' vx' vy' hp' pw' lf' mask' : Int) (W : World) :
    (binOp .neq 37 (.agg #[.int .i64 k, .int .i64 s, .int .i64 i, .int .i64 g, .int .i64 es, .int .i64 ei, .int .i64 eg, .int .i64 m, .int .i64 x, .int .i64 y, .int .i64 vx, .int .i64 vy, .int .i64 hp, .int .i64 pw, .int .i64 lf, .int .i64 mask]) (.agg #[.int .i64 k', .int .i64 s', .int .i64 i', .int .i64 g', .int .i64 es', .int .i64 ei', .int .i64 eg', .int .i64 m', .int .i64 x', .int .i64 y', .int .i64 vx', .int .i64 vy', .int .i64 hp', .int .i64 pw', .int .i64 lf', .int .i64 mask'])).run Try.prog W = .ok (.bool (!(cmEq ⟨k, s, i, g, ⟨es, ei, eg, m, x, y, vx, vy, hp, pw, lf⟩, mask⟩ ⟨k', s', i', g', ⟨es', ei', eg', m', x', y', vx', vy', hp', pw', lf'⟩, mask'⟩))) W := by
  have h := run_eql_cm k s i g es ei eg m x y vx vy hp pw lf mask k' s' i' g' es' ei' eg' m' x' y' vx' vy' hp' pw' lf' mask' W
  rw [run_eql_struct] at h
  rw [run_neq_struct]
  generalize (Op.equalIn _ _ _ _).run Try.prog W = r at *
  cases r with
  | ok b w => simp only [Result.andThen_ok] at *; cases b <;> simp_all
  | halt x w => simp [Result.andThen] at h
theorem checkCmd_m (m : Cm) (w : World) : Calls Try.prog 37 #[.agg (cmC m).toArray] w fun e w' => e = .returned (.int .i64 (errB (cmdB m))) ∧ Below w.heap.size w w' := by
  obtain ⟨k, s, i, g, ⟨es, ei, eg, m, x, y, vx, vy, hp, pw, lf⟩, mask⟩ := m
  exact checkCmd_any k s i g es ei eg m x y vx vy hp pw lf mask w
theorem rMayCmd_m (m : Cm) (w : World) (hm : (-9223372036854775808 ≤ m.b.m ∧ m.b.m ≤ 9223372036854775807)) : Calls Try.prog 23 #[.agg (cmC m).toArray] w fun e w' => e = .returned (.bool (cmdB m)) ∧ Below w.heap.size w w' := by
  obtain ⟨k, s, i, g, ⟨es, ei, eg, m, x, y, vx, vy, hp, pw, lf⟩, mask⟩ := m
  have h := rMayCmd_any k s i g es ei eg m x y vx vy hp pw lf mask w hm.1 hm.2
  rw [cmdB_eq] at h
  exact h
end Go.Proofs.Ytbghjklnlhoklaa
namespace Go.Proofs.Ytbghjklnlhoklaa
open Go.RowKit

def ldM (a : Addr) : Sem Value := loadVar 37 a
def stM (a : Addr) (v : Value) : Sem Unit := storeVar 37 a v
theorem loadVar_ldM (a : Addr) : loadVar 37 a = ldM a := rfl
theorem storeVar_stM (a : Addr) (v : Value) : storeVar 37 a v = stM a v := rfl
theorem ldM_of {W : World} {b o : Nat} (m : Cm) (h : ∀ j v, (cmC m)[j]? = some v → W.cell? ⟨b, o + j, none⟩ = some v) : (ldM ⟨b, o, none⟩).run Try.prog W = .ok (.agg (cmC m).toArray) W := by
  have h1 := Go.Proofs.run_loadCellsFrom_list Try.prog W ⟨b, o, none⟩ (cmC m) 16 rfl (fun j v hj => by rw [Addr.add_lit]; exact h j v hj)
  simp [ldM, loadVar, loadCells, h1]
theorem stM_of {W W' : World} {a : Addr} (m : Cm) (h : Sem.run Try.prog (storeCells a (cmC m) 0) W = .ok () W') : (stM a (.agg (cmC m).toArray)).run Try.prog W = .ok () W' := by
  simp [stM, storeVar, Value.cells, cmC_len, h]
theorem more_setCells (b : Nat) (d : Nat) (os : Array Obj) : ∀ (vs : List Value) (o : Nat) (W : World), b < W.heap.size → (more W d os).setCells b o vs = more (W.setCells b o vs) d os
  | [], _, _, _ => rfl
  | v :: r, o, W, h => by
    rw [World.setCells, World.setCells, more_setCell _ _ _ _ _ h, more_setCells b d os r _ _ (by simpa [World.setCell] using h)]
theorem size_setCells (b : Nat) : ∀ (vs : List Value) (o : Nat) (W : World), (W.setCells b o vs).heap.size = W.heap.size
  | [], _, _ => rfl
  | v :: r, o, W => by rw [World.setCells, size_setCells b r]; simp [World.setCell]
/-- A command in a box: loaded, whatever has been laid since. -/
theorem ld_box {W : World} {b : Nat} (m : Cm) (hb : b < W.heap.size) (h : ∀ j, W.cell? ⟨b, j, none⟩ = (cmC m)[j]?) (d : Nat) (os : Array Obj) : (ldM ⟨b, 0, none⟩).run Try.prog (more W d os) = .ok (.agg (cmC m).toArray) (more W d os) :=
  ldM_of m fun j v hj => by rw [Nat.zero_add, more_cell _ _ _ _ hb, h j, hj]
theorem ld_box0 {W : World} {b : Nat} (m : Cm) (h : ∀ j, W.cell? ⟨b, j, none⟩ = (cmC m)[j]?) : (ldM ⟨b, 0, none⟩).run Try.prog W = .ok (.agg (cmC m).toArray) W :=
  ldM_of m fun j v hj => by rw [Nat.zero_add, h j, hj]
/-- A command stored into a box. -/
theorem st_box (V : World) (b : Nat) (h16 : ∀ j, j < 16 → (V.cell? ⟨b, j, none⟩).isSome = true) (hf : ∀ j, V.frozen? ⟨b, j, none⟩ = false) (hb : b < V.heap.size) (m : Cm) :
    ∃ V2, (∀ d os, (stM ⟨b, 0, none⟩ (.agg (cmC m).toArray)).run Try.prog (more V d os) = .ok () (more V2 d os)) ∧ (stM ⟨b, 0, none⟩ (.agg (cmC m).toArray)).run Try.prog V = .ok () V2 ∧ (∀ j v, (cmC m)[j]? = some v → V2.cell? ⟨b, j, none⟩ = some v) ∧ V2.heap.size = V.heap.size ∧ Turned V V2 (some b) := by
  have key : ∀ W : World, (∀ j, j < 16 → (W.cell? ⟨b, j, none⟩).isSome = true) → (∀ j, W.frozen? ⟨b, j, none⟩ = false) → (stM ⟨b, 0, none⟩ (.agg (cmC m).toArray)).run Try.prog W = .ok () (W.setCells b 0 (cmC m)) := fun W hw hv => by
    have h := Go.run_storeCells_cells (P := Try.prog) b 0 (cmC m) 0 W (fun j hj => by rw [show 0 + 0 + j = j by omega]; exact hw j hj) (fun j _ => hv _) (cmC_one m)
    exact stM_of m (by simpa using h)
  have hin := World.cell?_setCells_in b (cmC m) 0 V fun j hj => by rw [Nat.zero_add]; exact h16 j hj
  refine ⟨V.setCells b 0 (cmC m), fun d os => ?_, key V h16 hf, fun j v hj => ?_, size_setCells _ _ _ _, setCells_turned _ _ _ _⟩
  · rw [key _ (fun j hj => by rw [more_cell _ _ _ _ hb]; exact h16 j hj) (fun j => by rw [more_frozen _ _ _ _ hb]; exact hf j), more_setCells _ _ _ _ _ _ hb]
  · have hlt := (List.getElem?_eq_some_iff.1 hj).1
    have := hin j hlt
    rw [Nat.zero_add] at this
    rw [this, ← hj, List.getElem?_eq_getElem hlt]
theorem ld_more {W : World} {b : Nat} {m : Cm} (h : ∀ j v, (cmC m)[j]? = some v → W.cell? ⟨b, j, none⟩ = some v) (hb : b < W.heap.size) (d : Nat) (os : Array Obj) : (ldM ⟨b, 0, none⟩).run Try.prog (more W d os) = .ok (.agg (cmC m).toArray) (more W d os) :=
  ldM_of m fun j v hj => by rw [Nat.zero_add, more_cell _ _ _ _ hb]; exact h j v hj
/-- A result that lies in a box, with two others. -/
theorem results_cm {fn : Func} {a b c : Tmp} {tmps : Array Value} {W : World} {ad : Addr} {v vb vc : Value} (h : fn.results = #[.cell a 37, .tmp b, .tmp c]) (ha : tmps.getD a undef = .pointer (some ad)) (hb : tmps.getD b undef = vb) (hc : tmps.getD c undef = vc) (hl : (ldM ad).run Try.prog W = .ok v W) :
    (results fn tmps).run Try.prog W = .ok (.tuple #[v, vb, vc]) W := by
  unfold results
  rw [h]
  simp only [List.mapM_toArray, List.mapM_cons, List.mapM_nil, ha, hb, hc, loadVar_ldM]
  simp [asAddr, hl, go_sem]
end Go.Proofs.Ytbghjklnlhoklaa

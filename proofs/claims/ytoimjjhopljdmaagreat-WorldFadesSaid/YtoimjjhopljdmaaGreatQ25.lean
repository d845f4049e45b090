/-
  Chapter texts SoP SyD RfC GhB ShE GhE GhF GhG GhI GhU: what the claim reaches of them. Conditions stand at each theorem.
-/
import Derived.ChangeSlices
import Derived.Deep.Slices
import Derived.StillTailTactics
import Derived.Lib.SliceRun
import Derived.Shelf.SlicesQ.IndexFunc
import Derived.Test.YtoimjjhopljdmaaGreatQ07
import Derived.Test.YtoimjjhopljdmaaGreatQ23
import Derived.Test.YtoimjjhopljdmaaGreatQ08
import Derived.Test.YtoimjjhopljdmaaGreatQ09
import Derived.Test.YtoimjjhopljdmaaGreatQ16
import Derived.Test.YtoimjjhopljdmaaGreatQ24
import Derived.Test.YtoimjjhopljdmaaGreatQ01
import Derived.Test.YtoimjjhopljdmaaGreatQ14
namespace Go.Proofs.YtoimjjhopljdmaaGreat
open Go.RowKit Go.Sort
theorem bunCells_split : ∀ (l : List Bun) (t : Nat) (u : Value), (bunCells l)[t]? = some u → ∃ b, l[t / 11]? = some b ∧ (bunL b)[t % 11]? = some u := fun l t u h => by
  have ht : t < l.length * 11 := by have := (List.getElem?_eq_some_iff.1 h).1; rwa [bunCells_len] at this
  have hk : t / 11 < l.length := by omega
  refine ⟨l[t / 11], List.getElem?_eq_getElem hk, ?_⟩
  have e := bunCells_get l (t / 11) (t % 11) l[t / 11] (List.getElem?_eq_getElem hk) (Nat.mod_lt _ (by omega))
  rw [show t / 11 * 11 + t % 11 = t by omega] at e
  rw [← e]; exact h

theorem sl_store1 {w : World} {e : TypeId} {size n : Nat} {g off cap : Nat} {xs : List Value} (h : Sl w e size (.slice (some ⟨g, off, none⟩) n cap) n xs) {t : Nat} (ht : t < n * size) (u : Value) :
    (∃ u', w.cell? ⟨g, off + t, none⟩ = some u') ∧ w.frozen? ⟨g, off + t, none⟩ = false ∧ Sl (w.setCell ⟨g, off + t, none⟩ u) e size (.slice (some ⟨g, off, none⟩) n cap) n (xs.set t u) ∧ Turned w (w.setCell ⟨g, off + t, none⟩ u) (some g) := by
  obtain ⟨hl, ⟨h0, _⟩ | ⟨g', off', cap', cur, hv, hb, hn, hc, hsz, hr⟩⟩ := h
  · cases h0
  simp only [Value.slice.injEq, Option.some.injEq, Addr.mk.injEq, and_true, true_and] at hv
  obtain ⟨⟨rfl, rfl⟩, rfl⟩ := hv
  have hlt : off + t < cur.size := by
    have : n * size ≤ cap * size := Nat.mul_le_mul_right _ hn
    omega
  have hs := setCells_turned g [u] (off + t) w
  refine ⟨⟨cur[off + t], by simp [World.cell?, hb, hlt]⟩, by simp [World.frozen?, hb], ⟨by rw [List.length_set, hl], .inr ⟨g, off, cap, cur.setIfInBounds (off + t) u, rfl, ?_, hn, hc, by simpa using hsz, fun j v hj => ?_⟩⟩, hs⟩
  · simp [World.setCell, Array.getElem?_modify, hb]
  · rw [List.getElem?_set] at hj
    split at hj
    · rename_i e1
      subst e1
      split at hj
      · rw [Array.getElem?_setIfInBounds_self, if_pos hlt]; exact hj
      · cases hj
    · rename_i e1
      rw [Array.getElem?_setIfInBounds_ne (by omega)]
      exact hr j v hj

end Go.Proofs.YtoimjjhopljdmaaGreat
namespace Go.Proofs.YtoimjjhopljdmaaGreat
open Go.RowKit

theorem more_alloc (w : World) (d : Nat) (os : Array Obj) (o : Obj) : (more w d os).alloc o = more w d (os.push o) := by
  have e : (w.heap ++ os).push o = w.heap ++ os.push o := by apply Array.ext'; simp
  show ({ more w d os with heap := (w.heap ++ os).push o } : World) = _
  rw [e]
  rfl

def moveF (c : Cfg) (b : Bun) : Bun :=
  let x := if hasB b.m 2 then addF b.x (max (-c.speed) (min c.speed b.vx)) else b.x
  let y := if hasB b.m 2 then addF b.y (max (-c.speed) (min c.speed b.vy)) else b.y
  { b with x := (inF c x y).1, y := (inF c x y).2 }


set_option maxRecDepth 100000 in
set_option maxHeartbeats 2000000 in
theorem move_vel (w : World) (bm : Nat) (c : Cfg) (s i g m x y vx vy hp pw lf : Int) (h : MapAt w bm c) (ho : CfgOk c) (hb : hasB m 2 = true) :
    Calls Tryz.prog 104 #[.pointer (some ⟨bm, 0, none⟩), .agg #[.int .i64 s, .int .i64 i, .int .i64 g, .int .i64 m, .int .i64 x, .int .i64 y, .int .i64 vx, .int .i64 vy, .int .i64 hp, .int .i64 pw, .int .i64 lf]] w fun e w' => e = .returned (moveF c ⟨s, i, g, m, x, y, vx, vy, hp, pw, lf⟩).v ∧ Below w.heap.size w w' := by
  have h4 := h.cell 4
  simp only [List.getElem?_toArray, List.getElem?_cons_succ, List.getElem?_cons_zero] at h4
  have HZ := Lib.hid (fun W (hW : Below w.heap.size w W) x y => zin_any W bm c x y (h.grow hW) ho)
  have hbm : bm < w.heap.size := World.block_lt_of_cell? w _ h4
  obtain ⟨b10, b11, b12, b13⟩ := ltb hbm
  obtain ⟨b20, b21, b22, b23⟩ := ltb b10
  have hs0 := ho.v0
  have hs1 := ho.v1
  have hs2 := ho.s1
  obtain ⟨cols, rows, side, radius, speed, ids, queue⟩ := c
  simp only at h4 hs0 hs1 hs2
  go_enter Tryz.func104, Tryz.ntmps104
  go_wp2_with (go_at_call 136; refine (has_any _ _ _ _ _ _ _ _ _ _ _ _ _).mono ?_; rintro e w' ⟨rfl, hb⟩; obtain ⟨d, os, rfl⟩ := more_of hb; clear hb)
  go_still_tail 17, (by kernel_rfl)
  go_wp2_with (go_at_call 138; refine (add_any _ x (max (-speed) (min speed vx)) _ (by simp [go_sem]) (by simp [go_sem])).mono ?_; rintro e w' ⟨rfl, rfl⟩)
  rw [more_alloc]
  generalize os.push _ = os2
  go_still_tail 17, (by kernel_rfl)
  go_wp2_with (go_at_call 138; refine (add_any _ y (max (-speed) (min speed vy)) _ (by simp [go_sem]) (by simp [go_sem])).mono ?_; rintro e w' ⟨rfl, rfl⟩)
  refine (HZ.out _ (by repeat' (first | (with_reducible exact Below.refl _ _) | (with_reducible assumption) | (with_reducible refine below_drewN ?_ _) | (with_reducible refine below_more _ _ _ ?_ ?_) | (with_reducible refine Below.alloc ?_ ?_ _) | (with_reducible refine Below.drew ?_) | (with_reducible refine Below.setCell ?_ ?_ _) | go_size)) _ _).mono ?_
  rintro e w' ⟨rfl, nz, rfl⟩
  go_wp2_with fail
  go_returns
  refine ⟨?_, (by repeat' (first | (with_reducible exact Below.refl _ _) | (with_reducible assumption) | (with_reducible refine below_drewN ?_ _) | (with_reducible refine below_more _ _ _ ?_ ?_) | (with_reducible refine Below.alloc ?_ ?_ _) | (with_reducible refine Below.drew ?_) | (with_reducible refine Below.setCell ?_ ?_ _) | go_size))⟩
  simp [moveF, hb]

set_option maxRecDepth 100000 in
set_option maxHeartbeats 2000000 in
theorem move_rest (w : World) (bm : Nat) (c : Cfg) (s i g m x y vx vy hp pw lf : Int) (h : MapAt w bm c) (ho : CfgOk c) (hb : hasB m 2 = false) :
    Calls Tryz.prog 104 #[.pointer (some ⟨bm, 0, none⟩), .agg #[.int .i64 s, .int .i64 i, .int .i64 g, .int .i64 m, .int .i64 x, .int .i64 y, .int .i64 vx, .int .i64 vy, .int .i64 hp, .int .i64 pw, .int .i64 lf]] w fun e w' => e = .returned (moveF c ⟨s, i, g, m, x, y, vx, vy, hp, pw, lf⟩).v ∧ Below w.heap.size w w' := by
  have HZ := Lib.hid (fun W (hW : Below w.heap.size w W) x y => zin_any W bm c x y (h.grow hW) ho)
  clear h ho
  go_enter Tryz.func104, Tryz.ntmps104
  go_wp2_with (go_at_call 136; refine (has_any _ _ _ _ _ _ _ _ _ _ _ _ _).mono ?_; rintro e w' ⟨rfl, hb⟩; obtain ⟨d, os, rfl⟩ := more_of hb; clear hb)
  refine (HZ.out _ (by repeat' (first | (with_reducible exact Below.refl _ _) | (with_reducible assumption) | (with_reducible refine below_drewN ?_ _) | (with_reducible refine below_more _ _ _ ?_ ?_) | (with_reducible refine Below.alloc ?_ ?_ _) | (with_reducible refine Below.drew ?_) | (with_reducible refine Below.setCell ?_ ?_ _) | go_size)) _ _).mono ?_
  rintro e w' ⟨rfl, nz, rfl⟩
  go_wp2_with fail
  go_returns
  refine ⟨?_, (by repeat' (first | (with_reducible exact Below.refl _ _) | (with_reducible assumption) | (with_reducible refine below_drewN ?_ _) | (with_reducible refine below_more _ _ _ ?_ ?_) | (with_reducible refine Below.alloc ?_ ?_ _) | (with_reducible refine Below.drew ?_) | (with_reducible refine Below.setCell ?_ ?_ _) | go_size))⟩
  simp [moveF, hb]

theorem move_any (w : World) (bm : Nat) (c : Cfg) (s i g m x y vx vy hp pw lf : Int) (h : MapAt w bm c) (ho : CfgOk c) :
    Calls Tryz.prog 104 #[.pointer (some ⟨bm, 0, none⟩), .agg #[.int .i64 s, .int .i64 i, .int .i64 g, .int .i64 m, .int .i64 x, .int .i64 y, .int .i64 vx, .int .i64 vy, .int .i64 hp, .int .i64 pw, .int .i64 lf]] w fun e w' => e = .returned (.agg #[.int .i64 (moveF c ⟨s, i, g, m, x, y, vx, vy, hp, pw, lf⟩).s, .int .i64 (moveF c ⟨s, i, g, m, x, y, vx, vy, hp, pw, lf⟩).i, .int .i64 (moveF c ⟨s, i, g, m, x, y, vx, vy, hp, pw, lf⟩).g, .int .i64 (moveF c ⟨s, i, g, m, x, y, vx, vy, hp, pw, lf⟩).m, .int .i64 (moveF c ⟨s, i, g, m, x, y, vx, vy, hp, pw, lf⟩).x, .int .i64 (moveF c ⟨s, i, g, m, x, y, vx, vy, hp, pw, lf⟩).y, .int .i64 (moveF c ⟨s, i, g, m, x, y, vx, vy, hp, pw, lf⟩).vx, .int .i64 (moveF c ⟨s, i, g, m, x, y, vx, vy, hp, pw, lf⟩).vy, .int .i64 (moveF c ⟨s, i, g, m, x, y, vx, vy, hp, pw, lf⟩).hp, .int .i64 (moveF c ⟨s, i, g, m, x, y, vx, vy, hp, pw, lf⟩).pw, .int .i64 (moveF c ⟨s, i, g, m, x, y, vx, vy, hp, pw, lf⟩).lf]) ∧ Below w.heap.size w w' := by
  cases hb : hasB m 2 with
  | true => exact move_vel w bm c s i g m x y vx vy hp pw lf h ho hb
  | false => exact move_rest w bm c s i g m x y vx vy hp pw lf h ho hb

end Go.Proofs.YtoimjjhopljdmaaGreat
namespace Go.Proofs.YtoimjjhopljdmaaGreat
open Go.RowKit

theorem heap_more (w : World) (d : Nat) (os : Array Obj) (b : Nat) (h : b < w.heap.size) : (more w d os).heap[b]? = w.heap[b]? := by simp [more, Array.getElem?_append, h]
def TwoW (w : World) (n : Nat) (q0 q1 q2 q3 a b c d : Int) (wx : World) : Prop :=
  Below w.heap.size w wx ∧ w.heap.size + 2 < n ∧ wx.heap[w.heap.size + 1]? = some (.cells #[.int .i64 q0, .int .i64 q1, .int .i64 q2, .int .i64 q3] 54) ∧ wx.heap[w.heap.size + 2]? = some (.cells #[.int .i64 0, .int .i64 0, .int .i64 0, .int .i64 0] 54) ∧ wx.heap[n]? = some (.cells #[.int .i64 a, .int .i64 b, .int .i64 c, .int .i64 d] 54)

theorem TwoW.more {w wx : World} {n : Nat} {q0 q1 q2 q3 a b c d : Int} (k : Nat) (os : Array Obj) (h : TwoW w n q0 q1 q2 q3 a b c d wx) : TwoW w n q0 q1 q2 q3 a b c d (more wx k os) := by
  obtain ⟨hb, h2, hq, hz, hn⟩ := h
  have hn' := (Array.getElem?_eq_some_iff.1 hn).1
  exact ⟨(by repeat' (first | (with_reducible exact Below.refl _ _) | (with_reducible assumption) | (with_reducible refine below_drewN ?_ _) | (with_reducible refine below_more _ _ _ ?_ ?_) | (with_reducible refine Below.alloc ?_ ?_ _) | (with_reducible refine Below.drew ?_) | (with_reducible refine Below.setCell ?_ ?_ _) | go_size)), h2, (heap_more _ _ _ _ (by omega)).trans hq, (heap_more _ _ _ _ (by omega)).trans hz, (heap_more _ _ _ _ hn').trans hn⟩

theorem TwoW.set0 {w wx : World} {n : Nat} {q0 q1 q2 q3 a b c d : Int} (v : Int) (h : TwoW w n q0 q1 q2 q3 a b c d wx) : TwoW w n q0 q1 q2 q3 v b c d (wx.setCell ⟨n, 0, none⟩ (.int .i64 v)) := by
  obtain ⟨hb, h2, hq, hz, hn⟩ := h
  refine ⟨hb.setCell (by simp; omega) _, h2, ?_, ?_, ?_⟩
  · rw [Below.heap_setCell _ _ _ _ (by simp; omega)]; exact hq
  · rw [Below.heap_setCell _ _ _ _ (by simp; omega)]; exact hz
  · simp [World.setCell, Array.getElem?_modify, hn]
theorem TwoW.set3 {w wx : World} {n : Nat} {q0 q1 q2 q3 a b c d : Int} (v : Int) (h : TwoW w n q0 q1 q2 q3 a b c d wx) : TwoW w n q0 q1 q2 q3 a b c v (wx.setCell ⟨n, 3, none⟩ (.int .i64 v)) := by
  obtain ⟨hb, h2, hq, hz, hn⟩ := h
  refine ⟨hb.setCell (by simp; omega) _, h2, ?_, ?_, ?_⟩
  · rw [Below.heap_setCell _ _ _ _ (by simp; omega)]; exact hq
  · rw [Below.heap_setCell _ _ _ _ (by simp; omega)]; exact hz
  · simp [World.setCell, Array.getElem?_modify, hn]

theorem TwoW.cells {w wx : World} {n : Nat} {q0 q1 q2 q3 a b c d : Int} (h : TwoW w n q0 q1 q2 q3 a b c d wx) :
    (∀ j, wx.cell? ⟨w.heap.size + 1, j, none⟩ = (#[.int .i64 q0, .int .i64 q1, .int .i64 q2, .int .i64 q3] : Array Value)[j]?) ∧ (∀ j, wx.cell? ⟨w.heap.size + 1 + 1, j, none⟩ = (#[.int .i64 0, .int .i64 0, .int .i64 0, .int .i64 0] : Array Value)[j]?) ∧ (∀ j, wx.cell? ⟨n, j, none⟩ = (#[.int .i64 a, .int .i64 b, .int .i64 c, .int .i64 d] : Array Value)[j]?) ∧ n < wx.heap.size ∧ w.heap.size + 1 + 1 < wx.heap.size ∧ w.heap.size + 1 < wx.heap.size ∧ (∀ o, wx.frozen? ⟨n, o, none⟩ = false) ∧ (∀ o, wx.frozen? ⟨w.heap.size + 1 + 1, o, none⟩ = false) := by
  obtain ⟨hb, h2, hq, hz, hn⟩ := h
  have := (Array.getElem?_eq_some_iff.1 hn).1
  exact ⟨fun j => by simp [World.cell?, hq], fun j => by simp [World.cell?, hz], fun j => by simp [World.cell?, hn], this, by omega, by omega, fun o => by simp [World.frozen?, hn], fun o => by simp [World.frozen?, hz]⟩


end Go.Proofs.YtoimjjhopljdmaaGreat
namespace Go.Proofs.YtoimjjhopljdmaaGreat
open Go.RowKit

theorem BNew.none {w w' : World} (h : Below w.heap.size w w') : BNew w w' (.slice none 0 0) [] := ⟨(BNew.nil w').1, h, fun g hg => by cases hg⟩

end Go.Proofs.YtoimjjhopljdmaaGreat
namespace Go.Proofs.YtoimjjhopljdmaaGreat
open Go.RowKit

def hitEq (a b : Hit) : Bool := decide (a = b)
@[go_sem high] theorem run_eql_hit (s i g n s' i' g' n' : Int) (W : World) :
    (binOp .eql 149 (.agg #[.int .i64 s, .int .i64 i, .int .i64 g, .int .i64 n]) (.agg #[.int .i64 s', .int .i64 i', .int .i64 g', .int .i64 n'])).run Tryz.prog W = .ok (.bool (hitEq ⟨s, i, g, n⟩ ⟨s', i', g', n'⟩)) W := by
  rw [run_eql_struct]
  by_cases h1 : s = s'
  · by_cases h2 : i = i'
    · by_cases h3 : g = g'
      · by_cases h4 : n = n' <;> simp [go_sem, hitEq, h1, h2, h3, h4]
      · simp [go_sem, hitEq, h1, h2, h3]
    · simp [go_sem, hitEq, h1, h2]
  · simp [go_sem, hitEq, h1]
@[go_sem high] theorem run_neq_hit (s i g n s' i' g' n' : Int) (W : World) :
    (binOp .neq 149 (.agg #[.int .i64 s, .int .i64 i, .int .i64 g, .int .i64 n]) (.agg #[.int .i64 s', .int .i64 i', .int .i64 g', .int .i64 n'])).run Tryz.prog W = .ok (.bool (!(hitEq ⟨s, i, g, n⟩ ⟨s', i', g', n'⟩))) W := by
  have h := run_eql_hit s i g n s' i' g' n' W
  rw [run_eql_struct] at h
  rw [run_neq_struct]
  generalize (Op.equalIn _ _ _ _).run Tryz.prog W = r at *
  cases r with
  | ok b w => simp only [Result.andThen_ok] at *; cases b <;> simp_all
  | halt x w => simp [Result.andThen] at h


theorem BIn.take {w : World} {p : Option Addr} {n cap : Nat} {l : List Bun} (h : BIn w (.slice p n cap) l) (k : Nat) (hk : k ≤ n) : BIn w (.slice p k cap) (l.take k) := by
  obtain ⟨p', cap', hv, h1, h2, h3, h4⟩ := h
  simp only [Value.slice.injEq] at hv
  obtain ⟨rfl, rfl, rfl⟩ := hv
  have e : (l.take k).length = k := by simp; omega
  refine ⟨p, cap, by rw [e], by rw [e]; omega, h2, by rw [e]; omega, fun hn => ?_⟩
  obtain ⟨blk, off, rfl, h5, h6⟩ := h4 (fun e => hn (by rw [e]; simp))
  refine ⟨blk, off, rfl, h5, fun t u hu => ?_⟩
  obtain ⟨b, hb, hbu⟩ := bunCells_split _ t u hu
  have ht : t / 11 < k := by have := (List.getElem?_eq_some_iff.1 hb).1; omega
  rw [List.getElem?_take_of_lt ht] at hb
  have e2 := bunCells_get l (t / 11) (t % 11) b hb (Nat.mod_lt _ (by omega))
  rw [show t / 11 * 11 + t % 11 = t by omega] at e2
  exact h6 t u (e2.trans hbu)


end Go.Proofs.YtoimjjhopljdmaaGreat
namespace Go.Proofs.YtoimjjhopljdmaaGreat
open Go.RowKit

def KeepRow (p : Int → Bool) (zs r : List Int) (i j : Nat) : Prop := r.length = zs.length ∧ i < j ∧ r.take i = (zs.take j).filter (fun x => !p x) ∧ r.drop j = zs.drop j
theorem KeepRow.skip {p : Int → Bool} {zs r : List Int} {i j : Nat} {x : Int} (h : KeepRow p zs r i j) (hx : zs[j]? = some x) (hp : p x = true) : KeepRow p zs r i (j + 1) := by
  obtain ⟨h1, h2, h3, h4⟩ := h
  have hj := (List.getElem?_eq_some_iff.1 hx).1
  refine ⟨h1, by omega, ?_, ?_⟩
  · rw [List.take_succ_eq_append_getElem hj, List.filter_append, (List.getElem?_eq_some_iff.1 hx).2]
    simp [hp, h3]
  · have := congrArg (List.drop 1) h4
    simpa [List.drop_drop, Nat.add_comm] using this
theorem KeepRow.put {p : Int → Bool} {zs r : List Int} {i j : Nat} {x : Int} (h : KeepRow p zs r i j) (hx : zs[j]? = some x) (hp : p x = false) : KeepRow p zs (r.set i x) (i + 1) (j + 1) := by
  obtain ⟨h1, h2, h3, h4⟩ := h
  have hj := (List.getElem?_eq_some_iff.1 hx).1
  have hi : i < r.length := by omega
  refine ⟨by simpa using h1, by omega, ?_, ?_⟩
  · rw [List.take_succ_eq_append_getElem hj, List.filter_append, (List.getElem?_eq_some_iff.1 hx).2, ← h3]
    rw [List.take_succ_eq_append_getElem (by simpa using hi)]
    simp [hp, List.take_set_of_le]
  · rw [List.drop_set_of_lt (by omega)]
    have := congrArg (List.drop 1) h4
    simpa [List.drop_drop, Nat.add_comm] using this
end Go.Proofs.YtoimjjhopljdmaaGreat
namespace Go.Proofs.YtoimjjhopljdmaaGreat
open Go.RowKit

theorem Turned.of_bel {w w' : World} {b : Option Nat} (h : Below w.heap.size w w') : Turned w w' b := ⟨h.os, h.tape, h.output, h.size, fun k hk _ => h.block k hk⟩
theorem Turned.then {w w1 w2 : World} {b : Option Nat} (h : Turned w w1 b) (h2 : Turned w1 w2 b) : Turned w w2 b :=
  ⟨h2.os.trans h.os, h2.tape.trans h.tape, h2.output.trans h.output, Nat.le_trans h.size h2.size, fun k hk hne => (h2.block k (Nat.lt_of_lt_of_le hk h.size) hne).trans (h.block k hk hne)⟩
end Go.Proofs.YtoimjjhopljdmaaGreat
namespace Go.Proofs.YtoimjjhopljdmaaGreat
open Go.RowKit Go.Shelf

structure Gh where
  f : Int
  t : Int
  p : Option Addr
  n : Nat
  c : Nat
deriving Inhabited
structure Sta where
  ep : Int
  t : Int
  po : Option Addr
  no : Nat
  co : Nat
  pd : Option Addr
  nd : Nat
  cd : Nat
  pu : Option Addr
  nu : Nat
  cu : Nat
  pi : Option Addr
  ni : Nat
  ci : Nat
  pg : Option Addr
  ng : Nat
  cg : Nat
  nx : Int
def Sta.arr (s : Sta) : Array Value := #[.int .i64 s.ep, .int .i64 s.t, .slice s.po s.no s.co, .slice s.pd s.nd s.cd, .slice s.pu s.nu s.cu, .slice s.pi s.ni s.ci, .slice s.pg s.ng s.cg, .int .i64 s.nx]
end Go.Proofs.YtoimjjhopljdmaaGreat
namespace Go.Proofs.YtoimjjhopljdmaaGreat
open Go.RowKit Go.Shelf

def GhOk (W : World) (L : List Gh) (bl : Gh → List Bun) : Prop := ∀ g ∈ L, BIn W (.slice g.p g.n g.c) (bl g) ∧ (bl g).length ≤ 1000
theorem GhOk.keep {W W' : World} {L : List Gh} {bl : Gh → List Bun} (h : GhOk W L bl) (hb : Below W.heap.size W W') : GhOk W' L bl := fun g hg => ⟨(h g hg).1.keep hb, (h g hg).2⟩
end Go.Proofs.YtoimjjhopljdmaaGreat
namespace Go.Proofs.YtoimjjhopljdmaaGreat
open Go.RowKit

structure BoxSt (w3 w : World) (B : Nat) (v : Value) : Prop where
  t : Turned w3 w (some B)
  c6 : w.cell? ⟨B, 6, none⟩ = some v
  cs : ∀ u, u ≠ 6 → w.cell? ⟨B, u, none⟩ = w3.cell? ⟨B, u, none⟩
  fz : ∀ u, w.frozen? ⟨B, u, none⟩ = w3.frozen? ⟨B, u, none⟩
theorem BoxSt.cell {w3 w : World} {B : Nat} {v : Value} (h : BoxSt w3 w B v) {b o : Nat} (hb : b < w3.heap.size) (hne : b ≠ B) : w.cell? ⟨b, o, none⟩ = w3.cell? ⟨b, o, none⟩ :=
  World.cell?_of_block (w := w3) (a := ⟨b, o, none⟩) (h.t.block b hb (by intro e; exact hne (Option.some.inj e)))
theorem BoxSt.grow {w3 w w' : World} {B : Nat} {v : Value} (h : BoxSt w3 w B v) (hB : B < w3.heap.size) (hb : Below w.heap.size w w') : BoxSt w3 w' B v := by
  have hBw : B < w.heap.size := Nat.lt_of_lt_of_le hB h.t.size
  refine ⟨h.t.then (Turned.of_bel hb), (hb.cell (p := ⟨B, 6, none⟩) hBw).trans h.c6, fun u hu => (hb.cell (p := ⟨B, u, none⟩) hBw).trans (h.cs u hu), fun u => ?_⟩
  rw [← h.fz u]
  exact World.frozen?_of_block (w := w) (a := ⟨B, u, none⟩) (hb.block B hBw)
theorem BoxSt.app {w3 w w' : World} {B : Nat} {v : Value} {own : Option Nat} (h : BoxSt w3 w B v) (hB : B < w3.heap.size) (ht : Turned w w' own) (ho : ∀ g, own = some g → w3.heap.size ≤ g) : BoxSt w3 w' B v := by
  have hBw : B < w.heap.size := Nat.lt_of_lt_of_le hB h.t.size
  have hk : w'.heap[B]? = w.heap[B]? := ht.block B hBw (fun e => by have := ho B e.symm; omega)
  refine ⟨⟨ht.os.trans h.t.os, ht.tape.trans h.t.tape, ht.output.trans h.t.output, Nat.le_trans h.t.size ht.size, fun k hk hne => (ht.block k (Nat.lt_of_lt_of_le hk h.t.size) (fun e => by have := ho k e.symm; omega)).trans (h.t.block k hk hne)⟩, (World.cell?_of_block (w := w) (a := ⟨B, 6, none⟩) hk).trans h.c6, fun u hu => (World.cell?_of_block (w := w) (a := ⟨B, u, none⟩) hk).trans (h.cs u hu), fun u => ?_⟩
  rw [← h.fz u]
  exact World.frozen?_of_block (w := w) (a := ⟨B, u, none⟩) hk
theorem BoxSt.frozen {w3 w : World} {B : Nat} {v : Value} (h : BoxSt w3 w B v) {b o : Nat} (hb : b < w3.heap.size) (hne : b ≠ B) : w.frozen? ⟨b, o, none⟩ = w3.frozen? ⟨b, o, none⟩ :=
  World.frozen?_of_block (w := w3) (a := ⟨b, o, none⟩) (h.t.block b hb (by intro e; exact hne (Option.some.inj e)))
theorem Sl.grow {w w' : World} {e : TypeId} {size : Nat} {v : Value} {n : Nat} {xs : List Value} (h : Sl w e size v n xs) (hb : Below w.heap.size w w') : Sl w' e size v n xs := h.keep fun g hg => hb.block g (sl_lt h hg)

end Go.Proofs.YtoimjjhopljdmaaGreat

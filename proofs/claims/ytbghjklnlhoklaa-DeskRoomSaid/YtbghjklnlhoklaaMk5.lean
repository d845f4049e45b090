/-
  The program's pool of names: Head, Reserve. No condition.
  The program's pool of names: Issue. No condition.
-/
import Derived.Test.YtbghjklnlhoklaaMk4
import Derived.RegionTactic
import Derived.StillTailTactics
namespace Go.Proofs.Ytbghjklnlhoklaa
open Go.RowKit

theorem head_none (w : World) (k : Int) :
    Calls Try.prog 41 #[.pointer none, .int .i64 k] w fun e w' => e = .returned (.tuple #[.int .i64 0, .bool false, .int .i64 1]) ∧ Below w.heap.size w w' := by
  go_enter Try.func41, Try.ntmps41
  go_wp2_with (go_at_call 75; refine (of_none _ _).mono ?_; rintro e w' ⟨rfl, rfl⟩)
  go_ret3
  exact ⟨rfl, Below.refl _ _⟩
theorem head_out (w : World) (L : Lay) (M : List Sh) (k : Int) (h : PoolAt w L M) (hm : shOf M k = none) :
    Calls Try.prog 41 #[.pointer (some ⟨L.P, 0, none⟩), .int .i64 k] w fun e w' => e = .returned (.tuple #[.int .i64 0, .bool false, .int .i64 1]) ∧ Below w.heap.size w w' := by
  have HOF := Lib.hid (of_out w L M k h hm)
  clear hm
  go_enter Try.func41, Try.ntmps41
  go_wp2_with (go_at_call 75; refine HOF.out.mono ?_; rintro e w' ⟨rfl, rfl⟩)
  go_ret3
  exact ⟨rfl, Below.refl _ _⟩

theorem Sl.nil_or {w : World} {e : TypeId} {v : Value} {n : Nat} {xs : List Value} (h : Sl w e 1 v n xs) :
    (n = 0 ∧ ∃ p c, v = .slice p 0 c) ∨ (0 < n ∧ ∃ g off cap, v = .slice (some ⟨g, off, none⟩) n cap ∧ n ≤ cap ∧ cap ≤ maxLen ∧ (∀ o, w.frozen? ⟨g, o, none⟩ = false) ∧ (∀ j u, xs[j]? = some u → w.cell? ⟨g, off + j, none⟩ = some u)) := by
  obtain ⟨h1, ⟨rfl, rfl⟩ | ⟨g, off, cap, cur, rfl, hb, hn, hc, hs, hr⟩⟩ := h
  · exact .inl ⟨rfl, _, _, rfl⟩
  · by_cases h0 : n = 0
    · subst h0; exact .inl ⟨rfl, _, _, rfl⟩
    · exact .inr ⟨by omega, g, off, cap, rfl, hn, hc, fun o => by simp [World.frozen?, hb], fun j u hj => by simp [World.cell?, hb, hr j u hj]⟩

theorem head_full (w : World) (L : Lay) (M : List Sh) (k : Int) (m : Sh) (h : PoolAt w L M) (hm : shOf M k = some m) (hf : m.free = []) :
    Calls Try.prog 41 #[.pointer (some ⟨L.P, 0, none⟩), .int .i64 k] w fun e w' => e = .returned (.tuple #[.int .i64 0, .bool false, .int .i64 8]) ∧ Below w.heap.size w w' := by
  obtain ⟨k, l, rfl, hm, hl⟩ := shOf_nat h hm
  have HOF := Lib.hid (of_in w L M k m h hm)
  obtain ⟨hcA, hcF, _, _, hinv, hk, hsl⟩ := h.sh hm hl
  rw [hf] at hsl
  rcases hsl.nil_or with ⟨_, p, c, hv⟩ | ⟨h0, _⟩
  · rw [hv] at hcF
    clear hm hl hf hsl hv hinv
    go_enter Try.func41, Try.ntmps41
    go_wp2_with (go_at_call 75; refine HOF.out.mono ?_; rintro e w' ⟨rfl, rfl⟩)
    go_ret3
    exact ⟨rfl, Below.refl _ _⟩
  · simp at h0

set_option maxHeartbeats 1000000 in
theorem head_in (w : World) (L : Lay) (M : List Sh) (k : Int) (m : Sh) (f : Int) (fs : List Int) (x : Ix) (h : PoolAt w L M) (hm : shOf M k = some m) (hf : m.free = f :: fs) (hx : m.all[f.toNat]? = some x) :
    Calls Try.prog 41 #[.pointer (some ⟨L.P, 0, none⟩), .int .i64 k] w fun e w' => e = .returned (.tuple #[.int .i64 f, .bool (decide (x.gen < x.bound)), .int .i64 0]) ∧ Below w.heap.size w w' := by
  obtain ⟨k, l, rfl, hm, hl⟩ := shOf_nat h hm
  have HOF := Lib.hid (of_in w L M k m h hm)
  obtain ⟨hcA, hcF, _, _, hinv, hk, hsl⟩ := h.sh hm hl
  obtain ⟨c0, c1, c2⟩ := h.ix hm hl hx
  have hfr := hinv.fr f (by rw [hf]; simp)
  have hfew := hinv.few
  rw [hf] at hsl
  rcases hsl.nil_or with ⟨h0, _⟩ | ⟨_, g, off, cap, hv, hn, hc, _, hcell⟩
  · simp at h0
  · have hc0 := hcell 0 (.int .i64 f) rfl
    rw [Nat.add_zero] at hc0
    rw [hv] at hcF
    have hlen : 0 < (f :: fs).length := by simp
    generalize (f :: fs).length = q at *
    obtain ⟨i, rfl⟩ := Int.eq_ofNat_of_zero_le hfr.1
    rw [Int.toNat_natCast] at c0 c1 c2
    clear hm hl hf hsl hv hinv hx hcell
    generalize m.all.length = n at *
    obtain ⟨gen, bound, alive⟩ := x
    unfold maxLen at hc
    have h1 := hfr.2
    clear hfr
    have b1 : l.A < w.heap.size := World.block_lt_of_cell? w _ c0
    have b2 : L.S < w.heap.size := World.block_lt_of_cell? w _ hcA
    have b3 : g < w.heap.size := World.block_lt_of_cell? w _ hc0
    go_enter Try.func41, Try.ntmps41
    go_wp2_with (go_at_call 75; refine HOF.out.mono ?_; rintro e w' ⟨rfl, rfl⟩)
    go_region_held3 (fun W => w.heap.size ≤ W.heap.size ∧ ∀ b o, b < w.heap.size → W.cell? ⟨b, o, none⟩ = w.cell? ⟨b, o, none⟩) (with_reducible (repeat (first | assumption | exact s_refl _ | exact s_id _ | refine s_alloc _ ?_ | refine s_drew ?_))) (fail)
    go_wp2_with fail
    go_quiet (fail)
    go_wp2_with fail
    go_ret3
    exact ⟨rfl, (by repeat' (first | (with_reducible exact Below.refl _ _) | (with_reducible assumption) | (with_reducible refine below_drewN ?_ _) | (with_reducible refine below_more _ _ _ ?_ ?_) | (with_reducible refine Below.alloc ?_ ?_ _) | (with_reducible refine Below.drew ?_) | (with_reducible refine Below.setCell ?_ ?_ _) | go_size))⟩

def setIx (M : List Sh) (k i : Int) (x : Ix) : List Sh := match shOf M k with
  | none => M
  | some m => M.set k.toNat { m with all := m.all.set i.toNat x }
def setFr (M : List Sh) (k : Int) (fr : List Int) : List Sh := match shOf M k with
  | none => M
  | some m => M.set k.toNat { m with free := fr }

theorem setIx_nat {M : List Sh} {k i : Nat} {m : Sh} (x : Ix) (hm : M[k]? = some m) : setIx M k i x = M.set k { m with all := m.all.set i x } := by
  simp [setIx, shOf, hm]
theorem setFr_nat {M : List Sh} {k : Nat} {m : Sh} (fr : List Int) (hm : M[k]? = some m) : setFr M k fr = M.set k { m with free := fr } := by
  simp [setFr, shOf, hm]

def reserveF (M : List Sh) (k i : Int) : Int × List Sh := match ixOf M k i with
  | none => (1, M)
  | some x => if x.bound = 1048576 then (5, M) else (0, setIx M k i { x with bound := min (x.bound + 8) 1048576 })

theorem ShInv.set_ix {m : Sh} (h : ShInv m) (i : Nat) (x' : Ix) (hr : 0 ≤ x'.gen ∧ x'.gen ≤ 1048576 ∧ 0 ≤ x'.bound ∧ x'.bound ≤ 1048576 ∧ (x'.alive = true → x'.gen < 1048576)) (hd : (i : Int) ∈ m.free → x'.alive = false) : ShInv { m with all := m.all.set i x' } := by
  refine ⟨by simpa using h.few, fun j y hy => ?_, fun f hf => by simpa using h.fr f hf, h.nd, fun f hf y hy => ?_⟩
  · simp only [List.getElem?_set] at hy
    split at hy
    · split at hy
      · cases hy; exact hr
      · cases hy
    · exact h.rng j y hy
  · simp only [List.getElem?_set] at hy
    have h0 := (h.fr f hf).1
    split at hy
    · rename_i he
      split at hy
      · cases hy
        exact hd (by rw [show (i : Int) = f by omega]; exact hf)
      · cases hy
    · exact h.dead f hf y hy

theorem reserve_none (w : World) (k i : Int) :
    Calls Try.prog 43 #[.pointer none, .int .i64 k, .int .i64 i] w fun e w' => e = .returned (.int .i64 1) ∧ Below w.heap.size w w' := by
  go_enter Try.func43, Try.ntmps43
  go_wp2_with (go_at_call 72; refine (at_none _ _ _).mono ?_; rintro e w' ⟨rfl, hb⟩; obtain ⟨d, os, rfl⟩ := more_of hb; clear hb)
  go_ret
  exact ⟨rfl, (by repeat' (first | (with_reducible exact Below.refl _ _) | (with_reducible assumption) | (with_reducible refine below_drewN ?_ _) | (with_reducible refine below_more _ _ _ ?_ ?_) | (with_reducible refine Below.alloc ?_ ?_ _) | (with_reducible refine Below.drew ?_) | (with_reducible refine Below.setCell ?_ ?_ _) | go_size))⟩

theorem reserve_any (w : World) (L : Lay) (M : List Sh) (k i : Int) (h : PoolAt w L M) :
    Calls Try.prog 43 #[.pointer (some ⟨L.P, 0, none⟩), .int .i64 k, .int .i64 i] w fun e w' => e = .returned (.int .i64 (reserveF M k i).1) ∧ Stp w L w' (reserveF M k i).2 := by
  unfold reserveF
  cases hx : ixOf M k i with
  | none =>
    have HAT := Lib.hid (at_out _ L M k i h hx)
    have HE := fun w' (hb : Below w.heap.size w w') => Stp.of_grown h hb
    have HE := Lib.hid HE
    clear hx
    go_enter Try.func43, Try.ntmps43
    go_wp2_with (go_at_call 72; refine (HAT.out).mono ?_; rintro e w' ⟨rfl, hb⟩; obtain ⟨d, os, rfl⟩ := more_of hb; clear hb)
    go_ret
    exact ⟨rfl, HE.out _ (by repeat' (first | (with_reducible exact Below.refl _ _) | (with_reducible assumption) | (with_reducible refine below_drewN ?_ _) | (with_reducible refine below_more _ _ _ ?_ ?_) | (with_reducible refine Below.alloc ?_ ?_ _) | (with_reducible refine Below.drew ?_) | (with_reducible refine Below.setCell ?_ ?_ _) | go_size))⟩
  | some x =>
    obtain ⟨k, i, m, l, rfl, rfl, hm, hl, hx'⟩ := ixOf_nat h hx
    have HAT := Lib.hid (at_in _ L M k i m l h hm hl (List.getElem?_eq_some_iff.1 hx').1)
    obtain ⟨c0, c1, c2⟩ := h.ix hm hl hx'
    obtain ⟨_, _, _, hfr, hinv, _, _⟩ := h.sh hm hl
    have f1 := hfr (i * 3 + 1)
    have b1 : l.A < w.heap.size := World.block_lt_of_cell? w _ c1
    have hr := hinv.rng i x hx'
    have HE := Lib.hid (fun w' (hb : Below w.heap.size w w') => Stp.of_grown h hb)
    have HS := Lib.hid (h.set_ix hm hl hx' (x' := { x with bound := min (x.bound + 8) 1048576 }) 1 _ (.inr (.inl ⟨rfl, rfl, rfl⟩)) (hinv.set_ix i _ ⟨hr.1, hr.2.1, by simp only; omega, by simp only; omega, hr.2.2.2.2⟩ (fun hf => hinv.dead i hf x (by simpa using hx'))))
    have HS := Lib.hid (Stp.same HS.out ((Chg.refl w L.own).setCell _ _ (.inl (Lay.own_at hl (.inr (.inl rfl))))))
    rw [← setIx_nat _ hm] at HS
    clear hx hm hl hx' c0 c2 hfr hinv
    obtain ⟨gen, bound, alive⟩ := x
    simp only at *
    obtain ⟨_, _, hr1, hr2, _⟩ := hr
    by_cases hb : bound = 1048576
    · rw [if_pos hb]
      have hbb : (bound == 1048576) = true := by simpa using hb
      clear hb
      go_enter Try.func43, Try.ntmps43
      go_wp2_with (go_at_call 72; refine (HAT.out).mono ?_; rintro e w' ⟨rfl, hb⟩; obtain ⟨d, os, rfl⟩ := more_of hb; clear hb)
      go_ret
      exact ⟨rfl, HE.out _ (by repeat' (first | (with_reducible exact Below.refl _ _) | (with_reducible assumption) | (with_reducible refine below_drewN ?_ _) | (with_reducible refine below_more _ _ _ ?_ ?_) | (with_reducible refine Below.alloc ?_ ?_ _) | (with_reducible refine Below.drew ?_) | (with_reducible refine Below.setCell ?_ ?_ _) | go_size))⟩
    · rw [if_neg hb]
      have hbb : (bound == 1048576) = false := by simpa using hb
      clear hb
      by_cases hlt : bound + 8 ≤ 1048576
      · rw [show min (bound + 8) 1048576 = bound + 8 by omega] at HS
        rw [show min (bound + 8) 1048576 = bound + 8 by omega]
        go_enter Try.func43, Try.ntmps43
        go_wp2_with (go_at_call 72; refine (HAT.out).mono ?_; rintro e w' ⟨rfl, hb⟩; obtain ⟨d, os, rfl⟩ := more_of hb; clear hb)
        go_ret
        exact ⟨rfl, HS.out.then_below (more_below _ _ _)⟩
      · rw [show min (bound + 8) 1048576 = 1048576 by omega] at HS
        rw [show min (bound + 8) 1048576 = 1048576 by omega]
        go_enter Try.func43, Try.ntmps43
        go_wp2_with (go_at_call 72; refine (HAT.out).mono ?_; rintro e w' ⟨rfl, hb⟩; obtain ⟨d, os, rfl⟩ := more_of hb; clear hb)
        go_ret
        exact ⟨rfl, HS.out.then_below (more_below _ _ _)⟩

end Go.Proofs.Ytbghjklnlhoklaa
namespace Go.Proofs.Ytbghjklnlhoklaa
open Go.RowKit

def issueF (M : List Sh) (k : Int) : (Int × Int × Int) × Int × List Sh := match shOf M k with
  | none => ((0, 0, 0), 1, M)
  | some m => match m.free with
    | [] => ((0, 0, 0), 8, M)
    | f :: fs => match m.all[f.toNat]? with
      | none => ((0, 0, 0), 14, M)
      | some x => if x.gen < x.bound then ((k, f, x.gen), 0, setFr (setIx M k f { x with alive := true }) k fs) else ((0, 0, 0), 14, M)

theorem ShInv.tail {m : Sh} {f : Int} {fs : List Int} (h : ShInv m) (hf : m.free = f :: fs) : ShInv { m with free := fs } :=
  ⟨h.few, h.rng, fun g hg => h.fr g (by rw [hf]; exact List.mem_cons_of_mem _ hg), by have := h.nd; rw [hf] at this; exact (List.nodup_cons.1 this).2, fun g hg => h.dead g (by rw [hf]; exact List.mem_cons_of_mem _ hg)⟩

theorem Sl.tail {w : World} {e : TypeId} {g off n cap : Nat} {x : Value} {xs : List Value} (h : Sl w e 1 (.slice (some ⟨g, off, none⟩) n cap) n (x :: xs)) :
    Sl w e 1 (.slice (some ⟨g, off + 1, none⟩) (n - 1) (cap - 1)) (n - 1) xs ∧ (n = 1 → Sl w e 1 (.slice (some ⟨g, off, none⟩) 0 0) (n - 1) xs) := by
  obtain ⟨h1, ⟨h2, _⟩ | ⟨g', off', cap', cur, h2, hb, hn, hc, hs, hr⟩⟩ := h
  · cases h2
  · simp only [Value.slice.injEq, Option.some.injEq, Addr.mk.injEq, and_true, true_and] at h2
    obtain ⟨⟨rfl, rfl⟩, rfl⟩ := h2
    simp only [List.length_cons, Nat.mul_one] at h1
    refine ⟨⟨by omega, .inr ⟨g, off + 1, cap - 1, cur, rfl, hb, by omega, by omega, by omega, fun j u hj => ?_⟩⟩, fun h0 => ⟨by omega, .inr ⟨g, off, 0, cur, by rw [show n - 1 = 0 by omega], hb, by omega, by omega, by omega, fun j u hj => ?_⟩⟩⟩
    · rw [show off + 1 + j = off + (j + 1) by omega]; exact hr (j + 1) u (by simpa using hj)
    · have : xs = [] := List.eq_nil_of_length_eq_zero (by omega)
      subst this; cases hj

theorem lts {a W : Nat} (h : a < W) : a < W + 1 ∧ (∀ n, a < W + 1 + n) ∧ (∀ n m, a < W + 1 + n + m) ∧ (∀ n m q, a < W + 1 + n + m + q) := ⟨by omega, fun _ => by omega, fun _ _ => by omega, fun _ _ _ => by omega⟩

theorem Chg.own {v : Value} (g off n cap : Nat) (h : v = .slice (some ⟨g, off, none⟩) n cap) : v.ownBlock = some g := by subst h; rfl

end Go.Proofs.Ytbghjklnlhoklaa

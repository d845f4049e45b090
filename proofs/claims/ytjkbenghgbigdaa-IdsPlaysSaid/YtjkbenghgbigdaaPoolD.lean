/-
  The program's pool of names: Issue. No condition.
-/
import Derived.Test.YtjkbenghgbigdaaPoolC
import Derived.RegionTactic
import Derived.StillTailTactics
namespace Go.Proofs.Ytjkbenghgbigdaa
open Go.RowKit

def issueF (M : List Sh) (k : Int) : (Int × Int × Int) × Int × List Sh := match shOf M k with
  | none => ((0, 0, 0), 1, M)
  | some m => match m.free with
    | [] => ((0, 0, 0), 8, M)
    | f :: fs => match m.all[f.toNat]? with
      | none => ((0, 0, 0), 14, M)
      | some x => if x.gen < x.bound then ((k, f, x.gen), 0, setFr (setIx M k f { x with alive := true }) k fs) else ((0, 0, 0), 14, M)

theorem ShInv.tail {m : Sh} {f : Int} {fs : List Int} (h : ShInv m) (hf : m.free = f :: fs) : ShInv { m with free := fs } :=
  ⟨h.few, h.rng, fun g hg => h.fr g (by rw [hf]; exact List.mem_cons_of_mem _ hg), by have := h.nd; rw [hf] at this; exact (List.nodup_cons.1 this).2, fun g hg => h.dead g (by rw [hf]; exact List.mem_cons_of_mem _ hg)⟩

set_option maxHeartbeats 1000000 in
theorem issue_bad (w : World) (p : Option Addr) (k : Int) (e0 : Int) (h0 : (e0 != 0) = true)
    (HD : ∀ w', Below w.heap.size w w' → Calls Try.prog 38 #[.pointer p, .int .i64 k] w' fun e w'' => e = .returned (.tuple #[.int .i64 0, .bool false, .int .i64 e0]) ∧ Below w'.heap.size w' w'') :
    Calls Try.prog 44 #[.pointer p, .int .i64 k] w fun e w' => e = .returned (.tuple #[.agg #[.int .i64 0, .int .i64 0, .int .i64 0], .int .i64 e0]) ∧ Below w.heap.size w w' := by
  have HD' := Lib.hid (HD _ ((Below.refl _ _).alloc (Nat.le_refl _) (.cells #[.int .i64 0, .int .i64 0, .int .i64 0] 30)))
  clear HD
  go_enter Try.func44, Try.ntmps44
  go_wp2_with (go_at_call 38; refine (HD'.out).mono ?_; rintro e w' ⟨rfl, hb⟩; obtain ⟨d, os, rfl⟩ := more_of hb; clear hb)
  exact bodyPost_ret (v := .tuple #[.agg #[.int .i64 0, .int .i64 0, .int .i64 0], .int .i64 e0]) (by simp [results, Try.results44, go_sem]) rfl ⟨rfl, (by repeat' (first | (with_reducible exact Below.refl _ _) | (with_reducible assumption) | (with_reducible refine below_drewN ?_ _) | (with_reducible refine below_more _ _ _ ?_ ?_) | (with_reducible refine Below.alloc ?_ ?_ _) | (with_reducible refine Below.drew ?_) | (with_reducible refine Below.setCell ?_ ?_ _) | go_size))⟩

set_option maxHeartbeats 1000000 in
theorem issue_state (w : World) (L : Lay) (M : List Sh) (k : Int) (m : Sh) (f : Int) (fs : List Int) (x : Ix) (h : PoolAt w L M) (hm : shOf M k = some m) (hf : m.free = f :: fs) (hx : m.all[f.toNat]? = some x) (hg : ¬ x.gen < x.bound) :
    Calls Try.prog 44 #[.pointer (some ⟨L.P, 0, none⟩), .int .i64 k] w fun e w' => e = .returned (.tuple #[.agg #[.int .i64 0, .int .i64 0, .int .i64 0], .int .i64 14]) ∧ Below w.heap.size w w' := by
  have HD := head_in (w.alloc (.cells #[.int .i64 0, .int .i64 0, .int .i64 0] 30)) L M k m f fs x (h.grown ((Below.refl _ _).alloc (Nat.le_refl _) _)) hm hf hx
  rw [decide_eq_false hg] at HD
  have HD' := Lib.hid HD
  clear HD hm hf hx hg
  go_enter Try.func44, Try.ntmps44
  go_wp2_with (go_at_call 38; refine (HD'.out).mono ?_; rintro e w' ⟨rfl, hb⟩; obtain ⟨d, os, rfl⟩ := more_of hb; clear hb)
  exact bodyPost_ret (v := .tuple #[.agg #[.int .i64 0, .int .i64 0, .int .i64 0], .int .i64 14]) (by simp [results, Try.results44, go_sem]) rfl ⟨rfl, (by repeat' (first | (with_reducible exact Below.refl _ _) | (with_reducible assumption) | (with_reducible refine below_drewN ?_ _) | (with_reducible refine below_more _ _ _ ?_ ?_) | (with_reducible refine Below.alloc ?_ ?_ _) | (with_reducible refine Below.drew ?_) | (with_reducible refine Below.setCell ?_ ?_ _) | go_size))⟩

theorem Sl.tail {w : World} {e : TypeId} {g off n cap : Nat} {x : Value} {xs : List Value} (h : Sl w e 1 (.slice (some ⟨g, off, none⟩) n cap) n (x :: xs)) :
    Sl w e 1 (.slice (some ⟨g, off + 1, none⟩) (n - 1) (cap - 1)) (n - 1) xs ∧ (n = 1 → Sl w e 1 (.slice (some ⟨g, off, none⟩) 0 0) (n - 1) xs) := by
  obtain ⟨h1, ⟨h2, _⟩ | ⟨g', off', cap', cur, h2, hb, hn, hc, hs, hr⟩⟩ := h
  · cases h2
  · simp only [Value.slice.injEq, Option.some.injEq, Addr.mk.injEq, and_true, true_and] at h2
    obtain ⟨⟨rfl, rfl⟩, rfl⟩ := h2
    simp only [List.length_cons, Nat.mul_one] at h1
    refine ⟨⟨by omega, .inr ⟨g, off + 1, cap - 1, cur, rfl, hb, by omega, by omega, by omega, fun j u hj => ?_⟩⟩, fun h0 => ⟨by omega, .inr ⟨g, off, 0, cur, by rw [show n - 1 = 0 by omega], hb, by omega, by omega, by omega, fun j u hj => ?_⟩⟩⟩
    · rw [show off + 1 + j = off + (j + 1) by omega]; exact hr (j + 1) u (by simpa using hj)
    · have : xs = [] := List.eq_nil_of_length_eq_zero (by omega)
      subst this; cases hj

theorem lts {a W : Nat} (h : a < W) : a < W + 1 ∧ (∀ n, a < W + 1 + n) ∧ (∀ n m, a < W + 1 + n + m) ∧ (∀ n m q, a < W + 1 + n + m + q) := ⟨by omega, fun _ => by omega, fun _ _ => by omega, fun _ _ _ => by omega⟩

theorem Chg.own {v : Value} (g off n cap : Nat) (h : v = .slice (some ⟨g, off, none⟩) n cap) : v.ownBlock = some g := by subst h; rfl

set_option maxHeartbeats 1000000 in
theorem issue_in (w : World) (L : Lay) (M : List Sh) (k : Int) (m : Sh) (f : Int) (fs : List Int) (x : Ix) (h : PoolAt w L M) (hm : shOf M k = some m) (hf : m.free = f :: fs) (hx : m.all[f.toNat]? = some x) (hg : x.gen < x.bound) :
    Calls Try.prog 44 #[.pointer (some ⟨L.P, 0, none⟩), .int .i64 k] w fun e w' => e = .returned (.tuple #[.agg #[.int .i64 k, .int .i64 f, .int .i64 x.gen], .int .i64 0]) ∧ Stp w L w' (setFr (setIx M k f { x with alive := true }) k fs) := by
  have HD := head_in (w.alloc (.cells #[.int .i64 0, .int .i64 0, .int .i64 0] 30)) L M k m f fs x (h.grown ((Below.refl _ _).alloc (Nat.le_refl _) _)) hm hf hx
  rw [decide_eq_true hg] at HD
  have HD' := Lib.hid HD
  obtain ⟨k, l, rfl, hm, hl⟩ := shOf_nat h hm
  obtain ⟨hcA, hcF, fS, fA, hinv, hk, hsl⟩ := h.sh hm hl
  have hfr := hinv.fr f (by rw [hf]; simp)
  obtain ⟨i, rfl⟩ := Int.eq_ofNat_of_zero_le hfr.1
  rw [Int.toNat_natCast] at hx
  obtain ⟨c0, c1, c2⟩ := h.ix hm hl hx
  have HAT := Lib.hid (fun w' (hb : Below w.heap.size w w') => at_in w' L M k i m l (h.grown hb) hm hl (List.getElem?_eq_some_iff.1 hx).1)
  have f1 := fS (k * 2 + 1)
  have f2 := fA (i * 3 + 2)
  have b1 : l.A < w.heap.size := World.block_lt_of_cell? w _ c0
  have b2 : L.S < w.heap.size := World.block_lt_of_cell? w _ hcA
  have b3 := h.S_ne_A hl
  rcases hsl.nil_or with ⟨h0, _⟩ | ⟨_, g, off, cap, hv, hn, hc, _, hcell⟩
  · rw [hf] at h0; simp at h0
  · rw [hv] at hcF
    have hlen : 0 < m.free.length := by rw [hf]; simp
    have hsl' := hsl
    rw [hv, hf] at hsl'
    have hlf : m.free.length = fs.length + 1 := by rw [hf]; simp
    rw [List.map_cons, show ((i : Int) :: fs).length = m.free.length from by rw [hf]] at hsl'
    obtain ⟨t1, t2⟩ := hsl'.tail
    have hl1 : m.free.length - 1 = fs.length := by omega
    have key : ∀ v' n', n' = fs.length → Sl w 3 1 v' n' (fs.map (Value.int .i64)) → v'.ownBlock = some g → Stp w L ((w.setCell ⟨L.S, k * 2 + 1, none⟩ v').setCell ⟨l.A, i * 3 + 2, none⟩ (.bool true)) (setFr (setIx M k i { x with alive := true }) k fs) := by
      intro v' n' hn' hs' hv'
      subst hn'
      have hown : l.fv.ownBlock = some g := by rw [hv]; rfl
      obtain ⟨p1, o1⟩ := h.set_free hm hl (w1 := w) (Chg.refl _ _) hs' (fun g' hg' => .inl (by rw [hown, ← hv', hg'])) (hinv.tail hf)
      have hk2 : k < L.sh.length := (List.getElem?_eq_some_iff.1 hl).1
      have p2 := p1.set_ix (k := k) (i := i) (m := { m with free := fs }) (l := { l with fv := v' }) (x := x) (x' := { x with alive := true }) (List.getElem?_set_self hk) (List.getElem?_set_self hk2) hx 2 _ (.inr (.inr ⟨rfl, rfl, rfl⟩)) ((hinv.tail hf).set_ix i _ (by have hr := hinv.rng i x hx; exact ⟨hr.1, hr.2.1, hr.2.2.1, hr.2.2.2.1, fun _ => by simp only; omega⟩) fun hf' => by
        have := hinv.nd; rw [hf] at this; exact absurd hf' (List.nodup_cons.1 this).1)
      refine ⟨L.put k { l with fv := v' }, rfl, ?_, ((Chg.refl w L.own).setCell ⟨L.S, k * 2 + 1, none⟩ v' (.inl ⟨1, rfl⟩)).setCell ⟨l.A, i * 3 + 2, none⟩ (.bool true) (.inl (Lay.own_at hl (.inr (.inl rfl)))), o1⟩
      rw [setIx_nat _ hm, setFr_nat (m := { m with all := m.all.set i { x with alive := true } }) _ (List.getElem?_set_self hk)]
      rw [List.set_set] at p2 ⊢
      exact p2
    have K1 := Lib.hid (key _ _ hl1 t1 rfl)
    have K2 := Lib.hid (fun h0 => key _ _ hl1 (t2 h0) rfl)
    clear hm hl hx hf hv hsl hsl' fS fA hcell HD key t1 t2 hlf hl1 hinv
    generalize hq : m.free.length = q at *
    have HQ := Lib.hid hq
    clear hq
    obtain ⟨gen, bound, alive⟩ := x
    unfold maxLen at hc
    obtain ⟨b10, b11, b12, b13⟩ := lts b1
    obtain ⟨b20, b21, b22, b23⟩ := lts b2
    by_cases hcap : cap = 1
    · subst hcap
      obtain rfl : q = 1 := by omega
      go_enter Try.func44, Try.ntmps44
      go_wp2_with (first | (go_at_call 38; refine (HD'.out).mono ?_; rintro e w' ⟨rfl, hb⟩; obtain ⟨d, os, rfl⟩ := more_of hb; clear hb) | (go_at_call 54; refine (HAT.out _ (by repeat' (first | (with_reducible exact Below.refl _ _) | (with_reducible assumption) | (with_reducible refine below_drewN ?_ _) | (with_reducible refine below_more _ _ _ ?_ ?_) | (with_reducible refine Below.alloc ?_ ?_ _) | (with_reducible refine Below.drew ?_) | (with_reducible refine Below.setCell ?_ ?_ _) | go_size))).mono ?_; rintro e w' ⟨rfl, hb⟩; obtain ⟨d, os, rfl⟩ := more_of hb; clear hb))
      refine bodyPost_ret (v := .tuple #[.agg #[.int .i64 k, .int .i64 i, .int .i64 gen], .int .i64 0]) (by simp [results, Try.results44, go_sem]) rfl ⟨rfl, ?_⟩
      exact (K2.out (by trivial)).then_below (by repeat' (first | (with_reducible exact Below.refl _ _) | (with_reducible assumption) | (with_reducible refine below_drewN ?_ _) | (with_reducible refine below_more _ _ _ ?_ ?_) | (with_reducible refine Below.alloc ?_ ?_ _) | (with_reducible refine Below.drew ?_) | (with_reducible refine Below.setCell ?_ ?_ _) | go_size))
    · have hcap' : 1 < cap := by omega
      clear hcap
      go_enter Try.func44, Try.ntmps44
      go_wp2_with (first | (go_at_call 38; refine (HD'.out).mono ?_; rintro e w' ⟨rfl, hb⟩; obtain ⟨d, os, rfl⟩ := more_of hb; clear hb) | (go_at_call 54; refine (HAT.out _ (by repeat' (first | (with_reducible exact Below.refl _ _) | (with_reducible assumption) | (with_reducible refine below_drewN ?_ _) | (with_reducible refine below_more _ _ _ ?_ ?_) | (with_reducible refine Below.alloc ?_ ?_ _) | (with_reducible refine Below.drew ?_) | (with_reducible refine Below.setCell ?_ ?_ _) | go_size))).mono ?_; rintro e w' ⟨rfl, hb⟩; obtain ⟨d, os, rfl⟩ := more_of hb; clear hb))
      refine bodyPost_ret (v := .tuple #[.agg #[.int .i64 k, .int .i64 i, .int .i64 gen], .int .i64 0]) (by simp [results, Try.results44, go_sem]) rfl ⟨rfl, ?_⟩
      exact K1.out.then_below (by repeat' (first | (with_reducible exact Below.refl _ _) | (with_reducible assumption) | (with_reducible refine below_drewN ?_ _) | (with_reducible refine below_more _ _ _ ?_ ?_) | (with_reducible refine Below.alloc ?_ ?_ _) | (with_reducible refine Below.drew ?_) | (with_reducible refine Below.setCell ?_ ?_ _) | go_size))
end Go.Proofs.Ytjkbenghgbigdaa

/- Texts PoolC PoolD PoolE: what the claim reaches of them. Conditions stand at each theorem. -/
import Derived.RegionTactic
import Derived.StillTailTactics
import Derived.Deep.AppendLies
import Derived.Test.YtoimjjhopljdmaaGreatP01
set_option maxRecDepth 100000
set_option maxHeartbeats 8000000
namespace Go.Proofs.YtoimjjhopljdmaaGreat
open Go.RowKit
open Go.Proofs.Tryz (prog)
open Go.Value (int)
open Go.IntKind (i64)
open Go.Lib (hid)
theorem head_none (w : World) (k : Int) :
 Calls prog 86 #[.pointer none, int i64 k] w fun e w' => e = .returned (.tuple #[int i64 0, .bool false, int i64 1]) ∧ Below w.heap.size w w' := by
 go_enter Tryz.func86, Tryz.ntmps86
 go_wp2_with (go_at_call 128; refine eqA (of_none _ _) ?_)
 go_ret3
 exact ⟨rfl, Below.refl _ _⟩
theorem head_out (w : World) (L : Lay) (M : List Sh) (k : Int) (h : PoolAt w L M) (hm : shOf M k = none) :
 Calls prog 86 #[.pointer (some ⟨L.P, 0, none⟩), int i64 k] w fun e w' => e = .returned (.tuple #[int i64 0, .bool false, int i64 1]) ∧ Below w.heap.size w w' := by
 have HOF := hid (of_out w L M k h hm)
 clear hm
 go_enter Tryz.func86, Tryz.ntmps86
 go_wp2_with (go_at_call 128; refine HOF.out.mono ?_; rintro e w' ⟨rfl, rfl⟩)
 go_ret3
 exact ⟨rfl, Below.refl _ _⟩
theorem Sl.nil_or {w : World} {e : TypeId} {v : Value} {n : Nat} {xs : List Value} (h : Sl w e 1 v n xs) :
 (n = 0 ∧ ∃ p c, v = .slice p 0 c) ∨ (0 < n ∧ ∃ g off cap, v = .slice (some ⟨g, off, none⟩) n cap ∧ n ≤ cap ∧ cap ≤ maxLen ∧ (∀ o, w.frozen? ⟨g, o, none⟩ = false) ∧ (∀ j u, xs[j]? = some u → w.cell? ⟨g, off + j, none⟩ = some u)) := by
 obtain ⟨h1, ⟨rfl, rfl⟩ | ⟨g, off, cap, cur, rfl, hb, hn, hc, hs, hr⟩⟩ := h
 · exact .inl ⟨rfl, _, _, rfl⟩
 · by_cases h0 : n = 0
   · subst h0; exact .inl ⟨rfl, _, _, rfl⟩
   · exact .inr ⟨by omega, g, off, cap, rfl, hn, hc, fun o => by simp [World.frozen?, hb], fun j u hj => by simp [World.cell?, hb, hr j u hj]⟩
theorem head_full (w : World) (L : Lay) (M : List Sh) (k : Int) (m : Sh) (h : PoolAt w L M) (hm : shOf M k = some m) (hf : m.free = []) :
 Calls prog 86 #[.pointer (some ⟨L.P, 0, none⟩), int i64 k] w fun e w' => e = .returned (.tuple #[int i64 0, .bool false, int i64 8]) ∧ Below w.heap.size w w' := by
 obtain ⟨k, l, rfl, hm, hl⟩ := shOf_nat h hm
 have HOF := hid (of_in w L M k m h hm)
 obtain ⟨hcA, hcF, _, _, hinv, hk, hsl⟩ := h.sh hm hl
 rw [hf] at hsl
 rcases hsl.nil_or with ⟨_, p, c, hv⟩ | ⟨h0, _⟩
 · rw [hv] at hcF
   clear hm hl hf hsl hv hinv
   go_enter Tryz.func86, Tryz.ntmps86
   go_wp2_with (go_at_call 128; refine HOF.out.mono ?_; rintro e w' ⟨rfl, rfl⟩)
   go_ret3
   exact ⟨rfl, Below.refl _ _⟩
 · simp at h0
theorem head_in (w : World) (L : Lay) (M : List Sh) (k : Int) (m : Sh) (f : Int) (fs : List Int) (x : Ix) (h : PoolAt w L M) (hm : shOf M k = some m) (hf : m.free = f :: fs) (hx : m.all[f.toNat]? = some x) :
 Calls prog 86 #[.pointer (some ⟨L.P, 0, none⟩), int i64 k] w fun e w' => e = .returned (.tuple #[int i64 f, .bool (decide (x.gen < x.bound)), int i64 0]) ∧ Below w.heap.size w w' := by
 obtain ⟨k, l, rfl, hm, hl⟩ := shOf_nat h hm
 have HOF := hid (of_in w L M k m h hm)
 obtain ⟨hcA, hcF, _, _, hinv, hk, hsl⟩ := h.sh hm hl
 obtain ⟨c0, c1, c2⟩ := h.ix hm hl hx
 have hfr := hinv.fr f (by rw [hf]; simp)
 have hfew := hinv.few
 rw [hf] at hsl
 rcases hsl.nil_or with ⟨h0, _⟩ | ⟨_, g, off, cap, hv, hn, hc, _, hcell⟩
 · simp at h0
 · have hc0 := hcell 0 (int i64 f) rfl
   rw [Nat.add_zero] at hc0
   rw [hv] at hcF
   have hlen : 0 < (f :: fs).length := by simp
   generalize (f :: fs).length = q at *
   obtain ⟨i, rfl⟩ := Int.eq_ofNat_of_zero_le hfr.1
   rw [Int.toNat_natCast] at c0 c1 c2
   clear hm hl hf hsl hv hinv hx hcell
   generalize m.all.length = n at *
   obtain ⟨gen, bound, alive⟩ := x
   unfold maxLen at hc
   have h1 := hfr.2
   clear hfr
   have b1 : l.A < w.heap.size := World.block_lt_of_cell? w _ c0
   have b2 : L.S < w.heap.size := World.block_lt_of_cell? w _ hcA
   have b3 : g < w.heap.size := World.block_lt_of_cell? w _ hc0
   go_enter Tryz.func86, Tryz.ntmps86
   go_wp2_with (go_at_call 128; refine HOF.out.mono ?_; rintro e w' ⟨rfl, rfl⟩)
   go_region_held3 (fun W => w.heap.size ≤ W.heap.size ∧ ∀ b o, b < w.heap.size → W.cell? ⟨b, o, none⟩ = w.cell? ⟨b, o, none⟩) (with_reducible (repeat (first | assumption | exact s_refl _ | exact s_id _ | refine s_alloc _ ?_ | refine s_drew ?_))) (fail)
   go_wp2_with fail
   go_quiet (fail)
   go_wp2_with fail
   go_ret3
   exact ⟨rfl, bg⟩
def setIx (M : List Sh) (k i : Int) (x : Ix) : List Sh := match shOf M k with
 | none => M
 | some m => M.set k.toNat { m with all := m.all.set i.toNat x }
def setFr (M : List Sh) (k : Int) (fr : List Int) : List Sh := match shOf M k with
 | none => M
 | some m => M.set k.toNat { m with free := fr }
theorem setIx_nat {M : List Sh} {k i : Nat} {m : Sh} (x : Ix) (hm : M[k]? = some m) : setIx M k i x = M.set k { m with all := m.all.set i x } := by
 simp [setIx, shOf, hm]
theorem setFr_nat {M : List Sh} {k : Nat} {m : Sh} (fr : List Int) (hm : M[k]? = some m) : setFr M k fr = M.set k { m with free := fr } := by
 simp [setFr, shOf, hm]
def reserveF (M : List Sh) (k i : Int) : Int × List Sh := match ixOf M k i with
 | none => (1, M)
 | some x => if x.bound = 1048576 then (5, M) else (0, setIx M k i { x with bound := min (x.bound + 8) 1048576 })
theorem ShInv.set_ix {m : Sh} (h : ShInv m) (i : Nat) (x' : Ix) (hr : 0 ≤ x'.gen ∧ x'.gen ≤ 1048576 ∧ 0 ≤ x'.bound ∧ x'.bound ≤ 1048576 ∧ (x'.alive = true → x'.gen < 1048576)) (hd : (i : Int) ∈ m.free → x'.alive = false) : ShInv { m with all := m.all.set i x' } := by
 refine ⟨by simpa using h.few, fun j y hy => ?_, fun f hf => by simpa using h.fr f hf, h.nd, fun f hf y hy => ?_⟩
 · simp only [List.getElem?_set] at hy
   split at hy
   · split at hy
     · cases hy; exact hr
     · cases hy
   · exact h.rng j y hy
 · simp only [List.getElem?_set] at hy
   have h0 := (h.fr f hf).1
   split at hy
   · rename_i he
     split at hy
     · cases hy
       exact hd (by rw [show (i : Int) = f by omega]; exact hf)
     · cases hy
   · exact h.dead f hf y hy
theorem reserve_any (w : World) (L : Lay) (M : List Sh) (k i : Int) (h : PoolAt w L M) :
 Calls prog 88 #[.pointer (some ⟨L.P, 0, none⟩), int i64 k, int i64 i] w fun e w' => e = .returned (int i64 (reserveF M k i).1) ∧ Stp w L w' (reserveF M k i).2 := by
 unfold reserveF
 cases hx : ixOf M k i with
 | none =>
   have HAT := hid (at_out _ L M k i h hx)
   have HE := fun w' (hb : Below w.heap.size w w') => Stp.of_grown h hb
   have HE := hid HE
   clear hx
   go_enter Tryz.func88, Tryz.ntmps88
   go_wp2_with (go_at_call 125; refine belA (HAT.out) fun d os => ?_)
   go_ret
   exact ⟨rfl, HE.out _ bg⟩
 | some x =>
   obtain ⟨k, i, m, l, rfl, rfl, hm, hl, hx'⟩ := ixOf_nat h hx
   have HAT := hid (at_in _ L M k i m l h hm hl (List.getElem?_eq_some_iff.1 hx').1)
   obtain ⟨c0, c1, c2⟩ := h.ix hm hl hx'
   obtain ⟨_, _, _, hfr, hinv, _, _⟩ := h.sh hm hl
   have f1 := hfr (i * 3 + 1)
   have b1 : l.A < w.heap.size := World.block_lt_of_cell? w _ c1
   have hr := hinv.rng i x hx'
   have HE := hid (fun w' (hb : Below w.heap.size w w') => Stp.of_grown h hb)
   have HS := hid (h.set_ix hm hl hx' (x' := { x with bound := min (x.bound + 8) 1048576 }) 1 _ (.inr (.inl ⟨rfl, rfl, rfl⟩)) (hinv.set_ix i _ ⟨hr.1, hr.2.1, by simp only; omega, by simp only; omega, hr.2.2.2.2⟩ (fun hf => hinv.dead i hf x (by simpa using hx'))))
   have HS := hid (Stp.same HS.out ((Chg.refl w L.own).setCell _ _ (.inl (Lay.own_at hl (.inr (.inl rfl))))))
   rw [← setIx_nat _ hm] at HS
   clear hx hm hl hx' c0 c2 hfr hinv
   obtain ⟨gen, bound, alive⟩ := x
   simp only at *
   obtain ⟨_, _, hr1, hr2, _⟩ := hr
   by_cases hb : bound = 1048576
   · rw [if_pos hb]
     have hbb : (bound == 1048576) = true := by simpa using hb
     clear hb
     go_enter Tryz.func88, Tryz.ntmps88
     go_wp2_with (go_at_call 125; refine belA (HAT.out) fun d os => ?_)
     go_ret
     exact ⟨rfl, HE.out _ bg⟩
   · rw [if_neg hb]
     have hbb : (bound == 1048576) = false := by simpa using hb
     clear hb
     by_cases hlt : bound + 8 ≤ 1048576
     · rw [show min (bound + 8) 1048576 = bound + 8 by omega] at HS
       rw [show min (bound + 8) 1048576 = bound + 8 by omega]
       go_enter Tryz.func88, Tryz.ntmps88
       go_wp2_with (go_at_call 125; refine belA (HAT.out) fun d os => ?_)
       go_ret
       exact ⟨rfl, HS.out.then_below (more_below _ _ _)⟩
     · rw [show min (bound + 8) 1048576 = 1048576 by omega] at HS
       rw [show min (bound + 8) 1048576 = 1048576 by omega]
       go_enter Tryz.func88, Tryz.ntmps88
       go_wp2_with (go_at_call 125; refine belA (HAT.out) fun d os => ?_)
       go_ret
       exact ⟨rfl, HS.out.then_below (more_below _ _ _)⟩
def issueF (M : List Sh) (k : Int) : (Int × Int × Int) × Int × List Sh := match shOf M k with
 | none => ((0, 0, 0), 1, M)
 | some m => match m.free with
   | [] => ((0, 0, 0), 8, M)
   | f :: fs => match m.all[f.toNat]? with
     | none => ((0, 0, 0), 14, M)
     | some x => if x.gen < x.bound then ((k, f, x.gen), 0, setFr (setIx M k f { x with alive := true }) k fs) else ((0, 0, 0), 14, M)
theorem ShInv.tail {m : Sh} {f : Int} {fs : List Int} (h : ShInv m) (hf : m.free = f :: fs) : ShInv { m with free := fs } :=
 ⟨h.few, h.rng, fun g hg => h.fr g (by rw [hf]; exact List.mem_cons_of_mem _ hg), by have := h.nd; rw [hf] at this; exact (List.nodup_cons.1 this).2, fun g hg => h.dead g (by rw [hf]; exact List.mem_cons_of_mem _ hg)⟩
theorem lts {a W : Nat} (h : a < W) : a < W + 1 ∧ (∀ n, a < W + 1 + n) ∧ (∀ n m, a < W + 1 + n + m) ∧ (∀ n m q, a < W + 1 + n + m + q) := ⟨by omega, fun _ => by omega, fun _ _ => by omega, fun _ _ _ => by omega⟩
theorem Chg.own {v : Value} (g off n cap : Nat) (h : v = .slice (some ⟨g, off, none⟩) n cap) : v.ownBlock = some g := by subst h; rfl
def addFr (M : List Sh) (k i : Int) : List Sh := match shOf M k with
 | none => M
 | some m => M.set k.toNat { m with free := m.free ++ [i] }
def freeF (M : List Sh) (s i g : Int) : Int × List Sh := match ixOf M s i with
 | none => (1, M)
 | some x => if g < 0 then (1, M) else if (x.alive && x.gen == g) = false then (9, M) else
   (0, if x.gen + 1 < 1048576 then addFr (setIx M s i ⟨x.gen + 1, x.bound, false⟩) s i else setIx M s i ⟨x.gen + 1, x.bound, false⟩)
theorem Turned.cell {w w' : World} {b : Option Nat} (h : Turned w w' b) {a : Addr} (ha : a.block < w.heap.size) (hb : b ≠ some a.block) : w'.cell? a = w.cell? a := World.cell?_of_block (w := w) (h.block _ ha (Ne.symm hb))
theorem Turned.frozen {w w' : World} {b : Option Nat} (h : Turned w w' b) {a : Addr} (ha : a.block < w.heap.size) (hb : b ≠ some a.block) : w'.frozen? a = w.frozen? a := World.frozen?_of_block (w := w) (h.block _ ha (Ne.symm hb))
theorem info_int : (prog.info? 3).map (fun i => (i.zero, i.size, i.bytes)) = some (some (int i64 0), 1, 8) := by kernel_rfl
theorem free_none (w : World) (s i g : Int) :
 Calls prog 108 #[.pointer none, .agg #[int i64 s, int i64 i, int i64 g]] w fun e w' => e = .returned (int i64 1) ∧ Below w.heap.size w w' := by
 go_enter Tryz.func108, Tryz.ntmps108
 go_wp2_with (go_at_call 125; refine belA (at_none _ _ _) fun d os => ?_)
 go_ret
 exact ⟨rfl, bg⟩
theorem free_out (w : World) (L : Lay) (M : List Sh) (s i g : Int) (h : PoolAt w L M) (ho : ixOf M s i = none) :
 Calls prog 108 #[.pointer (some ⟨L.P, 0, none⟩), .agg #[int i64 s, int i64 i, int i64 g]] w fun e w' => e = .returned (int i64 1) ∧ Below w.heap.size w w' := by
 have HAT := hid (at_out _ L M s i (h.grown ((Below.refl _ _).alloc (Nat.le_refl _) (.cells #[int i64 s, int i64 i, int i64 g] 30))) ho)
 clear ho
 go_enter Tryz.func108, Tryz.ntmps108
 go_wp2_with (go_at_call 125; refine belA (HAT.out) fun d os => ?_)
 go_ret
 exact ⟨rfl, bg⟩
theorem free_neg (w : World) (L : Lay) (M : List Sh) (s i g : Int) (x : Ix) (h : PoolAt w L M) (hx : ixOf M s i = some x) (hg : g < 0) :
 Calls prog 108 #[.pointer (some ⟨L.P, 0, none⟩), .agg #[int i64 s, int i64 i, int i64 g]] w fun e w' => e = .returned (int i64 1) ∧ Below w.heap.size w w' := by
 obtain ⟨s, i, m, l, rfl, rfl, hm, hl, hx'⟩ := ixOf_nat h hx
 have HAT := hid (at_in _ L M s i m l (h.grown ((Below.refl _ _).alloc (Nat.le_refl _) (.cells #[int i64 s, int i64 i, int i64 g] 30))) hm hl (List.getElem?_eq_some_iff.1 hx').1)
 clear hx hx' hm hl
 go_enter Tryz.func108, Tryz.ntmps108
 go_wp2_with (go_at_call 125; refine belA (HAT.out) fun d os => ?_)
 go_ret
 exact ⟨rfl, bg⟩
theorem free_stale (w : World) (L : Lay) (M : List Sh) (s i g : Int) (x : Ix) (h : PoolAt w L M) (hx : ixOf M s i = some x) (hg : 0 ≤ g) (ha : (x.alive && x.gen == g) = false) :
 Calls prog 108 #[.pointer (some ⟨L.P, 0, none⟩), .agg #[int i64 s, int i64 i, int i64 g]] w fun e w' => e = .returned (int i64 9) ∧ Below w.heap.size w w' := by
 have HAL := hid (fun w' (hb : Below w.heap.size w w') => alive_any w' L M s i g (h.grown hb))
 have hal : aliveF M s i g = false := by unfold aliveF; rw [hx]; exact ha
 rw [hal] at HAL
 obtain ⟨s, i, m, l, rfl, rfl, hm, hl, hx'⟩ := ixOf_nat h hx
 have HAT := hid (at_in _ L M s i m l (h.grown ((Below.refl _ _).alloc (Nat.le_refl _) (.cells #[int i64 s, int i64 i, int i64 g] 30))) hm hl (List.getElem?_eq_some_iff.1 hx').1)
 clear hx hx' hm hl ha hal
 go_enter Tryz.func108, Tryz.ntmps108
 go_wp2_with (first | (go_at_call 125; refine belA (HAT.out) fun d os => ?_) | (go_at_call 84; refine belA (HAL.out _ bg) fun d os => ?_))
 go_ret
 exact ⟨rfl, bg⟩
theorem ShInv.add {m : Sh} {i : Nat} {x : Ix} (h : ShInv m) (hx : m.all[i]? = some x) (ha : x.alive = true) (x' : Ix) (hr : 0 ≤ x'.gen ∧ x'.gen ≤ 1048576 ∧ 0 ≤ x'.bound ∧ x'.bound ≤ 1048576 ∧ (x'.alive = true → x'.gen < 1048576)) (ha' : x'.alive = false) :
 ShInv { m with all := m.all.set i x', free := m.free ++ [(i : Int)] } := by
 have hil : i < m.all.length := (List.getElem?_eq_some_iff.1 hx).1
 have hni : (i : Int) ∉ m.free := fun hf => by have := h.dead i hf x (by simpa using hx); rw [ha] at this; cases this
 have h1 := h.set_ix i x' hr (fun _ => ha')
 refine ⟨h1.few, h1.rng, fun f hf => ?_, ?_, fun f hf y hy => ?_⟩
 · rcases List.mem_append.1 hf with hf | hf
   · exact h1.fr f hf
   · obtain rfl : f = i := by simpa using hf
     simp; omega
 · rw [List.nodup_append]
   exact ⟨h.nd, by simp, fun a ha b hb => by rintro rfl; simp at hb; subst hb; exact hni ha⟩
 · rcases List.mem_append.1 hf with hf | hf
   · exact h1.dead f hf y hy
   · obtain rfl : f = i := by simpa using hf
     simp only [Int.toNat_natCast] at hy
     rw [List.getElem?_set_self hil] at hy
     cases hy
     exact ha'
theorem free_worn (w : World) (L : Lay) (M : List Sh) (s i g : Int) (x : Ix) (h : PoolAt w L M) (hx : ixOf M s i = some x) (ha : x.alive = true) (hg : x.gen = g) (hw : ¬ x.gen + 1 < 1048576) :
 Calls prog 108 #[.pointer (some ⟨L.P, 0, none⟩), .agg #[int i64 s, int i64 i, int i64 g]] w fun e w' => e = .returned (int i64 0) ∧ Stp w L w' (setIx M s i ⟨x.gen + 1, x.bound, false⟩) := by
 have HAL := hid (fun w' (hb : Below w.heap.size w w') => alive_any w' L M s i g (h.grown hb))
 have hal : aliveF M s i g = true := by unfold aliveF; rw [hx]; simp [ha, hg]
 rw [hal] at HAL
 obtain ⟨s, i, m, l, rfl, rfl, hm, hl, hx'⟩ := ixOf_nat h hx
 have HAT := hid (at_in _ L M s i m l (h.grown ((Below.refl _ _).alloc (Nat.le_refl _) (.cells #[int i64 s, int i64 i, int i64 g] 30))) hm hl (List.getElem?_eq_some_iff.1 hx').1)
 obtain ⟨c0, c1, c2⟩ := h.ix hm hl hx'
 obtain ⟨_, _, _, hfr, hinv, hk, _⟩ := h.sh hm hl
 have f0 := hfr (i * 3)
 have f2 := hfr (i * 3 + 2)
 have b1 : l.A < w.heap.size := World.block_lt_of_cell? w _ c1
 obtain ⟨b10, b11, b12, b13⟩ := lts b1
 have hr := hinv.rng i x hx'
 have hx0 := hid hx
 have P1 := h.set_ga hm hl hx' (x' := ⟨x.gen + 1, x.bound, false⟩) rfl (hinv.set_ix i _ ⟨by simp only; omega, by simp only; have := hr.2.2.2.2 ha; omega, hr.2.2.1, hr.2.2.2.1, fun h => by cases h⟩ (fun _ => rfl))
 rw [← setIx_nat _ hm] at P1
 have HS := hid (Stp.same P1 (((Chg.refl w L.own).setCell ⟨l.A, i * 3, none⟩ _ (.inl (Lay.own_at hl (.inr (.inl rfl))))).setCell ⟨l.A, i * 3 + 2, none⟩ _ (.inl (Lay.own_at hl (.inr (.inl rfl))))))
 have hg1 := hr.2.2.2.2 ha
 have hg0 : 0 ≤ g := by omega
 obtain ⟨gen, bound, alive⟩ := x
 simp only at hg hg1 ha c0 c1 c2 hw
 subst hg
 have hw' : 1048576 ≤ gen + 1 := by omega
 have hgg : gen = 1048575 := by omega
 subst hgg
 rw [show (1048575 + 1 : Int) = 1048576 from rfl] at HS ⊢
 clear hx hx' hm hl hal hinv hfr hr P1 ha hw hw' hg1 hg0
 go_enter Tryz.func108, Tryz.ntmps108
 go_wp2_with (first | (go_at_call 125; refine belA (HAT.out) fun d os => ?_) | (go_at_call 84; refine belA (HAL.out _ bg) fun d os => ?_))
 go_ret
 exact ⟨rfl, HS.out.then_below bg⟩
theorem free_in (w : World) (L : Lay) (M : List Sh) (s i g : Int) (x : Ix) (h : PoolAt w L M) (hx : ixOf M s i = some x) (ha : x.alive = true) (hg : x.gen = g) (hw : x.gen + 1 < 1048576) :
 Calls prog 108 #[.pointer (some ⟨L.P, 0, none⟩), .agg #[int i64 s, int i64 i, int i64 g]] w fun e w' => e = .returned (int i64 0) ∧ Stp w L w' (addFr (setIx M s i ⟨x.gen + 1, x.bound, false⟩) s i) := by
 have HAL := hid (fun w' (hb : Below w.heap.size w w') => alive_any w' L M s i g (h.grown hb))
 have hal : aliveF M s i g = true := by unfold aliveF; rw [hx]; simp [ha, hg]
 rw [hal] at HAL
 obtain ⟨s, i, m, l, rfl, rfl, hm, hl, hx'⟩ := ixOf_nat h hx
 have HAT := hid (at_in _ L M s i m l (h.grown ((Below.refl _ _).alloc (Nat.le_refl _) (.cells #[int i64 s, int i64 i, int i64 g] 30))) hm hl (List.getElem?_eq_some_iff.1 hx').1)
 obtain ⟨c0, c1, c2⟩ := h.ix hm hl hx'
 obtain ⟨hcA, hcF, fS, hfr, hinv, hk, hsl⟩ := h.sh hm hl
 have f0 := hfr (i * 3)
 have f2 := hfr (i * 3 + 2)
 have f3 := fS (s * 2 + 1)
 have b1 : l.A < w.heap.size := World.block_lt_of_cell? w _ c1
 have b2 : L.S < w.heap.size := World.block_lt_of_cell? w _ hcA
 obtain ⟨b10, b11, b12, b13⟩ := lts b1
 obtain ⟨b20, b21, b22, b23⟩ := lts b2
 have b3 := h.S_ne_A hl
 have hr := hinv.rng i x hx'
 have hfl := hinv.free_le
 have P1 := h.set_ga hm hl hx' (x' := ⟨x.gen + 1, x.bound, false⟩) rfl (hinv.set_ix i _ ⟨by simp only; omega, by simp only; omega, hr.2.2.1, hr.2.2.2.1, fun h => by cases h⟩ (fun _ => rfl))
 have C1 := (((Chg.refl w L.own).setCell ⟨l.A, i * 3, none⟩ (int i64 (x.gen + 1)) (.inl (Lay.own_at hl (.inr (.inl rfl))))).setCell ⟨l.A, i * 3 + 2, none⟩ (.bool false) (.inl (Lay.own_at hl (.inr (.inl rfl)))))
 have hk' : (M.set s { m with all := m.all.set i ⟨x.gen + 1, x.bound, false⟩ })[s]? = some { m with all := m.all.set i ⟨x.gen + 1, x.bound, false⟩ } := List.getElem?_set_self hk
 have fin : ∀ (W : World), Below ((w.setCell ⟨l.A, i * 3, none⟩ (int i64 (x.gen + 1))).setCell ⟨l.A, i * 3 + 2, none⟩ (.bool false)).heap.size ((w.setCell ⟨l.A, i * 3, none⟩ (int i64 (x.gen + 1))).setCell ⟨l.A, i * 3 + 2, none⟩ (.bool false)) W →
  Sl W 3 1 l.fv m.free.length (m.free.map (Value.int .i64)) ∧
  ∀ (g off cap : Nat) (w1 : World), Sl w1 3 1 (.slice (some ⟨g, off, none⟩) (m.free.length + 1) cap) (m.free.length + 1) (m.free.map (Value.int .i64) ++ [int i64 i]) → Turned W w1 l.fv.ownBlock → (l.fv.ownBlock = some g ∨ W.heap.size ≤ g) →
  Stp w L (w1.setCell ⟨L.S, s * 2 + 1, none⟩ (.slice (some ⟨g, off, none⟩) (m.free.length + 1) cap)) (addFr (setIx M s i ⟨x.gen + 1, x.bound, false⟩) s i) := by
  intro W hW
  have PW : PoolAt W L _ := P1.grown hW
  refine ⟨(PW.sh hk' hl).2.2.2.2.2.2, fun g off cap w1 hs1 ht hor => ?_⟩
  obtain ⟨p2, o2⟩ := PW.set_free hk' hl (w1 := w1) (Chg.of_turned ht fun k e _ => e) (v := .slice (some ⟨g, off, none⟩) (m.free.length + 1) cap) (fr := m.free ++ [(i : Int)]) (by simpa using hs1) (fun g' hg' => by simp [Value.ownBlock] at hg'; subst hg'; exact hor) (hinv.add hx' ha ⟨x.gen + 1, x.bound, false⟩ ⟨by simp only; omega, by simp only; omega, hr.2.2.1, hr.2.2.2.1, fun h => by cases h⟩ rfl)
  have hsz : w.heap.size ≤ W.heap.size := by have := hW.size; simpa [World.setCell] using this
  refine ⟨L.put s { l with fv := .slice (some ⟨g, off, none⟩) (m.free.length + 1) cap }, rfl, ?_, ?_, fun b hb => (o2 b hb).imp_right fun h => Nat.le_trans hsz h⟩
  · rw [setIx_nat _ hm, addFr]
    simp only [shOf, Int.toNat_natCast, hk', if_pos (Int.natCast_nonneg s)]
    exact p2
  · have hW' : Below w.heap.size ((w.setCell ⟨l.A, i * 3, none⟩ (int i64 (x.gen + 1))).setCell ⟨l.A, i * 3 + 2, none⟩ (.bool false)) W := hW.mono (by simp [World.setCell])
    exact ((C1.then_below hW').trans (Chg.of_turned ht (F := L.own) fun k e _ => Lay.own_at hl (.inr (.inr e))) fun _ _ h => h).setCell _ _ (.inl ⟨1, rfl⟩)
 have FIN := hid fin
 have hne : l.fv.ownBlock ≠ some L.S := fun e => h.S_ne_F hl e rfl
 have hne2 : l.fv.ownBlock ≠ some w.heap.size := fun e => by have := hsl.lt e; omega
 have hg0 : 0 ≤ g := by omega
 obtain ⟨gen, bound, alive⟩ := x
 simp only at hg hw ha c0 c1 c2
 subst hg
 generalize hfv : l.fv = fv at *
 generalize l.A = A at *
 have HX := hid hx
 have HN := hid hne
 have HN2 := hid hne2
 generalize hfl2 : m.free.length = fl at *
 clear hx hx' hm hl hal hinv hr P1 C1 hk' fin hfr fS hfv hsl ha hne hne2 hfl2
 obtain ⟨i0, hi0, hz0, hz1, hz2⟩ := info_parts info_int
 go_enter Tryz.func108, Tryz.ntmps108
 go_wp2_with (first | (go_at_call 125; refine belA (HAT.out) fun d1 os1 => ?_) | (go_at_call 84; refine belA (HAL.out _ bg) fun d2 os2 => ?_))
 generalize hWr : more (more _ d1 os1) d2 os2 = Wr
 have k1 : Wr.cell? ⟨L.S, s * 2 + 1, none⟩ = some fv := by rw [← hWr]; simp [go_sem, hcF, b20, b21, b2]
 have k2 : Wr.cell? ⟨w.heap.size, 1, none⟩ = some (int i64 i) := by rw [← hWr]; simp [go_sem]
 have k3 : Wr.frozen? ⟨L.S, s * 2 + 1, none⟩ = false := by rw [← hWr]; simp [go_sem, f3, b20, b21, b2]
 have k4 : w.heap.size < Wr.heap.size := by rw [← hWr]; simp; omega
 have k5 : L.S < Wr.heap.size := by omega
 have HB : ∀ W, Below Wr.heap.size Wr W → Below ((w.setCell ⟨A, i * 3, none⟩ (int i64 (gen + 1))).setCell ⟨A, i * 3 + 2, none⟩ (.bool false)).heap.size ((w.setCell ⟨A, i * 3, none⟩ (int i64 (gen + 1))).setCell ⟨A, i * 3 + 2, none⟩ (.bool false)) W := fun W hb => (by rw [← hWr]; exact bg : Below _ _ Wr).trans (hb.mono (by rw [← hWr]; simp [World.setCell]; omega))
 have HB := hid HB
 have HW := hid hWr
 clear hWr
 go_region_law
  ((refine step_append_sl _ (by rfl) _ _ _ (by rfl) 3 i0 _ 1 8 Tryz.underlying176 hi0 hz0 hz1 hz2 rfl (by omega) fv fl (m.free.map (Value.int .i64)) (by rfl) (FIN.out _ (HB.out _ bg)).1
      ⟨_, 0, none⟩ 1 1 [int i64 i] (by rfl) (by rfl) (World.news_of_block (cs := #[int i64 i]) (t := 3) (fr := (0, 0)) (heap_alloc_new _ _)) (by simp [Value.oneCell'])
      (by omega) (by unfold maxLen; omega) (by omega) ?_; intro g off cap w1 hs1 ht hor; have k6 : w1.frozen? ⟨L.S, s * 2 + 1, none⟩ = false := (by rw [ht.frozen (by simp; omega) HN.out]; simp [k3, k5, go_sem]); have k7 : w1.cell? ⟨L.S, s * 2 + 1, none⟩ = some fv := (by rw [ht.cell (by simp; omega) HN.out]; simp [k1, k5, go_sem])))
 all_goals go_wp2
 all_goals go_ret
 all_goals exact ⟨rfl, (FIN.out _ (HB.out _ bg)).2 _ _ _ _ hs1 ht hor⟩
end Go.Proofs.YtoimjjhopljdmaaGreat

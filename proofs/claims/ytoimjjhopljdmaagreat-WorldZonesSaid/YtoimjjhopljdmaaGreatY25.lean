/-
  Chapter texts PoolB PoolC PoolD: what the claim reaches of them. Conditions stand at each theorem.
-/
import Derived.RegionTactic
import Derived.StillTailTactics
import Derived.Test.YtoimjjhopljdmaaGreatY24
namespace Go.Proofs.YtoimjjhopljdmaaGreat
open Go.RowKit

def shOf (M : List Sh) (k : Int) : Option Sh := if 0 ≤ k then M[k.toNat]? else none
def ixOf (M : List Sh) (k i : Int) : Option Ix := (shOf M k).bind fun m => if 0 ≤ i then m.all[i.toNat]? else none

theorem shOf_nat {w : World} {L : Lay} {M : List Sh} (h : PoolAt w L M) {k : Int} {m : Sh} (hm : shOf M k = some m) : ∃ (k' : Nat) (l : ShL), k = k' ∧ M[k']? = some m ∧ L.sh[k']? = some l := by
  unfold shOf at hm
  split at hm
  · have hk : k.toNat < L.sh.length := by rw [h.len]; exact (List.getElem?_eq_some_iff.1 hm).1
    exact ⟨k.toNat, L.sh[k.toNat], by omega, hm, List.getElem?_eq_getElem hk⟩
  · cases hm

theorem ixOf_nat {w : World} {L : Lay} {M : List Sh} (h : PoolAt w L M) {k i : Int} {x : Ix} (hx : ixOf M k i = some x) : ∃ (k' i' : Nat) (m : Sh) (l : ShL), k = k' ∧ i = i' ∧ M[k']? = some m ∧ L.sh[k']? = some l ∧ m.all[i']? = some x := by
  unfold ixOf at hx
  obtain ⟨m, hm, hy⟩ := Option.bind_eq_some_iff.1 hx
  obtain ⟨k', l, hk, hm', hl⟩ := shOf_nat h hm
  split at hy
  · exact ⟨k', i.toNat, m, l, hk, by omega, hm', hl, hy⟩
  · cases hy

theorem PoolN.sh {w : World} {L : Lay} {M : List Sh} {n : Nat} (h : PoolN w L M n) {k : Nat} {m : Sh} {l : ShL} (hm : M[k]? = some m) (hl : L.sh[k]? = some l) :
    w.cell? ⟨L.S, k * 2, none⟩ = some (.slice (some ⟨l.A, 0, none⟩) m.all.length m.all.length) ∧ w.cell? ⟨L.S, k * 2 + 1, none⟩ = some l.fv ∧ (∀ o, w.frozen? ⟨L.S, o, none⟩ = false) ∧ (∀ o, w.frozen? ⟨l.A, o, none⟩ = false) ∧ ShInv m ∧ k < M.length ∧ Sl w 3 1 l.fv m.free.length (m.free.map (Value.int .i64)) := by
  obtain ⟨cur, hcur, _, _, hsh⟩ := h.shards
  have hs := hsh k m l hm hl
  obtain ⟨ca, hca, _⟩ := hs.rows
  exact ⟨by simp [World.cell?, hcur, hs.slA], by simp [World.cell?, hcur, hs.slF], fun o => by simp [World.frozen?, hcur], fun o => by simp [World.frozen?, hca], hs.inv, (List.getElem?_eq_some_iff.1 hm).1, hs.free⟩

theorem PoolN.ix {w : World} {L : Lay} {M : List Sh} {n : Nat} (h : PoolN w L M n) {k i : Nat} {m : Sh} {l : ShL} {x : Ix} (hm : M[k]? = some m) (hl : L.sh[k]? = some l) (hx : m.all[i]? = some x) :
    w.cell? ⟨l.A, i * 3, none⟩ = some (.int .i64 x.gen) ∧ w.cell? ⟨l.A, i * 3 + 1, none⟩ = some (.int .i64 x.bound) ∧ w.cell? ⟨l.A, i * 3 + 2, none⟩ = some (.bool x.alive) := by
  obtain ⟨cur, hcur, _, _, hsh⟩ := h.shards
  have hs := hsh k m l hm hl
  obtain ⟨ca, hca, _, hr⟩ := hs.rows
  obtain ⟨r0, r1, r2⟩ := hr i x hx
  exact ⟨by simp [World.cell?, hca, r0], by simp [World.cell?, hca, r1], by simp [World.cell?, hca, r2]⟩

theorem of_none (w : World) (k : Int) : Calls Tryz.prog 128 #[.pointer none, .int .i64 k] w fun e w' => e = .returned (.pointer none) ∧ w = w' := by
  go_enter Tryz.func128, Tryz.ntmps128
  go_wp2
  go_ret
  exact ⟨rfl, rfl⟩

theorem of_any (w : World) (L : Lay) (M : List Sh) (k : Int) (h : PoolAt w L M) :
    Calls Tryz.prog 128 #[.pointer (some ⟨L.P, 0, none⟩), .int .i64 k] w fun e w' => e = .returned (.pointer (if 0 ≤ k ∧ k < M.length then some ⟨L.S, k.toNat * 2, none⟩ else none)) ∧ w = w' := by
  have hf := h.few
  have hc : w.cell? ⟨L.P, 0, none⟩ = some (.slice (some ⟨L.S, 0, none⟩) M.length M.length) := by simp [World.cell?, h.top]
  generalize M.length = n at *
  by_cases h1 : 0 ≤ k ∧ k < n
  · rw [if_pos h1]
    obtain ⟨h1, h2⟩ := h1
    go_enter Tryz.func128, Tryz.ntmps128
    go_wp2
    go_ret
    exact ⟨rfl, rfl⟩
  · rw [if_neg h1]
    by_cases h2 : k < 0
    · go_enter Tryz.func128, Tryz.ntmps128
      go_wp2
      go_ret
      exact ⟨rfl, rfl⟩
    · have h3 : (n : Int) ≤ k := by omega
      clear h1
      go_enter Tryz.func128, Tryz.ntmps128
      go_wp2
      go_ret
      exact ⟨rfl, rfl⟩

theorem of_in (w : World) (L : Lay) (M : List Sh) (k : Nat) (m : Sh) (h : PoolAt w L M) (hm : M[k]? = some m) :
    Calls Tryz.prog 128 #[.pointer (some ⟨L.P, 0, none⟩), .int .i64 k] w fun e w' => e = .returned (.pointer (some ⟨L.S, k * 2, none⟩)) ∧ w = w' := by
  have hk : k < M.length := (List.getElem?_eq_some_iff.1 hm).1
  have hof := of_any w L M k h
  rwa [if_pos (by omega), Int.toNat_natCast] at hof

theorem of_out (w : World) (L : Lay) (M : List Sh) (k : Int) (h : PoolAt w L M) (hm : shOf M k = none) :
    Calls Tryz.prog 128 #[.pointer (some ⟨L.P, 0, none⟩), .int .i64 k] w fun e w' => e = .returned (.pointer none) ∧ w = w' := by
  have hof := of_any w L M k h
  rwa [if_neg] at hof
  rintro ⟨h1, h2⟩
  unfold shOf at hm
  rw [if_pos h1, List.getElem?_eq_none_iff] at hm
  omega

theorem at_in (w : World) (L : Lay) (M : List Sh) (k i : Nat) (m : Sh) (l : ShL) (h : PoolAt w L M) (hm : M[k]? = some m) (hl : L.sh[k]? = some l) (hi : i < m.all.length) :
    Calls Tryz.prog 125 #[.pointer (some ⟨L.P, 0, none⟩), .int .i64 k, .int .i64 i] w fun e w' => e = .returned (.tuple #[.pointer (some ⟨L.S, k * 2, none⟩), .pointer (some ⟨l.A, i * 3, none⟩)]) ∧ Below w.heap.size w w' := by
  obtain ⟨hcA, _, _, _, hinv, hk, _⟩ := h.sh hm hl
  have hsm := hinv.few
  have hof := of_in w L M k m h hm
  have HOF := Lib.hid hof
  clear hof hm hl hinv
  generalize m.all.length = q at *
  go_enter Tryz.func125, Tryz.ntmps125
  go_wp2_with (go_at_call 128; refine HOF.out.mono ?_; rintro e w' ⟨rfl, rfl⟩)
  go_quiet (fail)
  go_wp2
  go_ret2
  exact ⟨rfl, below_drewN (Below.refl _ _) _⟩

theorem at_none (w : World) (k i : Int) : Calls Tryz.prog 125 #[.pointer none, .int .i64 k, .int .i64 i] w fun e w' => e = .returned (.tuple #[.pointer none, .pointer none]) ∧ Below w.heap.size w w' := by
  go_enter Tryz.func125, Tryz.ntmps125
  go_wp2_with (go_at_call 128; refine (of_none _ _).mono ?_; rintro e w' ⟨rfl, rfl⟩)
  go_ret2
  exact ⟨rfl, Below.refl _ _⟩

theorem at_out (w : World) (L : Lay) (M : List Sh) (k i : Int) (h : PoolAt w L M) (ho : ixOf M k i = none) :
    Calls Tryz.prog 125 #[.pointer (some ⟨L.P, 0, none⟩), .int .i64 k, .int .i64 i] w fun e w' => e = .returned (.tuple #[.pointer none, .pointer none]) ∧ Below w.heap.size w w' := by
  cases hm : shOf M k with
  | none =>
    have HOF := Lib.hid (of_out w L M k h hm)
    clear hm ho
    go_enter Tryz.func125, Tryz.ntmps125
    go_wp2_with (go_at_call 128; refine HOF.out.mono ?_; rintro e w' ⟨rfl, rfl⟩)
    go_ret2
    exact ⟨rfl, Below.refl _ _⟩
  | some m =>
    simp only [ixOf, hm, Option.bind_some] at ho
    obtain ⟨k', l, rfl, hm', hl⟩ := shOf_nat h hm
    have HOF := Lib.hid (of_in w L M k' m h hm')
    obtain ⟨hcA, _, _, _, hinv, hk, _⟩ := h.sh hm' hl
    have hsm := hinv.few
    clear hm hm' hl hinv
    by_cases h2 : i < 0
    · clear ho
      generalize m.all.length = q at *
      go_enter Tryz.func125, Tryz.ntmps125
      go_wp2_with (go_at_call 128; refine HOF.out.mono ?_; rintro e w' ⟨rfl, rfl⟩)
      go_ret2
      exact ⟨rfl, Below.refl _ _⟩
    · have h3 : (m.all.length : Int) ≤ i := by rw [if_pos (by omega), List.getElem?_eq_none_iff] at ho; omega
      clear ho
      generalize m.all.length = q at *
      go_enter Tryz.func125, Tryz.ntmps125
      go_wp2_with (go_at_call 128; refine HOF.out.mono ?_; rintro e w' ⟨rfl, rfl⟩)
      go_ret2
      exact ⟨rfl, Below.refl _ _⟩

theorem gen_out (w : World) (L : Lay) (M : List Sh) (k i : Int) (h : PoolAt w L M) (ho : ixOf M k i = none) :
    Calls Tryz.prog 87 #[.pointer (some ⟨L.P, 0, none⟩), .int .i64 k, .int .i64 i] w fun e w' => e = .returned (.int .i64 0) ∧ Below w.heap.size w w' := by
  have HAT := Lib.hid (at_out w L M k i h ho)
  clear ho
  go_enter Tryz.func87, Tryz.ntmps87
  go_wp2_with (go_at_call 125; refine HAT.out.mono ?_; rintro e w' ⟨rfl, hb⟩)
  go_ret
  exact ⟨rfl, hb⟩
theorem gen_in (w : World) (L : Lay) (M : List Sh) (k i : Int) (x : Ix) (h : PoolAt w L M) (hx : ixOf M k i = some x) :
    Calls Tryz.prog 87 #[.pointer (some ⟨L.P, 0, none⟩), .int .i64 k, .int .i64 i] w fun e w' => e = .returned (.int .i64 x.gen) ∧ Below w.heap.size w w' := by
  obtain ⟨k, i, m, l, rfl, rfl, hm, hl, hx⟩ := ixOf_nat h hx
  obtain ⟨c0, c1, c2⟩ := h.ix hm hl hx
  have HAT := Lib.hid (at_in w L M k i m l h hm hl (List.getElem?_eq_some_iff.1 hx).1)
  clear hm hl hx
  go_enter Tryz.func87, Tryz.ntmps87
  go_wp2_with (go_at_call 125; refine HAT.out.mono ?_; rintro e w' ⟨rfl, hb⟩; have c0' := cell_keep hb c0)
  go_ret
  exact ⟨rfl, hb⟩

def aliveF (M : List Sh) (s i g : Int) : Bool := match ixOf M s i with
  | none => false
  | some x => x.alive && x.gen == g

theorem alive_none (w : World) (s i g : Int) :
    Calls Tryz.prog 84 #[.pointer none, .agg #[.int .i64 s, .int .i64 i, .int .i64 g]] w fun e w' => e = .returned (.bool false) ∧ Below w.heap.size w w' := by
  go_enter Tryz.func84, Tryz.ntmps84
  go_wp2_with (go_at_call 125; refine (at_none _ _ _).mono ?_; rintro e w' ⟨rfl, hb⟩; obtain ⟨d, os, rfl⟩ := more_of hb; clear hb)
  go_quiet (fail)
  go_wp2
  go_ret
  exact ⟨rfl, bg⟩

theorem alive_any (w : World) (L : Lay) (M : List Sh) (s i g : Int) (h : PoolAt w L M) :
    Calls Tryz.prog 84 #[.pointer (some ⟨L.P, 0, none⟩), .agg #[.int .i64 s, .int .i64 i, .int .i64 g]] w fun e w' => e = .returned (.bool (aliveF M s i g)) ∧ Below w.heap.size w w' := by
  have hb0 : Below w.heap.size w (w.alloc (.cells #[.int .i64 s, .int .i64 i, .int .i64 g] 30)) := (Below.refl _ _).alloc (Nat.le_refl _) _
  unfold aliveF
  cases hx : ixOf M s i with
  | none =>
    have HAT := Lib.hid (at_out _ L M s i (h.grown hb0) hx)
    clear hx hb0
    go_enter Tryz.func84, Tryz.ntmps84
    go_wp2_with (go_at_call 125; refine (HAT.out).mono ?_; rintro e w' ⟨rfl, hb⟩; obtain ⟨d, os, rfl⟩ := more_of hb; clear hb)
    go_quiet (fail)
    go_wp2
    go_ret
    exact ⟨rfl, bg⟩
  | some x =>
    obtain ⟨s, i, m, l, rfl, rfl, hm, hl, hx'⟩ := ixOf_nat h hx
    have HAT := Lib.hid (at_in _ L M s i m l (h.grown hb0) hm hl (List.getElem?_eq_some_iff.1 hx').1)
    obtain ⟨c0, c1, c2⟩ := (h.grown hb0).ix hm hl hx'
    have k0 := fun d os => cell_keep (more_below _ d os) c0
    have k2 := fun d os => cell_keep (more_below _ d os) c2
    clear hx hm hl hx' hb0 c0 c1 c2
    obtain ⟨gen, bound, alive⟩ := x
    cases alive with
    | false =>
      go_enter Tryz.func84, Tryz.ntmps84
      go_wp2_with (go_at_call 125; refine (HAT.out).mono ?_; rintro e w' ⟨rfl, hb⟩; obtain ⟨d, os, rfl⟩ := more_of hb; clear hb)
      go_quiet (fail)
      go_wp2
      go_ret
      exact ⟨rfl, bg⟩
    | true =>
      go_enter Tryz.func84, Tryz.ntmps84
      go_wp2_with (go_at_call 125; refine (HAT.out).mono ?_; rintro e w' ⟨rfl, hb⟩; obtain ⟨d, os, rfl⟩ := more_of hb; clear hb)
      go_quiet (fail)
      go_wp2
      go_ret
      exact ⟨rfl, bg⟩
end Go.Proofs.YtoimjjhopljdmaaGreat
namespace Go.Proofs.YtoimjjhopljdmaaGreat
open Go.RowKit

theorem head_none (w : World) (k : Int) :
    Calls Tryz.prog 86 #[.pointer none, .int .i64 k] w fun e w' => e = .returned (.tuple #[.int .i64 0, .bool false, .int .i64 1]) ∧ Below w.heap.size w w' := by
  go_enter Tryz.func86, Tryz.ntmps86
  go_wp2_with (go_at_call 128; refine (of_none _ _).mono ?_; rintro e w' ⟨rfl, rfl⟩)
  go_ret3
  exact ⟨rfl, Below.refl _ _⟩
theorem head_out (w : World) (L : Lay) (M : List Sh) (k : Int) (h : PoolAt w L M) (hm : shOf M k = none) :
    Calls Tryz.prog 86 #[.pointer (some ⟨L.P, 0, none⟩), .int .i64 k] w fun e w' => e = .returned (.tuple #[.int .i64 0, .bool false, .int .i64 1]) ∧ Below w.heap.size w w' := by
  have HOF := Lib.hid (of_out w L M k h hm)
  clear hm
  go_enter Tryz.func86, Tryz.ntmps86
  go_wp2_with (go_at_call 128; refine HOF.out.mono ?_; rintro e w' ⟨rfl, rfl⟩)
  go_ret3
  exact ⟨rfl, Below.refl _ _⟩

theorem Sl.nil_or {w : World} {e : TypeId} {v : Value} {n : Nat} {xs : List Value} (h : Sl w e 1 v n xs) :
    (n = 0 ∧ ∃ p c, v = .slice p 0 c) ∨ (0 < n ∧ ∃ g off cap, v = .slice (some ⟨g, off, none⟩) n cap ∧ n ≤ cap ∧ cap ≤ maxLen ∧ (∀ o, w.frozen? ⟨g, o, none⟩ = false) ∧ (∀ j u, xs[j]? = some u → w.cell? ⟨g, off + j, none⟩ = some u)) := by
  obtain ⟨h1, ⟨rfl, rfl⟩ | ⟨g, off, cap, cur, rfl, hb, hn, hc, hs, hr⟩⟩ := h
  · exact .inl ⟨rfl, _, _, rfl⟩
  · by_cases h0 : n = 0
    · subst h0; exact .inl ⟨rfl, _, _, rfl⟩
    · exact .inr ⟨by omega, g, off, cap, rfl, hn, hc, fun o => by simp [World.frozen?, hb], fun j u hj => by simp [World.cell?, hb, hr j u hj]⟩

theorem head_full (w : World) (L : Lay) (M : List Sh) (k : Int) (m : Sh) (h : PoolAt w L M) (hm : shOf M k = some m) (hf : m.free = []) :
    Calls Tryz.prog 86 #[.pointer (some ⟨L.P, 0, none⟩), .int .i64 k] w fun e w' => e = .returned (.tuple #[.int .i64 0, .bool false, .int .i64 8]) ∧ Below w.heap.size w w' := by
  obtain ⟨k, l, rfl, hm, hl⟩ := shOf_nat h hm
  have HOF := Lib.hid (of_in w L M k m h hm)
  obtain ⟨hcA, hcF, _, _, hinv, hk, hsl⟩ := h.sh hm hl
  rw [hf] at hsl
  rcases hsl.nil_or with ⟨_, p, c, hv⟩ | ⟨h0, _⟩
  · rw [hv] at hcF
    clear hm hl hf hsl hv hinv
    go_enter Tryz.func86, Tryz.ntmps86
    go_wp2_with (go_at_call 128; refine HOF.out.mono ?_; rintro e w' ⟨rfl, rfl⟩)
    go_ret3
    exact ⟨rfl, Below.refl _ _⟩
  · simp at h0

set_option maxHeartbeats 1000000 in
theorem head_in (w : World) (L : Lay) (M : List Sh) (k : Int) (m : Sh) (f : Int) (fs : List Int) (x : Ix) (h : PoolAt w L M) (hm : shOf M k = some m) (hf : m.free = f :: fs) (hx : m.all[f.toNat]? = some x) :
    Calls Tryz.prog 86 #[.pointer (some ⟨L.P, 0, none⟩), .int .i64 k] w fun e w' => e = .returned (.tuple #[.int .i64 f, .bool (decide (x.gen < x.bound)), .int .i64 0]) ∧ Below w.heap.size w w' := by
  obtain ⟨k, l, rfl, hm, hl⟩ := shOf_nat h hm
  have HOF := Lib.hid (of_in w L M k m h hm)
  obtain ⟨hcA, hcF, _, _, hinv, hk, hsl⟩ := h.sh hm hl
  obtain ⟨c0, c1, c2⟩ := h.ix hm hl hx
  have hfr := hinv.fr f (by rw [hf]; simp)
  have hfew := hinv.few
  rw [hf] at hsl
  rcases hsl.nil_or with ⟨h0, _⟩ | ⟨_, g, off, cap, hv, hn, hc, _, hcell⟩
  · simp at h0
  · have hc0 := hcell 0 (.int .i64 f) rfl
    rw [Nat.add_zero] at hc0
    rw [hv] at hcF
    have hlen : 0 < (f :: fs).length := by simp
    generalize (f :: fs).length = q at *
    obtain ⟨i, rfl⟩ := Int.eq_ofNat_of_zero_le hfr.1
    rw [Int.toNat_natCast] at c0 c1 c2
    clear hm hl hf hsl hv hinv hx hcell
    generalize m.all.length = n at *
    obtain ⟨gen, bound, alive⟩ := x
    unfold maxLen at hc
    have h1 := hfr.2
    clear hfr
    have b1 : l.A < w.heap.size := World.block_lt_of_cell? w _ c0
    have b2 : L.S < w.heap.size := World.block_lt_of_cell? w _ hcA
    have b3 : g < w.heap.size := World.block_lt_of_cell? w _ hc0
    go_enter Tryz.func86, Tryz.ntmps86
    go_wp2_with (go_at_call 128; refine HOF.out.mono ?_; rintro e w' ⟨rfl, rfl⟩)
    go_region_held3 (fun W => w.heap.size ≤ W.heap.size ∧ ∀ b o, b < w.heap.size → W.cell? ⟨b, o, none⟩ = w.cell? ⟨b, o, none⟩) (with_reducible (repeat (first | assumption | exact s_refl _ | exact s_id _ | refine s_alloc _ ?_ | refine s_drew ?_))) (fail)
    go_wp2_with fail
    go_quiet (fail)
    go_wp2_with fail
    go_ret3
    exact ⟨rfl, bg⟩

def setIx (M : List Sh) (k i : Int) (x : Ix) : List Sh := match shOf M k with
  | none => M
  | some m => M.set k.toNat { m with all := m.all.set i.toNat x }
def setFr (M : List Sh) (k : Int) (fr : List Int) : List Sh := match shOf M k with
  | none => M
  | some m => M.set k.toNat { m with free := fr }

theorem setIx_nat {M : List Sh} {k i : Nat} {m : Sh} (x : Ix) (hm : M[k]? = some m) : setIx M k i x = M.set k { m with all := m.all.set i x } := by
  simp [setIx, shOf, hm]
theorem setFr_nat {M : List Sh} {k : Nat} {m : Sh} (fr : List Int) (hm : M[k]? = some m) : setFr M k fr = M.set k { m with free := fr } := by
  simp [setFr, shOf, hm]

def reserveF (M : List Sh) (k i : Int) : Int × List Sh := match ixOf M k i with
  | none => (1, M)
  | some x => if x.bound = 1048576 then (5, M) else (0, setIx M k i { x with bound := min (x.bound + 8) 1048576 })

theorem ShInv.set_ix {m : Sh} (h : ShInv m) (i : Nat) (x' : Ix) (hr : 0 ≤ x'.gen ∧ x'.gen ≤ 1048576 ∧ 0 ≤ x'.bound ∧ x'.bound ≤ 1048576 ∧ (x'.alive = true → x'.gen < 1048576)) (hd : (i : Int) ∈ m.free → x'.alive = false) : ShInv { m with all := m.all.set i x' } := by
  refine ⟨by simpa using h.few, fun j y hy => ?_, fun f hf => by simpa using h.fr f hf, h.nd, fun f hf y hy => ?_⟩
  · simp only [List.getElem?_set] at hy
    split at hy
    · split at hy
      · cases hy; exact hr
      · cases hy
    · exact h.rng j y hy
  · simp only [List.getElem?_set] at hy
    have h0 := (h.fr f hf).1
    split at hy
    · rename_i he
      split at hy
      · cases hy
        exact hd (by rw [show (i : Int) = f by omega]; exact hf)
      · cases hy
    · exact h.dead f hf y hy

theorem reserve_any (w : World) (L : Lay) (M : List Sh) (k i : Int) (h : PoolAt w L M) :
    Calls Tryz.prog 88 #[.pointer (some ⟨L.P, 0, none⟩), .int .i64 k, .int .i64 i] w fun e w' => e = .returned (.int .i64 (reserveF M k i).1) ∧ Stp w L w' (reserveF M k i).2 := by
  unfold reserveF
  cases hx : ixOf M k i with
  | none =>
    have HAT := Lib.hid (at_out _ L M k i h hx)
    have HE := fun w' (hb : Below w.heap.size w w') => Stp.of_grown h hb
    have HE := Lib.hid HE
    clear hx
    go_enter Tryz.func88, Tryz.ntmps88
    go_wp2_with (go_at_call 125; refine (HAT.out).mono ?_; rintro e w' ⟨rfl, hb⟩; obtain ⟨d, os, rfl⟩ := more_of hb; clear hb)
    go_ret
    exact ⟨rfl, HE.out _ bg⟩
  | some x =>
    obtain ⟨k, i, m, l, rfl, rfl, hm, hl, hx'⟩ := ixOf_nat h hx
    have HAT := Lib.hid (at_in _ L M k i m l h hm hl (List.getElem?_eq_some_iff.1 hx').1)
    obtain ⟨c0, c1, c2⟩ := h.ix hm hl hx'
    obtain ⟨_, _, _, hfr, hinv, _, _⟩ := h.sh hm hl
    have f1 := hfr (i * 3 + 1)
    have b1 : l.A < w.heap.size := World.block_lt_of_cell? w _ c1
    have hr := hinv.rng i x hx'
    have HE := Lib.hid (fun w' (hb : Below w.heap.size w w') => Stp.of_grown h hb)
    have HS := Lib.hid (h.set_ix hm hl hx' (x' := { x with bound := min (x.bound + 8) 1048576 }) 1 _ (.inr (.inl ⟨rfl, rfl, rfl⟩)) (hinv.set_ix i _ ⟨hr.1, hr.2.1, by simp only; omega, by simp only; omega, hr.2.2.2.2⟩ (fun hf => hinv.dead i hf x (by simpa using hx'))))
    have HS := Lib.hid (Stp.same HS.out ((Chg.refl w L.own).setCell _ _ (.inl (Lay.own_at hl (.inr (.inl rfl))))))
    rw [← setIx_nat _ hm] at HS
    clear hx hm hl hx' c0 c2 hfr hinv
    obtain ⟨gen, bound, alive⟩ := x
    simp only at *
    obtain ⟨_, _, hr1, hr2, _⟩ := hr
    by_cases hb : bound = 1048576
    · rw [if_pos hb]
      have hbb : (bound == 1048576) = true := by simpa using hb
      clear hb
      go_enter Tryz.func88, Tryz.ntmps88
      go_wp2_with (go_at_call 125; refine (HAT.out).mono ?_; rintro e w' ⟨rfl, hb⟩; obtain ⟨d, os, rfl⟩ := more_of hb; clear hb)
      go_ret
      exact ⟨rfl, HE.out _ bg⟩
    · rw [if_neg hb]
      have hbb : (bound == 1048576) = false := by simpa using hb
      clear hb
      by_cases hlt : bound + 8 ≤ 1048576
      · rw [show min (bound + 8) 1048576 = bound + 8 by omega] at HS
        rw [show min (bound + 8) 1048576 = bound + 8 by omega]
        go_enter Tryz.func88, Tryz.ntmps88
        go_wp2_with (go_at_call 125; refine (HAT.out).mono ?_; rintro e w' ⟨rfl, hb⟩; obtain ⟨d, os, rfl⟩ := more_of hb; clear hb)
        go_ret
        exact ⟨rfl, HS.out.then_below (more_below _ _ _)⟩
      · rw [show min (bound + 8) 1048576 = 1048576 by omega] at HS
        rw [show min (bound + 8) 1048576 = 1048576 by omega]
        go_enter Tryz.func88, Tryz.ntmps88
        go_wp2_with (go_at_call 125; refine (HAT.out).mono ?_; rintro e w' ⟨rfl, hb⟩; obtain ⟨d, os, rfl⟩ := more_of hb; clear hb)
        go_ret
        exact ⟨rfl, HS.out.then_below (more_below _ _ _)⟩

end Go.Proofs.YtoimjjhopljdmaaGreat
namespace Go.Proofs.YtoimjjhopljdmaaGreat
open Go.RowKit

def issueF (M : List Sh) (k : Int) : (Int × Int × Int) × Int × List Sh := match shOf M k with
  | none => ((0, 0, 0), 1, M)
  | some m => match m.free with
    | [] => ((0, 0, 0), 8, M)
    | f :: fs => match m.all[f.toNat]? with
      | none => ((0, 0, 0), 14, M)
      | some x => if x.gen < x.bound then ((k, f, x.gen), 0, setFr (setIx M k f { x with alive := true }) k fs) else ((0, 0, 0), 14, M)

theorem ShInv.tail {m : Sh} {f : Int} {fs : List Int} (h : ShInv m) (hf : m.free = f :: fs) : ShInv { m with free := fs } :=
  ⟨h.few, h.rng, fun g hg => h.fr g (by rw [hf]; exact List.mem_cons_of_mem _ hg), by have := h.nd; rw [hf] at this; exact (List.nodup_cons.1 this).2, fun g hg => h.dead g (by rw [hf]; exact List.mem_cons_of_mem _ hg)⟩

theorem lts {a W : Nat} (h : a < W) : a < W + 1 ∧ (∀ n, a < W + 1 + n) ∧ (∀ n m, a < W + 1 + n + m) ∧ (∀ n m q, a < W + 1 + n + m + q) := ⟨by omega, fun _ => by omega, fun _ _ => by omega, fun _ _ _ => by omega⟩

theorem Chg.own {v : Value} (g off n cap : Nat) (h : v = .slice (some ⟨g, off, none⟩) n cap) : v.ownBlock = some g := by subst h; rfl

end Go.Proofs.YtoimjjhopljdmaaGreat

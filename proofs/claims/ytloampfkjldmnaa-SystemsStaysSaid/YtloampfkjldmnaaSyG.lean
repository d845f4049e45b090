/-
  parts.Sorted of one entity; systems.Hits as the document's example calls it. No condition.
-/
import Derived.Test.YtloampfkjldmnaaSyA
import Derived.Test.YtloampfkjldmnaaPaA
import Derived.Test.YtloampfkjldmnaaSl
namespace Go.Proofs.Ytloampfkjldmnaa
open Go.RowKit

theorem ins_one (v f : Value) (w : World) : Calls Try.prog 82 #[v, .int .i64 0, .int .i64 1, f] w fun e w' => e = .returned (.tuple #[]) ∧ w = w' := by
  go_enter Try.func82, Try.ntmps82
  go_wp2_with fail
  refine wp_loop_rounds 1 ?_
  rw [rounds_succ]
  go_wp2
  go_returns
  exact ⟨rfl, rfl⟩
theorem stc_one (v f : Value) (w : World) : Calls Try.prog 75 #[v, .int .i64 1, f] w fun e w' => e = .returned (.tuple #[]) ∧ w = w' := by
  go_enter Try.func75, Try.ntmps75
  go_wp2_with fail
  refine wp_loop_rounds 1 ?_
  rw [rounds_succ]
  go_wp2_with (go_at_call 82; refine (ins_one _ _ _).mono ?_; rintro e w' ⟨rfl, rfl⟩)
  refine wp_loop_rounds 1 ?_
  rw [rounds_succ]
  go_wp2
  go_returns
  exact ⟨rfl, rfl⟩
theorem ssf_one (g off cap : Nat) (f : Value) (w : World) : Calls Try.prog 62 #[.slice (some ⟨g, off, none⟩) 1 cap, f] w fun e w' => e = .returned (.tuple #[]) ∧ w = w' := by
  go_enter Try.func62, Try.ntmps62
  go_wp2_with (go_at_call 75; refine (stc_one _ _ _).mono ?_; rintro e w' ⟨rfl, rfl⟩)
  go_returns
  exact ⟨rfl, rfl⟩

theorem info_bun : (Try.prog.info? 34).map (fun i => (i.zero, i.size, i.bytes)) = some (some (.agg #[.int .i64 0, .int .i64 0, .int .i64 0, .int .i64 0, .int .i64 0, .int .i64 0, .int .i64 0, .int .i64 0, .int .i64 0, .int .i64 0, .int .i64 0]), 11, 88) := by kernel_rfl

set_option maxRecDepth 100000 in
/-- A clone of so many entities: new memory, the same cells. -/
theorem clone_any (b o n cap : Nat) (xs : List Value) (w : World) (hn : 0 < n) (hn2 : n ≤ 1000000) (hx : xs.length = n * 11) (hc : ∀ j u, xs[j]? = some u → w.cell? ⟨b, o + j, none⟩ = some u) (h1 : ∀ u ∈ xs, u.oneCell' = true) :
    Calls Try.prog 61 #[.slice (some ⟨b, o, none⟩) n cap] w fun e w' => ∃ g off c, e = .returned (.slice (some ⟨g, off, none⟩) n c) ∧ Sl w' 34 11 (.slice (some ⟨g, off, none⟩) n c) n xs ∧ Below w.heap.size w w' ∧ w.heap.size ≤ g := by
  obtain ⟨i0, hi0, hz0, hz1, hz2⟩ := info_parts info_bun
  have HC := Lib.hid hc
  have H1 := Lib.hid h1
  have HX := Lib.hid hx
  clear hc h1 hx
  go_enter Try.func61, Try.ntmps61
  have hs0 : ∀ W : World, Sl (W.alloc (.cells #[] 34)) 34 11 (.slice (some ⟨W.heap.size, 0, none⟩) 0 0) 0 [] := fun W => ⟨rfl, .inr ⟨W.heap.size, 0, 0, #[], rfl, heap_alloc_new W _, Nat.le_refl _, by simp [maxLen], by simp, fun j u hj => by cases hj⟩⟩
  have hcw : ∀ j u, xs[j]? = some u → (w.alloc (.cells #[] 34)).cell? (Addr.add ⟨b, o, none⟩ j) = some u := fun j u hj => by
    have h := HC.out j u hj
    rw [show Addr.add ⟨b, o, none⟩ j = ⟨b, o + j, none⟩ from by unfold Addr.add; split <;> simp_all]
    exact cell_keep ((Below.refl _ _).alloc (Nat.le_refl _) _) h
  have hnil := fun W : World => Lib.run_eql_slice_nil (P := Try.prog) W 22 34 (some ⟨b, o, none⟩) n cap 0 0 Try.underlying22
  have HS := Lib.hid hs0
  have HW := Lib.hid hcw
  clear hs0 hcw
  go_wp2_with (at_builtin; refine wpList_append_sl _ (by rfl) _ _ 22 (by rfl) 34 i0 _ 11 88 Try.underlying22 hi0 hz0 hz1 hz2 rfl (by omega) _ 0 [] (by rfl) (HS.out _) ⟨b, o, none⟩ n cap xs (by rfl) HX.out HW.out H1.out hn (by unfold maxLen; omega) (by omega) ?_; intro v' w1 hs1 ht ho)
  go_ret
  rw [Nat.zero_add, List.nil_append] at hs1
  have hsz := ht.size
  rw [World.size_alloc] at hsz
  have hbl : Below w.heap.size w w1 := ((Below.refl w.heap.size w).alloc (Nat.le_refl _) (.cells #[] 34)).trans ⟨ht.os, ht.tape, ht.output, ht.size, fun k hk => ht.block k (by rw [World.size_alloc]; omega) (fun e => by simp [Value.ownBlock] at e; omega)⟩
  have hs2 := hs1
  obtain ⟨_, ⟨_, h0⟩ | ⟨g, off, c, cur, rfl, _⟩⟩ := hs1
  · omega
  · refine ⟨g, off, c, rfl, hs2, hbl, ?_⟩
    rcases ho with e | ⟨g', e, hg'⟩
    · simp [Value.ownBlock] at e; omega
    · simp [Value.ownBlock] at e
      rw [World.size_alloc] at hg'
      omega

theorem sorted_one (b o cap : Nat) (xs : List Value) (w : World) (hx : xs.length = 11) (hc : ∀ j u, xs[j]? = some u → w.cell? ⟨b, o + j, none⟩ = some u) (h1 : ∀ u ∈ xs, u.oneCell' = true) :
    Calls Try.prog 35 #[.slice (some ⟨b, o, none⟩) 1 cap] w fun e w' => ∃ g off c, e = .returned (.slice (some ⟨g, off, none⟩) 1 c) ∧ Sl w' 34 11 (.slice (some ⟨g, off, none⟩) 1 c) 1 xs ∧ Below w.heap.size w w' ∧ w.heap.size ≤ g := by
  have HC := Lib.hid (clone_any b o 1 cap xs w (by omega) (by omega) (by omega) hc h1)
  clear hc h1 hx
  go_enter Try.func35, Try.ntmps35
  go_wp2_with fail
  refine HC.out.mono ?_
  rintro e w1 ⟨g, off, c, rfl, hs, hb, hg⟩
  have HS := Lib.hid hs
  have HB := Lib.hid hb
  clear hs hb
  go_wp2_with (go_at_call 62; refine (ssf_one _ _ _ _ _).mono ?_; rintro e w' ⟨rfl, rfl⟩)
  go_ret
  exact ⟨g, off, c, rfl, HS.out, HB.out, hg⟩
end Go.Proofs.Ytloampfkjldmnaa

/-
  Chapter texts RegX PoolC PoolD PoolE TwoC: what the claim reaches of them. Conditions stand at each theorem.
-/
import Derived.StillTail
import Derived.Deep.RegionHeld3
import Derived.RegionTactic
import Derived.StillTailTactics
import Derived.Deep.AppendLies
import Derived.Test.YtmkfjelpekkmmaaQ03
import Derived.Test.YtmkfjelpekkmmaaQ06
namespace Go.Proofs.Ytmkfjelpekkmmaa
open Go
section
variable {P : Program} {ops : Array Oper} {Q : Exit → Act → World → Prop} {md : Region.Mode} {S : World → Prop} {n : Nat}

def AnyX (P : Program) (md : Region.Mode) (ops : Array Oper) (Q : Exit → Act → World → Prop) (S : World → Prop) (n : Nat) : Nat → Array Bool → Act → World → Prop
  | 0, listed, a, w => Region.ready md ops listed = [] ∧ Q .normal a w
  | fuel + 1, listed, a, w =>
    (Region.ready md ops listed = [] → Q .normal a w) ∧
    ∀ i ∈ Region.ready md ops listed, wpOp P ops Q i (fun a' w' => (i < n → S w') ∧ AnyX P md ops Q S n fuel (listed.setIfInBounds i true) a' w') a w

theorem any_of_x : ∀ (fuel : Nat) (listed : Array Bool) (a : Act) (w : World), AnyX P md ops Q S n fuel listed a w → wpAny P md ops Q fuel listed a w
  | 0, _, _, _, h => h
  | fuel + 1, _, _, _, h => ⟨h.1, fun i hi => wpOp_mono (fun a' w' h' => any_of_x fuel _ a' w' h'.2) (h.2 i hi)⟩

theorem anyX_first {i : Nat} {oi : Oper} {v : Value} (hi : ops[i]? = some oi) (hsel : Region.noSelect ops = true) (hs : Region.sinkB md ops n = true) (hc : Region.chainB md ops n = true) (hn : n < ops.size) (hin : i < n)
    (hQ : ∀ c a w, Q (.panic c) (a.put oi.dst v) w → Q (.panic c) a w) : ∀ (fuel : Nat) (listed : Array Bool) (a : Act) (w : World), HeadInv md ops n listed →
      (∀ j oj, ops[j]? = some oj → j ≠ i → listed.getD j true = false → (∀ e ∈ oj.after, Region.binds md e = true → e.on ≠ i) → oi.apart ops oj = true) →
      i ∈ Region.ready md ops listed → YieldsIf P ops S oi v a → S w →
      AnyX P md ops Q S n fuel (listed.setIfInBounds i true) (a.put oi.dst v) w → AnyX P md ops Q S n (fuel + 1) listed a w
  | fuel, listed, a, w, inv, hfree, hr, hy, hS, H => by
    have hun := (mem_ready.1 hr).1
    refine ⟨fun h => (by rw [h] at hr; cases hr), fun j hj => ?_⟩
    have hjn : j < n := Nat.lt_of_not_le fun h => tail_waits hs hc hn inv _ i rfl hin hun j h hj
    by_cases hji : j = i
    · rw [hji]; exact hy.wpOp hi hS ⟨fun _ => hS, H⟩
    · cases fuel with
      | zero =>
        have := ready_mono hj hji
        rw [H.1] at this
        cases this
      | succ fuel =>
        have h1 := H.2 j (ready_mono hj hji)
        obtain ⟨hjun, oj, hoj, hall⟩ := mem_ready.1 hj
        have hnot : ∀ e ∈ oj.after, Region.binds md e = true → e.on ≠ i := fun e he hb heq => by
          have h2 := hall e he hb
          rw [heq, getD_both hun] at h2
          cases h2
        have h2 := wpOp_putIf hoj (hfree j oj hoj hji hjun hnot) (fun cs b => Region.noSelect_spec hsel i oi cs b hi) (fun cs b => Region.noSelect_spec hsel j oj cs b hoj) hQ hy h1
        refine wpOp_mono (fun a' w' h3 => ⟨h3.2.1, anyX_first hi hsel hs hc hn hin hQ fuel (listed.setIfInBounds j true) a' w' (inv.set hj hjn) (fun k ok hk hki hku hno => ?_) (ready_mono hr (Ne.symm hji)) h3.1 (h3.2.1 hjn) ?_⟩) h2
        · refine hfree k ok hk hki ?_ hno
          by_cases hjk : j = k
          · rw [← hjk]; exact hjun
          · rwa [getD_set_ne true hjk] at hku
        · rw [Array.setIfInBounds_comm _ _ hji]
          exact h3.2.2

def headB (md : Region.Mode) (ops : Array Oper) (n : Nat) (listed : Array Bool) : Bool :=
  listed.size == ops.size && ((List.range ops.size).all fun j => match ops[j]? with
    | some oj => !listed.getD j false || oj.after.all fun e => !Region.binds md e || listed.getD e.on false
    | none => true) && ((List.range ops.size).all fun t => decide (t < n) || !listed.getD t true)
theorem headB_inv {listed : Array Bool} (h : headB md ops n listed = true) : HeadInv md ops n listed := by
  unfold headB at h
  simp only [Bool.and_eq_true, beq_iff_eq] at h
  obtain ⟨⟨h1, h2⟩, h3⟩ := h
  refine ⟨h1, fun j oj hj hl e he hb => ?_, fun t ht hlt => ?_⟩
  · have := List.all_eq_true.1 h2 j (List.mem_range.2 (Array.getElem?_eq_some_iff.1 hj).1)
    rw [hj] at this
    simp only [hl, Bool.not_true, Bool.false_or] at this
    have h4 := Array.all_eq_true_iff_forall_mem.1 this e he
    simpa [hb] using h4
  · have := List.all_eq_true.1 h3 t (List.mem_range.2 hlt)
    simpa [show ¬ t < n by omega] using this

theorem anyX_take {i : Nat} {oi : Oper} {v : Value} {fuel : Nat} {listed : Array Bool} {a : Act} {w : World} (hi : ops[i]? = some oi)
    (hB : (Region.noSelect ops && Region.sinkB md ops n && Region.chainB md ops n && decide (n < ops.size) && decide (i < n) && headB md ops n listed && Region.free md ops listed i && (Region.ready md ops listed).contains i) = true)
    (hQ : ∀ c a w, Q (.panic c) (a.put oi.dst v) w → Q (.panic c) a w) (hy : YieldsIf P ops S oi v a) (hS : S w)
    (h : AnyX P md ops Q S n fuel (listed.setIfInBounds i true) (a.put oi.dst v) w) : AnyX P md ops Q S n (fuel + 1) listed a w := by
  simp only [Bool.and_eq_true, decide_eq_true_eq] at hB
  obtain ⟨⟨⟨⟨⟨⟨⟨b1, b2⟩, b3⟩, b4⟩, b5⟩, b6⟩, b7⟩, b8⟩ := hB
  exact anyX_first hi b1 b2 b3 b4 b5 hQ fuel listed a w (headB_inv b6) (Region.free_spec hi b7) (by simpa using b8) hy hS h

def ReadyX (P : Program) (md : Region.Mode) (ops : Array Oper) (Q : Exit → Act → World → Prop) (S : World → Prop) (n fuel : Nat) (listed : Array Bool) (a : Act) (w : World) (rs : List Nat) : Prop :=
  ∀ i ∈ rs, wpOp P ops Q i (fun a' w' => (i < n → S w') ∧ AnyX P md ops Q S n fuel (listed.setIfInBounds i true) a' w') a w
theorem ReadyX.nil {fuel : Nat} {listed : Array Bool} {a : Act} {w : World} : ReadyX P md ops Q S n fuel listed a w [] := fun _ h => by cases h
theorem ReadyX.cons {fuel : Nat} {listed : Array Bool} {a : Act} {w : World} {i : Nat} {o : Oper} {rs : List Nat} (ho : ops[i]? = some o)
    (h : ∀ K' : Act → World → Prop, Shut (∀ a w, (i < n → S w) → ((i < n → S w) → AnyX P md ops Q S n fuel (listed.setIfInBounds i true) a w) → K' a w) → if Region.wanted o (yielded ops a.tmps) = true then Oper.wp P o a w K' Q else K' (a.put o.dst undef) w)
    (hs : ReadyX P md ops Q S n fuel listed a w rs) : ReadyX P md ops Q S n fuel listed a w (i :: rs) := fun j hj => by
  rcases List.mem_cons.1 hj with rfl | hj
  · exact wpOp_step ho (fun K' hK => h K' (fun a w hS hW => hK a w ⟨hS, hW hS⟩))
  · exact hs j hj
theorem anyX_ready {rs : List Nat} {fuel : Nat} {listed : Array Bool} {a : Act} {w : World} (hr : Region.ready md ops listed = rs) (hne : rs ≠ [])
    (h : ReadyX P md ops Q S n fuel listed a w rs) : AnyX P md ops Q S n (fuel + 1) listed a w := ⟨fun h0 => absurd (hr ▸ h0) hne, hr ▸ h⟩
theorem anyX_done {listed : Array Bool} {a : Act} {w : World} (hr : Region.ready md ops listed = []) (h : Q .normal a w) : ∀ fuel, AnyX P md ops Q S n fuel listed a w
  | 0 => ⟨hr, h⟩
  | _ + 1 => ⟨fun _ => h, by rw [hr]; simp⟩
theorem wp_region_x {id : Nat} {a : Act} {w : World} (n : Nat) (hm : P.follows .mixedOrders = true) (hS : S w.drew)
    (h : S w.drew → AnyX P .any ops Q S n ops.size (Array.replicate ops.size false) a w.drew) : (Code.region id ops true).wp P Q a w := wp_region_any hm (any_of_x _ _ _ _ (h hS))
end
end Go.Proofs.Ytmkfjelpekkmmaa
namespace Go.Proofs.Ytmkfjelpekkmmaa
open Go.RowKit

theorem ShInv.set_ix {m : Sh} (h : ShInv m) (i : Nat) (x' : Ix) (hr : 0 ≤ x'.gen ∧ x'.gen ≤ 1048576 ∧ 0 ≤ x'.bound ∧ x'.bound ≤ 1048576 ∧ (x'.alive = true → x'.gen < 1048576)) (hd : (i : Int) ∈ m.free → x'.alive = false) : ShInv { m with all := m.all.set i x' } := by
  refine ⟨by simpa using h.few, fun j y hy => ?_, fun f hf => by simpa using h.fr f hf, h.nd, fun f hf y hy => ?_⟩
  · simp only [List.getElem?_set] at hy
    split at hy
    · split at hy
      · cases hy; exact hr
      · cases hy
    · exact h.rng j y hy
  · simp only [List.getElem?_set] at hy
    have h0 := (h.fr f hf).1
    split at hy
    · rename_i he
      split at hy
      · cases hy
        exact hd (by rw [show (i : Int) = f by omega]; exact hf)
      · cases hy
    · exact h.dead f hf y hy

end Go.Proofs.Ytmkfjelpekkmmaa
namespace Go.Proofs.Ytmkfjelpekkmmaa
open Go.RowKit

theorem Chg.own {v : Value} (g off n cap : Nat) (h : v = .slice (some ⟨g, off, none⟩) n cap) : v.ownBlock = some g := by subst h; rfl

end Go.Proofs.Ytmkfjelpekkmmaa
namespace Go.Proofs.Ytmkfjelpekkmmaa
open Go.RowKit

theorem Turned.cell {w w' : World} {b : Option Nat} (h : Turned w w' b) {a : Addr} (ha : a.block < w.heap.size) (hb : b ≠ some a.block) : w'.cell? a = w.cell? a := World.cell?_of_block (w := w) (h.block _ ha (Ne.symm hb))
theorem Turned.frozen {w w' : World} {b : Option Nat} (h : Turned w w' b) {a : Addr} (ha : a.block < w.heap.size) (hb : b ≠ some a.block) : w'.frozen? a = w.frozen? a := World.frozen?_of_block (w := w) (h.block _ ha (Ne.symm hb))

theorem ShInv.add {m : Sh} {i : Nat} {x : Ix} (h : ShInv m) (hx : m.all[i]? = some x) (ha : x.alive = true) (x' : Ix) (hr : 0 ≤ x'.gen ∧ x'.gen ≤ 1048576 ∧ 0 ≤ x'.bound ∧ x'.bound ≤ 1048576 ∧ (x'.alive = true → x'.gen < 1048576)) (ha' : x'.alive = false) :
    ShInv { m with all := m.all.set i x', free := m.free ++ [(i : Int)] } := by
  have hil : i < m.all.length := (List.getElem?_eq_some_iff.1 hx).1
  have hni : (i : Int) ∉ m.free := fun hf => by have := h.dead i hf x (by simpa using hx); rw [ha] at this; cases this
  have h1 := h.set_ix i x' hr (fun _ => ha')
  refine ⟨h1.few, h1.rng, fun f hf => ?_, ?_, fun f hf y hy => ?_⟩
  · rcases List.mem_append.1 hf with hf | hf
    · exact h1.fr f hf
    · obtain rfl : f = i := by simpa using hf
      simp; omega
  · rw [List.nodup_append]
    exact ⟨h.nd, by simp, fun a ha b hb => by rintro rfl; simp at hb; subst hb; exact hni ha⟩
  · rcases List.mem_append.1 hf with hf | hf
    · exact h1.dead f hf y hy
    · obtain rfl : f = i := by simpa using hf
      simp only [Int.toNat_natCast] at hy
      rw [List.getElem?_set_self hil] at hy
      cases hy
      exact ha'

end Go.Proofs.Ytmkfjelpekkmmaa
namespace Go.Proofs.Ytmkfjelpekkmmaa
open Go.RowKit
def TwoD (V : World) (a b : Nat) (W : World) : Prop := (V.heap.size ≤ W.heap.size ∧ a < V.heap.size ∧ b < V.heap.size) ∧ ∀ o, W.cell? ⟨a, o, none⟩ = V.cell? ⟨a, o, none⟩ ∧ W.cell? ⟨b, o, none⟩ = V.cell? ⟨b, o, none⟩
theorem TwoD.alloc {V W : World} {a b : Nat} (h : TwoD V a b W) (x : Obj) : TwoD V a b (W.alloc x) := by
  have hs := h.1
  exact ⟨⟨by rw [World.size_alloc]; omega, hs.2⟩, fun o => ⟨(((Below.refl _ W).alloc (Nat.le_refl _) x).cell (p := ⟨a, o, none⟩) (by simp only; omega)).trans (h.2 o).1, (((Below.refl _ W).alloc (Nat.le_refl _) x).cell (p := ⟨b, o, none⟩) (by simp only; omega)).trans (h.2 o).2⟩⟩
theorem TwoD.turned {V W W' : World} {a b : Nat} {q : Option Nat} (h : TwoD V a b W) (ht : Turned W W' q) (ha : q ≠ some a) (hb : q ≠ some b) : TwoD V a b W' := by
  have hs := h.1
  have hs2 := ht.size
  exact ⟨⟨by omega, hs.2⟩, fun o => ⟨(ht.cell (a := ⟨a, o, none⟩) (by simp only; omega) ha).trans (h.2 o).1, (ht.cell (a := ⟨b, o, none⟩) (by simp only; omega) hb).trans (h.2 o).2⟩⟩
end Go.Proofs.Ytmkfjelpekkmmaa

/-
  Plain: a tick where nothing is commanded and nobody has power, moves or grows older; a tick of entities in any order. No program here. No condition.
-/
import Derived.Test.YtcnclcfipabimaaTpB
import Derived.Test.YtcnclcfipabimaaMpr
import Derived.Test.YtcnclcfipabimaaLiv
import Derived.Test.YtcnclcfipabimaaMra
namespace Go.Proofs.Ytcnclcfipabimaa
open Go.RowKit Go.Sort
theorem takesF_none (r : Int) (b : Bun) : ∀ (l : List Bun) (q : Int), (∀ c ∈ l, hasB c.m 8 = false) → takesF r b q l = q
  | [], _, _ => rfl
  | c :: l, q, h => by
    unfold takesF
    have hc : takeC r b c = false := by unfold takeC; rw [h c (by simp)]; simp
    rw [hc]
    exact takesF_none r b l q fun x hx => h x (List.mem_cons_of_mem _ hx)
theorem hits_none (r : Int) (own : List Bun) (h : ∀ c ∈ own, hasB c.m 8 = false) : hitsF r own [] = [] := by
  unfold hitsF
  rw [List.filterMap_eq_nil_iff]
  intro b _
  unfold hitOf
  rw [takesF_none r b own 0 h]
  simp [takesF]
theorem each_same {f : Bun → Bun × Bool} : ∀ {l : List Bun}, (∀ b ∈ l, f b = (b, true)) → eachL f l = l ∧ eachD f l = []
  | [], _ => ⟨rfl, rfl⟩
  | x :: l, h => by
    obtain ⟨h1, h2⟩ := each_same (f := f) (l := l) fun b hb => h b (List.mem_cons_of_mem _ hb)
    rw [each_cons, eachD_cons, h x (by simp), h1, h2]
    exact ⟨rfl, rfl⟩
/-- Nobody turns anything. -/
def StillB (c : Cfg) (b : Bun) : Prop := hasB b.m 8 = false ∧ hasB b.m 2 = false ∧ hasB b.m 16 = false ∧ inF c b.x b.y = (b.x, b.y)
theorem pass_still {c : Cfg} {b : Bun} (h : StillB c b) : passF c b = (b, true) := by
  obtain ⟨_, h2, h3, h4⟩ := h
  have e : moveF c b = b := by
    unfold moveF
    simp only [h2, Bool.false_eq_true, if_false]
    rw [h4]
  unfold passF
  rw [e]
  unfold ageF
  rw [if_pos h3]
theorem tick_quiet (c : Cfg) {own : List Bun} (h : ∀ b ∈ own, StillB c b) : ownL c (-1) own [] [] = stableF cmpBun own ∧ goneL c (-1) own [] [] = [] ∧ deadN c (-1) own [] [] = [] := by
  have hh := hits_none c.radius own fun b hb => (h b hb).1
  have e1 := each_same (f := hitF []) (l := stableF cmpBun own) fun b _ => rfl
  have e2 := each_same (f := passF c) (l := stableF cmpBun own) fun b hb => pass_still (h b ((stF_perm _).mem_iff.1 hb))
  have m1 : hurtL c.radius own [] = stableF cmpBun own := by unfold hurtL; rw [hh]; exact e1.1
  have m2 : hurtN c.radius own [] = [] := by unfold hurtN; rw [hh]; exact e1.2
  have m3 : midL c (-1) own [] [] = stableF cmpBun own := by unfold midL; rw [m1]; rfl
  have m4 : leftL c (-1) own [] [] = stableF cmpBun own := by unfold leftL; rw [m3]; exact e2.1
  have hz : ∀ b, inZ c (-1) b = true := fun b => by unfold inZ; simp
  refine ⟨?_, ?_, ?_⟩
  · unfold ownL; rw [m4]; exact List.filter_eq_self.2 fun b _ => hz b
  · unfold goneL; rw [m4]; exact List.filter_eq_nil_iff.2 fun b _ => by rw [hz b]; simp
  · unfold deadN; rw [m2, m3, e2.2]; rfl
theorem inF_id {c : Cfg} {x y : Int} (h : inW c x y = true) : inF c x y = (x, y) := by
  unfold inW at h
  have h := of_decide_eq_true h
  unfold inF
  rw [Prod.mk.injEq]
  constructor <;> omega
/-- Without what moves, has power, grows older. -/
def calm (b : Bun) : Bun := withoutF b 26
theorem calm_still {c : Cfg} {b : Bun} (h : inW c b.x b.y = true) : StillB c (calm b) := by
  have hx : (calm b).x = b.x := by unfold calm withoutF; simp only; rw [show hasB 26 1 = false from by decide]; rfl
  have hy : (calm b).y = b.y := by unfold calm withoutF; simp only; rw [show hasB 26 1 = false from by decide]; rfl
  refine ⟨?_, ?_, ?_, by rw [hx, hy]; exact inF_id h⟩
  · show hasB (bits .andNot .i64 (bits .or .i64 b.m 26) 26) 8 = false
    rw [hasB_wo8, show hasB 26 8 = true from by decide]; simp
  · show hasB (bits .andNot .i64 (bits .or .i64 b.m 26) 26) 2 = false
    rw [hasB_wo2, show hasB 26 2 = true from by decide]; simp
  · show hasB (bits .andNot .i64 (bits .or .i64 b.m 26) 26) 16 = false
    rw [hasB_wo16, show hasB 26 16 = true from by decide]; simp
end Go.Proofs.Ytcnclcfipabimaa

/-
  Plain: what Orders leaves begins with names of its own. No program here. No condition.
-/
import Derived.Test.YtcnclcfipabimaaMpa
import Derived.Test.YtcnclcfipabimaaOrd
namespace Go.Proofs.Ytcnclcfipabimaa
open Go.RowKit
theorem begM_app (a b : List Cm) : begM (a ++ b) = begM a ++ begM b := by unfold begM; simp
theorem begM_one (m : Cm) : begM [m] = if m.k = 1 then [idOf m.b] else [] := by
  rw [begM_cons]
  simp [begM]
theorem idEq_self (n : Nid) : idEq n.s n.i n.g n.s n.i n.g = true := by simp [idEq]
theorem ordTo_fresh (l : List Bun) (ms : List Cm) : (∀ n ∈ begM (ordTo l ms), n ∉ l.map idOf) ∧ (begM (ordTo l ms)).Nodup := by
  have key : ∀ (ms o : List Cm), ((∀ n ∈ begM o, n ∉ l.map idOf) ∧ (begM o).Nodup) → ((∀ n ∈ begM (ms.foldl (addO l) o), n ∉ l.map idOf) ∧ (begM (ms.foldl (addO l) o)).Nodup) := fun ms => by
    induction ms with
    | nil => intro o h; exact h
    | cons m ms ih =>
      intro o h
      rw [List.foldl_cons]
      refine ih _ ?_
      unfold addO
      split
      · rename_i hf
        rw [begM_app, begM_one]
        by_cases hk : m.k = 1
        · rw [if_pos hk]
          unfold freshO at hf
          have hk2 : (m.k == 1) = true := by simpa using hk
          rw [hk2] at hf
          simp only [Bool.not_true, Bool.false_or, Bool.and_eq_true] at hf
          obtain ⟨_, h1, h2⟩ := hf
          have g1 : idOf m.b ∉ l.map idOf := fun hm => by
            obtain ⟨b, hb, e⟩ := List.mem_map.1 hm
            have h3 := List.all_eq_true.1 h1 b hb
            have e1 : b.s = m.b.s ∧ b.i = m.b.i ∧ b.g = m.b.g := (sameId_iff b m.b).2 e
            obtain ⟨e1, e2, e3⟩ := e1
            rw [e1, e2, e3] at h3
            simp [idEq] at h3
          have g2 : idOf m.b ∉ begM o := fun hm => by
            unfold begM at hm
            obtain ⟨c, hc, e⟩ := List.mem_map.1 hm
            obtain ⟨hc1, hc2⟩ := List.mem_filter.1 hc
            have hc2 : c.k = 1 := by simpa using hc2
            have h3 := List.all_eq_true.1 h2 c hc1
            have e1 : c.b.s = m.b.s ∧ c.b.i = m.b.i ∧ c.b.g = m.b.g := (sameId_iff c.b m.b).2 e
            obtain ⟨e1, e2, e3⟩ := e1
            rw [e1, e2, e3] at h3
            simp [idEq, hc2] at h3
          refine ⟨fun n hn => ?_, List.nodup_append.2 ⟨h.2, by simp, fun a ha b hb e => ?_⟩⟩
          · rcases List.mem_append.1 hn with hn | hn
            · exact h.1 n hn
            · obtain rfl := List.mem_singleton.1 hn; exact g1
          · obtain rfl := List.mem_singleton.1 hb
            exact g2 (e ▸ ha)
        · rw [if_neg hk, List.append_nil]; exact h
      · exact h
  exact key ms [] ⟨by simp [begM], by simp [begM]⟩
theorem ordF_fresh (l : List Bun) (ms : List Cm) : (∀ n ∈ begM (ordF l ms), n ∉ l.map idOf) ∧ (begM (ordF l ms)).Nodup := ordTo_fresh l _
end Go.Proofs.Ytcnclcfipabimaa

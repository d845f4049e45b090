/-
  Plain: who stays stands in the zone, who goes beside it; all that are left may be. No program here. Condition: the world may be; so may the commands.
-/
import Derived.Test.YtcnclcfipabimaaMpa
import Derived.Test.YtcnclcfipabimaaMtg
import Derived.Test.YtcnclcfipabimaaMsd
import Derived.Test.YtcnclcfipabimaaMpr
namespace Go.Proofs.Ytcnclcfipabimaa
open Go.RowKit
/-- An entity that may be, of a zone. -/
def GoodZ (c : Cfg) (z : Int) (b : Bun) : Prop := checkB b = true ∧ inW c b.x b.y = true ∧ ofF c b.x b.y = z
theorem good_pos {c : Cfg} {z : Int} {b b' : Bun} (h : GoodZ c z b) (hc : checkB b' = true) (hx : b'.x = b.x) (hy : b'.y = b.y) : GoodZ c z b' := ⟨hc, by rw [hx, hy]; exact h.2.1, by rw [hx, hy]; exact h.2.2⟩
theorem good_hit {c : Cfg} {z : Int} {hs : List Hit} {b : Bun} (h : GoodZ c z b) (hk : (hitF hs b).2 = true) : GoodZ c z (hitF hs b).1 := by
  unfold hitF at hk ⊢
  cases hf : hs.find? fun h => idEq h.s h.i h.g b.s b.i b.g with
  | none => exact h
  | some x =>
    rw [hf] at hk
    have hk : (hurtF b x.n).2 = true := hk
    show GoodZ c z (hurtF b x.n).1
    refine good_pos h ((hurt_may b x.n h.1).trans hk) ?_ ?_ <;> (unfold hurtF at hk ⊢; split; rfl; rename_i h1; rw [if_neg h1] at hk; split; (rename_i h2; rw [if_pos h2] at hk; cases hk); rfl)
theorem some_not1 {m : Int} (h : someB m = true) : hasB m 1 = false := by
  unfold someB at h
  simp only [Bool.and_eq_true] at h
  have h2 := h.2
  rw [and1_zero] at h2
  simpa using h2
theorem good_obey {c : Cfg} {z : Int} {m : Cm} {b : Bun} (hm : cmdB m = true) (hk1 : m.k ≠ 1) (h : GoodZ c z b) (hk : (obeyF b m).2 = true) : GoodZ c z (obeyF b m).1 := by
  by_cases hid : idEq m.s m.i m.g b.s b.i b.g = false
  · have e : obeyF b m = (b, true) := by unfold obeyF; rw [if_pos hid]
    rw [e]; exact h
  · have hid2 : idEq m.s m.i m.g b.s b.i b.g = true := by simpa using hid
    have e : m = { m with s := b.s, i := b.i, g := b.g } := by
      simp only [idEq, Bool.and_eq_true, beq_iff_eq] at hid2
      obtain ⟨⟨h1, h2⟩, h3⟩ := hid2
      rw [← h1, ← h2, ← h3]
    have hc := obey_may b m h.1 hm
    rw [← e] at hc
    refine good_pos h (hc.trans hk) ?_ ?_
    all_goals
      unfold cmdB at hm
      have n1 : (m.k == 1) = false := by simpa using hk1
      rw [n1] at hm
      simp only [Bool.false_eq_true, if_false] at hm
      unfold obeyF at hk ⊢
      rw [if_neg hid] at hk ⊢
      by_cases h2 : m.k = 2
      · rw [if_pos h2] at hk; cases hk
      · rw [if_neg h2] at hk ⊢
        by_cases h3 : m.k = 3
        · rw [if_pos h3]
          have n3 : (m.k == 3) = true := by simpa using h3
          rw [n3] at hm
          simp only [if_true, Bool.and_eq_true] at hm
          have := some_not1 hm.1.1.2
          unfold withF
          simp [this]
        · rw [if_neg h3]
          by_cases h4 : m.k = 4
          · rw [if_pos h4]
            have n3 : (m.k == 3) = false := by simpa using h3
            have n4 : (m.k == 4) = true := by simpa using h4
            rw [n3, n4] at hm
            simp only [Bool.false_eq_true, if_false, if_true, Bool.and_eq_true] at hm
            have := some_not1 hm.1.1
            unfold withoutF
            simp [this]
          · rw [if_neg h4]
theorem good_cmd {c : Cfg} {z : Int} (hz : 0 ≤ z) {l : List Bun} {m : Cm} (hm : cmdB m = true) (h : ∀ b ∈ l, GoodZ c z b) : ∀ b ∈ cmdL c z l m, GoodZ c z b := fun b hb => by
  unfold cmdL at hb
  split at hb
  · rename_i hk
    split at hb
    · rename_i hs
      rcases List.mem_cons.1 ((ins_perm l _ m.b).mem_iff.1 hb) with rfl | hb
      · unfold spawnB at hs
        simp only [Bool.and_eq_true, Bool.or_eq_true, decide_eq_true_eq] at hs
        obtain ⟨⟨_, h0⟩, h1⟩ := hs
        have hof : ofF c m.b.x m.b.y = z := h1.resolve_left (by omega)
        have hck : checkB m.b = true := by
          unfold cmdB at hm
          have n1 : (m.k == 1) = true := by simpa using hk
          rw [n1] at hm
          simp only [if_true, Bool.and_eq_true] at hm
          exact hm.2
        refine ⟨hck, ?_, hof⟩
        cases hi : inW c m.b.x m.b.y with
        | true => rfl
        | false => unfold ofF at h0; rw [hi] at h0; simp at h0
      · exact h b hb
    · exact h b hb
  · rename_i hk
    obtain ⟨x, hx, h1, rfl⟩ := each_mem.1 hb
    exact good_obey hm hk (h x hx) h1
theorem good_cmds {c : Cfg} {z : Int} (hz : 0 ≤ z) : ∀ (ms : List Cm) {l : List Bun}, (∀ m ∈ ms, cmdB m = true) → (∀ b ∈ l, GoodZ c z b) → ∀ b ∈ cmdsL c z l ms, GoodZ c z b
  | [], _, _, h => h
  | m :: ms, _, hm, h => good_cmds hz ms (fun m' h' => hm m' (List.mem_cons_of_mem _ h')) (good_cmd hz (hm m (by simp)) h)
theorem check_at {b : Bun} {x y : Int} (h : checkB b = true) (hx : -1073741824 ≤ x ∧ x ≤ 1073741824) (hy : -1073741824 ≤ y ∧ y ≤ 1073741824) : checkB { b with x := x, y := y } = true := by
  unfold checkB rightB at h ⊢
  simp only [Bool.and_eq_true] at h ⊢
  obtain ⟨⟨⟨⟨⟨⟨⟨⟨⟨h1, h2⟩, h3⟩, h4⟩, h5⟩, h6⟩, h7⟩, h8⟩, h9⟩, h10⟩ := h
  refine ⟨⟨⟨⟨⟨⟨⟨⟨⟨h1, ?_⟩, ?_⟩, h4⟩, h5⟩, h6⟩, h7⟩, h8⟩, h9⟩, h10⟩
  · unfold withinB; rw [h9]; simp [inR, hx.1, hx.2]
  · unfold withinB; rw [h9]; simp [inR, hy.1, hy.2]
/-- Whoever is left may be, and stands in the zone or beside it. -/
theorem good_pass {c : Cfg} (ho : CfgOk c) {z : Int} {b : Bun} (h : GoodZ c z b) (hk : (passF c b).2 = true) : checkB (passF c b).1 = true ∧ (ofF c (passF c b).1.x (passF c b).1.y = z ∨ ofF c (passF c b).1.x (passF c b).1.y ∈ besideF c z) := by
  obtain ⟨p1, p2, p3, p4⟩ := ho.prod
  have hin := inF_in ho (if hasB b.m 2 then addF b.x (max (-c.speed) (min c.speed b.vx)) else b.x) (if hasB b.m 2 then addF b.y (max (-c.speed) (min c.speed b.vy)) else b.y)
  have hmv : inW c (moveF c b).x (moveF c b).y = true := hin
  have hcm : checkB (moveF c b) = true := by
    unfold inW at hmv
    have hmv := of_decide_eq_true hmv
    have e : moveF c b = { b with x := (moveF c b).x, y := (moveF c b).y } := rfl
    rw [e]
    exact check_at h.1 ⟨by omega, by omega⟩ ⟨by omega, by omega⟩
  have hst := move_stays ho b h.2.1
  rw [h.2.2] at hst
  have hage := age_may (moveF c b) hcm
  have e : passF c b = ageF (moveF c b) := rfl
  rw [e] at hk ⊢
  have hpos : (ageF (moveF c b)).1.x = (moveF c b).x ∧ (ageF (moveF c b)).1.y = (moveF c b).y := by
    generalize moveF c b = y at *
    unfold ageF at hk ⊢
    split
    · exact ⟨rfl, rfl⟩
    · rename_i h1
      rw [if_neg h1] at hk
      split
      · rename_i h2; rw [if_pos h2] at hk; cases hk
      · exact ⟨rfl, rfl⟩
  refine ⟨hage.trans hk, ?_⟩
  rw [hpos.1, hpos.2]
  exact hst.imp (fun e => e.symm) id
/-- TickGoes, plain. -/
theorem tick_goes {c : Cfg} (ho : CfgOk c) {z : Int} (hz : 0 ≤ z) {own : List Bun} (near : List Bun) {ms : List Cm} (hm : ∀ m ∈ ms, cmdB m = true) (h : ∀ b ∈ own, GoodZ c z b) :
    (∀ b ∈ ownL c z own near ms, ofF c b.x b.y = z ∧ checkB b = true) ∧ (∀ b ∈ goneL c z own near ms, ofF c b.x b.y ∈ besideF c z ∧ checkB b = true) := by
  have h1 : ∀ b ∈ hurtL c.radius own near, GoodZ c z b := fun b hb => by
    obtain ⟨x, hx, hk, rfl⟩ := each_mem.1 hb
    exact good_hit (h x ((stF_perm own).mem_iff.1 hx)) hk
  have h2 := good_cmds hz ms hm h1
  have h3 : ∀ b ∈ leftL c z own near ms, checkB b = true ∧ (ofF c b.x b.y = z ∨ ofF c b.x b.y ∈ besideF c z) := fun b hb => by
    obtain ⟨x, hx, hk, rfl⟩ := each_mem.1 hb
    exact good_pass ho (h2 x hx) hk
  constructor
  · intro b hb
    obtain ⟨hb1, hb2⟩ := List.mem_filter.1 hb
    unfold inZ at hb2
    simp only [Bool.or_eq_true, decide_eq_true_eq] at hb2
    exact ⟨hb2.resolve_left (by omega), (h3 b hb1).1⟩
  · intro b hb
    obtain ⟨hb1, hb2⟩ := List.mem_filter.1 hb
    unfold inZ at hb2
    simp only [Bool.not_eq_true', Bool.or_eq_false_iff, decide_eq_false_iff_not] at hb2
    exact ⟨(h3 b hb1).2.resolve_left hb2.2, (h3 b hb1).1⟩
end Go.Proofs.Ytcnclcfipabimaa

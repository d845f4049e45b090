/-
  Plain: a tick keeps names apart and in order; nobody is lost. No program here. No condition.
-/
import Derived.Test.YtcnclcfipabimaaMtk
import Derived.Test.YtcnclcfipabimaaMtl
namespace Go.Proofs.Ytcnclcfipabimaa
open Go.RowKit Go.Sort
/-- Rising names, all unlike. -/
def Rise (l : List Bun) : Prop := l.Pairwise fun a b => bef a b = true
theorem bef_lt (a b : Bun) : bef a b = true ↔ cmpBun a b < 0 := by rw [bef_cmp]; simp
theorem cmp_id (a b : Bun) : cmpBun a b = cmpN (idOf a) (idOf b) := rfl
theorem bef_id {a b a' b' : Bun} (ha : idOf a' = idOf a) (hb : idOf b' = idOf b) : bef a' b' = bef a b := by
  rw [bef_cmp, bef_cmp, cmp_id, cmp_id, ha, hb]
theorem bef_befN (a b : Bun) : bef a b = befN (idOf a) (idOf b) := by
  rw [bef_cmp, cmp_id]; unfold befN ltOf; rfl
theorem sameId_iff (a b : Bun) : sameId a b ↔ idOf a = idOf b := by
  unfold sameId idOf
  simp only [Nid.mk.injEq]
theorem rise_un {l : List Bun} (h : Rise l) : UnId l := h.imp fun {a b} h1 h2 => by
  rw [bef_befN, (sameId_iff a b).1 h2, befN_irr] at h1; cases h1
theorem rise_ids {l : List Bun} (h : Rise l) : (l.map idOf).Pairwise fun a b => befN a b = true := by
  rw [List.pairwise_map]
  exact h.imp fun {a b} h1 => by rwa [bef_befN] at h1
theorem rise_nodup {l : List Bun} (h : Rise l) : (l.map idOf).Nodup := (rise_ids h).imp fun {a b} h1 e => by subst e; rw [befN_irr] at h1; cases h1
/-- Two lists that rise, of the same entities, are the same. -/
theorem rise_eq {l l' : List Bun} (h : Rise l) (h' : Rise l') (hp : l.Perm l') : l = l' := by
  refine List.Perm.eq_of_pairwise (le := fun a b => bef a b = true) (fun a b _ _ h1 h2 => ?_) h h' hp
  rw [bef_befN] at h1 h2
  have := befN_trans h1 h2
  rw [befN_irr] at this; cases this
theorem rise_mem {l l' : List Bun} (h : Rise l) (h' : Rise l') (hm : ∀ b, b ∈ l ↔ b ∈ l') : l = l' := by
  have nd : ∀ {l : List Bun}, Rise l → l.Nodup := fun h => h.imp fun {a b} h1 e => by subst e; rw [bef_befN, befN_irr] at h1; cases h1
  exact rise_eq h h' ((List.perm_ext_iff_of_nodup (nd h) (nd h')).2 hm)
theorem ins_perm (l : List Bun) (i : Nat) (b : Bun) : (insF l i b).Perm (b :: l) := by
  unfold insF
  refine List.perm_middle.trans (List.Perm.cons _ ?_)
  rw [List.take_append_drop]
/-- What is done to an entity leaves its name. -/
def KeepId (f : Bun → Bun × Bool) : Prop := ∀ b, (f b).2 = true → idOf (f b).1 = idOf b
theorem each_cons (f : Bun → Bun × Bool) (x : Bun) (l : List Bun) : eachL f (x :: l) = (if (f x).2 then [(f x).1] else []) ++ eachL f l := by
  unfold eachL
  rw [List.filter_cons]
  split <;> simp
theorem eachD_cons (f : Bun → Bun × Bool) (x : Bun) (l : List Bun) : eachD f (x :: l) = (if (f x).2 then [] else [idOf x]) ++ eachD f l := by
  unfold eachD
  rw [List.filter_cons]
  cases (f x).2 <;> simp
theorem each_app (f : Bun → Bun × Bool) (l l' : List Bun) : eachL f (l ++ l') = eachL f l ++ eachL f l' := by unfold eachL; simp
theorem eachD_app (f : Bun → Bun × Bool) (l l' : List Bun) : eachD f (l ++ l') = eachD f l ++ eachD f l' := by unfold eachD; simp
theorem each_perm (f : Bun → Bun × Bool) {l l' : List Bun} (h : l.Perm l') : (eachL f l).Perm (eachL f l') := by unfold eachL; exact (h.filter _).map _
theorem eachD_perm (f : Bun → Bun × Bool) {l l' : List Bun} (h : l.Perm l') : (eachD f l).Perm (eachD f l') := by unfold eachD; exact (h.filter _).map _
theorem each_mem {f : Bun → Bun × Bool} {l : List Bun} {b : Bun} : b ∈ eachL f l ↔ ∃ x ∈ l, (f x).2 = true ∧ (f x).1 = b := by
  unfold eachL
  simp only [List.mem_map, List.mem_filter]
  constructor
  · rintro ⟨x, ⟨h1, h2⟩, h3⟩; exact ⟨x, h1, h2, h3⟩
  · rintro ⟨x, h1, h2, h3⟩; exact ⟨x, ⟨h1, h2⟩, h3⟩
theorem eachD_mem {f : Bun → Bun × Bool} {l : List Bun} {n : Nid} : n ∈ eachD f l ↔ ∃ x ∈ l, (f x).2 = false ∧ idOf x = n := by
  unfold eachD
  simp only [List.mem_map, List.mem_filter, Bool.not_eq_true']
  constructor
  · rintro ⟨x, ⟨h1, h2⟩, h3⟩; exact ⟨x, h1, h2, h3⟩
  · rintro ⟨x, h1, h2, h3⟩; exact ⟨x, ⟨h1, h2⟩, h3⟩
theorem each_rise {f : Bun → Bun × Bool} (hf : KeepId f) {l : List Bun} (h : Rise l) : Rise (eachL f l) := by
  unfold Rise eachL
  rw [List.pairwise_map]
  refine (List.Pairwise.sublist List.filter_sublist (List.Pairwise.and_mem.1 h)).imp_of_mem ?_
  rintro a b ha hb ⟨_, _, h1⟩
  rw [bef_id (hf a (List.mem_filter.1 ha).2) (hf b (List.mem_filter.1 hb).2)]
  exact h1
/-- Each of them is left, or is no more. -/
theorem each_ids {f : Bun → Bun × Bool} (hf : KeepId f) : ∀ l : List Bun, ((eachL f l).map idOf ++ eachD f l).Perm (l.map idOf)
  | [] => by simp [eachL, eachD]
  | x :: l => by
    have ih := each_ids hf l
    rw [each_cons, eachD_cons]
    cases h : (f x).2 with
    | true =>
      simp only [if_true, List.nil_append, List.cons_append, List.map_cons]
      rw [hf x h]
      exact List.Perm.cons _ ih
    | false =>
      simp only [Bool.false_eq_true, if_false, List.nil_append, List.cons_append, List.map_cons]
      exact List.perm_middle.trans (List.Perm.cons _ ih)
theorem keep_obey (m : Cm) : KeepId fun b => obeyF b m := fun b h => by
  replace h : (obeyF b m).2 = true := h
  show idOf (obeyF b m).1 = idOf b
  unfold obeyF at h ⊢
  by_cases h1 : idEq m.s m.i m.g b.s b.i b.g = false
  · rw [if_pos h1]
  · rw [if_neg h1] at h ⊢
    by_cases h2 : m.k = 2
    · rw [if_pos h2] at h; cases h
    · rw [if_neg h2]
      split
      · rfl
      · split <;> rfl
theorem keep_hurt (b : Bun) (n : Int) (h : (hurtF b n).2 = true) : idOf (hurtF b n).1 = idOf b := by
  unfold hurtF at h ⊢
  split
  · rfl
  · rename_i h1
    rw [if_neg h1] at h
    split
    · rename_i h2; rw [if_pos h2] at h; cases h
    · rfl
theorem keep_hit (hs : List Hit) : KeepId (hitF hs) := fun b => by
  unfold hitF
  cases hs.find? fun h => idEq h.s h.i h.g b.s b.i b.g with
  | none => intro _; rfl
  | some x => exact keep_hurt b x.n
theorem keep_pass (c : Cfg) : KeepId (passF c) := fun b h => by
  unfold passF at h ⊢
  have e : idOf (moveF c b) = idOf b := rfl
  rw [← e]
  generalize moveF c b = y at *
  unfold ageF at h ⊢
  split
  · rfl
  · rename_i h1
    rw [if_neg h1] at h
    split
    · rename_i h2; rw [if_pos h2] at h; cases h
    · rfl
/-- Where a name stands, or would stand, among those that rise. -/
theorem findB_spec (s i g : Int) : ∀ (l : List Bun) (k : Nat), Rise l → ∃ q : Nat, q ≤ l.length ∧ (findB s i g l k).1 = ((k + q : Nat) : Int) ∧ (∀ b ∈ l.take q, cmpN (idOf b) ⟨s, i, g⟩ < 0) ∧ (∀ b ∈ l.drop q, 0 ≤ cmpN (idOf b) ⟨s, i, g⟩) ∧ ((findB s i g l k).2 = true ↔ (⟨s, i, g⟩ : Nid) ∈ l.map idOf)
  | [], k, _ => ⟨0, Nat.le_refl _, rfl, by simp, by simp, by simp [findB]⟩
  | b :: l, k, h => by
    obtain ⟨h1, h2⟩ := List.pairwise_cons.1 h
    unfold findB
    by_cases hc : 0 ≤ cmpId b.s b.i b.g s i g
    · have hc' : 0 ≤ cmpN (idOf b) ⟨s, i, g⟩ := hc
      rw [if_pos hc]
      refine ⟨0, Nat.zero_le _, rfl, by simp, fun x hx => ?_, ?_⟩
      · rcases List.mem_cons.1 hx with rfl | hx
        · exact hc'
        · have hbx := h1 x hx
          rw [bef_befN] at hbx
          cases hh : befN (idOf x) ⟨s, i, g⟩ with
          | false => rwa [show (befN (idOf x) ⟨s, i, g⟩ = false) ↔ 0 ≤ cmpN (idOf x) ⟨s, i, g⟩ from ltN_not _ _] at hh
          | true =>
            have := (befN_iff _ _).1 (befN_trans hbx hh)
            omega
      · constructor
        · intro he
          have e0 : cmpN (idOf b) ⟨s, i, g⟩ = 0 := by simpa [cmpN, idOf] using he
          simp [cmpN_eq e0]
        · intro hm
          rcases List.mem_map.1 hm with ⟨x, hx, e⟩
          rcases List.mem_cons.1 hx with rfl | hx
          · show (cmpN (idOf x) ⟨s, i, g⟩ == 0) = true
            rw [e, cmpN_ok.self]; rfl
          · have hbx := h1 x hx
            rw [bef_befN, e] at hbx
            have := (befN_iff _ _).1 hbx
            omega
    · have hc' : cmpN (idOf b) ⟨s, i, g⟩ < 0 := by show cmpId b.s b.i b.g s i g < 0; omega
      rw [if_neg hc]
      obtain ⟨q, q1, q2, q3, q4, q5⟩ := findB_spec s i g l (k + 1) h2
      refine ⟨q + 1, by simpa using q1, by rw [q2]; congr 1; omega, fun x hx => ?_, by simpa using q4, ?_⟩
      · rw [List.take_succ_cons] at hx
        rcases List.mem_cons.1 hx with rfl | hx
        · exact hc'
        · exact q3 x hx
      · rw [q5, List.map_cons, List.mem_cons]
        constructor
        · exact .inr
        · rintro (e | h)
          · rw [← e, cmpN_ok.self] at hc'; omega
          · exact h
theorem ins_rise {l : List Bun} (h : Rise l) (b : Bun) (hn : (findB b.s b.i b.g l 0).2 = false) : Rise (insF l (findB b.s b.i b.g l 0).1.toNat b) := by
  obtain ⟨q, q1, q2, q3, q4, q5⟩ := findB_spec b.s b.i b.g l 0 h
  have hnot : idOf b ∉ l.map idOf := fun hm => by rw [q5.2 hm] at hn; cases hn
  rw [q2]
  simp only [Nat.zero_add, Int.toNat_natCast]
  unfold insF Rise
  have hp : (l.take q ++ l.drop q).Pairwise fun a b => bef a b = true := by rw [List.take_append_drop]; exact h
  obtain ⟨p1, p2, p3⟩ := List.pairwise_append.1 hp
  refine List.pairwise_append.2 ⟨p1, List.pairwise_cons.2 ⟨fun x hx => ?_, p2⟩, fun x hx y hy => ?_⟩
  · have h1 := q4 x hx
    have h2 := cmpN_ok.neg (idOf b) (idOf x)
    have h3 := cmpN_ok.zero (idOf x) (idOf b)
    have h4 : cmpN (idOf x) (idOf b) ≠ 0 := fun e => hnot (by rw [← cmpN_eq e]; exact List.mem_map_of_mem (List.mem_of_mem_drop hx))
    rw [bef_befN, befN_iff]
    have h1' : 0 ≤ cmpN (idOf x) (idOf b) := h1
    have h5 := cmpN_ok.neg (idOf x) (idOf b)
    omega
  · rcases List.mem_cons.1 hy with rfl | hy
    · rw [bef_befN, befN_iff]; exact q3 x hx
    · exact p3 x hx y hy
theorem cmdL_rise {c : Cfg} {z : Int} {l : List Bun} (h : Rise l) (m : Cm) : Rise (cmdL c z l m) := by
  unfold cmdL
  split
  · split
    · rename_i hs
      refine ins_rise h m.b ?_
      unfold spawnB at hs
      simp only [Bool.and_eq_true, Bool.not_eq_true'] at hs
      exact hs.1.1
    · exact h
  · exact each_rise (keep_obey m) h
theorem cmdsL_rise (c : Cfg) (z : Int) : ∀ (ms : List Cm) {l : List Bun}, Rise l → Rise (cmdsL c z l ms)
  | [], _, h => h
  | m :: ms, _, h => cmdsL_rise c z ms (cmdL_rise h m)
theorem hurtL_rise (r : Int) {own : List Bun} (near : List Bun) (h : UnId own) : Rise (hurtL r own near) := each_rise (keep_hit _) (stF_rise h)
theorem leftL_rise (c : Cfg) (z : Int) {own : List Bun} (near : List Bun) (ms : List Cm) (h : UnId own) : Rise (leftL c z own near ms) := each_rise (keep_pass c) (cmdsL_rise c z ms (hurtL_rise _ near h))
/-- Is a name among these? -/
def hasN (l : List Bun) (n : Nid) : Bool := (l.map idOf).contains n
/-- Does an entity begin, of a name that nobody has? -/
theorem spawnB_iff {c : Cfg} {z : Int} {l : List Bun} (h : Rise l) (m : Cm) : spawnB c z l m = (!hasN l (idOf m.b) && decide (0 ≤ ofF c m.b.x m.b.y) && (decide (z < 0) || decide (ofF c m.b.x m.b.y = z))) := by
  obtain ⟨q, _, _, _, _, q5⟩ := findB_spec m.b.s m.b.i m.b.g l 0 h
  have e : (findB m.b.s m.b.i m.b.g l 0).2 = hasN l (idOf m.b) := by
    unfold hasN
    rw [Bool.eq_iff_iff, q5, List.contains_iff_mem]; rfl
  unfold spawnB
  rw [e]
end Go.Proofs.Ytcnclcfipabimaa

/-
  Plain: a tick keeps names apart and in order; nobody is lost. No program here. No condition.
  Plain: entities by their names; commands turn one name alone; who begins, who is no more. No program here. No condition.
  Plain: nobody is lost, and nobody comes twice. No program here. Condition: who begins has a name of its own.
  Plain: how often a name comes in what a tick leaves. No program here. Condition: who begins has a name of its own.
-/
import Derived.Test.YtcnclcfipabimaaMtk
import Derived.Test.YtcnclcfipabimaaMtl
namespace Go.Proofs.Ytcnclcfipabimaa
open Go.RowKit Go.Sort
/-- Rising names, all unlike. -/
def Rise (l : List Bun) : Prop := l.Pairwise fun a b => bef a b = true
theorem bef_lt (a b : Bun) : bef a b = true ↔ cmpBun a b < 0 := by rw [bef_cmp]; simp
theorem cmp_id (a b : Bun) : cmpBun a b = cmpN (idOf a) (idOf b) := rfl
theorem bef_id {a b a' b' : Bun} (ha : idOf a' = idOf a) (hb : idOf b' = idOf b) : bef a' b' = bef a b := by
  rw [bef_cmp, bef_cmp, cmp_id, cmp_id, ha, hb]
theorem bef_befN (a b : Bun) : bef a b = befN (idOf a) (idOf b) := by
  rw [bef_cmp, cmp_id]; unfold befN ltOf; rfl
theorem sameId_iff (a b : Bun) : sameId a b ↔ idOf a = idOf b := by
  unfold sameId idOf
  simp only [Nid.mk.injEq]
theorem rise_un {l : List Bun} (h : Rise l) : UnId l := h.imp fun {a b} h1 h2 => by
  rw [bef_befN, (sameId_iff a b).1 h2, befN_irr] at h1; cases h1
theorem rise_ids {l : List Bun} (h : Rise l) : (l.map idOf).Pairwise fun a b => befN a b = true := by
  rw [List.pairwise_map]
  exact h.imp fun {a b} h1 => by rwa [bef_befN] at h1
theorem rise_nodup {l : List Bun} (h : Rise l) : (l.map idOf).Nodup := (rise_ids h).imp fun {a b} h1 e => by subst e; rw [befN_irr] at h1; cases h1
/-- Two lists that rise, of the same entities, are the same. -/
theorem rise_eq {l l' : List Bun} (h : Rise l) (h' : Rise l') (hp : l.Perm l') : l = l' := by
  refine List.Perm.eq_of_pairwise (le := fun a b => bef a b = true) (fun a b _ _ h1 h2 => ?_) h h' hp
  rw [bef_befN] at h1 h2
  have := befN_trans h1 h2
  rw [befN_irr] at this; cases this
theorem rise_mem {l l' : List Bun} (h : Rise l) (h' : Rise l') (hm : ∀ b, b ∈ l ↔ b ∈ l') : l = l' := by
  have nd : ∀ {l : List Bun}, Rise l → l.Nodup := fun h => h.imp fun {a b} h1 e => by subst e; rw [bef_befN, befN_irr] at h1; cases h1
  exact rise_eq h h' ((List.perm_ext_iff_of_nodup (nd h) (nd h')).2 hm)
theorem ins_perm (l : List Bun) (i : Nat) (b : Bun) : (insF l i b).Perm (b :: l) := by
  unfold insF
  refine List.perm_middle.trans (List.Perm.cons _ ?_)
  rw [List.take_append_drop]
/-- What is done to an entity leaves its name. -/
def KeepId (f : Bun → Bun × Bool) : Prop := ∀ b, (f b).2 = true → idOf (f b).1 = idOf b
theorem each_cons (f : Bun → Bun × Bool) (x : Bun) (l : List Bun) : eachL f (x :: l) = (if (f x).2 then [(f x).1] else []) ++ eachL f l := by
  unfold eachL
  rw [List.filter_cons]
  split <;> simp
theorem eachD_cons (f : Bun → Bun × Bool) (x : Bun) (l : List Bun) : eachD f (x :: l) = (if (f x).2 then [] else [idOf x]) ++ eachD f l := by
  unfold eachD
  rw [List.filter_cons]
  cases (f x).2 <;> simp
theorem each_app (f : Bun → Bun × Bool) (l l' : List Bun) : eachL f (l ++ l') = eachL f l ++ eachL f l' := by unfold eachL; simp
theorem eachD_app (f : Bun → Bun × Bool) (l l' : List Bun) : eachD f (l ++ l') = eachD f l ++ eachD f l' := by unfold eachD; simp
theorem each_perm (f : Bun → Bun × Bool) {l l' : List Bun} (h : l.Perm l') : (eachL f l).Perm (eachL f l') := by unfold eachL; exact (h.filter _).map _
theorem eachD_perm (f : Bun → Bun × Bool) {l l' : List Bun} (h : l.Perm l') : (eachD f l).Perm (eachD f l') := by unfold eachD; exact (h.filter _).map _
theorem each_mem {f : Bun → Bun × Bool} {l : List Bun} {b : Bun} : b ∈ eachL f l ↔ ∃ x ∈ l, (f x).2 = true ∧ (f x).1 = b := by
  unfold eachL
  simp only [List.mem_map, List.mem_filter]
  constructor
  · rintro ⟨x, ⟨h1, h2⟩, h3⟩; exact ⟨x, h1, h2, h3⟩
  · rintro ⟨x, h1, h2, h3⟩; exact ⟨x, ⟨h1, h2⟩, h3⟩
theorem eachD_mem {f : Bun → Bun × Bool} {l : List Bun} {n : Nid} : n ∈ eachD f l ↔ ∃ x ∈ l, (f x).2 = false ∧ idOf x = n := by
  unfold eachD
  simp only [List.mem_map, List.mem_filter, Bool.not_eq_true']
  constructor
  · rintro ⟨x, ⟨h1, h2⟩, h3⟩; exact ⟨x, h1, h2, h3⟩
  · rintro ⟨x, h1, h2, h3⟩; exact ⟨x, ⟨h1, h2⟩, h3⟩
theorem each_rise {f : Bun → Bun × Bool} (hf : KeepId f) {l : List Bun} (h : Rise l) : Rise (eachL f l) := by
  unfold Rise eachL
  rw [List.pairwise_map]
  refine (List.Pairwise.sublist List.filter_sublist (List.Pairwise.and_mem.1 h)).imp_of_mem ?_
  rintro a b ha hb ⟨_, _, h1⟩
  rw [bef_id (hf a (List.mem_filter.1 ha).2) (hf b (List.mem_filter.1 hb).2)]
  exact h1
/-- Each of them is left, or is no more. -/
theorem each_ids {f : Bun → Bun × Bool} (hf : KeepId f) : ∀ l : List Bun, ((eachL f l).map idOf ++ eachD f l).Perm (l.map idOf)
  | [] => by simp [eachL, eachD]
  | x :: l => by
    have ih := each_ids hf l
    rw [each_cons, eachD_cons]
    cases h : (f x).2 with
    | true =>
      simp only [if_true, List.nil_append, List.cons_append, List.map_cons]
      rw [hf x h]
      exact List.Perm.cons _ ih
    | false =>
      simp only [Bool.false_eq_true, if_false, List.nil_append, List.cons_append, List.map_cons]
      exact List.perm_middle.trans (List.Perm.cons _ ih)
theorem keep_obey (m : Cm) : KeepId fun b => obeyF b m := fun b h => by
  replace h : (obeyF b m).2 = true := h
  show idOf (obeyF b m).1 = idOf b
  unfold obeyF at h ⊢
  by_cases h1 : idEq m.s m.i m.g b.s b.i b.g = false
  · rw [if_pos h1]
  · rw [if_neg h1] at h ⊢
    by_cases h2 : m.k = 2
    · rw [if_pos h2] at h; cases h
    · rw [if_neg h2]
      split
      · rfl
      · split <;> rfl
theorem keep_hurt (b : Bun) (n : Int) (h : (hurtF b n).2 = true) : idOf (hurtF b n).1 = idOf b := by
  unfold hurtF at h ⊢
  split
  · rfl
  · rename_i h1
    rw [if_neg h1] at h
    split
    · rename_i h2; rw [if_pos h2] at h; cases h
    · rfl
theorem keep_hit (hs : List Hit) : KeepId (hitF hs) := fun b => by
  unfold hitF
  cases hs.find? fun h => idEq h.s h.i h.g b.s b.i b.g with
  | none => intro _; rfl
  | some x => exact keep_hurt b x.n
theorem keep_pass (c : Cfg) : KeepId (passF c) := fun b h => by
  unfold passF at h ⊢
  have e : idOf (moveF c b) = idOf b := rfl
  rw [← e]
  generalize moveF c b = y at *
  unfold ageF at h ⊢
  split
  · rfl
  · rename_i h1
    rw [if_neg h1] at h
    split
    · rename_i h2; rw [if_pos h2] at h; cases h
    · rfl
/-- Where a name stands, or would stand, among those that rise. -/
theorem findB_spec (s i g : Int) : ∀ (l : List Bun) (k : Nat), Rise l → ∃ q : Nat, q ≤ l.length ∧ (findB s i g l k).1 = ((k + q : Nat) : Int) ∧ (∀ b ∈ l.take q, cmpN (idOf b) ⟨s, i, g⟩ < 0) ∧ (∀ b ∈ l.drop q, 0 ≤ cmpN (idOf b) ⟨s, i, g⟩) ∧ ((findB s i g l k).2 = true ↔ (⟨s, i, g⟩ : Nid) ∈ l.map idOf)
  | [], k, _ => ⟨0, Nat.le_refl _, rfl, by simp, by simp, by simp [findB]⟩
  | b :: l, k, h => by
    obtain ⟨h1, h2⟩ := List.pairwise_cons.1 h
    unfold findB
    by_cases hc : 0 ≤ cmpId b.s b.i b.g s i g
    · have hc' : 0 ≤ cmpN (idOf b) ⟨s, i, g⟩ := hc
      rw [if_pos hc]
      refine ⟨0, Nat.zero_le _, rfl, by simp, fun x hx => ?_, ?_⟩
      · rcases List.mem_cons.1 hx with rfl | hx
        · exact hc'
        · have hbx := h1 x hx
          rw [bef_befN] at hbx
          cases hh : befN (idOf x) ⟨s, i, g⟩ with
          | false => rwa [show (befN (idOf x) ⟨s, i, g⟩ = false) ↔ 0 ≤ cmpN (idOf x) ⟨s, i, g⟩ from ltN_not _ _] at hh
          | true =>
            have := (befN_iff _ _).1 (befN_trans hbx hh)
            omega
      · constructor
        · intro he
          have e0 : cmpN (idOf b) ⟨s, i, g⟩ = 0 := by simpa [cmpN, idOf] using he
          simp [cmpN_eq e0]
        · intro hm
          rcases List.mem_map.1 hm with ⟨x, hx, e⟩
          rcases List.mem_cons.1 hx with rfl | hx
          · show (cmpN (idOf x) ⟨s, i, g⟩ == 0) = true
            rw [e, cmpN_ok.self]; rfl
          · have hbx := h1 x hx
            rw [bef_befN, e] at hbx
            have := (befN_iff _ _).1 hbx
            omega
    · have hc' : cmpN (idOf b) ⟨s, i, g⟩ < 0 := by show cmpId b.s b.i b.g s i g < 0; omega
      rw [if_neg hc]
      obtain ⟨q, q1, q2, q3, q4, q5⟩ := findB_spec s i g l (k + 1) h2
      refine ⟨q + 1, by simpa using q1, by rw [q2]; congr 1; omega, fun x hx => ?_, by simpa using q4, ?_⟩
      · rw [List.take_succ_cons] at hx
        rcases List.mem_cons.1 hx with rfl | hx
        · exact hc'
        · exact q3 x hx
      · rw [q5, List.map_cons, List.mem_cons]
        constructor
        · exact .inr
        · rintro (e | h)
          · rw [← e, cmpN_ok.self] at hc'; omega
          · exact h
theorem ins_rise {l : List Bun} (h : Rise l) (b : Bun) (hn : (findB b.s b.i b.g l 0).2 = false) : Rise (insF l (findB b.s b.i b.g l 0).1.toNat b) := by
  obtain ⟨q, q1, q2, q3, q4, q5⟩ := findB_spec b.s b.i b.g l 0 h
  have hnot : idOf b ∉ l.map idOf := fun hm => by rw [q5.2 hm] at hn; cases hn
  rw [q2]
  simp only [Nat.zero_add, Int.toNat_natCast]
  unfold insF Rise
  have hp : (l.take q ++ l.drop q).Pairwise fun a b => bef a b = true := by rw [List.take_append_drop]; exact h
  obtain ⟨p1, p2, p3⟩ := List.pairwise_append.1 hp
  refine List.pairwise_append.2 ⟨p1, List.pairwise_cons.2 ⟨fun x hx => ?_, p2⟩, fun x hx y hy => ?_⟩
  · have h1 := q4 x hx
    have h2 := cmpN_ok.neg (idOf b) (idOf x)
    have h3 := cmpN_ok.zero (idOf x) (idOf b)
    have h4 : cmpN (idOf x) (idOf b) ≠ 0 := fun e => hnot (by rw [← cmpN_eq e]; exact List.mem_map_of_mem (List.mem_of_mem_drop hx))
    rw [bef_befN, befN_iff]
    have h1' : 0 ≤ cmpN (idOf x) (idOf b) := h1
    have h5 := cmpN_ok.neg (idOf x) (idOf b)
    omega
  · rcases List.mem_cons.1 hy with rfl | hy
    · rw [bef_befN, befN_iff]; exact q3 x hx
    · exact p3 x hx y hy
theorem cmdL_rise {c : Cfg} {z : Int} {l : List Bun} (h : Rise l) (m : Cm) : Rise (cmdL c z l m) := by
  unfold cmdL
  split
  · split
    · rename_i hs
      refine ins_rise h m.b ?_
      unfold spawnB at hs
      simp only [Bool.and_eq_true, Bool.not_eq_true'] at hs
      exact hs.1.1
    · exact h
  · exact each_rise (keep_obey m) h
theorem cmdsL_rise (c : Cfg) (z : Int) : ∀ (ms : List Cm) {l : List Bun}, Rise l → Rise (cmdsL c z l ms)
  | [], _, h => h
  | m :: ms, _, h => cmdsL_rise c z ms (cmdL_rise h m)
theorem hurtL_rise (r : Int) {own : List Bun} (near : List Bun) (h : UnId own) : Rise (hurtL r own near) := each_rise (keep_hit _) (stF_rise h)
theorem leftL_rise (c : Cfg) (z : Int) {own : List Bun} (near : List Bun) (ms : List Cm) (h : UnId own) : Rise (leftL c z own near ms) := each_rise (keep_pass c) (cmdsL_rise c z ms (hurtL_rise _ near h))
/-- Is a name among these? -/
def hasN (l : List Bun) (n : Nid) : Bool := (l.map idOf).contains n
/-- Does an entity begin, of a name that nobody has? -/
theorem spawnB_iff {c : Cfg} {z : Int} {l : List Bun} (h : Rise l) (m : Cm) : spawnB c z l m = (!hasN l (idOf m.b) && decide (0 ≤ ofF c m.b.x m.b.y) && (decide (z < 0) || decide (ofF c m.b.x m.b.y = z))) := by
  obtain ⟨q, _, _, _, _, q5⟩ := findB_spec m.b.s m.b.i m.b.g l 0 h
  have e : (findB m.b.s m.b.i m.b.g l 0).2 = hasN l (idOf m.b) := by
    unfold hasN
    rw [Bool.eq_iff_iff, q5, List.contains_iff_mem]; rfl
  unfold spawnB
  rw [e]
end Go.Proofs.Ytcnclcfipabimaa
namespace Go.Proofs.Ytcnclcfipabimaa
open Go.RowKit Go.Sort
/-- Who bears a name. -/
def lk (l : List Bun) (n : Nid) : Option Bun := l.find? fun b => decide (idOf b = n)
theorem rise_one {l : List Bun} (h : Rise l) {a b : Bun} (ha : a ∈ l) (hb : b ∈ l) (e : idOf a = idOf b) : a = b := (rise_un h).one ha hb ((sameId_iff a b).2 e)
theorem lk_iff {l : List Bun} (h : Rise l) (n : Nid) (b : Bun) : lk l n = some b ↔ b ∈ l ∧ idOf b = n := by
  unfold lk
  constructor
  · intro e
    exact ⟨List.mem_of_find?_eq_some e, by simpa using List.find?_some e⟩
  · rintro ⟨hb, e⟩
    cases hf : l.find? fun b => decide (idOf b = n) with
    | none =>
      have := List.find?_eq_none.1 hf b hb
      simp [e] at this
    | some a =>
      have h1 := List.mem_of_find?_eq_some hf
      have h2 : idOf a = n := by simpa using List.find?_some hf
      rw [rise_one h h1 hb (h2.trans e.symm)]
theorem lk_none {l : List Bun} (n : Nid) : lk l n = none ↔ n ∉ l.map idOf := by
  unfold lk
  rw [List.find?_eq_none]
  simp only [decide_eq_true_eq, List.mem_map, not_exists, not_and]
theorem hasN_iff (l : List Bun) (n : Nid) : hasN l n = true ↔ n ∈ l.map idOf := by unfold hasN; rw [List.contains_iff_mem]
theorem hasN_lk (l : List Bun) (n : Nid) : hasN l n = (lk l n).isSome := by
  rw [Bool.eq_iff_iff, hasN_iff]
  cases h : lk l n with
  | none => simp [(lk_none n).1 h]
  | some b =>
    simp only [Option.isSome_some, iff_true]
    unfold lk at h
    have h2 : idOf b = n := by simpa using List.find?_some h
    exact List.mem_map.2 ⟨b, List.mem_of_find?_eq_some h, h2⟩
theorem lk_ext {l l' : List Bun} (h : Rise l) (h' : Rise l') (he : ∀ n, lk l n = lk l' n) : l = l' := rise_mem h h' fun b => by
  have h1 := lk_iff h (idOf b) b
  have h2 := lk_iff h' (idOf b) b
  rw [he] at h1
  constructor
  · intro hb; exact (h2.1 (h1.2 ⟨hb, rfl⟩)).1
  · intro hb; exact (h1.1 (h2.2 ⟨hb, rfl⟩)).1
theorem lk_each {f : Bun → Bun × Bool} (hf : KeepId f) {l : List Bun} (h : Rise l) (n : Nid) : lk (eachL f l) n = (lk l n).bind fun x => if (f x).2 = true then some (f x).1 else none := by
  have hr := each_rise hf h
  cases hl : lk l n with
  | none =>
    rw [Option.bind_none, lk_none]
    intro hm
    obtain ⟨b, hb, e⟩ := List.mem_map.1 hm
    obtain ⟨x, hx, h1, h2⟩ := each_mem.1 hb
    refine (lk_none n).1 hl (List.mem_map.2 ⟨x, hx, ?_⟩)
    rw [← e, ← h2, hf x h1]
  | some x =>
    obtain ⟨hx, e⟩ := (lk_iff h n x).1 hl
    rw [Option.bind_some]
    cases h1 : (f x).2 with
    | true =>
      rw [if_pos rfl, lk_iff hr]
      exact ⟨each_mem.2 ⟨x, hx, h1, rfl⟩, (hf x h1).trans e⟩
    | false =>
      rw [if_neg (by simp), lk_none]
      intro hm
      obtain ⟨b, hb, e2⟩ := List.mem_map.1 hm
      obtain ⟨y, hy, h2, h3⟩ := each_mem.1 hb
      have : y = x := rise_one h hy hx (by rw [← hf y h2, h3, e2, e])
      subst this
      rw [h1] at h2; cases h2
/-- Whose a command is. -/
def ownN (m : Cm) : Nid := if m.k = 1 then idOf m.b else ⟨m.s, m.i, m.g⟩
/-- Does an entity begin here? -/
def begZ (c : Cfg) (z : Int) (m : Cm) : Bool := decide (0 ≤ ofF c m.b.x m.b.y) && (decide (z < 0) || decide (ofF c m.b.x m.b.y = z))
/-- What a command does to whom it names. -/
def upd (c : Cfg) (z : Int) (m : Cm) (o : Option Bun) : Option Bun :=
  if m.k = 1 then (match o with | some x => some x | none => if begZ c z m = true then some m.b else none)
  else o.bind fun x => if (obeyF x m).2 = true then some (obeyF x m).1 else none
theorem obey_other {x : Bun} {m : Cm} (h : idOf x ≠ ⟨m.s, m.i, m.g⟩) : obeyF x m = (x, true) := by
  unfold obeyF
  rw [if_pos]
  cases hh : idEq m.s m.i m.g x.s x.i x.g with
  | false => rfl
  | true =>
    simp [idEq] at hh
    obtain ⟨⟨h1, h2⟩, h3⟩ := hh
    exact absurd (by unfold idOf; rw [h1, h2, h3]) h
theorem lk_insF {l : List Bun} (h : Rise l) (b : Bun) (hn : (findB b.s b.i b.g l 0).2 = false) (n : Nid) : lk (insF l (findB b.s b.i b.g l 0).1.toNat b) n = if n = idOf b then some b else lk l n := by
  have hr := ins_rise h b hn
  have hp := ins_perm l (findB b.s b.i b.g l 0).1.toNat b
  split
  · rename_i e
    rw [lk_iff hr]
    exact ⟨hp.mem_iff.2 (by simp), e.symm⟩
  · rename_i e
    cases hl : lk l n with
    | none =>
      rw [lk_none]
      intro hm
      obtain ⟨x, hx, e2⟩ := List.mem_map.1 hm
      rcases List.mem_cons.1 (hp.mem_iff.1 hx) with rfl | hx
      · exact e e2.symm
      · exact (lk_none n).1 hl (List.mem_map.2 ⟨x, hx, e2⟩)
    | some x =>
      obtain ⟨hx, e2⟩ := (lk_iff h n x).1 hl
      rw [lk_iff hr]
      exact ⟨hp.mem_iff.2 (List.mem_cons_of_mem _ hx), e2⟩
/-- A command turns one name alone. -/
theorem cmdL_lk {c : Cfg} {z : Int} {l : List Bun} (h : Rise l) (m : Cm) (n : Nid) : lk (cmdL c z l m) n = if n = ownN m then upd c z m (lk l n) else lk l n := by
  unfold cmdL ownN upd
  by_cases hk : m.k = 1
  · simp only [if_pos hk]
    rw [spawnB_iff h]
    cases hs : hasN l (idOf m.b) with
    | true =>
      simp only [Bool.not_true, Bool.false_and, Bool.false_eq_true, if_false]
      split
      · rename_i e
        subst e
        rw [hasN_lk] at hs
        obtain ⟨x, hx⟩ := Option.isSome_iff_exists.1 hs
        rw [hx]
      · rfl
    | false =>
      simp only [Bool.not_false, Bool.true_and]
      have hs' := hs
      rw [hasN_lk] at hs'
      have hn0 : lk l (idOf m.b) = none := by simpa using hs'
      show lk (if begZ c z m = true then _ else _) n = _
      by_cases hb : begZ c z m = true
      · rw [if_pos hb]
        obtain ⟨q, _, _, _, _, q5⟩ := findB_spec m.b.s m.b.i m.b.g l 0 h
        have hf : (findB m.b.s m.b.i m.b.g l 0).2 = false := by
          cases hh : (findB m.b.s m.b.i m.b.g l 0).2 with
          | false => rfl
          | true => exact absurd (q5.1 hh) ((lk_none _).1 hn0)
        rw [lk_insF h m.b hf]
        split
        · rename_i e
          subst e
          rw [hn0]
        · rfl
      · rw [if_neg hb]
        split
        · rename_i e
          subst e
          rw [hn0]
        · rfl
  · simp only [if_neg hk]
    rw [lk_each (keep_obey m) h]
    split
    · rfl
    · rename_i e
      cases hl : lk l n with
      | none => rfl
      | some x =>
        obtain ⟨_, e2⟩ := (lk_iff h n x).1 hl
        rw [Option.bind_some, obey_other (by rw [e2]; exact e)]
        rfl
/-- Who is no more by it. -/
theorem cmdN_iff {l : List Bun} (h : Rise l) (m : Cm) (n : Nid) : n ∈ cmdN l m ↔ m.k ≠ 1 ∧ n = ownN m ∧ ∃ x, lk l n = some x ∧ (obeyF x m).2 = false := by
  unfold cmdN ownN
  by_cases hk : m.k = 1
  · simp [hk]
  · simp only [if_neg hk]
    rw [eachD_mem]
    constructor
    · rintro ⟨x, hx, h1, rfl⟩
      refine ⟨hk, ?_, x, (lk_iff h _ x).2 ⟨hx, rfl⟩, h1⟩
      by_cases e : idOf x = ⟨m.s, m.i, m.g⟩
      · exact e
      · rw [obey_other e] at h1; cases h1
    · rintro ⟨_, _, x, hx, h1⟩
      obtain ⟨h2, h3⟩ := (lk_iff h n x).1 hx
      exact ⟨x, h2, h1, h3⟩
/-- Commands for unlike names may come in any order. -/
theorem cmds_swap {c : Cfg} {z : Int} {l : List Bun} (h : Rise l) {m m' : Cm} (hne : ownN m ≠ ownN m') : cmdL c z (cmdL c z l m) m' = cmdL c z (cmdL c z l m') m ∧ ∀ n, n ∈ cmdN l m ++ cmdN (cmdL c z l m) m' ↔ n ∈ cmdN l m' ++ cmdN (cmdL c z l m') m := by
  have h1 : Rise (cmdL c z l m) := cmdL_rise h m
  have h2 : Rise (cmdL c z l m') := cmdL_rise h m'
  refine ⟨lk_ext (cmdL_rise h1 m') (cmdL_rise h2 m) fun n => ?_, fun n => ?_⟩
  · rw [cmdL_lk h1, cmdL_lk h, cmdL_lk h2, cmdL_lk h]
    by_cases e1 : n = ownN m
    · subst e1
      rw [if_pos rfl, if_neg hne, if_pos rfl, if_neg hne]
    · by_cases e2 : n = ownN m'
      · rw [if_pos e2, if_neg e1, if_neg e1, if_pos e2]
      · rw [if_neg e2, if_neg e1, if_neg e1, if_neg e2]
  · rw [List.mem_append, List.mem_append, cmdN_iff h, cmdN_iff h1, cmdN_iff h, cmdN_iff h2, cmdL_lk h, cmdL_lk h]
    by_cases e1 : n = ownN m
    · subst e1
      simp [hne]
    · by_cases e2 : n = ownN m'
      · subst e2
        simp [e1]
      · simp [e1, e2]
theorem cmds_turn {c : Cfg} {z : Int} {l : List Bun} (h : Rise l) (a b : List Cm) {m m' : Cm} (hne : ownN m ≠ ownN m') :
    cmdsL c z l (a ++ m :: m' :: b) = cmdsL c z l (a ++ m' :: m :: b) ∧ ∀ n, n ∈ cmdsN c z l (a ++ m :: m' :: b) ↔ n ∈ cmdsN c z l (a ++ m' :: m :: b) := by
  have ha : Rise (cmdsL c z l a) := cmdsL_rise c z a h
  obtain ⟨e1, e2⟩ := cmds_swap ha hne (c := c) (z := z)
  rw [cmdsL_app, cmdsL_app, cmdsN_app, cmdsN_app]
  generalize cmdsL c z l a = la at *
  constructor
  · show cmdsL c z (cmdL c z (cmdL c z la m) m') b = cmdsL c z (cmdL c z (cmdL c z la m') m) b
    rw [e1]
  · intro n
    have e2 := e2 n
    show n ∈ cmdsN c z l a ++ (cmdN la m ++ (cmdN (cmdL c z la m) m' ++ cmdsN c z (cmdL c z (cmdL c z la m) m') b)) ↔ n ∈ cmdsN c z l a ++ (cmdN la m' ++ (cmdN (cmdL c z la m') m ++ cmdsN c z (cmdL c z (cmdL c z la m') m) b))
    rw [e1]
    simp only [List.mem_append] at e2 ⊢
    constructor
    · rintro (h1 | h1 | h1 | h1)
      · exact .inl h1
      · rcases e2.1 (.inl h1) with h2 | h2
        · exact .inr (.inl h2)
        · exact .inr (.inr (.inl h2))
      · rcases e2.1 (.inr h1) with h2 | h2
        · exact .inr (.inl h2)
        · exact .inr (.inr (.inl h2))
      · exact .inr (.inr (.inr h1))
    · rintro (h1 | h1 | h1 | h1)
      · exact .inl h1
      · rcases e2.2 (.inl h1) with h2 | h2
        · exact .inr (.inl h2)
        · exact .inr (.inr (.inl h2))
      · rcases e2.2 (.inr h1) with h2 | h2
        · exact .inr (.inl h2)
        · exact .inr (.inr (.inl h2))
      · exact .inr (.inr (.inr h1))
theorem setN_mem {l l' : List Nid} (h : ∀ n, n ∈ l ↔ n ∈ l') : setN l = setN l' := by
  obtain ⟨h1, h2⟩ := setN_ok l
  obtain ⟨h3, h4⟩ := setN_ok l'
  exact strict_eq h1 h3 fun x => by rw [h2, h4]; exact h x
/-- The tick, with two neighbours of unlike owners turned. -/
theorem tick_turn (c : Cfg) (z : Int) {own : List Bun} (near : List Bun) (hu : UnId own) (a b : List Cm) {m m' : Cm} (hne : ownN m ≠ ownN m') :
    ownL c z own near (a ++ m :: m' :: b) = ownL c z own near (a ++ m' :: m :: b) ∧ goneL c z own near (a ++ m :: m' :: b) = goneL c z own near (a ++ m' :: m :: b) ∧ setN (deadN c z own near (a ++ m :: m' :: b)) = setN (deadN c z own near (a ++ m' :: m :: b)) := by
  obtain ⟨e1, e2⟩ := cmds_turn (hurtL_rise c.radius near hu) a b hne (c := c) (z := z)
  have e3 : midL c z own near (a ++ m :: m' :: b) = midL c z own near (a ++ m' :: m :: b) := e1
  refine ⟨by unfold ownL leftL; rw [e3], by unfold goneL leftL; rw [e3], setN_mem fun n => ?_⟩
  unfold deadN
  rw [e3]
  simp only [List.mem_append]
  rw [e2 n]
end Go.Proofs.Ytcnclcfipabimaa
namespace Go.Proofs.Ytcnclcfipabimaa
open Go.RowKit Go.Sort
/-- The names of those that would begin; of those that begin here. -/
def begM (ms : List Cm) : List Nid := (ms.filter fun m => decide (m.k = 1)).map fun m => idOf m.b
def begsN (c : Cfg) (z : Int) (ms : List Cm) : List Nid := (ms.filter fun m => decide (m.k = 1) && begZ c z m).map fun m => idOf m.b
theorem begM_cons (m : Cm) (ms : List Cm) : begM (m :: ms) = (if m.k = 1 then [idOf m.b] else []) ++ begM ms := by
  unfold begM
  rw [List.filter_cons]
  by_cases h : m.k = 1 <;> simp [h]
theorem begsN_cons (c : Cfg) (z : Int) (m : Cm) (ms : List Cm) : begsN c z (m :: ms) = begsN c z [m] ++ begsN c z ms := by
  unfold begsN
  rw [List.filter_cons, List.filter_cons]
  cases (decide (m.k = 1) && begZ c z m) <;> simp
theorem begsN_sub (c : Cfg) (z : Int) (ms : List Cm) : (begsN c z ms).Sublist (begM ms) := by
  unfold begsN begM
  refine List.Sublist.map _ ?_
  rw [show (fun m => decide (m.k = 1) && begZ c z m) = fun m => begZ c z m && decide (m.k = 1) from funext fun m => Bool.and_comm _ _, ← List.filter_filter]
  exact List.filter_sublist
theorem cmd_ids {c : Cfg} {z : Int} {l : List Bun} (h : Rise l) (m : Cm) (hf : m.k = 1 → idOf m.b ∉ l.map idOf) : ((cmdL c z l m).map idOf ++ cmdN l m).Perm (l.map idOf ++ begsN c z [m]) := by
  unfold cmdL cmdN begsN
  by_cases hk : m.k = 1
  · rw [if_pos hk, if_pos hk, spawnB_iff h]
    have hn : hasN l (idOf m.b) = false := by
      cases hh : hasN l (idOf m.b) with
      | false => rfl
      | true => exact absurd ((hasN_iff l _).1 hh) (hf hk)
    rw [hn]
    simp only [Bool.not_false, Bool.true_and, List.append_nil]
    show ((if begZ c z m = true then insF l (findB m.b.s m.b.i m.b.g l 0).1.toNat m.b else l).map idOf).Perm _
    by_cases hb : begZ c z m = true
    · rw [if_pos hb]
      refine ((ins_perm l _ m.b).map idOf).trans ?_
      simp only [List.map_cons, List.filter_cons, hk, hb, decide_true, Bool.and_self, if_true, List.filter_nil, List.map_nil]
      exact List.perm_append_comm (l₁ := [idOf m.b])
    · rw [if_neg hb]
      simp [hk, hb]
  · rw [if_neg hk, if_neg hk]
    have := each_ids (keep_obey m) l
    simpa [hk] using this
theorem cmds_ids (c : Cfg) (z : Int) : ∀ (ms : List Cm) {l : List Bun}, Rise l → (∀ n ∈ begM ms, n ∉ l.map idOf) → (begM ms).Nodup → ((cmdsL c z l ms).map idOf ++ cmdsN c z l ms).Perm (l.map idOf ++ begsN c z ms)
  | [], l, _, _, _ => by simp [cmdsL, cmdsN, begsN]
  | m :: ms, l, h, hf, hn => by
    rw [begM_cons] at hf hn
    have h2 := cmd_ids (c := c) (z := z) h m fun hk => hf _ (by simp [hk])
    have hl' : Rise (cmdL c z l m) := cmdL_rise h m
    have h1 := cmds_ids c z ms hl' (fun n hm hx => by
      have hx2 := h2.mem_iff.1 (List.mem_append_left _ hx)
      rcases List.mem_append.1 hx2 with h3 | h3
      · exact hf n (List.mem_append_right _ hm) h3
      · have h4 := (begsN_sub c z [m]).subset h3
        rw [begM_cons] at h4
        simp only [begM, List.filter_nil, List.map_nil, List.append_nil] at h4
        exact (List.nodup_append.1 hn).2.2 n h4 n hm rfl) (List.nodup_append.1 hn).2.1
    rw [begsN_cons]
    show ((cmdsL c z (cmdL c z l m) ms).map idOf ++ (cmdN l m ++ cmdsN c z (cmdL c z l m) ms)).Perm _
    rw [List.perm_iff_count]
    intro a
    have a1 := h1.count_eq a
    have a2 := h2.count_eq a
    simp only [List.count_append] at a1 a2 ⊢
    omega
/-- The names of all that are left, and of those that are no more, are those of all that were there or began. -/
theorem tick_ids (c : Cfg) (z : Int) {own : List Bun} (near : List Bun) {ms : List Cm} (hu : UnId own) (hf : ∀ n ∈ begM ms, n ∉ own.map idOf) (hn : (begM ms).Nodup) :
    ((leftL c z own near ms).map idOf ++ deadN c z own near ms).Perm (own.map idOf ++ begsN c z ms) := by
  have h1 := each_ids (keep_hit (hitsF c.radius own near)) (stableF cmpBun own)
  have h2 := (stF_perm own).map idOf
  have hr := hurtL_rise c.radius near hu
  have h3 := cmds_ids c z ms hr (fun n hm hx => hf n hm (h2.mem_iff.1 (h1.mem_iff.1 (List.mem_append_left _ hx)))) hn
  have h4 := each_ids (keep_pass c) (midL c z own near ms)
  unfold leftL deadN
  rw [List.perm_iff_count]
  intro a
  have a1 := h1.count_eq a
  have a2 := h2.count_eq a
  have a3 := h3.count_eq a
  have a4 := h4.count_eq a
  unfold hurtL hurtN midL at *
  unfold hurtL at *
  simp only [List.count_append] at a1 a2 a3 a4 ⊢
  omega
end Go.Proofs.Ytcnclcfipabimaa
namespace Go.Proofs.Ytcnclcfipabimaa
open Go.RowKit
/-- How often a name is among entities and names. -/
def cntF (l : List Bun) (ids : List Nid) (n : Nid) : Nat := (l.map idOf).count n + ids.count n
theorem left_split (c : Cfg) (z : Int) (own near : List Bun) (ms : List Cm) : (ownL c z own near ms ++ goneL c z own near ms).Perm (leftL c z own near ms) := by
  unfold ownL goneL
  exact List.filter_append_perm _ _
theorem names_nodup (c : Cfg) (z : Int) {own : List Bun} {ms : List Cm} (hu : UnId own) (hf : ∀ n ∈ begM ms, n ∉ own.map idOf) (hn : (begM ms).Nodup) : (own.map idOf ++ begsN c z ms).Nodup := by
  refine List.nodup_append.2 ⟨?_, hn.sublist (begsN_sub c z ms), fun a ha b hb e => ?_⟩
  · unfold List.Nodup
    rw [List.pairwise_map]
    exact hu.imp fun {a b} h e => h ((sameId_iff a b).2 e)
  · subst e
    exact hf a ((begsN_sub c z ms).subset hb) ha
theorem dead_perm (c : Cfg) (z : Int) {own : List Bun} (near : List Bun) {ms : List Cm} (hu : UnId own) (hf : ∀ n ∈ begM ms, n ∉ own.map idOf) (hn : (begM ms).Nodup) : (setN (deadN c z own near ms)).Perm (deadN c z own near ms) := by
  have hp := tick_ids c z near hu hf hn
  have hnd := (hp.nodup_iff.2 (names_nodup c z hu hf hn))
  have h2 := (List.nodup_append.1 hnd).2.1
  obtain ⟨h3, h4⟩ := setN_ok (deadN c z own near ms)
  have h5 : (setN (deadN c z own near ms)).Nodup := h3.imp fun {a b} h e => by subst e; rw [befN_irr] at h; cases h
  exact (List.perm_ext_iff_of_nodup h5 h2).2 h4
theorem count_one {l : List Nid} {n : Nid} (h : l.Nodup) (hm : n ∈ l) : l.count n = 1 := by
  induction l with
  | nil => cases hm
  | cons x l ih =>
    obtain ⟨h1, h2⟩ := List.nodup_cons.1 h
    rw [List.count_cons]
    rcases List.mem_cons.1 hm with rfl | hm
    · rw [List.count_eq_zero_of_not_mem h1]; simp
    · rw [ih h2 hm]
      have : (x == n) = false := by
        cases hx : x == n with
        | false => rfl
        | true => exact absurd (eq_of_beq hx ▸ hm) h1
      rw [this]; rfl
/-- Each name that was there or began comes once, and no other. -/
theorem tick_count (c : Cfg) (z : Int) {own : List Bun} (near : List Bun) {ms : List Cm} (hu : UnId own) (hf : ∀ n ∈ begM ms, n ∉ own.map idOf) (hn : (begM ms).Nodup) (n : Nid) :
    cntF (ownL c z own near ms ++ goneL c z own near ms) (setN (deadN c z own near ms)) n = if n ∈ own.map idOf ++ begsN c z ms then 1 else 0 := by
  have h1 := ((left_split c z own near ms).map idOf).count_eq n
  have h2 := (dead_perm c z near hu hf hn).count_eq n
  have h3 := (tick_ids c z near hu hf hn).count_eq n
  have hnd := names_nodup c z hu hf hn
  rw [List.count_append] at h3
  unfold cntF
  rw [h1, h2, h3]
  split
  · rename_i hm
    exact count_one hnd hm
  · rename_i hm
    exact List.count_eq_zero_of_not_mem hm
theorem tick_total (c : Cfg) (z : Int) {own : List Bun} (near : List Bun) {ms : List Cm} (hu : UnId own) (hf : ∀ n ∈ begM ms, n ∉ own.map idOf) (hn : (begM ms).Nodup) :
    (ownL c z own near ms ++ goneL c z own near ms).length + (setN (deadN c z own near ms)).length = own.length + (begsN c z ms).length := by
  have h1 := (left_split c z own near ms).length_eq
  have h2 := (dead_perm c z near hu hf hn).length_eq
  have h3 := (tick_ids c z near hu hf hn).length_eq
  simp only [List.length_append, List.length_map] at h1 h3 ⊢
  omega
end Go.Proofs.Ytcnclcfipabimaa

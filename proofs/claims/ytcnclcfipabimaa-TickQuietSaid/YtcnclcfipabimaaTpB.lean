/-
  Plain: entities by their names; commands turn one name alone; who begins, who is no more. No program here. No condition.
-/
import Derived.Test.YtcnclcfipabimaaTpA
namespace Go.Proofs.Ytcnclcfipabimaa
open Go.RowKit Go.Sort
/-- Who bears a name. -/
def lk (l : List Bun) (n : Nid) : Option Bun := l.find? fun b => decide (idOf b = n)
theorem rise_one {l : List Bun} (h : Rise l) {a b : Bun} (ha : a ∈ l) (hb : b ∈ l) (e : idOf a = idOf b) : a = b := (rise_un h).one ha hb ((sameId_iff a b).2 e)
theorem lk_iff {l : List Bun} (h : Rise l) (n : Nid) (b : Bun) : lk l n = some b ↔ b ∈ l ∧ idOf b = n := by
  unfold lk
  constructor
  · intro e
    exact ⟨List.mem_of_find?_eq_some e, by simpa using List.find?_some e⟩
  · rintro ⟨hb, e⟩
    cases hf : l.find? fun b => decide (idOf b = n) with
    | none =>
      have := List.find?_eq_none.1 hf b hb
      simp [e] at this
    | some a =>
      have h1 := List.mem_of_find?_eq_some hf
      have h2 : idOf a = n := by simpa using List.find?_some hf
      rw [rise_one h h1 hb (h2.trans e.symm)]
theorem lk_none {l : List Bun} (n : Nid) : lk l n = none ↔ n ∉ l.map idOf := by
  unfold lk
  rw [List.find?_eq_none]
  simp only [decide_eq_true_eq, List.mem_map, not_exists, not_and]
theorem hasN_iff (l : List Bun) (n : Nid) : hasN l n = true ↔ n ∈ l.map idOf := by unfold hasN; rw [List.contains_iff_mem]
theorem hasN_lk (l : List Bun) (n : Nid) : hasN l n = (lk l n).isSome := by
  rw [Bool.eq_iff_iff, hasN_iff]
  cases h : lk l n with
  | none => simp [(lk_none n).1 h]
  | some b =>
    simp only [Option.isSome_some, iff_true]
    unfold lk at h
    have h2 : idOf b = n := by simpa using List.find?_some h
    exact List.mem_map.2 ⟨b, List.mem_of_find?_eq_some h, h2⟩
theorem lk_ext {l l' : List Bun} (h : Rise l) (h' : Rise l') (he : ∀ n, lk l n = lk l' n) : l = l' := rise_mem h h' fun b => by
  have h1 := lk_iff h (idOf b) b
  have h2 := lk_iff h' (idOf b) b
  rw [he] at h1
  constructor
  · intro hb; exact (h2.1 (h1.2 ⟨hb, rfl⟩)).1
  · intro hb; exact (h1.1 (h2.2 ⟨hb, rfl⟩)).1
theorem lk_each {f : Bun → Bun × Bool} (hf : KeepId f) {l : List Bun} (h : Rise l) (n : Nid) : lk (eachL f l) n = (lk l n).bind fun x => if (f x).2 = true then some (f x).1 else none := by
  have hr := each_rise hf h
  cases hl : lk l n with
  | none =>
    rw [Option.bind_none, lk_none]
    intro hm
    obtain ⟨b, hb, e⟩ := List.mem_map.1 hm
    obtain ⟨x, hx, h1, h2⟩ := each_mem.1 hb
    refine (lk_none n).1 hl (List.mem_map.2 ⟨x, hx, ?_⟩)
    rw [← e, ← h2, hf x h1]
  | some x =>
    obtain ⟨hx, e⟩ := (lk_iff h n x).1 hl
    rw [Option.bind_some]
    cases h1 : (f x).2 with
    | true =>
      rw [if_pos rfl, lk_iff hr]
      exact ⟨each_mem.2 ⟨x, hx, h1, rfl⟩, (hf x h1).trans e⟩
    | false =>
      rw [if_neg (by simp), lk_none]
      intro hm
      obtain ⟨b, hb, e2⟩ := List.mem_map.1 hm
      obtain ⟨y, hy, h2, h3⟩ := each_mem.1 hb
      have : y = x := rise_one h hy hx (by rw [← hf y h2, h3, e2, e])
      subst this
      rw [h1] at h2; cases h2
/-- Whose a command is. -/
def ownN (m : Cm) : Nid := if m.k = 1 then idOf m.b else ⟨m.s, m.i, m.g⟩
/-- Does an entity begin here? -/
def begZ (c : Cfg) (z : Int) (m : Cm) : Bool := decide (0 ≤ ofF c m.b.x m.b.y) && (decide (z < 0) || decide (ofF c m.b.x m.b.y = z))
/-- What a command does to whom it names. -/
def upd (c : Cfg) (z : Int) (m : Cm) (o : Option Bun) : Option Bun :=
  if m.k = 1 then (match o with | some x => some x | none => if begZ c z m = true then some m.b else none)
  else o.bind fun x => if (obeyF x m).2 = true then some (obeyF x m).1 else none
theorem obey_other {x : Bun} {m : Cm} (h : idOf x ≠ ⟨m.s, m.i, m.g⟩) : obeyF x m = (x, true) := by
  unfold obeyF
  rw [if_pos]
  cases hh : idEq m.s m.i m.g x.s x.i x.g with
  | false => rfl
  | true =>
    simp [idEq] at hh
    obtain ⟨⟨h1, h2⟩, h3⟩ := hh
    exact absurd (by unfold idOf; rw [h1, h2, h3]) h
theorem lk_insF {l : List Bun} (h : Rise l) (b : Bun) (hn : (findB b.s b.i b.g l 0).2 = false) (n : Nid) : lk (insF l (findB b.s b.i b.g l 0).1.toNat b) n = if n = idOf b then some b else lk l n := by
  have hr := ins_rise h b hn
  have hp := ins_perm l (findB b.s b.i b.g l 0).1.toNat b
  split
  · rename_i e
    rw [lk_iff hr]
    exact ⟨hp.mem_iff.2 (by simp), e.symm⟩
  · rename_i e
    cases hl : lk l n with
    | none =>
      rw [lk_none]
      intro hm
      obtain ⟨x, hx, e2⟩ := List.mem_map.1 hm
      rcases List.mem_cons.1 (hp.mem_iff.1 hx) with rfl | hx
      · exact e e2.symm
      · exact (lk_none n).1 hl (List.mem_map.2 ⟨x, hx, e2⟩)
    | some x =>
      obtain ⟨hx, e2⟩ := (lk_iff h n x).1 hl
      rw [lk_iff hr]
      exact ⟨hp.mem_iff.2 (List.mem_cons_of_mem _ hx), e2⟩
/-- A command turns one name alone. -/
theorem cmdL_lk {c : Cfg} {z : Int} {l : List Bun} (h : Rise l) (m : Cm) (n : Nid) : lk (cmdL c z l m) n = if n = ownN m then upd c z m (lk l n) else lk l n := by
  unfold cmdL ownN upd
  by_cases hk : m.k = 1
  · simp only [if_pos hk]
    rw [spawnB_iff h]
    cases hs : hasN l (idOf m.b) with
    | true =>
      simp only [Bool.not_true, Bool.false_and, Bool.false_eq_true, if_false]
      split
      · rename_i e
        subst e
        rw [hasN_lk] at hs
        obtain ⟨x, hx⟩ := Option.isSome_iff_exists.1 hs
        rw [hx]
      · rfl
    | false =>
      simp only [Bool.not_false, Bool.true_and]
      have hs' := hs
      rw [hasN_lk] at hs'
      have hn0 : lk l (idOf m.b) = none := by simpa using hs'
      show lk (if begZ c z m = true then _ else _) n = _
      by_cases hb : begZ c z m = true
      · rw [if_pos hb]
        obtain ⟨q, _, _, _, _, q5⟩ := findB_spec m.b.s m.b.i m.b.g l 0 h
        have hf : (findB m.b.s m.b.i m.b.g l 0).2 = false := by
          cases hh : (findB m.b.s m.b.i m.b.g l 0).2 with
          | false => rfl
          | true => exact absurd (q5.1 hh) ((lk_none _).1 hn0)
        rw [lk_insF h m.b hf]
        split
        · rename_i e
          subst e
          rw [hn0]
        · rfl
      · rw [if_neg hb]
        split
        · rename_i e
          subst e
          rw [hn0]
        · rfl
  · simp only [if_neg hk]
    rw [lk_each (keep_obey m) h]
    split
    · rfl
    · rename_i e
      cases hl : lk l n with
      | none => rfl
      | some x =>
        obtain ⟨_, e2⟩ := (lk_iff h n x).1 hl
        rw [Option.bind_some, obey_other (by rw [e2]; exact e)]
        rfl
/-- Who is no more by it. -/
theorem cmdN_iff {l : List Bun} (h : Rise l) (m : Cm) (n : Nid) : n ∈ cmdN l m ↔ m.k ≠ 1 ∧ n = ownN m ∧ ∃ x, lk l n = some x ∧ (obeyF x m).2 = false := by
  unfold cmdN ownN
  by_cases hk : m.k = 1
  · simp [hk]
  · simp only [if_neg hk]
    rw [eachD_mem]
    constructor
    · rintro ⟨x, hx, h1, rfl⟩
      refine ⟨hk, ?_, x, (lk_iff h _ x).2 ⟨hx, rfl⟩, h1⟩
      by_cases e : idOf x = ⟨m.s, m.i, m.g⟩
      · exact e
      · rw [obey_other e] at h1; cases h1
    · rintro ⟨_, _, x, hx, h1⟩
      obtain ⟨h2, h3⟩ := (lk_iff h n x).1 hx
      exact ⟨x, h2, h1, h3⟩
/-- Commands for unlike names may come in any order. -/
theorem cmds_swap {c : Cfg} {z : Int} {l : List Bun} (h : Rise l) {m m' : Cm} (hne : ownN m ≠ ownN m') : cmdL c z (cmdL c z l m) m' = cmdL c z (cmdL c z l m') m ∧ ∀ n, n ∈ cmdN l m ++ cmdN (cmdL c z l m) m' ↔ n ∈ cmdN l m' ++ cmdN (cmdL c z l m') m := by
  have h1 : Rise (cmdL c z l m) := cmdL_rise h m
  have h2 : Rise (cmdL c z l m') := cmdL_rise h m'
  refine ⟨lk_ext (cmdL_rise h1 m') (cmdL_rise h2 m) fun n => ?_, fun n => ?_⟩
  · rw [cmdL_lk h1, cmdL_lk h, cmdL_lk h2, cmdL_lk h]
    by_cases e1 : n = ownN m
    · subst e1
      rw [if_pos rfl, if_neg hne, if_pos rfl, if_neg hne]
    · by_cases e2 : n = ownN m'
      · rw [if_pos e2, if_neg e1, if_neg e1, if_pos e2]
      · rw [if_neg e2, if_neg e1, if_neg e1, if_neg e2]
  · rw [List.mem_append, List.mem_append, cmdN_iff h, cmdN_iff h1, cmdN_iff h, cmdN_iff h2, cmdL_lk h, cmdL_lk h]
    by_cases e1 : n = ownN m
    · subst e1
      simp [hne]
    · by_cases e2 : n = ownN m'
      · subst e2
        simp [e1]
      · simp [e1, e2]
theorem cmds_turn {c : Cfg} {z : Int} {l : List Bun} (h : Rise l) (a b : List Cm) {m m' : Cm} (hne : ownN m ≠ ownN m') :
    cmdsL c z l (a ++ m :: m' :: b) = cmdsL c z l (a ++ m' :: m :: b) ∧ ∀ n, n ∈ cmdsN c z l (a ++ m :: m' :: b) ↔ n ∈ cmdsN c z l (a ++ m' :: m :: b) := by
  have ha : Rise (cmdsL c z l a) := cmdsL_rise c z a h
  obtain ⟨e1, e2⟩ := cmds_swap ha hne (c := c) (z := z)
  rw [cmdsL_app, cmdsL_app, cmdsN_app, cmdsN_app]
  generalize cmdsL c z l a = la at *
  constructor
  · show cmdsL c z (cmdL c z (cmdL c z la m) m') b = cmdsL c z (cmdL c z (cmdL c z la m') m) b
    rw [e1]
  · intro n
    have e2 := e2 n
    show n ∈ cmdsN c z l a ++ (cmdN la m ++ (cmdN (cmdL c z la m) m' ++ cmdsN c z (cmdL c z (cmdL c z la m) m') b)) ↔ n ∈ cmdsN c z l a ++ (cmdN la m' ++ (cmdN (cmdL c z la m') m ++ cmdsN c z (cmdL c z (cmdL c z la m') m) b))
    rw [e1]
    simp only [List.mem_append] at e2 ⊢
    constructor
    · rintro (h1 | h1 | h1 | h1)
      · exact .inl h1
      · rcases e2.1 (.inl h1) with h2 | h2
        · exact .inr (.inl h2)
        · exact .inr (.inr (.inl h2))
      · rcases e2.1 (.inr h1) with h2 | h2
        · exact .inr (.inl h2)
        · exact .inr (.inr (.inl h2))
      · exact .inr (.inr (.inr h1))
    · rintro (h1 | h1 | h1 | h1)
      · exact .inl h1
      · rcases e2.2 (.inl h1) with h2 | h2
        · exact .inr (.inl h2)
        · exact .inr (.inr (.inl h2))
      · rcases e2.2 (.inr h1) with h2 | h2
        · exact .inr (.inl h2)
        · exact .inr (.inr (.inl h2))
      · exact .inr (.inr (.inr h1))
theorem setN_mem {l l' : List Nid} (h : ∀ n, n ∈ l ↔ n ∈ l') : setN l = setN l' := by
  obtain ⟨h1, h2⟩ := setN_ok l
  obtain ⟨h3, h4⟩ := setN_ok l'
  exact strict_eq h1 h3 fun x => by rw [h2, h4]; exact h x
/-- The tick, with two neighbours of unlike owners turned. -/
theorem tick_turn (c : Cfg) (z : Int) {own : List Bun} (near : List Bun) (hu : UnId own) (a b : List Cm) {m m' : Cm} (hne : ownN m ≠ ownN m') :
    ownL c z own near (a ++ m :: m' :: b) = ownL c z own near (a ++ m' :: m :: b) ∧ goneL c z own near (a ++ m :: m' :: b) = goneL c z own near (a ++ m' :: m :: b) ∧ setN (deadN c z own near (a ++ m :: m' :: b)) = setN (deadN c z own near (a ++ m' :: m :: b)) := by
  obtain ⟨e1, e2⟩ := cmds_turn (hurtL_rise c.radius near hu) a b hne (c := c) (z := z)
  have e3 : midL c z own near (a ++ m :: m' :: b) = midL c z own near (a ++ m' :: m :: b) := e1
  refine ⟨by unfold ownL leftL; rw [e3], by unfold goneL leftL; rw [e3], setN_mem fun n => ?_⟩
  unfold deadN
  rw [e3]
  simp only [List.mem_append]
  rw [e2 n]
end Go.Proofs.Ytcnclcfipabimaa

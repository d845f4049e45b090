/- Texts TpA TpB SyP ShF TpH TpE TpG TpN WoA WoB: what the claim reaches of them. Conditions stand at each theorem. -/
import Derived.Test.YtoimjjhopljdmaaGreatP18
set_option maxRecDepth 100000
set_option maxHeartbeats 8000000
namespace Go.Proofs.YtoimjjhopljdmaaGreat
open Go.RowKit
open Go.Proofs.Tryz (prog)
open Go.Value (int)
open Go.IntKind (i64)
open Go.Lib (hid)
section
open Go.Sort
def Rise (l : List Bun) : Prop := l.Pairwise fun a b => bef a b = true
theorem cmp_id (a b : Bun) : cmpBun a b = cmpN (idOf a) (idOf b) := rfl
theorem bef_id {a b a' b' : Bun} (ha : idOf a' = idOf a) (hb : idOf b' = idOf b) : bef a' b' = bef a b := by
 rw [bef_cmp, bef_cmp, cmp_id, cmp_id, ha, hb]
theorem bef_befN (a b : Bun) : bef a b = befN (idOf a) (idOf b) := by
 rw [bef_cmp, cmp_id]; unfold befN ltOf; rfl
theorem sameId_iff (a b : Bun) : sameId a b ↔ idOf a = idOf b := by
 unfold sameId idOf
 simp only [Nid.mk.injEq]
theorem rise_un {l : List Bun} (h : Rise l) : UnId l := h.imp fun {a b} h1 h2 => by
 rw [bef_befN, (sameId_iff a b).1 h2, befN_irr] at h1; cases h1
theorem rise_ids {l : List Bun} (h : Rise l) : (l.map idOf).Pairwise fun a b => befN a b = true := by
 rw [List.pairwise_map]
 exact h.imp fun {a b} h1 => by rwa [bef_befN] at h1
theorem rise_nodup {l : List Bun} (h : Rise l) : (l.map idOf).Nodup := (rise_ids h).imp fun {a b} h1 e => by subst e; rw [befN_irr] at h1; cases h1
theorem ins_perm (l : List Bun) (i : Nat) (b : Bun) : (insF l i b).Perm (b :: l) := by
 unfold insF
 refine List.perm_middle.trans (List.Perm.cons _ ?_)
 rw [List.take_append_drop]
def KeepId (f : Bun → Bun × Bool) : Prop := ∀ b, (f b).2 = true → idOf (f b).1 = idOf b
theorem each_cons (f : Bun → Bun × Bool) (x : Bun) (l : List Bun) : eachL f (x :: l) = (if (f x).2 then [(f x).1] else []) ++ eachL f l := by
 unfold eachL
 rw [List.filter_cons]
 split <;> simp
theorem eachD_cons (f : Bun → Bun × Bool) (x : Bun) (l : List Bun) : eachD f (x :: l) = (if (f x).2 then [] else [idOf x]) ++ eachD f l := by
 unfold eachD
 rw [List.filter_cons]
 cases (f x).2 <;> simp
theorem each_mem {f : Bun → Bun × Bool} {l : List Bun} {b : Bun} : b ∈ eachL f l ↔ ∃ x ∈ l, (f x).2 = true ∧ (f x).1 = b := by
 unfold eachL
 simp only [List.mem_map, List.mem_filter]
 constructor
 · rintro ⟨x, ⟨h1, h2⟩, h3⟩; exact ⟨x, h1, h2, h3⟩
 · rintro ⟨x, h1, h2, h3⟩; exact ⟨x, ⟨h1, h2⟩, h3⟩
theorem each_rise {f : Bun → Bun × Bool} (hf : KeepId f) {l : List Bun} (h : Rise l) : Rise (eachL f l) := by
 unfold Rise eachL
 rw [List.pairwise_map]
 refine (List.Pairwise.sublist List.filter_sublist (List.Pairwise.and_mem.1 h)).imp_of_mem ?_
 rintro a b ha hb ⟨_, _, h1⟩
 rw [bef_id (hf a (List.mem_filter.1 ha).2) (hf b (List.mem_filter.1 hb).2)]
 exact h1
theorem each_ids {f : Bun → Bun × Bool} (hf : KeepId f) : ∀ l : List Bun, ((eachL f l).map idOf ++ eachD f l).Perm (l.map idOf)
 | [] => by simp [eachL, eachD]
 | x :: l => by
   have ih := each_ids hf l
   rw [each_cons, eachD_cons]
   cases h : (f x).2 with
   | true =>
     simp only [if_true, List.nil_append, List.cons_append, List.map_cons]
     rw [hf x h]
     exact List.Perm.cons _ ih
   | false =>
     simp only [Bool.false_eq_true, if_false, List.nil_append, List.cons_append, List.map_cons]
     exact List.perm_middle.trans (List.Perm.cons _ ih)
theorem keep_obey (m : Cm) : KeepId fun b => obeyF b m := fun b h => by
 replace h : (obeyF b m).2 = true := h
 show idOf (obeyF b m).1 = idOf b
 unfold obeyF at h ⊢
 by_cases h1 : idEq m.s m.i m.g b.s b.i b.g = false
 · rw [if_pos h1]
 · rw [if_neg h1] at h ⊢
   by_cases h2 : m.k = 2
   · rw [if_pos h2] at h; cases h
   · rw [if_neg h2]
     split
     · rfl
     · split <;> rfl
theorem keep_hurt (b : Bun) (n : Int) (h : (hurtF b n).2 = true) : idOf (hurtF b n).1 = idOf b := by
 unfold hurtF at h ⊢
 split
 · rfl
 · rename_i h1
   rw [if_neg h1] at h
   split
   · rename_i h2; rw [if_pos h2] at h; cases h
   · rfl
theorem keep_hit (hs : List Hit) : KeepId (hitF hs) := fun b => by
 unfold hitF
 cases hs.find? fun h => idEq h.s h.i h.g b.s b.i b.g with
 | none => intro _; rfl
 | some x => exact keep_hurt b x.n
theorem keep_pass (c : Cfg) : KeepId (passF c) := fun b h => by
 unfold passF at h ⊢
 have e : idOf (moveF c b) = idOf b := rfl
 rw [← e]
 generalize moveF c b = y at *
 unfold ageF at h ⊢
 split
 · rfl
 · rename_i h1
   rw [if_neg h1] at h
   split
   · rename_i h2; rw [if_pos h2] at h; cases h
   · rfl
theorem findB_spec (s i g : Int) : ∀ (l : List Bun) (k : Nat), Rise l → ∃ q : Nat, q ≤ l.length ∧ (findB s i g l k).1 = ((k + q : Nat) : Int) ∧ (∀ b ∈ l.take q, cmpN (idOf b) ⟨s, i, g⟩ < 0) ∧ (∀ b ∈ l.drop q, 0 ≤ cmpN (idOf b) ⟨s, i, g⟩) ∧ ((findB s i g l k).2 = true ↔ (⟨s, i, g⟩ : Nid) ∈ l.map idOf)
 | [], k, _ => ⟨0, Nat.le_refl _, rfl, by simp, by simp, by simp [findB]⟩
 | b :: l, k, h => by
   obtain ⟨h1, h2⟩ := List.pairwise_cons.1 h
   unfold findB
   by_cases hc : 0 ≤ cmpId b.s b.i b.g s i g
   · have hc' : 0 ≤ cmpN (idOf b) ⟨s, i, g⟩ := hc
     rw [if_pos hc]
     refine ⟨0, Nat.zero_le _, rfl, by simp, fun x hx => ?_, ?_⟩
     · rcases List.mem_cons.1 hx with rfl | hx
       · exact hc'
       · have hbx := h1 x hx
         rw [bef_befN] at hbx
         cases hh : befN (idOf x) ⟨s, i, g⟩ with
         | false => rwa [show (befN (idOf x) ⟨s, i, g⟩ = false) ↔ 0 ≤ cmpN (idOf x) ⟨s, i, g⟩ from ltN_not _ _] at hh
         | true =>
           have := (befN_iff _ _).1 (befN_trans hbx hh)
           omega
     · constructor
       · intro he
         have e0 : cmpN (idOf b) ⟨s, i, g⟩ = 0 := by simpa [cmpN, idOf] using he
         simp [cmpN_eq e0]
       · intro hm
         rcases List.mem_map.1 hm with ⟨x, hx, e⟩
         rcases List.mem_cons.1 hx with rfl | hx
         · show (cmpN (idOf x) ⟨s, i, g⟩ == 0) = true
           rw [e, cmpN_ok.self]; rfl
         · have hbx := h1 x hx
           rw [bef_befN, e] at hbx
           have := (befN_iff _ _).1 hbx
           omega
   · have hc' : cmpN (idOf b) ⟨s, i, g⟩ < 0 := by show cmpId b.s b.i b.g s i g < 0; omega
     rw [if_neg hc]
     obtain ⟨q, q1, q2, q3, q4, q5⟩ := findB_spec s i g l (k + 1) h2
     refine ⟨q + 1, by simpa using q1, by rw [q2]; congr 1; omega, fun x hx => ?_, by simpa using q4, ?_⟩
     · rw [List.take_succ_cons] at hx
       rcases List.mem_cons.1 hx with rfl | hx
       · exact hc'
       · exact q3 x hx
     · rw [q5, List.map_cons, List.mem_cons]
       constructor
       · exact .inr
       · rintro (e | h)
         · rw [← e, cmpN_ok.self] at hc'; omega
         · exact h
theorem ins_rise {l : List Bun} (h : Rise l) (b : Bun) (hn : (findB b.s b.i b.g l 0).2 = false) : Rise (insF l (findB b.s b.i b.g l 0).1.toNat b) := by
 obtain ⟨q, q1, q2, q3, q4, q5⟩ := findB_spec b.s b.i b.g l 0 h
 have hnot : idOf b ∉ l.map idOf := fun hm => by rw [q5.2 hm] at hn; cases hn
 rw [q2]
 simp only [Nat.zero_add, Int.toNat_natCast]
 unfold insF Rise
 have hp : (l.take q ++ l.drop q).Pairwise fun a b => bef a b = true := by rw [List.take_append_drop]; exact h
 obtain ⟨p1, p2, p3⟩ := List.pairwise_append.1 hp
 refine List.pairwise_append.2 ⟨p1, List.pairwise_cons.2 ⟨fun x hx => ?_, p2⟩, fun x hx y hy => ?_⟩
 · have h1 := q4 x hx
   have h2 := cmpN_ok.neg (idOf b) (idOf x)
   have h3 := cmpN_ok.zero (idOf x) (idOf b)
   have h4 : cmpN (idOf x) (idOf b) ≠ 0 := fun e => hnot (by rw [← cmpN_eq e]; exact List.mem_map_of_mem (List.mem_of_mem_drop hx))
   rw [bef_befN, befN_iff]
   have h1' : 0 ≤ cmpN (idOf x) (idOf b) := h1
   have h5 := cmpN_ok.neg (idOf x) (idOf b)
   omega
 · rcases List.mem_cons.1 hy with rfl | hy
   · rw [bef_befN, befN_iff]; exact q3 x hx
   · exact p3 x hx y hy
theorem cmdL_rise {c : Cfg} {z : Int} {l : List Bun} (h : Rise l) (m : Cm) : Rise (cmdL c z l m) := by
 unfold cmdL
 split
 · split
   · rename_i hs
     refine ins_rise h m.b ?_
     unfold spawnB at hs
     simp only [Bool.and_eq_true, Bool.not_eq_true'] at hs
     exact hs.1.1
   · exact h
 · exact each_rise (keep_obey m) h
theorem cmdsL_rise (c : Cfg) (z : Int) : ∀ (ms : List Cm) {l : List Bun}, Rise l → Rise (cmdsL c z l ms)
 | [], _, h => h
 | m :: ms, _, h => cmdsL_rise c z ms (cmdL_rise h m)
theorem hurtL_rise (r : Int) {own : List Bun} (near : List Bun) (h : UnId own) : Rise (hurtL r own near) := each_rise (keep_hit _) (stF_rise h)
theorem leftL_rise (c : Cfg) (z : Int) {own : List Bun} (near : List Bun) (ms : List Cm) (h : UnId own) : Rise (leftL c z own near ms) := each_rise (keep_pass c) (cmdsL_rise c z ms (hurtL_rise _ near h))
def hasN (l : List Bun) (n : Nid) : Bool := (l.map idOf).contains n
theorem spawnB_iff {c : Cfg} {z : Int} {l : List Bun} (h : Rise l) (m : Cm) : spawnB c z l m = (!hasN l (idOf m.b) && decide (0 ≤ ofF c m.b.x m.b.y) && (decide (z < 0) || decide (ofF c m.b.x m.b.y = z))) := by
 obtain ⟨q, _, _, _, _, q5⟩ := findB_spec m.b.s m.b.i m.b.g l 0 h
 have e : (findB m.b.s m.b.i m.b.g l 0).2 = hasN l (idOf m.b) := by
  unfold hasN
  rw [Bool.eq_iff_iff, q5, List.contains_iff_mem]; rfl
 unfold spawnB
 rw [e]
end
section
open Go.Sort
def lk (l : List Bun) (n : Nid) : Option Bun := l.find? fun b => decide (idOf b = n)
theorem hasN_iff (l : List Bun) (n : Nid) : hasN l n = true ↔ n ∈ l.map idOf := by unfold hasN; rw [List.contains_iff_mem]
def begZ (c : Cfg) (z : Int) (m : Cm) : Bool := decide (0 ≤ ofF c m.b.x m.b.y) && (decide (z < 0) || decide (ofF c m.b.x m.b.y = z))
end
theorem check_zero : checkB zeroB = false := by decide
theorem hurt_may (b : Bun) (n : Int) (h : checkB b = true) : checkB (hurtF b n).1 = (hurtF b n).2 := by
 unfold hurtF
 split
 · exact h
 · rename_i h1
   split
   · exact check_zero
   · rename_i h2
     simp only [not_or, Bool.not_eq_false] at h1
     show checkB { b with hp := b.hp - n } = true
     simp only [checkB, rightB, Bool.and_eq_true] at h ⊢
     obtain ⟨⟨⟨⟨⟨⟨⟨⟨⟨a1, a2⟩, a3⟩, a4⟩, a5⟩, a6⟩, a7⟩, a8⟩, a9⟩, a10⟩ := h
     refine ⟨⟨⟨⟨⟨⟨⟨⟨⟨a1, a2⟩, a3⟩, a4⟩, a5⟩, ?_⟩, a7⟩, a8⟩, a9⟩, a10⟩
     rw [h1.1] at a6 ⊢
     simp only [withinB, if_true, inR, Bool.and_eq_true, decide_eq_true_eq] at a6 ⊢
     omega
theorem age_may (b : Bun) (h : checkB b = true) : checkB (ageF b).1 = (ageF b).2 := by
 unfold ageF
 split
 · exact h
 · rename_i h1
   split
   · exact check_zero
   · rename_i h2
     simp only [Bool.not_eq_false] at h1
     show checkB { b with lf := b.lf - 1 } = true
     simp only [checkB, rightB, Bool.and_eq_true] at h ⊢
     obtain ⟨⟨⟨⟨⟨⟨⟨⟨⟨a1, a2⟩, a3⟩, a4⟩, a5⟩, a6⟩, a7⟩, a8⟩, a9⟩, a10⟩ := h
     refine ⟨⟨⟨⟨⟨⟨⟨⟨⟨a1, a2⟩, a3⟩, a4⟩, a5⟩, a6⟩, a7⟩, ?_⟩, a9⟩, a10⟩
     rw [h1] at a8 ⊢
     simp only [withinB, if_true, inR, Bool.and_eq_true, decide_eq_true_eq] at a8 ⊢
     omega
theorem obey_may (b : Bun) (c : Cm) (h : checkB b = true) (hc : cmdB c = true) : checkB (obeyF b { c with s := b.s, i := b.i, g := b.g }).1 = (obeyF b { c with s := b.s, i := b.i, g := b.g }).2 := by
 have hid : idEq b.s b.i b.g b.s b.i b.g = true := by simp [idEq]
 simp only [obeyF, hid, Bool.true_eq_false, if_false]
 split
 · exact check_zero
 · split
   · rename_i h2 h3
     have h1 : (c.k == 1) = false := by simp; omega
     have h3' : (c.k == 3) = true := by simpa using h3
     simp only [cmdB, h1, h3', Bool.false_eq_true, if_false, if_true, Bool.and_eq_true] at hc
     exact check_with b c.b h hc.1.2
   · split
     · rename_i h2 h3 h4
       have h1 : (c.k == 1) = false := by simp; omega
       have h3' : (c.k == 3) = false := by simp; omega
       have h4' : (c.k == 4) = true := by simpa using h4
       simp only [cmdB, h1, h3', h4', Bool.false_eq_true, if_false, if_true, Bool.and_eq_true, someB] at hc
       show checkB (withoutF b c.mask) = true
       rw [check_without b c.mask h]
       exact hc.1.1.2
     · exact h
section
open Go.Sort
def PwOk (c : Bun) : Prop := 0 ≤ c.pw ∧ c.pw ≤ 1024
end
def GoodZ (c : Cfg) (z : Int) (b : Bun) : Prop := checkB b = true ∧ inW c b.x b.y = true ∧ ofF c b.x b.y = z
theorem good_pos {c : Cfg} {z : Int} {b b' : Bun} (h : GoodZ c z b) (hc : checkB b' = true) (hx : b'.x = b.x) (hy : b'.y = b.y) : GoodZ c z b' := ⟨hc, by rw [hx, hy]; exact h.2.1, by rw [hx, hy]; exact h.2.2⟩
theorem good_hit {c : Cfg} {z : Int} {hs : List Hit} {b : Bun} (h : GoodZ c z b) (hk : (hitF hs b).2 = true) : GoodZ c z (hitF hs b).1 := by
 unfold hitF at hk ⊢
 cases hf : hs.find? fun h => idEq h.s h.i h.g b.s b.i b.g with
 | none => exact h
 | some x =>
   rw [hf] at hk
   have hk : (hurtF b x.n).2 = true := hk
   show GoodZ c z (hurtF b x.n).1
   refine good_pos h ((hurt_may b x.n h.1).trans hk) ?_ ?_ <;> (unfold hurtF at hk ⊢; split; rfl; rename_i h1; rw [if_neg h1] at hk; split; (rename_i h2; rw [if_pos h2] at hk; cases hk); rfl)
theorem some_not1 {m : Int} (h : someB m = true) : hasB m 1 = false := by
 unfold someB at h
 simp only [Bool.and_eq_true] at h
 have h2 := h.2
 rw [and1_zero] at h2
 simpa using h2
theorem good_obey {c : Cfg} {z : Int} {m : Cm} {b : Bun} (hm : cmdB m = true) (hk1 : m.k ≠ 1) (h : GoodZ c z b) (hk : (obeyF b m).2 = true) : GoodZ c z (obeyF b m).1 := by
 by_cases hid : idEq m.s m.i m.g b.s b.i b.g = false
 · have e : obeyF b m = (b, true) := by unfold obeyF; rw [if_pos hid]
   rw [e]; exact h
 · have hid2 : idEq m.s m.i m.g b.s b.i b.g = true := by simpa using hid
   have e : m = { m with s := b.s, i := b.i, g := b.g } := by
    simp only [idEq, Bool.and_eq_true, beq_iff_eq] at hid2
    obtain ⟨⟨h1, h2⟩, h3⟩ := hid2
    rw [← h1, ← h2, ← h3]
   have hc := obey_may b m h.1 hm
   rw [← e] at hc
   refine good_pos h (hc.trans hk) ?_ ?_
   all_goals
    unfold cmdB at hm
    have n1 : (m.k == 1) = false := by simpa using hk1
    rw [n1] at hm
    simp only [Bool.false_eq_true, if_false] at hm
    unfold obeyF at hk ⊢
    rw [if_neg hid] at hk ⊢
    by_cases h2 : m.k = 2
    · rw [if_pos h2] at hk; cases hk
    · rw [if_neg h2] at hk ⊢
      by_cases h3 : m.k = 3
      · rw [if_pos h3]
        have n3 : (m.k == 3) = true := by simpa using h3
        rw [n3] at hm
        simp only [if_true, Bool.and_eq_true] at hm
        have := some_not1 hm.1.1.2
        unfold withF
        simp [this]
      · rw [if_neg h3]
        by_cases h4 : m.k = 4
        · rw [if_pos h4]
          have n3 : (m.k == 3) = false := by simpa using h3
          have n4 : (m.k == 4) = true := by simpa using h4
          rw [n3, n4] at hm
          simp only [Bool.false_eq_true, if_false, if_true, Bool.and_eq_true] at hm
          have := some_not1 hm.1.1
          unfold withoutF
          simp [this]
        · rw [if_neg h4]
theorem check_at {b : Bun} {x y : Int} (h : checkB b = true) (hx : -1073741824 ≤ x ∧ x ≤ 1073741824) (hy : -1073741824 ≤ y ∧ y ≤ 1073741824) : checkB { b with x := x, y := y } = true := by
 unfold checkB rightB at h ⊢
 simp only [Bool.and_eq_true] at h ⊢
 obtain ⟨⟨⟨⟨⟨⟨⟨⟨⟨h1, h2⟩, h3⟩, h4⟩, h5⟩, h6⟩, h7⟩, h8⟩, h9⟩, h10⟩ := h
 refine ⟨⟨⟨⟨⟨⟨⟨⟨⟨h1, ?_⟩, ?_⟩, h4⟩, h5⟩, h6⟩, h7⟩, h8⟩, h9⟩, h10⟩
 · unfold withinB; rw [h9]; simp [inR, hx.1, hx.2]
 · unfold withinB; rw [h9]; simp [inR, hy.1, hy.2]
theorem good_pass {c : Cfg} (ho : CfgOk c) {z : Int} {b : Bun} (h : GoodZ c z b) (hk : (passF c b).2 = true) : checkB (passF c b).1 = true ∧ (ofF c (passF c b).1.x (passF c b).1.y = z ∨ ofF c (passF c b).1.x (passF c b).1.y ∈ besideF c z) := by
 obtain ⟨p1, p2, p3, p4⟩ := ho.prod
 have hin := inF_in ho (if hasB b.m 2 then addF b.x (max (-c.speed) (min c.speed b.vx)) else b.x) (if hasB b.m 2 then addF b.y (max (-c.speed) (min c.speed b.vy)) else b.y)
 have hmv : inW c (moveF c b).x (moveF c b).y = true := hin
 have hcm : checkB (moveF c b) = true := by
  unfold inW at hmv
  have hmv := of_decide_eq_true hmv
  have e : moveF c b = { b with x := (moveF c b).x, y := (moveF c b).y } := rfl
  rw [e]
  exact check_at h.1 ⟨by omega, by omega⟩ ⟨by omega, by omega⟩
 have hst := move_stays ho b h.2.1
 rw [h.2.2] at hst
 have hage := age_may (moveF c b) hcm
 have e : passF c b = ageF (moveF c b) := rfl
 rw [e] at hk ⊢
 have hpos : (ageF (moveF c b)).1.x = (moveF c b).x ∧ (ageF (moveF c b)).1.y = (moveF c b).y := by
  generalize moveF c b = y at *
  unfold ageF at hk ⊢
  split
  · exact ⟨rfl, rfl⟩
  · rename_i h1
    rw [if_neg h1] at hk
    split
    · rename_i h2; rw [if_pos h2] at hk; cases hk
    · exact ⟨rfl, rfl⟩
 refine ⟨hage.trans hk, ?_⟩
 rw [hpos.1, hpos.2]
 exact hst.imp (fun e => e.symm) id
section
open Go.Sort
def begM (ms : List Cm) : List Nid := (ms.filter fun m => decide (m.k = 1)).map fun m => idOf m.b
def begsN (c : Cfg) (z : Int) (ms : List Cm) : List Nid := (ms.filter fun m => decide (m.k = 1) && begZ c z m).map fun m => idOf m.b
theorem begM_cons (m : Cm) (ms : List Cm) : begM (m :: ms) = (if m.k = 1 then [idOf m.b] else []) ++ begM ms := by
 unfold begM
 rw [List.filter_cons]
 by_cases h : m.k = 1 <;> simp [h]
theorem begsN_cons (c : Cfg) (z : Int) (m : Cm) (ms : List Cm) : begsN c z (m :: ms) = begsN c z [m] ++ begsN c z ms := by
 unfold begsN
 rw [List.filter_cons, List.filter_cons]
 cases (decide (m.k = 1) && begZ c z m) <;> simp
theorem begsN_sub (c : Cfg) (z : Int) (ms : List Cm) : (begsN c z ms).Sublist (begM ms) := by
 unfold begsN begM
 refine List.Sublist.map _ ?_
 rw [show (fun m => decide (m.k = 1) && begZ c z m) = fun m => begZ c z m && decide (m.k = 1) from funext fun m => Bool.and_comm _ _, ← List.filter_filter]
 exact List.filter_sublist
theorem cmd_ids {c : Cfg} {z : Int} {l : List Bun} (h : Rise l) (m : Cm) (hf : m.k = 1 → idOf m.b ∉ l.map idOf) : ((cmdL c z l m).map idOf ++ cmdN l m).Perm (l.map idOf ++ begsN c z [m]) := by
 unfold cmdL cmdN begsN
 by_cases hk : m.k = 1
 · rw [if_pos hk, if_pos hk, spawnB_iff h]
   have hn : hasN l (idOf m.b) = false := by
    cases hh : hasN l (idOf m.b) with
    | false => rfl
    | true => exact absurd ((hasN_iff l _).1 hh) (hf hk)
   rw [hn]
   simp only [Bool.not_false, Bool.true_and, List.append_nil]
   show ((if begZ c z m = true then insF l (findB m.b.s m.b.i m.b.g l 0).1.toNat m.b else l).map idOf).Perm _
   by_cases hb : begZ c z m = true
   · rw [if_pos hb]
     refine ((ins_perm l _ m.b).map idOf).trans ?_
     simp only [List.map_cons, List.filter_cons, hk, hb, decide_true, Bool.and_self, if_true, List.filter_nil, List.map_nil]
     exact List.perm_append_comm (l₁ := [idOf m.b])
   · rw [if_neg hb]
     simp [hk, hb]
 · rw [if_neg hk, if_neg hk]
   have := each_ids (keep_obey m) l
   simpa [hk] using this
theorem cmds_ids (c : Cfg) (z : Int) : ∀ (ms : List Cm) {l : List Bun}, Rise l → (∀ n ∈ begM ms, n ∉ l.map idOf) → (begM ms).Nodup → ((cmdsL c z l ms).map idOf ++ cmdsN c z l ms).Perm (l.map idOf ++ begsN c z ms)
 | [], l, _, _, _ => by simp [cmdsL, cmdsN, begsN]
 | m :: ms, l, h, hf, hn => by
   rw [begM_cons] at hf hn
   have h2 := cmd_ids (c := c) (z := z) h m fun hk => hf _ (by simp [hk])
   have hl' : Rise (cmdL c z l m) := cmdL_rise h m
   have h1 := cmds_ids c z ms hl' (fun n hm hx => by
    have hx2 := h2.mem_iff.1 (List.mem_append_left _ hx)
    rcases List.mem_append.1 hx2 with h3 | h3
    · exact hf n (List.mem_append_right _ hm) h3
    · have h4 := (begsN_sub c z [m]).subset h3
      rw [begM_cons] at h4
      simp only [begM, List.filter_nil, List.map_nil, List.append_nil] at h4
      exact (List.nodup_append.1 hn).2.2 n h4 n hm rfl) (List.nodup_append.1 hn).2.1
   rw [begsN_cons]
   show ((cmdsL c z (cmdL c z l m) ms).map idOf ++ (cmdN l m ++ cmdsN c z (cmdL c z l m) ms)).Perm _
   rw [List.perm_iff_count]
   intro a
   have a1 := h1.count_eq a
   have a2 := h2.count_eq a
   simp only [List.count_append] at a1 a2 ⊢
   omega
theorem tick_ids (c : Cfg) (z : Int) {own : List Bun} (near : List Bun) {ms : List Cm} (hu : UnId own) (hf : ∀ n ∈ begM ms, n ∉ own.map idOf) (hn : (begM ms).Nodup) :
 ((leftL c z own near ms).map idOf ++ deadN c z own near ms).Perm (own.map idOf ++ begsN c z ms) := by
 have h1 := each_ids (keep_hit (hitsF c.radius own near)) (stableF cmpBun own)
 have h2 := (stF_perm own).map idOf
 have hr := hurtL_rise c.radius near hu
 have h3 := cmds_ids c z ms hr (fun n hm hx => hf n hm (h2.mem_iff.1 (h1.mem_iff.1 (List.mem_append_left _ hx)))) hn
 have h4 := each_ids (keep_pass c) (midL c z own near ms)
 unfold leftL deadN
 rw [List.perm_iff_count]
 intro a
 have a1 := h1.count_eq a
 have a2 := h2.count_eq a
 have a3 := h3.count_eq a
 have a4 := h4.count_eq a
 unfold hurtL hurtN midL at *
 unfold hurtL at *
 simp only [List.count_append] at a1 a2 a3 a4 ⊢
 omega
end
theorem left_split (c : Cfg) (z : Int) (own near : List Bun) (ms : List Cm) : (ownL c z own near ms ++ goneL c z own near ms).Perm (leftL c z own near ms) := by
 unfold ownL goneL
 exact List.filter_append_perm _ _
theorem names_nodup (c : Cfg) (z : Int) {own : List Bun} {ms : List Cm} (hu : UnId own) (hf : ∀ n ∈ begM ms, n ∉ own.map idOf) (hn : (begM ms).Nodup) : (own.map idOf ++ begsN c z ms).Nodup := by
 refine List.nodup_append.2 ⟨?_, hn.sublist (begsN_sub c z ms), fun a ha b hb e => ?_⟩
 · unfold List.Nodup
   rw [List.pairwise_map]
   exact hu.imp fun {a b} h e => h ((sameId_iff a b).2 e)
 · subst e
   exact hf a ((begsN_sub c z ms).subset hb) ha
theorem dead_perm (c : Cfg) (z : Int) {own : List Bun} (near : List Bun) {ms : List Cm} (hu : UnId own) (hf : ∀ n ∈ begM ms, n ∉ own.map idOf) (hn : (begM ms).Nodup) : (setN (deadN c z own near ms)).Perm (deadN c z own near ms) := by
 have hp := tick_ids c z near hu hf hn
 have hnd := (hp.nodup_iff.2 (names_nodup c z hu hf hn))
 have h2 := (List.nodup_append.1 hnd).2.1
 obtain ⟨h3, h4⟩ := setN_ok (deadN c z own near ms)
 have h5 : (setN (deadN c z own near ms)).Nodup := h3.imp fun {a b} h e => by subst e; rw [befN_irr] at h; cases h
 exact (List.perm_ext_iff_of_nodup h5 h2).2 h4
theorem tick_total (c : Cfg) (z : Int) {own : List Bun} (near : List Bun) {ms : List Cm} (hu : UnId own) (hf : ∀ n ∈ begM ms, n ∉ own.map idOf) (hn : (begM ms).Nodup) :
 (ownL c z own near ms ++ goneL c z own near ms).length + (setN (deadN c z own near ms)).length = own.length + (begsN c z ms).length := by
 have h1 := (left_split c z own near ms).length_eq
 have h2 := (dead_perm c z near hu hf hn).length_eq
 have h3 := (tick_ids c z near hu hf hn).length_eq
 simp only [List.length_append, List.length_map] at h1 h3 ⊢
 omega
theorem left_len (c : Cfg) (z : Int) (own near : List Bun) (ms : List Cm) : (leftL c z own near ms).length ≤ own.length + ms.length :=
 Nat.le_trans (eachL_len _ _) (Nat.le_trans (cmdsL_len _ _ _ _) (Nat.add_le_add_right (Nat.le_trans (eachL_len _ _) (by rw [stableF_len]; exact Nat.le_refl _)) _))
theorem dead_len (c : Cfg) (z : Int) {own near : List Bun} {ms : List Cm} (hu : UnId own) (hf : ∀ n ∈ begM ms, n ∉ own.map idOf) (hn : (begM ms).Nodup) : (setN (deadN c z own near ms)).length ≤ own.length + ms.length := by
 have h1 := tick_total c z near hu hf hn
 have h2 : (begsN c z ms).length ≤ ms.length := by unfold begsN; rw [List.length_map]; exact List.length_filter_le _ _
 omega
theorem own_whole (c : Cfg) (l : List Bun) (ms : List Cm) : ownL c (-1) l [] ms = leftL c (-1) l [] ms ∧ goneL c (-1) l [] ms = [] := by
 have h : ∀ b : Bun, inZ c (-1) b = true := fun b => by unfold inZ; simp
 unfold ownL goneL
 exact ⟨List.filter_eq_self.2 fun b _ => h b, List.filter_eq_nil_iff.2 fun b _ => by simp [h b]⟩
structure Wo where
 (D : Dk) (L : List Bun)
def callW (c : Cfg) (X : Wo) (m : Cm) : (Cm × Int) × Wo :=
 if (lookF c X.D m).2.2 ≠ 0 then ((zeroCm, (lookF c X.D m).2.2), X)
 else (((lookF c X.D m).1, (admitF c (lookedF c X.D m) (lookF c X.D m).1).1), ⟨(admitF c (lookedF c X.D m) (lookF c X.D m).1).2, X.L⟩)
def deadW (c : Cfg) (X : Wo) : List Nid := setN (deadN c (-1) X.L [] X.D.q)
def stepW (c : Cfg) (X : Wo) : (List Nid × Int) × Wo :=
 if (beginF X.D).1.2.2 ≠ 0 then (([], (beginF X.D).1.2.2), ⟨(beginF X.D).2, X.L⟩)
 else ((deadW c X, 0), ⟨(closeF (beginF X.D).2 (deadW c X)).2, ownL c (-1) X.L [] X.D.q⟩)
def newW (c : Cfg) : Wo := ⟨newD c, []⟩
structure WInv (c : Cfg) (n : Nat) (X : Wo) : Prop where
 gm : GM c.ids.toNat X.D.M
 ml : X.D.M.length = (c.cols * c.rows).toNat
 op : X.D.op = false
 t0 : 0 ≤ X.D.t
 t1 : X.D.t ≤ n
 rise : Rise X.L
 good : ∀ b ∈ X.L, GoodZ c (ofF c b.x b.y) b ∧ 0 ≤ ofF c b.x b.y
 qok : ∀ m ∈ X.D.q, cmdB m = true ∧ (m.k = 1 → 0 ≤ ofF c m.b.x m.b.y)
 len : X.L.length + X.D.q.length ≤ n
 nd : (X.L.map idOf ++ begM X.D.q).Nodup
 al : ∀ a, alN X.D.M a ↔ a ∈ X.L.map idOf ++ begM X.D.q
theorem WInv.more {c : Cfg} {n : Nat} {X : Wo} (h : WInv c n X) : WInv c (n + 1) X := { h with t1 := by have := h.t1; omega, len := by have := h.len; omega }
theorem new_inv {c : Cfg} (ho : CfgOk c) : WInv c 0 (newW c) := by
 have hi : c.ids.toNat ≤ 16 := by have := ho.i1; omega
 have hM : ∀ m ∈ (newD c).M, m = fresh c.ids.toNat c.ids.toNat := fun m hm => (List.mem_replicate.1 hm).2
 have hcr : c.cols * c.rows ≤ 16 := Int.mul_le_mul ho.c1 ho.r1 (by have := ho.r0; omega) (by omega)
 refine ⟨⟨hi, by simp [newW, newD]; omega, fun m hm => ?_, fun m hm => ?_⟩, by simp [newW, newD], rfl, Int.le_refl _, Int.le_refl _, List.Pairwise.nil, fun b hb => (by cases hb), fun m hm => (by cases hm), Nat.le_refl _, List.nodup_nil, fun a => ?_⟩
 · rw [hM m hm]; simp [fresh, freshIx]
 · rw [hM m hm]; exact fresh_good _ hi
 · constructor
   · intro h
     obtain ⟨x, hx, ha, _⟩ := alN_iff.1 h
     obtain ⟨k, i, m, _, _, hm, hx⟩ := ixOf_iff.1 hx
     rw [hM m (List.mem_of_getElem? hm)] at hx
     have hx2 := List.mem_of_getElem? hx
     simp only [fresh, freshIx] at hx2
     have := (List.mem_replicate.1 hx2).2
     rw [this] at ha
     cases ha
   · intro h; cases h
theorem admit_ok {c : Cfg} {D : Dk} {m : Cm} (h : (admitF c D m).1 = 0) : (admitF c D m).2 = ⟨if m.k = 1 then (takeF D.M m.b.s m.b.i m.b.g).2 else D.M, D.q ++ [m], D.t, D.op⟩ ∧ cmdB m = true := by
 unfold admitF at h ⊢
 split at h
 · cases h
 rename_i h1
 rw [if_neg h1]
 have hc : cmdB m = true := by cases hb : cmdB m with
  | true => rfl
  | false => exact absurd hb h1
 split at h
 · cases h
 rename_i h2
 rw [if_neg h2]
 split at h
 · rename_i hk
   rw [if_pos hk, if_pos hk]
   split at h
   · cases h
   rename_i h3
   rw [if_neg h3]
   split at h
   · rename_i h4; exact absurd h h4
   · rename_i h4; rw [if_neg h4]; exact ⟨rfl, hc⟩
 · rename_i hk
   rw [if_neg hk, if_neg hk]
   split at h
   · cases h
   · rename_i h3; rw [if_neg h3]; exact ⟨rfl, hc⟩
structure Called (c : Cfg) (n : Nat) (X : Wo) (m : Cm) : Prop where
 inv : WInv c (n + 1) (callW c X m).2
 e : (callW c X m).1.2 = 0 → (lookF c X.D m).2.2 = 0 ∧ (callW c X m).1.1 = (lookF c X.D m).1
 adm : (lookF c X.D m).2.2 = 0 → (admitF c (lookedF c X.D m) (lookF c X.D m).1).1 = 0
 t : (callW c X m).2.D.t = X.D.t
 q : (callW c X m).1.2 = 0 → (callW c X m).2.D.q = X.D.q ++ [(callW c X m).1.1]
 used : ∀ a, usedN X.D.M a → usedN (callW c X m).2.D.M a
 fresh : (callW c X m).1.2 = 0 → (callW c X m).1.1.k = 1 → ¬ usedN X.D.M (idOf (callW c X m).1.1.b) ∧ usedN (callW c X m).2.D.M (idOf (callW c X m).1.1.b)
theorem begM_snoc (q : List Cm) (m : Cm) : begM (q ++ [m]) = begM q ++ if m.k = 1 then [idOf m.b] else [] := by
 unfold begM
 rw [List.filter_append, List.map_append]
 congr 1
 by_cases h : m.k = 1 <;> simp [h]
theorem call_inv {c : Cfg} {n : Nat} {X : Wo} (h : WInv c n X) (m : Cm) : Called c n X m := by
 have hla := look_adm c X.D m
 rcases look_cases c X.D m with ⟨e, he, h2⟩ | ⟨hk, hh, h2⟩ | ⟨hk, h2⟩
 · have hc : callW c X m = ((zeroCm, e), X) := by
    unfold callW
    rw [h2]
    simp only
    rw [if_pos he]
   exact ⟨by rw [hc]; exact h.more, fun h3 => by rw [hc] at h3; exact absurd h3 he, fun h3 => by rw [h2] at h3; exact absurd h3 he, by rw [hc], fun h3 => by rw [hc] at h3; exact absurd h3 he, fun a ha => by rw [hc]; exact ha, fun h3 => by rw [hc] at h3; exact absurd h3 he⟩
 · obtain ⟨f, g, hf, hg, b1, b2⟩ := beg_pool h.gm hh
   rw [← hf] at hg
   rw [← hf, ← hg] at h2
   generalize hzn : ofF c m.b.x m.b.y = zn at *
   have hz0 : 0 ≤ zn := by
    obtain ⟨m0, _, _, _, hm0, _⟩ := head_ok h.gm.good hh
    obtain ⟨k, rfl, _⟩ := shOf_iff.1 hm0
    omega
   have hl := (hla _ _ h.gm.good h.gm.m16 h2).1 hk
   obtain ⟨s', i', g', hname, hnew, hof, ha1, ha2⟩ := hl
   have key : ∀ D1 : Dk, lookedF c X.D m = D1 → D1.q = X.D.q → D1.t = X.D.t → D1.op = X.D.op → (admitF c D1 (nameCm m zn f g)).1 = 0 → Beg c.ids.toNat X.D.M zn (takeF D1.M zn f g).2 ⟨zn, f, g⟩ → Called c n X m := by
    intro D1 hD1 q1 q2 q3 had hbeg
    obtain ⟨had2, hcm⟩ := admit_ok had
    have hkn : (nameCm m zn f g).k = 1 := hk
    rw [if_pos hkn] at had2
    have hc : callW c X m = ((nameCm m zn f g, 0), ⟨⟨(takeF D1.M zn f g).2, X.D.q ++ [nameCm m zn f g], X.D.t, X.D.op⟩, X.L⟩) := by
     unfold callW
     rw [h2]
     simp only
     rw [if_neg (by simp), hD1, had, had2, q1, q2, q3]
     rfl
    have hid : idOf (nameCm m zn f g).b = ⟨zn, f, g⟩ := rfl
    have hbm : begM (X.D.q ++ [nameCm m zn f g]) = begM X.D.q ++ [⟨zn, f, g⟩] := by rw [begM_snoc, if_pos hkn, hid]
    have hni : (⟨zn, f, g⟩ : Nid) ∉ X.L.map idOf ++ begM X.D.q := fun hm => hbeg.fresh ((h.al _).2 hm).used
    refine ⟨?_, fun _ => by rw [hc, h2]; exact ⟨rfl, rfl⟩, fun _ => by rw [h2, hD1]; exact had, by rw [hc], fun _ => by rw [hc], fun a ha => by rw [hc]; exact hbeg.used a ha, fun _ _ => by
     rw [hc]
     exact ⟨hbeg.fresh, ((hbeg.al _).2 (.inr rfl)).used⟩⟩
    rw [hc]
    refine ⟨hbeg.gm, hbeg.len.trans h.ml, h.op, h.t0, by have := h.t1; simp only; omega, h.rise, h.good, fun a ha => ?_, by have := h.len; simp; omega, ?_, fun a => ?_⟩
    · rcases List.mem_append.1 ha with ha | ha
      · exact h.qok a ha
      · obtain rfl : a = nameCm m zn f g := by simpa using ha
        exact ⟨hcm, fun _ => by show 0 ≤ ofF c m.b.x m.b.y; rw [hzn]; exact hz0⟩
    · rw [hbm, ← List.append_assoc, List.nodup_append]
      refine ⟨h.nd, by simp, fun a ha b hb => ?_⟩
      obtain rfl : b = ⟨zn, f, g⟩ := by simpa using hb
      intro e; subst e; exact hni ha
    · rw [hbm, hbeg.al, h.al, ← List.append_assoc, List.mem_append (s := X.L.map idOf ++ begM X.D.q), List.mem_singleton]
   cases hb : (headF X.D.M zn).2.1 with
   | true =>
     rw [hb] at h2 ha1
     have hD1 : lookedF c X.D m = X.D := by unfold lookedF; rw [h2]; rfl
     have had := ha1 rfl
     exact key X.D hD1 rfl rfl rfl had (b1 hb).2
   | false =>
     rw [hb] at h2 ha2
     have hD1 : lookedF c X.D m = (reservedF X.D zn f).2 := by unfold lookedF; rw [h2]; rfl
     have had := (ha2 rfl).2.2.2
     have e1 : s' = zn ∧ i' = f := by
      simp only [nameCm, Cm.mk.injEq, Bun.mk.injEq, true_and, and_true] at hname
      exact ⟨hname.1.symm, hname.2.1.symm⟩
     rw [e1.1, e1.2] at had
     exact key (reservedF X.D zn f).2 hD1 rfl rfl rfl had (b2 hb).2.2
 · have hl := (hla _ _ h.gm.good h.gm.m16 h2).2 hk
   have hD1 : lookedF c X.D m = X.D := by unfold lookedF; rw [h2]; rfl
   obtain ⟨had2, hcm⟩ := admit_ok hl.2.2
   rw [if_neg hk] at had2
   have hc : callW c X m = ((m, 0), ⟨⟨X.D.M, X.D.q ++ [m], X.D.t, X.D.op⟩, X.L⟩) := by
    unfold callW
    rw [h2]
    simp only
    rw [if_neg (by simp), hD1, hl.2.2, had2]
   have hbm : begM (X.D.q ++ [m]) = begM X.D.q := by rw [begM_snoc, if_neg hk, List.append_nil]
   refine ⟨?_, fun _ => by rw [hc, h2]; exact ⟨rfl, rfl⟩, fun _ => by rw [h2, hD1]; exact hl.2.2, by rw [hc], fun _ => by rw [hc], fun a ha => by rw [hc]; exact ha, fun _ h3 => by rw [hc] at h3; exact absurd h3 hk⟩
   rw [hc]
   refine ⟨h.gm, h.ml, h.op, h.t0, by have := h.t1; simp only; omega, h.rise, h.good, fun a ha => ?_, by have := h.len; simp; omega, by rw [hbm]; exact h.nd, fun a => by rw [hbm]; exact h.al a⟩
   rcases List.mem_append.1 ha with ha | ha
   · exact h.qok a ha
   · obtain rfl : a = m := by simpa using ha
     exact ⟨hcm, fun h3 => absurd h3 hk⟩
theorem begs_all {c : Cfg} : ∀ {ms : List Cm}, (∀ m ∈ ms, m.k = 1 → 0 ≤ ofF c m.b.x m.b.y) → begsN c (-1) ms = begM ms := by
 intro ms h
 unfold begsN begM
 congr 1
 refine List.filter_congr fun m hm => ?_
 by_cases hk : m.k = 1
 · have h0 := h m hm hk
   unfold begZ
   simp [hk, h0]
 · simp [hk]
theorem of_nn {c : Cfg} (ho : CfgOk c) {x y : Int} (h : inW c x y = true) : 0 ≤ ofF c x y := by
 have h2 := h
 unfold inW at h2
 have h2 := of_decide_eq_true h2
 unfold ofF
 rw [if_pos h]
 have hs := ho.s0
 have h3 : 0 ≤ x / c.side := Int.ediv_nonneg (by omega) (by omega)
 have h4 : 0 ≤ y / c.side := Int.ediv_nonneg (by omega) (by omega)
 have h5 : 0 ≤ y / c.side * c.cols := Int.mul_nonneg h4 (by have := ho.c0; omega)
 omega
theorem pass_in {c : Cfg} (ho : CfgOk c) {b : Bun} (hk : (passF c b).2 = true) : inW c (passF c b).1.x (passF c b).1.y = true := by
 have hin := inF_in ho (if hasB b.m 2 then addF b.x (max (-c.speed) (min c.speed b.vx)) else b.x) (if hasB b.m 2 then addF b.y (max (-c.speed) (min c.speed b.vy)) else b.y)
 have hmv : inW c (moveF c b).x (moveF c b).y = true := hin
 have e : passF c b = ageF (moveF c b) := rfl
 rw [e] at hk ⊢
 have hpos : (ageF (moveF c b)).1.x = (moveF c b).x ∧ (ageF (moveF c b)).1.y = (moveF c b).y := by
  generalize moveF c b = y at *
  unfold ageF at hk ⊢
  split
  · exact ⟨rfl, rfl⟩
  · rename_i h1
    rw [if_neg h1] at hk
    split
    · rename_i h2; rw [if_pos h2] at hk; cases hk
    · exact ⟨rfl, rfl⟩
 rw [hpos.1, hpos.2]
 exact hmv
theorem good_left {c : Cfg} (ho : CfgOk c) {l : List Bun} {ms : List Cm} (hm : ∀ m ∈ ms, cmdB m = true) (h : ∀ b ∈ l, GoodZ c (ofF c b.x b.y) b ∧ 0 ≤ ofF c b.x b.y) : ∀ b ∈ leftL c (-1) l [] ms, GoodZ c (ofF c b.x b.y) b ∧ 0 ≤ ofF c b.x b.y := by
 have hz : ∀ {b b' : Bun} {z : Int}, GoodZ c z b' → 0 ≤ z → GoodZ c (ofF c b'.x b'.y) b' ∧ 0 ≤ ofF c b'.x b'.y := fun h1 h2 => ⟨⟨h1.1, h1.2.1, rfl⟩, by rw [h1.2.2]; exact h2⟩
 have h1 : ∀ b ∈ hurtL c.radius l [], GoodZ c (ofF c b.x b.y) b ∧ 0 ≤ ofF c b.x b.y := fun b hb => by
  obtain ⟨x, hx, hk, rfl⟩ := each_mem.1 hb
  have := h x ((stF_perm l).mem_iff.1 hx)
  exact hz (b := x) (good_hit this.1 hk) this.2
 have h2 : ∀ (ms : List Cm) {l : List Bun}, (∀ m ∈ ms, cmdB m = true) → (∀ b ∈ l, GoodZ c (ofF c b.x b.y) b ∧ 0 ≤ ofF c b.x b.y) → ∀ b ∈ cmdsL c (-1) l ms, GoodZ c (ofF c b.x b.y) b ∧ 0 ≤ ofF c b.x b.y := by
  intro ms
  induction ms with
  | nil => intro l _ h; exact h
  | cons m ms ih =>
    intro l hm h
    refine ih (fun m' h' => hm m' (List.mem_cons_of_mem _ h')) fun b hb => ?_
    have hmm := hm m (by simp)
    unfold cmdL at hb
    split at hb
    · rename_i hk
      split at hb
      · rename_i hs
        rcases List.mem_cons.1 ((ins_perm l _ m.b).mem_iff.1 hb) with rfl | hb
        · unfold spawnB at hs
          simp only [Bool.and_eq_true, Bool.or_eq_true, decide_eq_true_eq] at hs
          obtain ⟨⟨_, h0⟩, _⟩ := hs
          have hck : checkB m.b = true := by
           unfold cmdB at hmm
           have n1 : (m.k == 1) = true := by simpa using hk
           rw [n1] at hmm
           simp only [if_true, Bool.and_eq_true] at hmm
           exact hmm.2
          refine ⟨⟨hck, ?_, rfl⟩, h0⟩
          cases hi : inW c m.b.x m.b.y with
          | true => rfl
          | false => unfold ofF at h0; rw [hi] at h0; simp at h0
        · exact h b hb
      · exact h b hb
    · rename_i hk
      obtain ⟨x, hx, h1, rfl⟩ := each_mem.1 hb
      have := h x hx
      exact hz (b := x) (good_obey hmm hk this.1 h1) this.2
 intro b hb
 obtain ⟨x, hx, hk, rfl⟩ := each_mem.1 hb
 have hx' := h2 ms hm h1 x hx
 obtain ⟨q1, q2⟩ := good_pass ho hx'.1 hk
 have q3 := pass_in ho hk
 have q4 : 0 ≤ ofF c (passF c x).1.x (passF c x).1.y := of_nn ho q3
 exact ⟨⟨q1, q3, rfl⟩, q4⟩
theorem step_inv {c : Cfg} (ho : CfgOk c) {n : Nat} {X : Wo} (h : WInv c n X) (hn : n ≤ 1000000) :
 WInv c (n + 1) (stepW c X).2 ∧ stepW c X = ((deadW c X, 0), ⟨⟨(freesF X.D.M 0 (deadW c X)).2, [], X.D.t + 1, false⟩, ownL c (-1) X.L [] X.D.q⟩) ∧ (∀ a, usedN X.D.M a → usedN (stepW c X).2.D.M a) := by
 have hb : beginF X.D = ((X.D.t + 1, X.D.q, 0), { X.D with q := [], t := X.D.t + 1, op := true }) := by
  unfold beginF beginB
  have := h.t1
  rw [h.op, if_neg (by simp; omega)]
 have he : stepW c X = ((deadW c X, 0), ⟨⟨(freesF X.D.M 0 (deadW c X)).2, [], X.D.t + 1, false⟩, ownL c (-1) X.L [] X.D.q⟩) := by
  unfold stepW
  rw [hb]
  simp only
  rw [if_neg (by simp)]
  unfold closeF
  rw [if_neg (by simp)]
 obtain ⟨w1, w2⟩ := own_whole c X.L X.D.q
 obtain ⟨f1, f2, f3, f4⟩ := frees_pool (deadW c X) 0 h.gm
 have hu := rise_un h.rise
 have hnd := List.nodup_append.1 h.nd
 have hf : ∀ a ∈ begM X.D.q, a ∉ X.L.map idOf := fun a ha hb => hnd.2.2 a hb a ha rfl
 have hids := tick_ids c (-1) [] hu hf hnd.2.1
 rw [begs_all fun m hm => (h.qok m hm).2, ← w1] at hids
 have hr : Rise (ownL c (-1) X.L [] X.D.q) := by rw [w1]; exact leftL_rise c (-1) [] X.D.q hu
 refine ⟨?_, he, fun a ha => by rw [he]; exact f4 a ha⟩
 rw [he]
 refine ⟨f1, f2.trans h.ml, rfl, by have := h.t0; simp only; omega, by have := h.t1; simp only; omega, hr, ?_, fun m hm => (by cases hm), ?_, ?_, fun a => ?_⟩
 · simp only
   rw [w1]
   exact good_left ho (fun m hm => (h.qok m hm).1) h.good
 · have h1 := left_len c (-1) X.L [] X.D.q
   have := h.len
   simp only [w1, List.length_nil]
   omega
 · rw [show begM ([] : List Cm) = [] from rfl, List.append_nil]
   exact rise_nodup hr
 · simp only
   rw [f3, h.al, show begM ([] : List Cm) = [] from rfl, List.append_nil, ← hids.mem_iff]
   unfold deadW
   rw [(setN_ok _).2 a, List.mem_append]
   constructor
   · rintro ⟨h1, h2⟩; exact h1.resolve_right h2
   · intro h1
     refine ⟨.inl h1, fun h2 => ?_⟩
     have hnd2 := (hids.nodup_iff).2 h.nd
     exact (List.nodup_append.1 hnd2).2.2 a h1 a h2 rfl
section
def worldO (p : Nat) (c : Cfg) (X : Wo) : Ob where
 holds W o := ∃ d v, ((boxO p #[.pointer (some ⟨d, 0, none⟩), v] 83).and ((deskO d c X.D).and (slO 32 11 v X.L.length (cellsR bunL X.L)))).holds W o
 lt := by rintro w o ⟨d, v, h⟩; exact Ob.lt _ w o h
 keep := by rintro w w' o ⟨d, v, h⟩ hk; exact ⟨d, v, Ob.keep _ w w' o h hk⟩
section
variable {w0 W : World} {F : Ob} {p : Nat} {c : Cfg} {X : Wo}
theorem wopen (h : Own w0 W ((worldO p c X).and F)) : ∃ d v, Own w0 W ((boxO p #[.pointer (some ⟨d, 0, none⟩), v] 83).and ((deskO d c X.D).and ((slO 32 11 v X.L.length (cellsR bunL X.L)).and F))) := by
 obtain ⟨o, ⟨a, f, ⟨d, v, h1⟩, h2, h3, h4⟩, h5⟩ := h
 have h' : Own w0 W (((boxO p #[.pointer (some ⟨d, 0, none⟩), v] 83).and ((deskO d c X.D).and (slO 32 11 v X.L.length (cellsR bunL X.L)))).and F) := ⟨o, ⟨a, f, h1, h2, h3, h4⟩, h5⟩
 exact ⟨d, v, h'.assoc.inner fun _ h => and_assoc' h⟩
theorem and_shut' {A B C : Ob} {o : Nat → Prop} (h : (A.and (B.and C)).holds W o) : ((A.and B).and C).holds W o := and_comm' (and_assoc' (and_comm' (and_assoc' (and_comm' h))))
theorem wshut {d : Nat} {v : Value} (h : Own w0 W ((boxO p #[.pointer (some ⟨d, 0, none⟩), v] 83).and ((deskO d c X.D).and ((slO 32 11 v X.L.length (cellsR bunL X.L)).and F)))) : Own w0 W ((worldO p c X).and F) := by
 have h' := (h.inner (G := ((deskO d c X.D).and (slO 32 11 v X.L.length (cellsR bunL X.L))).and F) fun _ h => and_shut' h).assoc'
 obtain ⟨o, ⟨a, f, h1, h2, h3, h4⟩, h5⟩ := h'
 exact ⟨o, ⟨a, f, ⟨d, v, h1⟩, h2, h3, h4⟩, h5⟩
end
section
variable {w0 W : World} {F : Ob} {p : Nat} {c : Cfg} {X : Wo}
theorem wlist_o (h : Own w0 W ((worldO p c X).and F)) (hl : X.L.length ≤ 1000000) : Calls prog 12 #[.pointer (some ⟨p, 0, none⟩)] W fun e w' => ∃ v, e = .returned v ∧ RNew bunL 32 11 W w' v X.L := by
 obtain ⟨d, v, h⟩ := wopen h
 have hb := h.box
 have x0 := hb.1 0
 have x1 := hb.1 1
 simp at x0 x1
 have hlt := hb.2.2.1
 obtain ⟨z0, z1, z2⟩ := ltz hlt
 have H := hid h
 obtain ⟨hs, _⟩ := h.third.sl
 have hin := BIn.of_sl hs
 obtain ⟨pv, cv, rfl⟩ := sl_frm hs
 have HC := hid (fun V hV => clone_bin (.slice pv X.L.length cv) X.L V (hin.keep (w' := V) hV) hl)
 clear hs hin
 clear h hb
 go_enter Tryz.func12, Tryz.ntmps12
 go_wp2_with fail
 refine (HC.out _ bg).mono ?_
 rintro e w' ⟨v', rfl, hn⟩
 have HN := hid hn
 obtain ⟨pw, cw, rfl⟩ := sl_frm hn.1
 clear hn
 go_wp2_with fail
 go_ret
 exact ⟨_, rfl, HN.out.1, Below.trans (Below.mono (B := W.heap.size) bg (Nat.le_refl _)) (HN.out.2.1.mono (Nat.le_refl _)), HN.out.2.2⟩
theorem Own.inner2 {A B C G : Ob} (h : Own w0 W (A.and (B.and (C.and G)))) : Own w0 W (A.and (B.and (C.and G))) := h
theorem wt_o (h : Own w0 W ((worldO p c X).and F))  : Calls prog 36 #[.pointer (some ⟨p, 0, none⟩)] W fun e w' => e = .returned (int i64 X.D.t) ∧ Below W.heap.size W w' := by
 obtain ⟨d, v, h⟩ := wopen h
 have hb := h.box
 have x0 := hb.1 0
 have x1 := hb.1 1
 simp at x0 x1
 have hlt := hb.2.2.1
 obtain ⟨z0, z1, z2⟩ := ltz hlt
 have H := hid h
 have HC := hid (fun V (hV : Own w0 V ((deskO d c X.D).and ((boxO p #[.pointer (some ⟨d, 0, none⟩), v] 83).and ((slO 32 11 v X.L.length (cellsR bunL X.L)).and F)))) => tick_o hV)
 have H2 := hid h.swap.inner2
 clear h hb
 go_enter Tryz.func36, Tryz.ntmps36
 go_wp2_with fail
 refine (HC.out _ (H2.out.grow bg)).mono ?_
 rintro e w' ⟨rfl, hb⟩
 have HB := hid hb
 clear hb
 go_wp2_with fail
 go_ret
 exact ⟨rfl, Below.trans (Below.mono (B := W.heap.size) bg (Nat.le_refl _)) (HB.out.mono (by simp))⟩
theorem wwaits_o (h : Own w0 W ((worldO p c X).and F)) (ho : CfgOk c) : Calls prog 20 #[.pointer (some ⟨p, 0, none⟩)] W fun e w' => ∃ v, e = .returned v ∧ RNew cmC 34 16 W w' v X.D.q := by
 obtain ⟨d, v, h⟩ := wopen h
 have hb := h.box
 have x0 := hb.1 0
 have x1 := hb.1 1
 simp at x0 x1
 have hlt := hb.2.2.1
 obtain ⟨z0, z1, z2⟩ := ltz hlt
 have H := hid h
 have HC := hid (fun V (hV : Own w0 V ((deskO d c X.D).and ((boxO p #[.pointer (some ⟨d, 0, none⟩), v] 83).and ((slO 32 11 v X.L.length (cellsR bunL X.L)).and F)))) => waiting_o hV ho)
 have H2 := hid h.swap.inner2
 clear h hb
 go_enter Tryz.func20, Tryz.ntmps20
 go_wp2_with fail
 refine (HC.out _ (H2.out.grow bg)).mono ?_
 rintro e w' ⟨va, rfl, hn⟩
 obtain ⟨pw, cw, rfl⟩ := sl_frm hn.1
 have HN := hid hn
 clear hn
 go_wp2_with fail
 go_ret
 exact ⟨_, rfl, HN.out.1, Below.trans (Below.mono (B := W.heap.size) bg (Nat.le_refl _)) (HN.out.2.1.mono (Nat.le_refl _)), HN.out.2.2⟩
theorem wnames_o (h : Own w0 W ((worldO p c X).and F)) (li : List Nid) (hli : (listF X.D.M).map toNid = li) : Calls prog 29 #[.pointer (some ⟨p, 0, none⟩)] W fun e w' => ∃ v, e = .returned v ∧ RNew nidL 30 3 W w' v li := by
 obtain ⟨d, v, h⟩ := wopen h
 have hb := h.box
 have x0 := hb.1 0
 have x1 := hb.1 1
 simp at x0 x1
 have hlt := hb.2.2.1
 obtain ⟨z0, z1, z2⟩ := ltz hlt
 have H := hid h
 have HC := hid (fun V (hV : Own w0 V ((deskO d c X.D).and ((boxO p #[.pointer (some ⟨d, 0, none⟩), v] 83).and ((slO 32 11 v X.L.length (cellsR bunL X.L)).and F)))) => (show Calls prog 64 #[.pointer (some ⟨d, 0, none⟩)] V (fun e w' => ∃ v, e = .returned v ∧ RNew nidL 30 3 V w' v li) from hli ▸ alive_o hV))
 have H2 := hid h.swap.inner2
 clear h hb
 go_enter Tryz.func29, Tryz.ntmps29
 go_wp2_with fail
 refine (HC.out _ (H2.out.grow bg)).mono ?_
 rintro e w' ⟨va, rfl, hn⟩
 obtain ⟨pw, cw, rfl⟩ := sl_frm hn.1
 have HN := hid hn
 clear hn
 go_wp2_with fail
 go_ret
 exact ⟨_, rfl, HN.out.1, Below.trans (Below.mono (B := W.heap.size) bg (Nat.le_refl _)) (HN.out.2.1.mono (Nat.le_refl _)), HN.out.2.2⟩
theorem own_made {w0 W : World} {X : Ob} (h : Own w0 W X) : Made w0 W X := by
 obtain ⟨o, h1, h2, h3⟩ := h
 exact ⟨o, h1, h3, h2⟩
end
theorem wnew_ok (cols rows side radius speed ids queue : Int) (w : World) (ho : CfgOk ⟨cols, rows, side, radius, speed, ids, queue⟩) :
 Calls prog 17 #[.agg #[int i64 cols, int i64 rows, int i64 side, int i64 radius, int i64 speed, int i64 ids, int i64 queue]] w fun e w' => ∃ p, e = .returned (.tuple #[.pointer (some ⟨p, 0, none⟩), int i64 0]) ∧ Made w w' (worldO p ⟨cols, rows, side, radius, speed, ids, queue⟩ (newW ⟨cols, rows, side, radius, speed, ids, queue⟩)) := by
 have HN := hid (fun V => dnew_ok cols rows side radius speed ids queue V ho)
 clear ho
 go_enter Tryz.func17, Tryz.ntmps17
 go_wp2_with fail
 generalize hw1 : World.alloc w _ = w1
 have hb1 : Below w.heap.size w w1 := by rw [← hw1]; exact bg
 clear hw1
 refine (HN.out _).mono ?_
 rintro e w2 ⟨d, rfl, hm⟩
 have h2 := ((Own.nil w).grow hb1).made hm
 have H2 := hid h2
 clear hm h2 HN hb1
 go_wp2_with fail
 go_ret2
 have hnil : Made w2 w2 (slO 32 11 (.slice none 0 0) ([] : List Bun).length (cellsR bunL [])) := made_sl ⟨rfl, .inl ⟨rfl, rfl⟩⟩ (Below.refl _ _) (fun g hg => by cases hg)
 have h3 := ((H2.out.made hnil).made (made_box w2 #[.pointer (some ⟨d, 0, none⟩), .slice none 0 0] 83)).inner fun _ h => and_swap' h
 exact ⟨_, rfl, own_made (wshut (X := newW ⟨cols, rows, side, radius, speed, ids, queue⟩) h3).fst⟩
theorem wnew_bad (cols rows side radius speed ids queue : Int) (w : World) (ho : ¬ CfgOk ⟨cols, rows, side, radius, speed, ids, queue⟩) :
 Calls prog 17 #[.agg #[int i64 cols, int i64 rows, int i64 side, int i64 radius, int i64 speed, int i64 ids, int i64 queue]] w fun e w' => e = .returned (.tuple #[.pointer none, int i64 1]) ∧ Below w.heap.size w w' := by
 have HC := hid (fun W => dnew_bad cols rows side radius speed ids queue W ho)
 clear ho
 go_enter Tryz.func17, Tryz.ntmps17
 go_wp2_with (go_at_call 43; refine belA (HC.out _) fun d os => ?_)
 go_ret2
 exact ⟨rfl, bg⟩
end
end Go.Proofs.YtoimjjhopljdmaaGreat

/-
  Chapter texts TpH TpE TpG TpN WoA WoK RnS RdC RdG: what the claim reaches of them. Conditions stand at each theorem.
-/
import Derived.Test.YtoimjjhopljdmaaGreatProg
import Derived.WalkKit
import Derived.WalkSpells
import Derived.WalkLawsBesides
import Derived.Handy
import Derived.Lib.Hide
import Derived.Lib.QuietBelow
import Derived.BigQuiet
import Derived.Deep.RegionHeld3
import Derived.Deep.RegionWith
import Derived.Deep.DeepFit
import Derived.Deep.DeepCutAuto
import Derived.Deep.LoopGhost
import Derived.Deep.Light
import Derived.Lib.MinMax
import Derived.StillTailTactics
import Derived.BigRegion
import Derived.Shelf.RegionOpenPlain
import Derived.Shelf.SlSortCmp.KitK
import Derived.Sort.WalkB2
import Derived.Sort.WalkB12
import Derived.Sort.LotA
import Derived.Shelf.SlSortCmp.Insertion
import Derived.Test.YtoimjjhopljdmaaGreatRows
import Derived.ProofKit
import Derived.OpenShut
import Derived.Carry
import Derived.ChangeSlices
import Derived.Deep.Slices
import Derived.Shelf.SlicesQ.Load
import Derived.Deep.AppendLies
import Derived.Shelf.SlicesE.DeleteFunc
import Derived.Shelf.SlicesQ.IndexFunc
import Derived.Deep.RegionLaw
import Derived.Deep.RegionLawGrows
import Derived.StillTail
import Derived.Lib.SliceRun
import Derived.Lib.Overlaps
import Derived.Lib.AppendZerosOnto
import Derived.Laws.Externs
import Derived.Laws.IdiomCopy
import Derived.Laws.NewBlocks
import Derived.Test.YtoimjjhopljdmaaGreatQ01
import Derived.Test.YtoimjjhopljdmaaGreatQ02
import Derived.Test.YtoimjjhopljdmaaGreatQ03
import Derived.Test.YtoimjjhopljdmaaGreatQ04
import Derived.Test.YtoimjjhopljdmaaGreatQ05
import Derived.Test.YtoimjjhopljdmaaGreatQ06
import Derived.Test.YtoimjjhopljdmaaGreatQ07
import Derived.Test.YtoimjjhopljdmaaGreatQ08
import Derived.Test.YtoimjjhopljdmaaGreatQ09
import Derived.Test.YtoimjjhopljdmaaGreatQ10
import Derived.Test.YtoimjjhopljdmaaGreatQ11
import Derived.Test.YtoimjjhopljdmaaGreatQ12
import Derived.Test.YtoimjjhopljdmaaGreatQ13
import Derived.Test.YtoimjjhopljdmaaGreatQ14
import Derived.Test.YtoimjjhopljdmaaGreatQ15
import Derived.Test.YtoimjjhopljdmaaGreatQ16
import Derived.Test.YtoimjjhopljdmaaGreatQ17
import Derived.Test.YtoimjjhopljdmaaGreatQ18
import Derived.Test.YtoimjjhopljdmaaGreatQ19
import Derived.Test.YtoimjjhopljdmaaGreatQ20
import Derived.Test.YtoimjjhopljdmaaGreatQ21
import Derived.Test.YtoimjjhopljdmaaGreatQ22
import Derived.Test.YtoimjjhopljdmaaGreatQ23
import Derived.Test.YtoimjjhopljdmaaGreatQ24
import Derived.Test.YtoimjjhopljdmaaGreatQ25
import Derived.Test.YtoimjjhopljdmaaGreatQ26
import Derived.Test.YtoimjjhopljdmaaGreatQ27
import Derived.Test.YtoimjjhopljdmaaGreatQ28
import Derived.Test.YtoimjjhopljdmaaGreatQ29
import Derived.Test.YtoimjjhopljdmaaGreatQ30
import Derived.Test.YtoimjjhopljdmaaGreatQ31
import Derived.Test.YtoimjjhopljdmaaGreatQ32
import Derived.Test.YtoimjjhopljdmaaGreatQ33
import Derived.Test.YtoimjjhopljdmaaGreatQ34
import Derived.Test.YtoimjjhopljdmaaGreatQ35
import Derived.Test.YtoimjjhopljdmaaGreatQ36
import Derived.Test.YtoimjjhopljdmaaGreatQ37
import Derived.Test.YtoimjjhopljdmaaGreatQ38
import Derived.Test.YtoimjjhopljdmaaGreatQ39
import Derived.Test.YtoimjjhopljdmaaGreatQ40
import Derived.Test.YtoimjjhopljdmaaGreatR02
import Derived.Test.YtoimjjhopljdmaaGreatR01
namespace Go.Proofs.YtoimjjhopljdmaaGreat
open Go.RowKit
theorem good_pos {c : Cfg} {z : Int} {b b' : Bun} (h : GoodZ c z b) (hc : checkB b' = true) (hx : b'.x = b.x) (hy : b'.y = b.y) : GoodZ c z b' := ⟨hc, by rw [hx, hy]; exact h.2.1, by rw [hx, hy]; exact h.2.2⟩
theorem good_hit {c : Cfg} {z : Int} {hs : List Hit} {b : Bun} (h : GoodZ c z b) (hk : (hitF hs b).2 = true) : GoodZ c z (hitF hs b).1 := by
  unfold hitF at hk ⊢
  cases hf : hs.find? fun h => idEq h.s h.i h.g b.s b.i b.g with
  | none => exact h
  | some x =>
    rw [hf] at hk
    have hk : (hurtF b x.n).2 = true := hk
    show GoodZ c z (hurtF b x.n).1
    refine good_pos h ((hurt_may b x.n h.1).trans hk) ?_ ?_ <;> (unfold hurtF at hk ⊢; split; rfl; rename_i h1; rw [if_neg h1] at hk; split; (rename_i h2; rw [if_pos h2] at hk; cases hk); rfl)
theorem some_not1 {m : Int} (h : someB m = true) : hasB m 1 = false := by
  unfold someB at h
  simp only [Bool.and_eq_true] at h
  have h2 := h.2
  rw [and1_zero] at h2
  simpa using h2
theorem good_obey {c : Cfg} {z : Int} {m : Cm} {b : Bun} (hm : cmdB m = true) (hk1 : m.k ≠ 1) (h : GoodZ c z b) (hk : (obeyF b m).2 = true) : GoodZ c z (obeyF b m).1 := by
  by_cases hid : idEq m.s m.i m.g b.s b.i b.g = false
  · have e : obeyF b m = (b, true) := by unfold obeyF; rw [if_pos hid]
    rw [e]; exact h
  · have hid2 : idEq m.s m.i m.g b.s b.i b.g = true := by simpa using hid
    have e : m = { m with s := b.s, i := b.i, g := b.g } := by
      simp only [idEq, Bool.and_eq_true, beq_iff_eq] at hid2
      obtain ⟨⟨h1, h2⟩, h3⟩ := hid2
      rw [← h1, ← h2, ← h3]
    have hc := obey_may b m h.1 hm
    rw [← e] at hc
    refine good_pos h (hc.trans hk) ?_ ?_
    all_goals
      unfold cmdB at hm
      have n1 : (m.k == 1) = false := by simpa using hk1
      rw [n1] at hm
      simp only [Bool.false_eq_true, if_false] at hm
      unfold obeyF at hk ⊢
      rw [if_neg hid] at hk ⊢
      by_cases h2 : m.k = 2
      · rw [if_pos h2] at hk; cases hk
      · rw [if_neg h2] at hk ⊢
        by_cases h3 : m.k = 3
        · rw [if_pos h3]
          have n3 : (m.k == 3) = true := by simpa using h3
          rw [n3] at hm
          simp only [if_true, Bool.and_eq_true] at hm
          have := some_not1 hm.1.1.2
          unfold withF
          simp [this]
        · rw [if_neg h3]
          by_cases h4 : m.k = 4
          · rw [if_pos h4]
            have n3 : (m.k == 3) = false := by simpa using h3
            have n4 : (m.k == 4) = true := by simpa using h4
            rw [n3, n4] at hm
            simp only [Bool.false_eq_true, if_false, if_true, Bool.and_eq_true] at hm
            have := some_not1 hm.1.1
            unfold withoutF
            simp [this]
          · rw [if_neg h4]
theorem check_at {b : Bun} {x y : Int} (h : checkB b = true) (hx : -1073741824 ≤ x ∧ x ≤ 1073741824) (hy : -1073741824 ≤ y ∧ y ≤ 1073741824) : checkB { b with x := x, y := y } = true := by
  unfold checkB rightB at h ⊢
  simp only [Bool.and_eq_true] at h ⊢
  obtain ⟨⟨⟨⟨⟨⟨⟨⟨⟨h1, h2⟩, h3⟩, h4⟩, h5⟩, h6⟩, h7⟩, h8⟩, h9⟩, h10⟩ := h
  refine ⟨⟨⟨⟨⟨⟨⟨⟨⟨h1, ?_⟩, ?_⟩, h4⟩, h5⟩, h6⟩, h7⟩, h8⟩, h9⟩, h10⟩
  · unfold withinB; rw [h9]; simp [inR, hx.1, hx.2]
  · unfold withinB; rw [h9]; simp [inR, hy.1, hy.2]
theorem good_pass {c : Cfg} (ho : CfgOk c) {z : Int} {b : Bun} (h : GoodZ c z b) (hk : (passF c b).2 = true) : checkB (passF c b).1 = true ∧ (ofF c (passF c b).1.x (passF c b).1.y = z ∨ ofF c (passF c b).1.x (passF c b).1.y ∈ besideF c z) := by
  obtain ⟨p1, p2, p3, p4⟩ := ho.prod
  have hin := inF_in ho (if hasB b.m 2 then addF b.x (max (-c.speed) (min c.speed b.vx)) else b.x) (if hasB b.m 2 then addF b.y (max (-c.speed) (min c.speed b.vy)) else b.y)
  have hmv : inW c (moveF c b).x (moveF c b).y = true := hin
  have hcm : checkB (moveF c b) = true := by
    unfold inW at hmv
    have hmv := of_decide_eq_true hmv
    have e : moveF c b = { b with x := (moveF c b).x, y := (moveF c b).y } := rfl
    rw [e]
    exact check_at h.1 ⟨by omega, by omega⟩ ⟨by omega, by omega⟩
  have hst := move_stays ho b h.2.1
  rw [h.2.2] at hst
  have hage := age_may (moveF c b) hcm
  have e : passF c b = ageF (moveF c b) := rfl
  rw [e] at hk ⊢
  have hpos : (ageF (moveF c b)).1.x = (moveF c b).x ∧ (ageF (moveF c b)).1.y = (moveF c b).y := by
    generalize moveF c b = y at *
    unfold ageF at hk ⊢
    split
    · exact ⟨rfl, rfl⟩
    · rename_i h1
      rw [if_neg h1] at hk
      split
      · rename_i h2; rw [if_pos h2] at hk; cases hk
      · exact ⟨rfl, rfl⟩
  refine ⟨hage.trans hk, ?_⟩
  rw [hpos.1, hpos.2]
  exact hst.imp (fun e => e.symm) id
end Go.Proofs.YtoimjjhopljdmaaGreat
namespace Go.Proofs.YtoimjjhopljdmaaGreat
open Go.RowKit Go.Sort
def begsN (c : Cfg) (z : Int) (ms : List Cm) : List Nid := (ms.filter fun m => decide (m.k = 1) && begZ c z m).map fun m => idOf m.b
theorem begM_cons (m : Cm) (ms : List Cm) : begM (m :: ms) = (if m.k = 1 then [idOf m.b] else []) ++ begM ms := by
  unfold begM
  rw [List.filter_cons]
  by_cases h : m.k = 1 <;> simp [h]
theorem begsN_cons (c : Cfg) (z : Int) (m : Cm) (ms : List Cm) : begsN c z (m :: ms) = begsN c z [m] ++ begsN c z ms := by
  unfold begsN
  rw [List.filter_cons, List.filter_cons]
  cases (decide (m.k = 1) && begZ c z m) <;> simp
theorem begsN_sub (c : Cfg) (z : Int) (ms : List Cm) : (begsN c z ms).Sublist (begM ms) := by
  unfold begsN begM
  refine List.Sublist.map _ ?_
  rw [show (fun m => decide (m.k = 1) && begZ c z m) = fun m => begZ c z m && decide (m.k = 1) from funext fun m => Bool.and_comm _ _, ← List.filter_filter]
  exact List.filter_sublist
theorem cmd_ids {c : Cfg} {z : Int} {l : List Bun} (h : Rise l) (m : Cm) (hf : m.k = 1 → idOf m.b ∉ l.map idOf) : ((cmdL c z l m).map idOf ++ cmdN l m).Perm (l.map idOf ++ begsN c z [m]) := by
  unfold cmdL cmdN begsN
  by_cases hk : m.k = 1
  · rw [if_pos hk, if_pos hk, spawnB_iff h]
    have hn : hasN l (idOf m.b) = false := by
      cases hh : hasN l (idOf m.b) with
      | false => rfl
      | true => exact absurd ((hasN_iff l _).1 hh) (hf hk)
    rw [hn]
    simp only [Bool.not_false, Bool.true_and, List.append_nil]
    show ((if begZ c z m = true then insF l (findB m.b.s m.b.i m.b.g l 0).1.toNat m.b else l).map idOf).Perm _
    by_cases hb : begZ c z m = true
    · rw [if_pos hb]
      refine ((ins_perm l _ m.b).map idOf).trans ?_
      simp only [List.map_cons, List.filter_cons, hk, hb, decide_true, Bool.and_self, if_true, List.filter_nil, List.map_nil]
      exact List.perm_append_comm (l₁ := [idOf m.b])
    · rw [if_neg hb]
      simp [hk, hb]
  · rw [if_neg hk, if_neg hk]
    have := each_ids (keep_obey m) l
    simpa [hk] using this
theorem cmds_ids (c : Cfg) (z : Int) : ∀ (ms : List Cm) {l : List Bun}, Rise l → (∀ n ∈ begM ms, n ∉ l.map idOf) → (begM ms).Nodup → ((cmdsL c z l ms).map idOf ++ cmdsN c z l ms).Perm (l.map idOf ++ begsN c z ms)
  | [], l, _, _, _ => by simp [cmdsL, cmdsN, begsN]
  | m :: ms, l, h, hf, hn => by
    rw [begM_cons] at hf hn
    have h2 := cmd_ids (c := c) (z := z) h m fun hk => hf _ (by simp [hk])
    have hl' : Rise (cmdL c z l m) := cmdL_rise h m
    have h1 := cmds_ids c z ms hl' (fun n hm hx => by
      have hx2 := h2.mem_iff.1 (List.mem_append_left _ hx)
      rcases List.mem_append.1 hx2 with h3 | h3
      · exact hf n (List.mem_append_right _ hm) h3
      · have h4 := (begsN_sub c z [m]).subset h3
        rw [begM_cons] at h4
        simp only [begM, List.filter_nil, List.map_nil, List.append_nil] at h4
        exact (List.nodup_append.1 hn).2.2 n h4 n hm rfl) (List.nodup_append.1 hn).2.1
    rw [begsN_cons]
    show ((cmdsL c z (cmdL c z l m) ms).map idOf ++ (cmdN l m ++ cmdsN c z (cmdL c z l m) ms)).Perm _
    rw [List.perm_iff_count]
    intro a
    have a1 := h1.count_eq a
    have a2 := h2.count_eq a
    simp only [List.count_append] at a1 a2 ⊢
    omega
theorem tick_ids (c : Cfg) (z : Int) {own : List Bun} (near : List Bun) {ms : List Cm} (hu : UnId own) (hf : ∀ n ∈ begM ms, n ∉ own.map idOf) (hn : (begM ms).Nodup) :
    ((leftL c z own near ms).map idOf ++ deadN c z own near ms).Perm (own.map idOf ++ begsN c z ms) := by
  have h1 := each_ids (keep_hit (hitsF c.radius own near)) (stableF cmpBun own)
  have h2 := (stF_perm own).map idOf
  have hr := hurtL_rise c.radius near hu
  have h3 := cmds_ids c z ms hr (fun n hm hx => hf n hm (h2.mem_iff.1 (h1.mem_iff.1 (List.mem_append_left _ hx)))) hn
  have h4 := each_ids (keep_pass c) (midL c z own near ms)
  unfold leftL deadN
  rw [List.perm_iff_count]
  intro a
  have a1 := h1.count_eq a
  have a2 := h2.count_eq a
  have a3 := h3.count_eq a
  have a4 := h4.count_eq a
  unfold hurtL hurtN midL at *
  unfold hurtL at *
  simp only [List.count_append] at a1 a2 a3 a4 ⊢
  omega
end Go.Proofs.YtoimjjhopljdmaaGreat
namespace Go.Proofs.YtoimjjhopljdmaaGreat
open Go.RowKit
theorem left_split (c : Cfg) (z : Int) (own near : List Bun) (ms : List Cm) : (ownL c z own near ms ++ goneL c z own near ms).Perm (leftL c z own near ms) := by
  unfold ownL goneL
  exact List.filter_append_perm _ _
theorem names_nodup (c : Cfg) (z : Int) {own : List Bun} {ms : List Cm} (hu : UnId own) (hf : ∀ n ∈ begM ms, n ∉ own.map idOf) (hn : (begM ms).Nodup) : (own.map idOf ++ begsN c z ms).Nodup := by
  refine List.nodup_append.2 ⟨?_, hn.sublist (begsN_sub c z ms), fun a ha b hb e => ?_⟩
  · unfold List.Nodup
    rw [List.pairwise_map]
    exact hu.imp fun {a b} h e => h ((sameId_iff a b).2 e)
  · subst e
    exact hf a ((begsN_sub c z ms).subset hb) ha
theorem dead_perm (c : Cfg) (z : Int) {own : List Bun} (near : List Bun) {ms : List Cm} (hu : UnId own) (hf : ∀ n ∈ begM ms, n ∉ own.map idOf) (hn : (begM ms).Nodup) : (setN (deadN c z own near ms)).Perm (deadN c z own near ms) := by
  have hp := tick_ids c z near hu hf hn
  have hnd := (hp.nodup_iff.2 (names_nodup c z hu hf hn))
  have h2 := (List.nodup_append.1 hnd).2.1
  obtain ⟨h3, h4⟩ := setN_ok (deadN c z own near ms)
  have h5 : (setN (deadN c z own near ms)).Nodup := h3.imp fun {a b} h e => by subst e; rw [befN_irr] at h; cases h
  exact (List.perm_ext_iff_of_nodup h5 h2).2 h4
theorem tick_total (c : Cfg) (z : Int) {own : List Bun} (near : List Bun) {ms : List Cm} (hu : UnId own) (hf : ∀ n ∈ begM ms, n ∉ own.map idOf) (hn : (begM ms).Nodup) :
    (ownL c z own near ms ++ goneL c z own near ms).length + (setN (deadN c z own near ms)).length = own.length + (begsN c z ms).length := by
  have h1 := (left_split c z own near ms).length_eq
  have h2 := (dead_perm c z near hu hf hn).length_eq
  have h3 := (tick_ids c z near hu hf hn).length_eq
  simp only [List.length_append, List.length_map] at h1 h3 ⊢
  omega
end Go.Proofs.YtoimjjhopljdmaaGreat
namespace Go.Proofs.YtoimjjhopljdmaaGreat
open Go.RowKit
theorem left_len (c : Cfg) (z : Int) (own near : List Bun) (ms : List Cm) : (leftL c z own near ms).length ≤ own.length + ms.length :=
  Nat.le_trans (eachL_len _ _) (Nat.le_trans (cmdsL_len _ _ _ _) (Nat.add_le_add_right (Nat.le_trans (eachL_len _ _) (by rw [stableF_len]; exact Nat.le_refl _)) _))
theorem dead_len (c : Cfg) (z : Int) {own near : List Bun} {ms : List Cm} (hu : UnId own) (hf : ∀ n ∈ begM ms, n ∉ own.map idOf) (hn : (begM ms).Nodup) : (setN (deadN c z own near ms)).length ≤ own.length + ms.length := by
  have h1 := tick_total c z near hu hf hn
  have h2 : (begsN c z ms).length ≤ ms.length := by unfold begsN; rw [List.length_map]; exact List.length_filter_le _ _
  omega
theorem own_whole (c : Cfg) (l : List Bun) (ms : List Cm) : ownL c (-1) l [] ms = leftL c (-1) l [] ms ∧ goneL c (-1) l [] ms = [] := by
  have h : ∀ b : Bun, inZ c (-1) b = true := fun b => by unfold inZ; simp
  unfold ownL goneL
  exact ⟨List.filter_eq_self.2 fun b _ => h b, List.filter_eq_nil_iff.2 fun b _ => by simp [h b]⟩
end Go.Proofs.YtoimjjhopljdmaaGreat
namespace Go.Proofs.YtoimjjhopljdmaaGreat
open Go.RowKit
theorem new_inv {c : Cfg} (ho : CfgOk c) : WInv c 0 (newW c) := by
  have hi : c.ids.toNat ≤ 16 := by have := ho.i1; omega
  have hM : ∀ m ∈ (newD c).M, m = fresh c.ids.toNat c.ids.toNat := fun m hm => (List.mem_replicate.1 hm).2
  have hcr : c.cols * c.rows ≤ 16 := Int.mul_le_mul ho.c1 ho.r1 (by have := ho.r0; omega) (by omega)
  refine ⟨⟨hi, by simp [newW, newD]; omega, fun m hm => ?_, fun m hm => ?_⟩, by simp [newW, newD], rfl, Int.le_refl _, Int.le_refl _, List.Pairwise.nil, fun b hb => (by cases hb), fun m hm => (by cases hm), Nat.le_refl _, List.nodup_nil, fun a => ?_⟩
  · rw [hM m hm]; simp [fresh, freshIx]
  · rw [hM m hm]; exact fresh_good _ hi
  · constructor
    · intro h
      obtain ⟨x, hx, ha, _⟩ := alN_iff.1 h
      obtain ⟨k, i, m, _, _, hm, hx⟩ := ixOf_iff.1 hx
      rw [hM m (List.mem_of_getElem? hm)] at hx
      have hx2 := List.mem_of_getElem? hx
      simp only [fresh, freshIx] at hx2
      have := (List.mem_replicate.1 hx2).2
      rw [this] at ha
      cases ha
    · intro h; cases h
theorem admit_ok {c : Cfg} {D : Dk} {m : Cm} (h : (admitF c D m).1 = 0) : (admitF c D m).2 = ⟨if m.k = 1 then (takeF D.M m.b.s m.b.i m.b.g).2 else D.M, D.q ++ [m], D.t, D.op⟩ ∧ cmdB m = true := by
  unfold admitF at h ⊢
  split at h
  · cases h
  rename_i h1
  rw [if_neg h1]
  have hc : cmdB m = true := by cases hb : cmdB m with
    | true => rfl
    | false => exact absurd hb h1
  split at h
  · cases h
  rename_i h2
  rw [if_neg h2]
  split at h
  · rename_i hk
    rw [if_pos hk, if_pos hk]
    split at h
    · cases h
    rename_i h3
    rw [if_neg h3]
    split at h
    · rename_i h4; exact absurd h h4
    · rename_i h4; rw [if_neg h4]; exact ⟨rfl, hc⟩
  · rename_i hk
    rw [if_neg hk, if_neg hk]
    split at h
    · cases h
    · rename_i h3; rw [if_neg h3]; exact ⟨rfl, hc⟩
structure Called (c : Cfg) (n : Nat) (X : Wo) (m : Cm) : Prop where
  inv : WInv c (n + 1) (callW c X m).2
  e : (callW c X m).1.2 = 0 → (lookF c X.D m).2.2 = 0 ∧ (callW c X m).1.1 = (lookF c X.D m).1
  adm : (lookF c X.D m).2.2 = 0 → (admitF c (lookedF c X.D m) (lookF c X.D m).1).1 = 0
  t : (callW c X m).2.D.t = X.D.t
  q : (callW c X m).1.2 = 0 → (callW c X m).2.D.q = X.D.q ++ [(callW c X m).1.1]
  used : ∀ a, usedN X.D.M a → usedN (callW c X m).2.D.M a
  fresh : (callW c X m).1.2 = 0 → (callW c X m).1.1.k = 1 → ¬ usedN X.D.M (idOf (callW c X m).1.1.b) ∧ usedN (callW c X m).2.D.M (idOf (callW c X m).1.1.b)
theorem begM_snoc (q : List Cm) (m : Cm) : begM (q ++ [m]) = begM q ++ if m.k = 1 then [idOf m.b] else [] := by
  unfold begM
  rw [List.filter_append, List.map_append]
  congr 1
  by_cases h : m.k = 1 <;> simp [h]
theorem call_inv {c : Cfg} {n : Nat} {X : Wo} (h : WInv c n X) (m : Cm) : Called c n X m := by
  have hla := look_adm c X.D m
  rcases look_cases c X.D m with ⟨e, he, h2⟩ | ⟨hk, hh, h2⟩ | ⟨hk, h2⟩
  · have hc : callW c X m = ((zeroCm, e), X) := by
      unfold callW
      rw [h2]
      simp only
      rw [if_pos he]
    exact ⟨by rw [hc]; exact h.more, fun h3 => by rw [hc] at h3; exact absurd h3 he, fun h3 => by rw [h2] at h3; exact absurd h3 he, by rw [hc], fun h3 => by rw [hc] at h3; exact absurd h3 he, fun a ha => by rw [hc]; exact ha, fun h3 => by rw [hc] at h3; exact absurd h3 he⟩
  · obtain ⟨f, g, hf, hg, b1, b2⟩ := beg_pool h.gm hh
    rw [← hf] at hg
    rw [← hf, ← hg] at h2
    generalize hzn : ofF c m.b.x m.b.y = zn at *
    have hz0 : 0 ≤ zn := by
      obtain ⟨m0, _, _, _, hm0, _⟩ := head_ok h.gm.good hh
      obtain ⟨k, rfl, _⟩ := shOf_iff.1 hm0
      omega
    have hl := (hla _ _ h.gm.good h.gm.m16 h2).1 hk
    obtain ⟨s', i', g', hname, hnew, hof, ha1, ha2⟩ := hl
    have key : ∀ D1 : Dk, lookedF c X.D m = D1 → D1.q = X.D.q → D1.t = X.D.t → D1.op = X.D.op → (admitF c D1 (nameCm m zn f g)).1 = 0 → Beg c.ids.toNat X.D.M zn (takeF D1.M zn f g).2 ⟨zn, f, g⟩ → Called c n X m := by
      intro D1 hD1 q1 q2 q3 had hbeg
      obtain ⟨had2, hcm⟩ := admit_ok had
      have hkn : (nameCm m zn f g).k = 1 := hk
      rw [if_pos hkn] at had2
      have hc : callW c X m = ((nameCm m zn f g, 0), ⟨⟨(takeF D1.M zn f g).2, X.D.q ++ [nameCm m zn f g], X.D.t, X.D.op⟩, X.L⟩) := by
        unfold callW
        rw [h2]
        simp only
        rw [if_neg (by simp), hD1, had, had2, q1, q2, q3]
        rfl
      have hid : idOf (nameCm m zn f g).b = ⟨zn, f, g⟩ := rfl
      have hbm : begM (X.D.q ++ [nameCm m zn f g]) = begM X.D.q ++ [⟨zn, f, g⟩] := by rw [begM_snoc, if_pos hkn, hid]
      have hni : (⟨zn, f, g⟩ : Nid) ∉ X.L.map idOf ++ begM X.D.q := fun hm => hbeg.fresh ((h.al _).2 hm).used
      refine ⟨?_, fun _ => by rw [hc, h2]; exact ⟨rfl, rfl⟩, fun _ => by rw [h2, hD1]; exact had, by rw [hc], fun _ => by rw [hc], fun a ha => by rw [hc]; exact hbeg.used a ha, fun _ _ => by
        rw [hc]
        exact ⟨hbeg.fresh, ((hbeg.al _).2 (.inr rfl)).used⟩⟩
      rw [hc]
      refine ⟨hbeg.gm, hbeg.len.trans h.ml, h.op, h.t0, by have := h.t1; simp only; omega, h.rise, h.good, fun a ha => ?_, by have := h.len; simp; omega, ?_, fun a => ?_⟩
      · rcases List.mem_append.1 ha with ha | ha
        · exact h.qok a ha
        · obtain rfl : a = nameCm m zn f g := by simpa using ha
          exact ⟨hcm, fun _ => by show 0 ≤ ofF c m.b.x m.b.y; rw [hzn]; exact hz0⟩
      · rw [hbm, ← List.append_assoc, List.nodup_append]
        refine ⟨h.nd, by simp, fun a ha b hb => ?_⟩
        obtain rfl : b = ⟨zn, f, g⟩ := by simpa using hb
        intro e; subst e; exact hni ha
      · rw [hbm, hbeg.al, h.al, ← List.append_assoc, List.mem_append (s := X.L.map idOf ++ begM X.D.q), List.mem_singleton]
    cases hb : (headF X.D.M zn).2.1 with
    | true =>
      rw [hb] at h2 ha1
      have hD1 : lookedF c X.D m = X.D := by unfold lookedF; rw [h2]; rfl
      have had := ha1 rfl
      exact key X.D hD1 rfl rfl rfl had (b1 hb).2
    | false =>
      rw [hb] at h2 ha2
      have hD1 : lookedF c X.D m = (reservedF X.D zn f).2 := by unfold lookedF; rw [h2]; rfl
      have had := (ha2 rfl).2.2.2
      have e1 : s' = zn ∧ i' = f := by
        simp only [nameCm, Cm.mk.injEq, Bun.mk.injEq, true_and, and_true] at hname
        exact ⟨hname.1.symm, hname.2.1.symm⟩
      rw [e1.1, e1.2] at had
      exact key (reservedF X.D zn f).2 hD1 rfl rfl rfl had (b2 hb).2.2
  · have hl := (hla _ _ h.gm.good h.gm.m16 h2).2 hk
    have hD1 : lookedF c X.D m = X.D := by unfold lookedF; rw [h2]; rfl
    obtain ⟨had2, hcm⟩ := admit_ok hl.2.2
    rw [if_neg hk] at had2
    have hc : callW c X m = ((m, 0), ⟨⟨X.D.M, X.D.q ++ [m], X.D.t, X.D.op⟩, X.L⟩) := by
      unfold callW
      rw [h2]
      simp only
      rw [if_neg (by simp), hD1, hl.2.2, had2]
    have hbm : begM (X.D.q ++ [m]) = begM X.D.q := by rw [begM_snoc, if_neg hk, List.append_nil]
    refine ⟨?_, fun _ => by rw [hc, h2]; exact ⟨rfl, rfl⟩, fun _ => by rw [h2, hD1]; exact hl.2.2, by rw [hc], fun _ => by rw [hc], fun a ha => by rw [hc]; exact ha, fun _ h3 => by rw [hc] at h3; exact absurd h3 hk⟩
    rw [hc]
    refine ⟨h.gm, h.ml, h.op, h.t0, by have := h.t1; simp only; omega, h.rise, h.good, fun a ha => ?_, by have := h.len; simp; omega, by rw [hbm]; exact h.nd, fun a => by rw [hbm]; exact h.al a⟩
    rcases List.mem_append.1 ha with ha | ha
    · exact h.qok a ha
    · obtain rfl : a = m := by simpa using ha
      exact ⟨hcm, fun h3 => absurd h3 hk⟩
theorem begs_all {c : Cfg} : ∀ {ms : List Cm}, (∀ m ∈ ms, m.k = 1 → 0 ≤ ofF c m.b.x m.b.y) → begsN c (-1) ms = begM ms := by
  intro ms h
  unfold begsN begM
  congr 1
  refine List.filter_congr fun m hm => ?_
  by_cases hk : m.k = 1
  · have h0 := h m hm hk
    unfold begZ
    simp [hk, h0]
  · simp [hk]
theorem of_nn {c : Cfg} (ho : CfgOk c) {x y : Int} (h : inW c x y = true) : 0 ≤ ofF c x y := by
  have h2 := h
  unfold inW at h2
  have h2 := of_decide_eq_true h2
  unfold ofF
  rw [if_pos h]
  have hs := ho.s0
  have h3 : 0 ≤ x / c.side := Int.ediv_nonneg (by omega) (by omega)
  have h4 : 0 ≤ y / c.side := Int.ediv_nonneg (by omega) (by omega)
  have h5 : 0 ≤ y / c.side * c.cols := Int.mul_nonneg h4 (by have := ho.c0; omega)
  omega
theorem pass_in {c : Cfg} (ho : CfgOk c) {b : Bun} (hk : (passF c b).2 = true) : inW c (passF c b).1.x (passF c b).1.y = true := by
  have hin := inF_in ho (if hasB b.m 2 then addF b.x (max (-c.speed) (min c.speed b.vx)) else b.x) (if hasB b.m 2 then addF b.y (max (-c.speed) (min c.speed b.vy)) else b.y)
  have hmv : inW c (moveF c b).x (moveF c b).y = true := hin
  have e : passF c b = ageF (moveF c b) := rfl
  rw [e] at hk ⊢
  have hpos : (ageF (moveF c b)).1.x = (moveF c b).x ∧ (ageF (moveF c b)).1.y = (moveF c b).y := by
    generalize moveF c b = y at *
    unfold ageF at hk ⊢
    split
    · exact ⟨rfl, rfl⟩
    · rename_i h1
      rw [if_neg h1] at hk
      split
      · rename_i h2; rw [if_pos h2] at hk; cases hk
      · exact ⟨rfl, rfl⟩
  rw [hpos.1, hpos.2]
  exact hmv
theorem good_left {c : Cfg} (ho : CfgOk c) {l : List Bun} {ms : List Cm} (hm : ∀ m ∈ ms, cmdB m = true) (h : ∀ b ∈ l, GoodZ c (ofF c b.x b.y) b ∧ 0 ≤ ofF c b.x b.y) : ∀ b ∈ leftL c (-1) l [] ms, GoodZ c (ofF c b.x b.y) b ∧ 0 ≤ ofF c b.x b.y := by
  have hz : ∀ {b b' : Bun} {z : Int}, GoodZ c z b' → 0 ≤ z → GoodZ c (ofF c b'.x b'.y) b' ∧ 0 ≤ ofF c b'.x b'.y := fun h1 h2 => ⟨⟨h1.1, h1.2.1, rfl⟩, by rw [h1.2.2]; exact h2⟩
  have h1 : ∀ b ∈ hurtL c.radius l [], GoodZ c (ofF c b.x b.y) b ∧ 0 ≤ ofF c b.x b.y := fun b hb => by
    obtain ⟨x, hx, hk, rfl⟩ := each_mem.1 hb
    have := h x ((stF_perm l).mem_iff.1 hx)
    exact hz (b := x) (good_hit this.1 hk) this.2
  have h2 : ∀ (ms : List Cm) {l : List Bun}, (∀ m ∈ ms, cmdB m = true) → (∀ b ∈ l, GoodZ c (ofF c b.x b.y) b ∧ 0 ≤ ofF c b.x b.y) → ∀ b ∈ cmdsL c (-1) l ms, GoodZ c (ofF c b.x b.y) b ∧ 0 ≤ ofF c b.x b.y := by
    intro ms
    induction ms with
    | nil => intro l _ h; exact h
    | cons m ms ih =>
      intro l hm h
      refine ih (fun m' h' => hm m' (List.mem_cons_of_mem _ h')) fun b hb => ?_
      have hmm := hm m (by simp)
      unfold cmdL at hb
      split at hb
      · rename_i hk
        split at hb
        · rename_i hs
          rcases List.mem_cons.1 ((ins_perm l _ m.b).mem_iff.1 hb) with rfl | hb
          · unfold spawnB at hs
            simp only [Bool.and_eq_true, Bool.or_eq_true, decide_eq_true_eq] at hs
            obtain ⟨⟨_, h0⟩, _⟩ := hs
            have hck : checkB m.b = true := by
              unfold cmdB at hmm
              have n1 : (m.k == 1) = true := by simpa using hk
              rw [n1] at hmm
              simp only [if_true, Bool.and_eq_true] at hmm
              exact hmm.2
            refine ⟨⟨hck, ?_, rfl⟩, h0⟩
            cases hi : inW c m.b.x m.b.y with
            | true => rfl
            | false => unfold ofF at h0; rw [hi] at h0; simp at h0
          · exact h b hb
        · exact h b hb
      · rename_i hk
        obtain ⟨x, hx, h1, rfl⟩ := each_mem.1 hb
        have := h x hx
        exact hz (b := x) (good_obey hmm hk this.1 h1) this.2
  intro b hb
  obtain ⟨x, hx, hk, rfl⟩ := each_mem.1 hb
  have hx' := h2 ms hm h1 x hx
  obtain ⟨q1, q2⟩ := good_pass ho hx'.1 hk
  have q3 := pass_in ho hk
  have q4 : 0 ≤ ofF c (passF c x).1.x (passF c x).1.y := of_nn ho q3
  exact ⟨⟨q1, q3, rfl⟩, q4⟩
theorem step_inv {c : Cfg} (ho : CfgOk c) {n : Nat} {X : Wo} (h : WInv c n X) (hn : n ≤ 1000000) :
    WInv c (n + 1) (stepW c X).2 ∧ stepW c X = ((deadW c X, 0), ⟨⟨(freesF X.D.M 0 (deadW c X)).2, [], X.D.t + 1, false⟩, ownL c (-1) X.L [] X.D.q⟩) ∧ (∀ a, usedN X.D.M a → usedN (stepW c X).2.D.M a) := by
  have hb : beginF X.D = ((X.D.t + 1, X.D.q, 0), { X.D with q := [], t := X.D.t + 1, op := true }) := by
    unfold beginF beginB
    have := h.t1
    rw [h.op, if_neg (by simp; omega)]
  have he : stepW c X = ((deadW c X, 0), ⟨⟨(freesF X.D.M 0 (deadW c X)).2, [], X.D.t + 1, false⟩, ownL c (-1) X.L [] X.D.q⟩) := by
    unfold stepW
    rw [hb]
    simp only
    rw [if_neg (by simp)]
    unfold closeF
    rw [if_neg (by simp)]
  obtain ⟨w1, w2⟩ := own_whole c X.L X.D.q
  obtain ⟨f1, f2, f3, f4⟩ := frees_pool (deadW c X) 0 h.gm
  have hu := rise_un h.rise
  have hnd := List.nodup_append.1 h.nd
  have hf : ∀ a ∈ begM X.D.q, a ∉ X.L.map idOf := fun a ha hb => hnd.2.2 a hb a ha rfl
  have hids := tick_ids c (-1) [] hu hf hnd.2.1
  rw [begs_all fun m hm => (h.qok m hm).2, ← w1] at hids
  have hr : Rise (ownL c (-1) X.L [] X.D.q) := by rw [w1]; exact leftL_rise c (-1) [] X.D.q hu
  refine ⟨?_, he, fun a ha => by rw [he]; exact f4 a ha⟩
  rw [he]
  refine ⟨f1, f2.trans h.ml, rfl, by have := h.t0; simp only; omega, by have := h.t1; simp only; omega, hr, ?_, fun m hm => (by cases hm), ?_, ?_, fun a => ?_⟩
  · simp only
    rw [w1]
    exact good_left ho (fun m hm => (h.qok m hm).1) h.good
  · have h1 := left_len c (-1) X.L [] X.D.q
    have := h.len
    simp only [w1, List.length_nil]
    omega
  · rw [show begM ([] : List Cm) = [] from rfl, List.append_nil]
    exact rise_nodup hr
  · simp only
    rw [f3, h.al, show begM ([] : List Cm) = [] from rfl, List.append_nil, ← hids.mem_iff]
    unfold deadW
    rw [(setN_ok _).2 a, List.mem_append]
    constructor
    · rintro ⟨h1, h2⟩; exact h1.resolve_right h2
    · intro h1
      refine ⟨.inl h1, fun h2 => ?_⟩
      have hnd2 := (hids.nodup_iff).2 h.nd
      exact (List.nodup_append.1 hnd2).2.2 a h1 a h2 rfl
end Go.Proofs.YtoimjjhopljdmaaGreat
namespace Go.Proofs.YtoimjjhopljdmaaGreat
open Go.RowKit

theorem dead_few {c : Cfg} {n : Nat} {X : Wo} (h : WInv c n X) : (deadW c X).length ≤ n := by
  have hnd := List.nodup_append.1 h.nd
  have := dead_len c (-1) (near := []) (rise_un h.rise) (fun a ha hb => hnd.2.2 a hb a ha rfl) hnd.2.1
  have := h.len
  unfold deadW
  omega
theorem wstep_i {w0 W : World} {F : Ob} {p : Nat} {c : Cfg} {n : Nat} {X : Wo} (h : Own w0 W ((worldO p c X).and F)) (ho : CfgOk c) (hi : WInv c n X) (hn : n ≤ 400) :
    Calls Tryz.prog 25 #[.pointer (some ⟨p, 0, none⟩)] W fun e w' => ∃ v, e = .returned (.tuple #[v, .int .i64 0]) ∧ Own w0 w' ((worldO p c (stepW c X).2).and ((slO 30 3 v (deadW c X).length (cellsR nidL (deadW c X))).and F)) :=
  wstep_ok h ho (by unfold beginB; rw [hi.op]; have := hi.t1; simp; omega) (fun b hb => good_fit (hi.good b hb).1.1) (fun m hm => cmd_fit (hi.qok m hm).1) (by have := hi.len; omega) (by have := dead_few hi; omega)
attribute [local go_sem ↓] loadVar_ldM storeVar_stM
end Go.Proofs.YtoimjjhopljdmaaGreat
namespace Go.Proofs.YtoimjjhopljdmaaGreat
open Go.RowKit
theorem rin_cut {β : Type} {enc : β → List Value} {w : World} {p : Option Addr} {cap : Nat} {l : List β} (k : Nat) (h : RIn enc w (.slice p l.length cap) l) : RIn enc w (.slice p (l.take k).length cap) (l.take k) := by
  obtain ⟨p', cap', hv, h1, h2, h3, h4⟩ := h
  simp only [Value.slice.injEq, true_and] at hv
  obtain ⟨rfl, rfl⟩ := hv
  have hle : (l.take k).length ≤ l.length := by rw [List.length_take]; omega
  refine ⟨p, cap, rfl, by omega, h2, by omega, fun hn => ?_⟩
  obtain ⟨blk, off, rfl, h5, h6⟩ := h4 (fun e => hn (by rw [e]; simp))
  refine ⟨blk, off, rfl, h5, fun t u hu => h6 t u ?_⟩
  have e : cellsR enc l = cellsR enc (l.take k) ++ cellsR enc (l.drop k) := by rw [← cellsR_app, List.take_append_drop]
  rw [e, List.getElem?_append_left (List.getElem?_eq_some_iff.1 hu).1]
  exact hu
end Go.Proofs.YtoimjjhopljdmaaGreat
namespace Go.Proofs.YtoimjjhopljdmaaGreat
open Go.ChangeShapes Go.WideShapes Go.ChangeAt Go.RowKit

theorem cells_cfg : Tryz.prog.cellsOf 23 = 7 := by kernel_rfl
set_option maxRecDepth 100000 in
theorem read_cfg {H : Type} {enc : TypeId × Value → H} {w : World} {base : Nat} {spare : Nat → Bool} {held : Bool} {fuel : Nat} {c : List Value} {x : DataW H × List MemPlace} (h : DataW.trod enc Tryz.prog w base spare held fuel 23 c = some x) :
    ∃ cols rows side radius speed ids queue : Int, c = [.int .i64 cols, .int .i64 rows, .int .i64 side, .int .i64 radius, .int .i64 speed, .int .i64 ids, .int .i64 queue] := by
  obtain ⟨xs, n, _, _, hc, hl, hf⟩ := DataW.trod_struct Tryz.underlying23 h
  rw [cells_cfg] at hc
  match c, hc with
  | [c0, c1, c2, c3, c4, c5, c6], _ =>
    match xs, hl with
    | [x0, x1, x2, x3, x4, x5, x6], _ =>
      have h0 := hf 0 _ rfl
      have h1 := hf 1 _ rfl
      have h2 := hf 2 _ rfl
      have h3 := hf 3 _ rfl
      have h4 := hf 4 _ rfl
      have h5 := hf 5 _ rfl
      have h6 := hf 6 _ rfl
      simp [cells_int] at h0 h1 h2 h3 h4 h5 h6
      obtain ⟨cols, e0, _⟩ := read_int h0
      obtain ⟨rows, e1, _⟩ := read_int h1
      obtain ⟨side, e2, _⟩ := read_int h2
      obtain ⟨radius, e3, _⟩ := read_int h3
      obtain ⟨speed, e4, _⟩ := read_int h4
      obtain ⟨ids, e5, _⟩ := read_int h5
      obtain ⟨queue, e6, _⟩ := read_int h6
      simp at e0 e1 e2 e3 e4 e5 e6
      subst e0 e1 e2 e3 e4 e5 e6
      exact ⟨cols, rows, side, radius, speed, ids, queue, rfl⟩
end Go.Proofs.YtoimjjhopljdmaaGreat
namespace Go.Proofs.YtoimjjhopljdmaaGreat
open Go.ChangeShapes Go.WideShapes Go.ChangeAt Go.RowKit
theorem cellsR_split {β : Type} {enc : β → List Value} {size : Nat} (hk : ∀ x, (enc x).length = size) : ∀ (l : List β) (t : Nat) (u : Value), (cellsR enc l)[t]? = some u → ∃ b, l[t / size]? = some b ∧ (enc b)[t % size]? = some u := fun l t u h => by
  have hlt := (List.getElem?_eq_some_iff.1 h).1
  rw [cellsR_len enc size hk] at hlt
  have hs : 0 < size := by rcases Nat.eq_zero_or_pos size with h | h; · subst h; omega
                           · exact h
  have hd : t / size < l.length := (Nat.div_lt_iff_lt_mul hs).2 hlt
  refine ⟨l[t / size], List.getElem?_eq_getElem hd, ?_⟩
  have e := cellsR_get enc size hk l (t / size) (t % size) _ (List.getElem?_eq_getElem hd) (Nat.mod_lt _ hs)
  rw [← e, Nat.mul_comm, Nat.div_add_mod]
  exact h
section
variable {H : Type} {enc : TypeId × Value → H} {W : World} {base : Nat} {spare : Nat → Bool} {held : Bool} {fuel : Nat}
theorem slice_cells {β : Type} {en : β → List Value} {size : Nat} (hk : ∀ x, (en x).length = size) (hs : 0 < size) {Good : β → Prop} {TS T : TypeId} (hT : Tryz.prog.underlying TS = some (.slice T)) (hz : Tryz.prog.cellsOf T = size)
    (rd : ∀ {fuel : Nat} {c : List Value} {x : DataW H × List MemPlace}, DataW.trod enc Tryz.prog W base spare held fuel T c = some x → ∃ b, c = en b ∧ Good b)
    {c : List Value} {x : DataW H × List MemPlace} (h : DataW.trod enc Tryz.prog W base spare held fuel TS c = some x) : ∃ p cap l, c = [.slice p l.length cap] ∧ RIn en W (.slice p l.length cap) l ∧ ∀ b ∈ l, Good b := by
  rcases Go.Deep.open_slice hT h with ⟨h0, _⟩ | ⟨⟨b, off, sp⟩, len, cap, m, n, D, Pl, h0, _, hl, hm, hmm, _, hi⟩
  · exact ⟨none, 0, [], h0, ⟨none, 0, rfl, by simp [maxLen], fun _ => rfl, Nat.le_refl _, fun h => absurd rfl h⟩, by simp⟩
  · subst h0
    have hle : len ≤ m := by rw [hmm]; split <;> omega
    rw [hz] at hi
    by_cases hz0 : len = 0
    · subst hz0
      exact ⟨_, cap, [], rfl, ⟨_, cap, rfl, by simp [maxLen], (fun h => by cases h), Nat.zero_le _, fun h => absurd rfl h⟩, by simp⟩
    have hsp : sp = none := by
      obtain ⟨cs', hc, ht⟩ := hi 0 (by omega)
      obtain ⟨_, hlen, hcell⟩ := World.cells?_some hc
      have hc0 := hcell 0 (by omega)
      rw [List.getElem?_eq_getElem (by omega)] at hc0
      simp only [Addr.add, Nat.zero_mul, if_true] at hc0
      cases sp with
      | none => rfl
      | some q =>
        simp only [World.cell?, Option.isSome_some, if_true] at hc0
        split at hc0 <;> cases hc0
    subst hsp
    have hq : ∀ q, q < len → ∃ c : β, (∀ j, j < size → W.cell? ⟨b, off + q * size + j, none⟩ = (en c)[j]?) ∧ Good c := by
      intro q hql
      obtain ⟨cs', hc, ht⟩ := hi q (by omega)
      obtain ⟨_, hlen, hcell⟩ := World.cells?_some hc
      obtain ⟨y, rfl, hfit⟩ := rd ht
      refine ⟨y, fun j hj => ?_, hfit⟩
      have e : (⟨b, off + q * size + j, none⟩ : Addr) = ((⟨b, off, none⟩ : Addr).add (q * size)).add j := by
        unfold Addr.add
        by_cases h1 : q * size = 0
        · by_cases h2 : j = 0 <;> simp [h1, h2]
        · by_cases h2 : j = 0 <;> simp [h1, h2]
      rw [e]
      exact hcell j hj
    obtain ⟨l, hll, hlp⟩ := list_of len hq
    subst hll
    refine ⟨_, cap, l, rfl, ⟨some ⟨b, off, none⟩, cap, rfl, by omega, (fun h => by cases h), by omega, fun hn => ⟨b, off, rfl, ?_, fun t u hu => ?_⟩⟩, fun c hc => ?_⟩
    · have h1 : 0 < l.length := List.length_pos_iff.2 hn
      have h0 := (hlp 0 l[0] (List.getElem?_eq_getElem h1)).1 0 hs
      have h2 : 0 < (en l[0]).length := by rw [hk]; exact hs
      rw [List.getElem?_eq_getElem h2] at h0
      exact World.block_lt_of_cell? W _ h0
    · obtain ⟨c, hc, hcu⟩ := cellsR_split hk l t u hu
      have h1 := (hlp _ c hc).1 (t % size) (Nat.mod_lt _ hs)
      rw [show off + t = off + t / size * size + t % size by rw [Nat.add_assoc, Nat.mul_comm, Nat.div_add_mod], h1, hcu]
    · obtain ⟨q, hi', e⟩ := List.getElem_of_mem hc
      exact (hlp q c (by rw [← e]; exact List.getElem?_eq_getElem hi')).2
end
set_option maxRecDepth 100000 in
theorem read_cmdF {H : Type} {enc : TypeId × Value → H} {w : World} {base : Nat} {spare : Nat → Bool} {held : Bool} {fuel : Nat} {c : List Value} {x : DataW H × List MemPlace} (h : DataW.trod enc Tryz.prog w base spare held fuel 34 c = some x) : ∃ m : Cm, c = cmC m ∧ CmFit m := by
  obtain ⟨xs, n, _, _, hc, hl, hf⟩ := DataW.trod_struct Tryz.underlying34 h
  rw [cells_cmd] at hc
  match c, hc with
  | [c0, c1, c2, c3, c4, c5, c6, c7, c8, c9, c10, c11, c12, c13, c14, c15], _ =>
    match xs, hl with
    | [x0, x1, x2, x3], _ =>
      have h0 := hf 0 _ rfl
      have h1 := hf 1 _ rfl
      have h2 := hf 2 _ rfl
      have h3 := hf 3 _ rfl
      simp [cells_int, cells_id, cells_bun] at h0 h1 h2 h3
      obtain ⟨k, e0, _⟩ := read_int h0
      obtain ⟨s, i, g, e1, _⟩ := read_id h1
      obtain ⟨es, ei, eg, m, x, y, vx, vy, hp, pw, lf, e2, hb⟩ := read_bun h2
      obtain ⟨mask, e3, hk⟩ := read_int h3
      simp at e0 e1 e2 e3
      obtain ⟨e10, e11, e12⟩ := e1
      obtain ⟨f0, f1, f2, f3, f4, f5, f6, f7, f8, f9, f10⟩ := e2
      subst e0 e10 e11 e12 f0 f1 f2 f3 f4 f5 f6 f7 f8 f9 f10 e3
      exact ⟨⟨k, s, i, g, ⟨es, ei, eg, m, x, y, vx, vy, hp, pw, lf⟩, mask⟩, rfl, hb, hk⟩
end Go.Proofs.YtoimjjhopljdmaaGreat

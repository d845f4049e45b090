/-
  Chapter texts TpI TpJ TpD TpK TpN: what the claim reaches of them. Conditions stand at each theorem.
-/
import Derived.Test.YtoimjjhopljdmaaGreatY37
import Derived.Test.YtoimjjhopljdmaaGreatY20
import Derived.Test.YtoimjjhopljdmaaGreatY08
namespace Go.Proofs.YtoimjjhopljdmaaGreat
open Go.RowKit Go.Sort
theorem hitOf_id {r : Int} {own oth : List Bun} {b : Bun} {h : Hit} (e : hitOf r own oth b = some h) : h.s = b.s ∧ h.i = b.i ∧ h.g = b.g := by
  unfold hitOf at e
  split at e
  · split at e
    · cases e; exact ⟨rfl, rfl, rfl⟩
    · cases e
  · cases e
theorem find_hits (r : Int) (own oth : List Bun) (b : Bun) : ∀ l : List Bun, UnId l → b ∈ l → (l.filterMap (hitOf r own oth)).find? (fun h => idEq h.s h.i h.g b.s b.i b.g) = hitOf r own oth b
  | [], _, h => by cases h
  | x :: l, hu, h => by
    obtain ⟨h1, h2⟩ := List.pairwise_cons.1 hu
    rw [List.filterMap_cons]
    rcases List.mem_cons.1 h with rfl | h
    · cases e : hitOf r own oth b with
      | some y =>
        obtain ⟨e1, e2, e3⟩ := hitOf_id e
        simp only
        rw [List.find?_cons]
        have : idEq y.s y.i y.g b.s b.i b.g = true := by rw [e1, e2, e3]; simp [idEq]
        rw [this]
      | none =>
        simp only
        rw [List.find?_eq_none]
        intro y hy
        obtain ⟨x', hx', e'⟩ := List.mem_filterMap.1 hy
        obtain ⟨e1, e2, e3⟩ := hitOf_id e'
        intro hq
        simp only [idEq, Bool.and_eq_true, beq_iff_eq] at hq
        exact h1 x' hx' ⟨by rw [← e1]; exact hq.1.1.symm, by rw [← e2]; exact hq.1.2.symm, by rw [← e3]; exact hq.2.symm⟩
    · have ih := find_hits r own oth b l h2 h
      cases e : hitOf r own oth x with
      | none => simp only; exact ih
      | some y =>
        obtain ⟨e1, e2, e3⟩ := hitOf_id e
        simp only
        rw [List.find?_cons]
        have : idEq y.s y.i y.g b.s b.i b.g = false := by
          cases hq : idEq y.s y.i y.g b.s b.i b.g with
          | false => rfl
          | true =>
            simp only [idEq, Bool.and_eq_true, beq_iff_eq] at hq
            exact absurd ⟨by rw [← e1]; exact hq.1.1, by rw [← e2]; exact hq.1.2, by rw [← e3]; exact hq.2⟩ (h1 b h)
        rw [this]
        exact ih
theorem hit_of (r : Int) {own : List Bun} (oth : List Bun) (hu : UnId own) {b : Bun} (hb : b ∈ own) : hitF (hitsF r own oth) b = match hitOf r own oth b with | some h => hurtF b h.n | none => (b, true) := by
  have h := find_hits r own oth b (stableF cmpBun own) (hu.perm (stF_perm own).symm) ((stF_perm own).mem_iff.2 hb)
  unfold hitF hitsF
  rw [h]
  cases hitOf r own oth b <;> rfl
def Apart (cnt : Int) (lW : List Bun) (lz : Int → List Bun) : Prop := ∀ n, ∃ j, 0 ≤ j ∧ j < cnt ∧ ∀ k, 0 ≤ k → k < cnt → lk (lz k) n = if k = j then lk lW n else none
theorem ofF_rng {c : Cfg} (ho : CfgOk c) {x y : Int} (h : 0 ≤ ofF c x y) : ofF c x y < c.cols * c.rows := by
  cases hi : inW c x y with
  | true => exact (ofF_in ho hi).2.2.2.2.2.2
  | false => unfold ofF at h; rw [hi] at h; simp at h
theorem apart_cmd {c : Cfg} (ho : CfgOk c) {lW : List Bun} {lz : Int → List Bun} (hW : Rise lW) (hz : ∀ k, Rise (lz k)) (m : Cm) (hf : m.k = 1 → lk lW (idOf m.b) = none) (h : Apart (c.cols * c.rows) lW lz) :
    Apart (c.cols * c.rows) (cmdL c (-1) lW m) (fun k => cmdL c k (lz k) m) := fun n => by
  obtain ⟨j, j0, j1, hj⟩ := h n
  by_cases hn : n = ownN m
  · by_cases hk : m.k = 1
    · have hno : ownN m = idOf m.b := by unfold ownN; rw [if_pos hk]
      have hl : lk lW n = none := by rw [hn, hno]; exact hf hk
      by_cases h0 : 0 ≤ ofF c m.b.x m.b.y
      · refine ⟨ofF c m.b.x m.b.y, h0, ofF_rng ho h0, fun k k0 k1 => ?_⟩
        have hlk : lk (lz k) n = none := by rw [hj k k0 k1, hl]; split <;> rfl
        rw [cmdL_lk (hz k), cmdL_lk hW, if_pos hn, if_pos hn, hlk, hl]
        unfold upd begZ
        simp only [if_pos hk]
        by_cases hkk : k = ofF c m.b.x m.b.y
        · subst hkk; simp [h0]
        · rw [if_neg hkk]
          have e1 : ¬ ofF c m.b.x m.b.y = k := fun e => hkk e.symm
          have e2 : ¬ k < 0 := by omega
          simp [e1, e2]
      · refine ⟨j, j0, j1, fun k k0 k1 => ?_⟩
        have hlk : lk (lz k) n = none := by rw [hj k k0 k1, hl]; split <;> rfl
        rw [cmdL_lk (hz k), cmdL_lk hW, if_pos hn, if_pos hn, hlk, hl]
        unfold upd begZ
        simp [hk, h0]
    · refine ⟨j, j0, j1, fun k k0 k1 => ?_⟩
      rw [cmdL_lk (hz k), cmdL_lk hW, if_pos hn, if_pos hn, hj k k0 k1]
      unfold upd
      simp only [if_neg hk]
      split <;> rfl
  · refine ⟨j, j0, j1, fun k k0 k1 => ?_⟩
    rw [cmdL_lk (hz k), cmdL_lk hW, if_neg hn, if_neg hn]
    exact hj k k0 k1
theorem apart_each {cnt : Int} {f : Bun → Bun × Bool} (hf : KeepId f) {lW : List Bun} {lz : Int → List Bun} (hW : Rise lW) (hz : ∀ k, Rise (lz k)) (h : Apart cnt lW lz) : Apart cnt (eachL f lW) (fun k => eachL f (lz k)) := fun n => by
  obtain ⟨j, j0, j1, hj⟩ := h n
  refine ⟨j, j0, j1, fun k k0 k1 => ?_⟩
  rw [lk_each hf (hz k), lk_each hf hW, hj k k0 k1]
  split <;> rfl
theorem apart_ext {cnt : Int} {lW lW' : List Bun} {lz lz' : Int → List Bun} (h : Apart cnt lW lz) (e : lW' = lW) (hz : ∀ k, 0 ≤ k → k < cnt → lz' k = lz k) : Apart cnt lW' lz' := fun n => by
  obtain ⟨j, j0, j1, hj⟩ := h n
  exact ⟨j, j0, j1, fun k k0 k1 => by rw [hz k k0 k1, e]; exact hj k k0 k1⟩
theorem apart_parts {c : Cfg} (ho : CfgOk c) {l : List Bun} (hu : UnId l) (hin : ∀ b ∈ l, inW c b.x b.y = true) : Apart (c.cols * c.rows) (stableF cmpBun l) (fun k => stableF cmpBun (partF c k l)) := fun n => by
  have hW : Rise (stableF cmpBun l) := stF_rise hu
  have hz : ∀ k, Rise (stableF cmpBun (partF c k l)) := fun k => stF_rise (hu.sub List.filter_sublist)
  have hc := ho.cnt
  cases hl : lk (stableF cmpBun l) n with
  | none =>
    refine ⟨0, by omega, by omega, fun k k0 k1 => ?_⟩
    rw [show (if k = 0 then none else none : Option Bun) = none by split <;> rfl, lk_none]
    intro hm
    obtain ⟨b, hb, e⟩ := List.mem_map.1 hm
    have hb2 := (List.mem_filter.1 ((stF_perm _).mem_iff.1 hb)).1
    exact (lk_none n).1 hl (List.mem_map.2 ⟨b, (stF_perm l).mem_iff.2 hb2, e⟩)
  | some b =>
    obtain ⟨hb, e⟩ := (lk_iff hW n b).1 hl
    have hb2 := (stF_perm l).mem_iff.1 hb
    obtain ⟨_, _, _, _, _, m0, m1⟩ := ofF_in ho (hin b hb2)
    refine ⟨ofF c b.x b.y, m0, m1, fun k k0 k1 => ?_⟩
    by_cases hk : k = ofF c b.x b.y
    · rw [if_pos hk, lk_iff (hz k)]
      exact ⟨(stF_perm _).mem_iff.2 (List.mem_filter.2 ⟨hb2, by simp [hk]⟩), e⟩
    · rw [if_neg hk, lk_none]
      intro hm
      obtain ⟨b', hb', e'⟩ := List.mem_map.1 hm
      obtain ⟨h1, h2⟩ := List.mem_filter.1 ((stF_perm _).mem_iff.1 hb')
      have : b' = b := hu.one h1 hb2 ((sameId_iff b' b).2 (e'.trans e.symm))
      subst this
      have h3 : ofF c b'.x b'.y = k := by simpa using h2
      exact hk h3.symm
end Go.Proofs.YtoimjjhopljdmaaGreat
namespace Go.Proofs.YtoimjjhopljdmaaGreat
open Go.RowKit Go.Sort
theorem apart_cmds {c : Cfg} (ho : CfgOk c) : ∀ (ms : List Cm) {lW : List Bun} {lz : Int → List Bun}, Rise lW → (∀ k, Rise (lz k)) → (∀ n ∈ begM ms, n ∉ lW.map idOf) → (begM ms).Nodup → Apart (c.cols * c.rows) lW lz →
    Apart (c.cols * c.rows) (cmdsL c (-1) lW ms) (fun k => cmdsL c k (lz k) ms)
  | [], _, _, _, _, _, _, h => h
  | m :: ms, lW, lz, hW, hz, hf, hn, h => by
    rw [begM_cons] at hf hn
    have hfm : m.k = 1 → idOf m.b ∉ lW.map idOf := fun hk => hf _ (by simp [hk])
    have h2 := cmd_ids (c := c) (z := -1) hW m hfm
    have h3 := apart_cmd ho hW hz m (fun hk => (lk_none _).2 (hfm hk)) h
    refine apart_cmds ho ms (cmdL_rise hW m) (fun k => cmdL_rise (hz k) m) (fun n hm hx => ?_) (List.nodup_append.1 hn).2.1 h3
    have hx2 := h2.mem_iff.1 (List.mem_append_left _ hx)
    rcases List.mem_append.1 hx2 with h4 | h4
    · exact hf n (List.mem_append_right _ hm) h4
    · have h5 := (begsN_sub c (-1) [m]).subset h4
      rw [begM_cons] at h5
      simp only [begM, List.filter_nil, List.map_nil, List.append_nil] at h5
      exact (List.nodup_append.1 hn).2.2 n h5 n hm rfl
theorem rise_nd {l : List Bun} (h : Rise l) : l.Nodup := h.imp fun {a b} h1 e => by subst e; rw [bef_befN, befN_irr] at h1; cases h1
theorem apart_perm {cnt : Nat} {lW : List Bun} {lz : Int → List Bun} (hW : Rise lW) (hz : ∀ k, Rise (lz k)) (h : Apart (cnt : Int) lW lz) : ((List.range cnt).flatMap fun k : Nat => lz k).Perm lW := by
  refine (List.perm_ext_iff_of_nodup ?_ (rise_nd hW)).2 fun b => ?_
  · unfold List.Nodup
    rw [List.pairwise_flatMap]
    refine ⟨fun k _ => rise_nd (hz k), ?_⟩
    refine (List.Pairwise.and_mem.1 List.pairwise_lt_range).imp ?_
    rintro k k' ⟨hk, hk', hlt⟩ x hx y hy e
    subst e
    obtain ⟨j, j0, j1, hj⟩ := h (idOf x)
    have e1 := hj k (by omega) (by have := List.mem_range.1 hk; omega)
    have e2 := hj k' (by omega) (by have := List.mem_range.1 hk'; omega)
    rw [(lk_iff (hz k) _ x).2 ⟨hx, rfl⟩] at e1
    rw [(lk_iff (hz k') _ x).2 ⟨hy, rfl⟩] at e2
    split at e1
    · split at e2
      · omega
      · cases e2
    · cases e1
  · rw [List.mem_flatMap]
    obtain ⟨j, j0, j1, hj⟩ := h (idOf b)
    constructor
    · rintro ⟨k, hk, hb⟩
      have e1 := hj k (by omega) (by have := List.mem_range.1 hk; omega)
      rw [(lk_iff (hz k) _ b).2 ⟨hb, rfl⟩] at e1
      split at e1
      · exact ((lk_iff hW _ b).1 e1.symm).1
      · cases e1
    · intro hb
      have e1 := hj j j0 j1
      rw [if_pos rfl, (lk_iff hW _ b).2 ⟨hb, rfl⟩] at e1
      refine ⟨j.toNat, List.mem_range.2 (by omega), ?_⟩
      rw [show ((j.toNat : Nat) : Int) = j by omega]
      exact ((lk_iff (hz j) _ b).1 e1).1
theorem each_congr {f g : Bun → Bun × Bool} {l : List Bun} (h : ∀ b ∈ l, f b = g b) : eachL f l = eachL g l := by
  unfold eachL
  have e : l.filter (fun x => (f x).2) = l.filter (fun x => (g x).2) := List.filter_congr fun x hx => by rw [h x hx]
  rw [e]
  exact List.map_congr_left fun x hx => by rw [h x (List.mem_filter.1 hx).1]
theorem apart_left {c : Cfg} (ho : CfgOk c) {l : List Bun} {near : Int → List Bun} {ms : List Cm} (hu : UnId l) (hin : ∀ b ∈ l, inW c b.x b.y = true) (hf : ∀ n ∈ begM ms, n ∉ l.map idOf) (hn : (begM ms).Nodup)
    (hh : ∀ k b, b ∈ partF c k l → hitF (hitsF c.radius (partF c k l) (near k)) b = hitF (hitsF c.radius l []) b) :
    Apart (c.cols * c.rows) (leftL c (-1) l [] ms) (fun k => leftL c k (partF c k l) (near k) ms) := by
  have hup : ∀ k, UnId (partF c k l) := fun k => hu.sub List.filter_sublist
  have h0 := apart_parts ho hu hin
  have hW : Rise (stableF cmpBun l) := stF_rise hu
  have hz : ∀ k, Rise (stableF cmpBun (partF c k l)) := fun k => stF_rise (hup k)
  have h1 := apart_each (keep_hit (hitsF c.radius l [])) hW hz h0
  have h2 : Apart (c.cols * c.rows) (hurtL c.radius l []) (fun k => hurtL c.radius (partF c k l) (near k)) := apart_ext h1 rfl fun k _ _ => by
    unfold hurtL
    exact each_congr fun b hb => hh k b ((stF_perm _).mem_iff.1 hb)
  have hids := each_ids (keep_hit (hitsF c.radius l [])) (stableF cmpBun l)
  have h3 := apart_cmds ho ms (hurtL_rise c.radius [] hu) (fun k => hurtL_rise c.radius (near k) (hup k)) (fun n hm hx => hf n hm (((stF_perm l).map idOf).mem_iff.1 (hids.mem_iff.1 (List.mem_append_left _ hx)))) hn h2
  exact apart_each (keep_pass c) (cmdsL_rise c (-1) ms (hurtL_rise c.radius [] hu)) (fun k => cmdsL_rise c k ms (hurtL_rise c.radius (near k) (hup k))) h3
end Go.Proofs.YtoimjjhopljdmaaGreat
namespace Go.Proofs.YtoimjjhopljdmaaGreat
open Go.RowKit Go.Sort
def powc (r : Int) (e c : Bun) : Int := if takeC r e c then min 1073741824 c.pw else 0
theorem addF_min {q p : Int} (h0 : 0 ≤ q) (h1 : q ≤ 1073741824) (hp : 0 ≤ p) : addF q p = min 1073741824 (q + min 1073741824 p) := by
  unfold addF clampF
  omega
theorem takesF_min (r : Int) (e : Bun) : ∀ (l : List Bun) (q : Int), 0 ≤ q → q ≤ 1073741824 → (∀ c ∈ l, 0 ≤ c.pw) → takesF r e q l = min 1073741824 (q + sumP (powc r e) l) ∧ 0 ≤ sumP (powc r e) l
  | [], q, h0, h1, _ => by simp only [takesF, sumP]; omega
  | c :: l, q, h0, h1, h => by
    have hc := h c (by simp)
    unfold takesF
    simp only [sumP]
    cases ht : takeC r e c with
    | true =>
      rw [if_pos rfl]
      have ha := addF_min h0 h1 hc
      obtain ⟨e1, e2⟩ := takesF_min r e l (addF q c.pw) (by rw [ha]; omega) (by rw [ha]; omega) fun x hx => h x (List.mem_cons_of_mem _ hx)
      rw [e1, ha]
      have hp : powc r e c = min 1073741824 c.pw := by unfold powc; rw [if_pos ht]
      rw [hp]
      omega
    | false =>
      rw [if_neg (by simp)]
      obtain ⟨e1, e2⟩ := takesF_min r e l q h0 h1 fun x hx => h x (List.mem_cons_of_mem _ hx)
      have hp : powc r e c = 0 := by unfold powc; rw [if_neg (by simp [ht])]
      rw [e1, hp]
      omega
theorem hitOf_perm (r : Int) {own own' oth oth' : List Bun} (hp : own.Perm own') (hq : oth.Perm oth') (h1 : ∀ c ∈ own, 0 ≤ c.pw) (h2 : ∀ c ∈ oth, 0 ≤ c.pw) (b : Bun) : hitOf r own oth b = hitOf r own' oth' b := by
  have a1 := takesF_min r b own 0 (by omega) (by omega) h1
  have a2 := takesF_min r b oth (takesF r b 0 own) (by rw [a1.1]; omega) (by rw [a1.1]; omega) h2
  have b1 := takesF_min r b own' 0 (by omega) (by omega) fun c hc => h1 c (hp.mem_iff.2 hc)
  have b2 := takesF_min r b oth' (takesF r b 0 own') (by rw [b1.1]; omega) (by rw [b1.1]; omega) fun c hc => h2 c (hq.mem_iff.2 hc)
  have e : takesF r b (takesF r b 0 own) oth = takesF r b (takesF r b 0 own') oth' := by
    rw [a2.1, b2.1, a1.1, b1.1, sumP_perm _ hp, sumP_perm _ hq]
  unfold hitOf
  rw [e]
end Go.Proofs.YtoimjjhopljdmaaGreat
namespace Go.Proofs.YtoimjjhopljdmaaGreat
open Go.RowKit Go.Sort
theorem hit_zone {c : Cfg} (ho : CfgOk c) {l : List Bun} (hu : UnId l) (hin : ∀ b ∈ l, inW c b.x b.y = true) (hp : ∀ b ∈ l, PwOk b) (hl : l.length ≤ 60) (k : Int) (b : Bun) (hb : b ∈ partF c k l) :
    hitF (hitsF c.radius (partF c k l) (wantF c k l)) b = hitF (hitsF c.radius l []) b := by
  obtain ⟨hb1, hb2⟩ := List.mem_filter.1 hb
  have hk : ofF c b.x b.y = k := by simpa using hb2
  obtain ⟨_, _, _, _, _, m0, m1⟩ := ofF_in ho (hin b hb1)
  rw [hk] at m0 m1
  have hpp : ∀ x ∈ partF c k l, PwOk x := fun x hx => hp x (List.mem_filter.1 hx).1
  have hpl : (partF c k l).length ≤ 60 := Nat.le_trans (part_len c k l) hl
  rw [hit_of c.radius (own := partF c k l) (wantF c k l) (hu.sub List.filter_sublist) hb, hit_of c.radius [] hu hb1]
  have e1 := hitOf_near ho m0 m1 hin hp hl hpp hpl hb1 hk
  have e2 := hitOf_perm c.radius (List.Perm.refl (partF c k l)) (stF_perm (wantF c k l)) (fun x hx => (hpp x hx).1) (fun x hx => (hp x (List.mem_filter.1 ((stF_perm _).mem_iff.1 hx)).1).1) b
  have e3 := hitOf_split c.radius l (partF c k l) (othF c k l) (List.filter_append_perm _ _) hp hl b
  rw [← e2, e1, ← e3]
theorem flatMap_perm {α β : Type} {f g : α → List β} : ∀ l : List α, (∀ x ∈ l, (f x).Perm (g x)) → (l.flatMap f).Perm (l.flatMap g)
  | [], _ => List.Perm.refl _
  | x :: l, h => by
    rw [List.flatMap_cons, List.flatMap_cons]
    exact (h x (by simp)).append (flatMap_perm l fun y hy => h y (List.mem_cons_of_mem _ hy))
theorem tick_splits {c : Cfg} (ho : CfgOk c) {cnt : Nat} (hcnt : c.cols * c.rows = (cnt : Int)) {l : List Bun} {ms : List Cm} (hu : UnId l) (hin : ∀ b ∈ l, inW c b.x b.y = true) (hp : ∀ b ∈ l, PwOk b) (hl : l.length ≤ 60) (hf : ∀ n ∈ begM ms, n ∉ l.map idOf) (hn : (begM ms).Nodup) :
    ((List.range cnt).flatMap fun k : Nat => ownL c k (partF c k l) (wantF c k l) ms ++ goneL c k (partF c k l) (wantF c k l) ms).Perm (leftL c (-1) l [] ms) := by
  have h := apart_left ho (near := fun k => wantF c k l) hu hin hf hn fun k b hb => hit_zone ho hu hin hp hl k b hb
  rw [hcnt] at h
  refine List.Perm.trans ?_ (apart_perm (leftL_rise c (-1) [] ms hu) (fun k => leftL_rise c k (wantF c k l) ms (hu.sub List.filter_sublist)) h)
  refine flatMap_perm _ fun k _ => ?_
  unfold ownL goneL
  exact List.filter_append_perm _ _
end Go.Proofs.YtoimjjhopljdmaaGreat
namespace Go.Proofs.YtoimjjhopljdmaaGreat
open Go.RowKit
def zoneL (c : Cfg) (l : List Bun) (ms : List Cm) (k : Nat) : List Bun := ownL c k (partF c k l) (wantF c k l) ms ++ goneL c k (partF c k l) (wantF c k l) ms
def allTo (c : Cfg) (l : List Bun) (ms : List Cm) (k : Nat) : List Bun := (List.range k).flatMap (zoneL c l ms)
theorem allTo_succ (c : Cfg) (l : List Bun) (ms : List Cm) (k : Nat) : allTo c l ms (k + 1) = allTo c l ms k ++ zoneL c l ms k := by unfold allTo; rw [List.range_succ]; simp
theorem left_len (c : Cfg) (z : Int) (own near : List Bun) (ms : List Cm) : (leftL c z own near ms).length ≤ own.length + ms.length :=
  Nat.le_trans (eachL_len _ _) (Nat.le_trans (cmdsL_len _ _ _ _) (Nat.add_le_add_right (Nat.le_trans (eachL_len _ _) (by rw [stableF_len]; exact Nat.le_refl _)) _))
theorem dead_len (c : Cfg) (z : Int) {own near : List Bun} {ms : List Cm} (hu : UnId own) (hf : ∀ n ∈ begM ms, n ∉ own.map idOf) (hn : (begM ms).Nodup) : (setN (deadN c z own near ms)).length ≤ own.length + ms.length := by
  have h1 := tick_total c z near hu hf hn
  have h2 : (begsN c z ms).length ≤ ms.length := by unfold begsN; rw [List.length_map]; exact List.length_filter_le _ _
  omega
theorem zoneL_len (c : Cfg) (l : List Bun) (ms : List Cm) (k : Nat) : (zoneL c l ms k).length ≤ l.length + ms.length := by
  have h1 := (left_split c k (partF c k l) (wantF c k l) ms).length_eq
  have h2 := left_len c k (partF c k l) (wantF c k l) ms
  have h3 : (partF c k l).length ≤ l.length := List.length_filter_le _ _
  unfold zoneL; omega
theorem allTo_len (c : Cfg) (l : List Bun) (ms : List Cm) (k : Nat) : (allTo c l ms k).length ≤ k * (l.length + ms.length) := by
  induction k with
  | zero => simp [allTo]
  | succ k ih =>
    have := zoneL_len c l ms k
    rw [allTo_succ, List.length_append, Nat.add_mul, Nat.one_mul]; omega
theorem own_whole (c : Cfg) (l : List Bun) (ms : List Cm) : ownL c (-1) l [] ms = leftL c (-1) l [] ms ∧ goneL c (-1) l [] ms = [] := by
  have h : ∀ b : Bun, inZ c (-1) b = true := fun b => by unfold inZ; simp
  unfold ownL goneL
  exact ⟨List.filter_eq_self.2 fun b _ => h b, List.filter_eq_nil_iff.2 fun b _ => by simp [h b]⟩
section
variable {c : Cfg} (ho : CfgOk c) {cnt : Nat} (hcnt : c.cols * c.rows = (cnt : Int)) {l : List Bun} {ms : List Cm} (hu : UnId l) (hin : ∀ b ∈ l, inW c b.x b.y = true) (hp : ∀ b ∈ l, PwOk b) (hl : l.length ≤ 60) (hf : ∀ n ∈ begM ms, n ∉ l.map idOf) (hn : (begM ms).Nodup)
include hu hf hn
include ho hcnt hin hp hl
theorem all_whole : stableF cmpBun (allTo c l ms cnt) = ownL c (-1) l [] ms := by
  have h1 := tick_splits ho hcnt hu hin hp hl hf hn
  have h2 : Rise (leftL c (-1) l [] ms) := leftL_rise c (-1) [] ms hu
  rw [(own_whole c l ms).1]
  have h3 : (stableF cmpBun (allTo c l ms cnt)).Perm (leftL c (-1) l [] ms) := (stF_perm _).trans h1
  refine rise_eq (stF_rise ?_) h2 h3
  exact (rise_un h2).perm h1.symm
end
end Go.Proofs.YtoimjjhopljdmaaGreat

/-
  Chapter texts WoA WoB RegW: what the claim reaches of them. Conditions stand at each theorem.
-/
import Derived.Test.YtoimjjhopljdmaaGreatY36
import Derived.Test.YtoimjjhopljdmaaGreatY37
import Derived.Test.YtoimjjhopljdmaaGreatY38
import Derived.Test.YtoimjjhopljdmaaGreatY35
import Derived.Test.YtoimjjhopljdmaaGreatY12
import Derived.Test.YtoimjjhopljdmaaGreatY07
import Derived.Test.YtoimjjhopljdmaaGreatY14
namespace Go.Proofs.YtoimjjhopljdmaaGreat
open Go.RowKit
structure Wo where
  (D : Dk) (L : List Bun)
def callW (c : Cfg) (X : Wo) (m : Cm) : (Cm × Int) × Wo :=
  if (lookF c X.D m).2.2 ≠ 0 then ((zeroCm, (lookF c X.D m).2.2), X)
  else (((lookF c X.D m).1, (admitF c (lookedF c X.D m) (lookF c X.D m).1).1), ⟨(admitF c (lookedF c X.D m) (lookF c X.D m).1).2, X.L⟩)
def deadW (c : Cfg) (X : Wo) : List Nid := setN (deadN c (-1) X.L [] X.D.q)
def stepW (c : Cfg) (X : Wo) : (List Nid × Int) × Wo :=
  if (beginF X.D).1.2.2 ≠ 0 then (([], (beginF X.D).1.2.2), ⟨(beginF X.D).2, X.L⟩)
  else ((deadW c X, 0), ⟨(closeF (beginF X.D).2 (deadW c X)).2, ownL c (-1) X.L [] X.D.q⟩)
def newW (c : Cfg) : Wo := ⟨newD c, []⟩
structure WInv (c : Cfg) (n : Nat) (X : Wo) : Prop where
  gm : GM c.ids.toNat X.D.M
  ml : X.D.M.length = (c.cols * c.rows).toNat
  op : X.D.op = false
  t0 : 0 ≤ X.D.t
  t1 : X.D.t ≤ n
  rise : Rise X.L
  good : ∀ b ∈ X.L, GoodZ c (ofF c b.x b.y) b ∧ 0 ≤ ofF c b.x b.y
  qok : ∀ m ∈ X.D.q, cmdB m = true ∧ (m.k = 1 → 0 ≤ ofF c m.b.x m.b.y)
  len : X.L.length + X.D.q.length ≤ n
  nd : (X.L.map idOf ++ begM X.D.q).Nodup
  al : ∀ a, alN X.D.M a ↔ a ∈ X.L.map idOf ++ begM X.D.q
theorem WInv.more {c : Cfg} {n : Nat} {X : Wo} (h : WInv c n X) : WInv c (n + 1) X := { h with t1 := by have := h.t1; omega, len := by have := h.len; omega }
theorem new_inv {c : Cfg} (ho : CfgOk c) : WInv c 0 (newW c) := by
  have hi : c.ids.toNat ≤ 16 := by have := ho.i1; omega
  have hM : ∀ m ∈ (newD c).M, m = fresh c.ids.toNat c.ids.toNat := fun m hm => (List.mem_replicate.1 hm).2
  have hcr : c.cols * c.rows ≤ 16 := Int.mul_le_mul ho.c1 ho.r1 (by have := ho.r0; omega) (by omega)
  refine ⟨⟨hi, by simp [newW, newD]; omega, fun m hm => ?_, fun m hm => ?_⟩, by simp [newW, newD], rfl, Int.le_refl _, Int.le_refl _, List.Pairwise.nil, fun b hb => (by cases hb), fun m hm => (by cases hm), Nat.le_refl _, List.nodup_nil, fun a => ?_⟩
  · rw [hM m hm]; simp [fresh, freshIx]
  · rw [hM m hm]; exact fresh_good _ hi
  · constructor
    · intro h
      obtain ⟨x, hx, ha, _⟩ := alN_iff.1 h
      obtain ⟨k, i, m, _, _, hm, hx⟩ := ixOf_iff.1 hx
      rw [hM m (List.mem_of_getElem? hm)] at hx
      have hx2 := List.mem_of_getElem? hx
      simp only [fresh, freshIx] at hx2
      have := (List.mem_replicate.1 hx2).2
      rw [this] at ha
      cases ha
    · intro h; cases h
theorem admit_ok {c : Cfg} {D : Dk} {m : Cm} (h : (admitF c D m).1 = 0) : (admitF c D m).2 = ⟨if m.k = 1 then (takeF D.M m.b.s m.b.i m.b.g).2 else D.M, D.q ++ [m], D.t, D.op⟩ ∧ cmdB m = true := by
  unfold admitF at h ⊢
  split at h
  · cases h
  rename_i h1
  rw [if_neg h1]
  have hc : cmdB m = true := by cases hb : cmdB m with
    | true => rfl
    | false => exact absurd hb h1
  split at h
  · cases h
  rename_i h2
  rw [if_neg h2]
  split at h
  · rename_i hk
    rw [if_pos hk, if_pos hk]
    split at h
    · cases h
    rename_i h3
    rw [if_neg h3]
    split at h
    · rename_i h4; exact absurd h h4
    · rename_i h4; rw [if_neg h4]; exact ⟨rfl, hc⟩
  · rename_i hk
    rw [if_neg hk, if_neg hk]
    split at h
    · cases h
    · rename_i h3; rw [if_neg h3]; exact ⟨rfl, hc⟩
structure Called (c : Cfg) (n : Nat) (X : Wo) (m : Cm) : Prop where
  inv : WInv c (n + 1) (callW c X m).2
  e : (callW c X m).1.2 = 0 → (lookF c X.D m).2.2 = 0 ∧ (callW c X m).1.1 = (lookF c X.D m).1
  adm : (lookF c X.D m).2.2 = 0 → (admitF c (lookedF c X.D m) (lookF c X.D m).1).1 = 0
  t : (callW c X m).2.D.t = X.D.t
  q : (callW c X m).1.2 = 0 → (callW c X m).2.D.q = X.D.q ++ [(callW c X m).1.1]
  used : ∀ a, usedN X.D.M a → usedN (callW c X m).2.D.M a
  fresh : (callW c X m).1.2 = 0 → (callW c X m).1.1.k = 1 → ¬ usedN X.D.M (idOf (callW c X m).1.1.b) ∧ usedN (callW c X m).2.D.M (idOf (callW c X m).1.1.b)
theorem begM_snoc (q : List Cm) (m : Cm) : begM (q ++ [m]) = begM q ++ if m.k = 1 then [idOf m.b] else [] := by
  unfold begM
  rw [List.filter_append, List.map_append]
  congr 1
  by_cases h : m.k = 1 <;> simp [h]
theorem call_inv {c : Cfg} {n : Nat} {X : Wo} (h : WInv c n X) (m : Cm) : Called c n X m := by
  have hla := look_adm c X.D m
  rcases look_cases c X.D m with ⟨e, he, h2⟩ | ⟨hk, hh, h2⟩ | ⟨hk, h2⟩
  · have hc : callW c X m = ((zeroCm, e), X) := by
      unfold callW
      rw [h2]
      simp only
      rw [if_pos he]
    exact ⟨by rw [hc]; exact h.more, fun h3 => by rw [hc] at h3; exact absurd h3 he, fun h3 => by rw [h2] at h3; exact absurd h3 he, by rw [hc], fun h3 => by rw [hc] at h3; exact absurd h3 he, fun a ha => by rw [hc]; exact ha, fun h3 => by rw [hc] at h3; exact absurd h3 he⟩
  · obtain ⟨f, g, hf, hg, b1, b2⟩ := beg_pool h.gm hh
    rw [← hf] at hg
    rw [← hf, ← hg] at h2
    generalize hzn : ofF c m.b.x m.b.y = zn at *
    have hz0 : 0 ≤ zn := by
      obtain ⟨m0, _, _, _, hm0, _⟩ := head_ok h.gm.good hh
      obtain ⟨k, rfl, _⟩ := shOf_iff.1 hm0
      omega
    have hl := (hla _ _ h.gm.good h.gm.m16 h2).1 hk
    obtain ⟨s', i', g', hname, hnew, hof, ha1, ha2⟩ := hl
    have key : ∀ D1 : Dk, lookedF c X.D m = D1 → D1.q = X.D.q → D1.t = X.D.t → D1.op = X.D.op → (admitF c D1 (nameCm m zn f g)).1 = 0 → Beg c.ids.toNat X.D.M zn (takeF D1.M zn f g).2 ⟨zn, f, g⟩ → Called c n X m := by
      intro D1 hD1 q1 q2 q3 had hbeg
      obtain ⟨had2, hcm⟩ := admit_ok had
      have hkn : (nameCm m zn f g).k = 1 := hk
      rw [if_pos hkn] at had2
      have hc : callW c X m = ((nameCm m zn f g, 0), ⟨⟨(takeF D1.M zn f g).2, X.D.q ++ [nameCm m zn f g], X.D.t, X.D.op⟩, X.L⟩) := by
        unfold callW
        rw [h2]
        simp only
        rw [if_neg (by simp), hD1, had, had2, q1, q2, q3]
        rfl
      have hid : idOf (nameCm m zn f g).b = ⟨zn, f, g⟩ := rfl
      have hbm : begM (X.D.q ++ [nameCm m zn f g]) = begM X.D.q ++ [⟨zn, f, g⟩] := by rw [begM_snoc, if_pos hkn, hid]
      have hni : (⟨zn, f, g⟩ : Nid) ∉ X.L.map idOf ++ begM X.D.q := fun hm => hbeg.fresh ((h.al _).2 hm).used
      refine ⟨?_, fun _ => by rw [hc, h2]; exact ⟨rfl, rfl⟩, fun _ => by rw [h2, hD1]; exact had, by rw [hc], fun _ => by rw [hc], fun a ha => by rw [hc]; exact hbeg.used a ha, fun _ _ => by
        rw [hc]
        exact ⟨hbeg.fresh, ((hbeg.al _).2 (.inr rfl)).used⟩⟩
      rw [hc]
      refine ⟨hbeg.gm, hbeg.len.trans h.ml, h.op, h.t0, by have := h.t1; simp only; omega, h.rise, h.good, fun a ha => ?_, by have := h.len; simp; omega, ?_, fun a => ?_⟩
      · rcases List.mem_append.1 ha with ha | ha
        · exact h.qok a ha
        · obtain rfl : a = nameCm m zn f g := by simpa using ha
          exact ⟨hcm, fun _ => by show 0 ≤ ofF c m.b.x m.b.y; rw [hzn]; exact hz0⟩
      · rw [hbm, ← List.append_assoc, List.nodup_append]
        refine ⟨h.nd, by simp, fun a ha b hb => ?_⟩
        obtain rfl : b = ⟨zn, f, g⟩ := by simpa using hb
        intro e; subst e; exact hni ha
      · rw [hbm, hbeg.al, h.al, ← List.append_assoc, List.mem_append (s := X.L.map idOf ++ begM X.D.q), List.mem_singleton]
    cases hb : (headF X.D.M zn).2.1 with
    | true =>
      rw [hb] at h2 ha1
      have hD1 : lookedF c X.D m = X.D := by unfold lookedF; rw [h2]; rfl
      have had := ha1 rfl
      exact key X.D hD1 rfl rfl rfl had (b1 hb).2
    | false =>
      rw [hb] at h2 ha2
      have hD1 : lookedF c X.D m = (reservedF X.D zn f).2 := by unfold lookedF; rw [h2]; rfl
      have had := (ha2 rfl).2.2.2
      have e1 : s' = zn ∧ i' = f := by
        simp only [nameCm, Cm.mk.injEq, Bun.mk.injEq, true_and, and_true] at hname
        exact ⟨hname.1.symm, hname.2.1.symm⟩
      rw [e1.1, e1.2] at had
      exact key (reservedF X.D zn f).2 hD1 rfl rfl rfl had (b2 hb).2.2
  · have hl := (hla _ _ h.gm.good h.gm.m16 h2).2 hk
    have hD1 : lookedF c X.D m = X.D := by unfold lookedF; rw [h2]; rfl
    obtain ⟨had2, hcm⟩ := admit_ok hl.2.2
    rw [if_neg hk] at had2
    have hc : callW c X m = ((m, 0), ⟨⟨X.D.M, X.D.q ++ [m], X.D.t, X.D.op⟩, X.L⟩) := by
      unfold callW
      rw [h2]
      simp only
      rw [if_neg (by simp), hD1, hl.2.2, had2]
    have hbm : begM (X.D.q ++ [m]) = begM X.D.q := by rw [begM_snoc, if_neg hk, List.append_nil]
    refine ⟨?_, fun _ => by rw [hc, h2]; exact ⟨rfl, rfl⟩, fun _ => by rw [h2, hD1]; exact hl.2.2, by rw [hc], fun _ => by rw [hc], fun a ha => by rw [hc]; exact ha, fun _ h3 => by rw [hc] at h3; exact absurd h3 hk⟩
    rw [hc]
    refine ⟨h.gm, h.ml, h.op, h.t0, by have := h.t1; simp only; omega, h.rise, h.good, fun a ha => ?_, by have := h.len; simp; omega, by rw [hbm]; exact h.nd, fun a => by rw [hbm]; exact h.al a⟩
    rcases List.mem_append.1 ha with ha | ha
    · exact h.qok a ha
    · obtain rfl : a = m := by simpa using ha
      exact ⟨hcm, fun h3 => absurd h3 hk⟩
theorem begs_all {c : Cfg} : ∀ {ms : List Cm}, (∀ m ∈ ms, m.k = 1 → 0 ≤ ofF c m.b.x m.b.y) → begsN c (-1) ms = begM ms := by
  intro ms h
  unfold begsN begM
  congr 1
  refine List.filter_congr fun m hm => ?_
  by_cases hk : m.k = 1
  · have h0 := h m hm hk
    unfold begZ
    simp [hk, h0]
  · simp [hk]
theorem of_nn {c : Cfg} (ho : CfgOk c) {x y : Int} (h : inW c x y = true) : 0 ≤ ofF c x y := by
  have h2 := h
  unfold inW at h2
  have h2 := of_decide_eq_true h2
  unfold ofF
  rw [if_pos h]
  have hs := ho.s0
  have h3 : 0 ≤ x / c.side := Int.ediv_nonneg (by omega) (by omega)
  have h4 : 0 ≤ y / c.side := Int.ediv_nonneg (by omega) (by omega)
  have h5 : 0 ≤ y / c.side * c.cols := Int.mul_nonneg h4 (by have := ho.c0; omega)
  omega
theorem pass_in {c : Cfg} (ho : CfgOk c) {b : Bun} (hk : (passF c b).2 = true) : inW c (passF c b).1.x (passF c b).1.y = true := by
  have hin := inF_in ho (if hasB b.m 2 then addF b.x (max (-c.speed) (min c.speed b.vx)) else b.x) (if hasB b.m 2 then addF b.y (max (-c.speed) (min c.speed b.vy)) else b.y)
  have hmv : inW c (moveF c b).x (moveF c b).y = true := hin
  have e : passF c b = ageF (moveF c b) := rfl
  rw [e] at hk ⊢
  have hpos : (ageF (moveF c b)).1.x = (moveF c b).x ∧ (ageF (moveF c b)).1.y = (moveF c b).y := by
    generalize moveF c b = y at *
    unfold ageF at hk ⊢
    split
    · exact ⟨rfl, rfl⟩
    · rename_i h1
      rw [if_neg h1] at hk
      split
      · rename_i h2; rw [if_pos h2] at hk; cases hk
      · exact ⟨rfl, rfl⟩
  rw [hpos.1, hpos.2]
  exact hmv
theorem good_left {c : Cfg} (ho : CfgOk c) {l : List Bun} {ms : List Cm} (hm : ∀ m ∈ ms, cmdB m = true) (h : ∀ b ∈ l, GoodZ c (ofF c b.x b.y) b ∧ 0 ≤ ofF c b.x b.y) : ∀ b ∈ leftL c (-1) l [] ms, GoodZ c (ofF c b.x b.y) b ∧ 0 ≤ ofF c b.x b.y := by
  have hz : ∀ {b b' : Bun} {z : Int}, GoodZ c z b' → 0 ≤ z → GoodZ c (ofF c b'.x b'.y) b' ∧ 0 ≤ ofF c b'.x b'.y := fun h1 h2 => ⟨⟨h1.1, h1.2.1, rfl⟩, by rw [h1.2.2]; exact h2⟩
  have h1 : ∀ b ∈ hurtL c.radius l [], GoodZ c (ofF c b.x b.y) b ∧ 0 ≤ ofF c b.x b.y := fun b hb => by
    obtain ⟨x, hx, hk, rfl⟩ := each_mem.1 hb
    have := h x ((stF_perm l).mem_iff.1 hx)
    exact hz (b := x) (good_hit this.1 hk) this.2
  have h2 : ∀ (ms : List Cm) {l : List Bun}, (∀ m ∈ ms, cmdB m = true) → (∀ b ∈ l, GoodZ c (ofF c b.x b.y) b ∧ 0 ≤ ofF c b.x b.y) → ∀ b ∈ cmdsL c (-1) l ms, GoodZ c (ofF c b.x b.y) b ∧ 0 ≤ ofF c b.x b.y := by
    intro ms
    induction ms with
    | nil => intro l _ h; exact h
    | cons m ms ih =>
      intro l hm h
      refine ih (fun m' h' => hm m' (List.mem_cons_of_mem _ h')) fun b hb => ?_
      have hmm := hm m (by simp)
      unfold cmdL at hb
      split at hb
      · rename_i hk
        split at hb
        · rename_i hs
          rcases List.mem_cons.1 ((ins_perm l _ m.b).mem_iff.1 hb) with rfl | hb
          · unfold spawnB at hs
            simp only [Bool.and_eq_true, Bool.or_eq_true, decide_eq_true_eq] at hs
            obtain ⟨⟨_, h0⟩, _⟩ := hs
            have hck : checkB m.b = true := by
              unfold cmdB at hmm
              have n1 : (m.k == 1) = true := by simpa using hk
              rw [n1] at hmm
              simp only [if_true, Bool.and_eq_true] at hmm
              exact hmm.2
            refine ⟨⟨hck, ?_, rfl⟩, h0⟩
            cases hi : inW c m.b.x m.b.y with
            | true => rfl
            | false => unfold ofF at h0; rw [hi] at h0; simp at h0
          · exact h b hb
        · exact h b hb
      · rename_i hk
        obtain ⟨x, hx, h1, rfl⟩ := each_mem.1 hb
        have := h x hx
        exact hz (b := x) (good_obey hmm hk this.1 h1) this.2
  intro b hb
  obtain ⟨x, hx, hk, rfl⟩ := each_mem.1 hb
  have hx' := h2 ms hm h1 x hx
  obtain ⟨q1, q2⟩ := good_pass ho hx'.1 hk
  have q3 := pass_in ho hk
  have q4 : 0 ≤ ofF c (passF c x).1.x (passF c x).1.y := of_nn ho q3
  exact ⟨⟨q1, q3, rfl⟩, q4⟩
theorem step_inv {c : Cfg} (ho : CfgOk c) {n : Nat} {X : Wo} (h : WInv c n X) (hn : n ≤ 1000000) :
    WInv c (n + 1) (stepW c X).2 ∧ stepW c X = ((deadW c X, 0), ⟨⟨(freesF X.D.M 0 (deadW c X)).2, [], X.D.t + 1, false⟩, ownL c (-1) X.L [] X.D.q⟩) ∧ (∀ a, usedN X.D.M a → usedN (stepW c X).2.D.M a) := by
  have hb : beginF X.D = ((X.D.t + 1, X.D.q, 0), { X.D with q := [], t := X.D.t + 1, op := true }) := by
    unfold beginF beginB
    have := h.t1
    rw [h.op, if_neg (by simp; omega)]
  have he : stepW c X = ((deadW c X, 0), ⟨⟨(freesF X.D.M 0 (deadW c X)).2, [], X.D.t + 1, false⟩, ownL c (-1) X.L [] X.D.q⟩) := by
    unfold stepW
    rw [hb]
    simp only
    rw [if_neg (by simp)]
    unfold closeF
    rw [if_neg (by simp)]
  obtain ⟨w1, w2⟩ := own_whole c X.L X.D.q
  obtain ⟨f1, f2, f3, f4⟩ := frees_pool (deadW c X) 0 h.gm
  have hu := rise_un h.rise
  have hnd := List.nodup_append.1 h.nd
  have hf : ∀ a ∈ begM X.D.q, a ∉ X.L.map idOf := fun a ha hb => hnd.2.2 a hb a ha rfl
  have hids := tick_ids c (-1) [] hu hf hnd.2.1
  rw [begs_all fun m hm => (h.qok m hm).2, ← w1] at hids
  have hr : Rise (ownL c (-1) X.L [] X.D.q) := by rw [w1]; exact leftL_rise c (-1) [] X.D.q hu
  refine ⟨?_, he, fun a ha => by rw [he]; exact f4 a ha⟩
  rw [he]
  refine ⟨f1, f2.trans h.ml, rfl, by have := h.t0; simp only; omega, by have := h.t1; simp only; omega, hr, ?_, fun m hm => (by cases hm), ?_, ?_, fun a => ?_⟩
  · simp only
    rw [w1]
    exact good_left ho (fun m hm => (h.qok m hm).1) h.good
  · have h1 := left_len c (-1) X.L [] X.D.q
    have := h.len
    simp only [w1, List.length_nil]
    omega
  · rw [show begM ([] : List Cm) = [] from rfl, List.append_nil]
    exact rise_nodup hr
  · simp only
    rw [f3, h.al, show begM ([] : List Cm) = [] from rfl, List.append_nil, ← hids.mem_iff]
    unfold deadW
    rw [(setN_ok _).2 a, List.mem_append]
    constructor
    · rintro ⟨h1, h2⟩; exact h1.resolve_right h2
    · intro h1
      refine ⟨.inl h1, fun h2 => ?_⟩
      have hnd2 := (hids.nodup_iff).2 h.nd
      exact (List.nodup_append.1 hnd2).2.2 a h1 a h2 rfl
end Go.Proofs.YtoimjjhopljdmaaGreat
namespace Go.Proofs.YtoimjjhopljdmaaGreat
open Go.RowKit

def worldO (p : Nat) (c : Cfg) (X : Wo) : Ob where
  holds W o := ∃ d v, ((boxO p #[.pointer (some ⟨d, 0, none⟩), v] 83).and ((deskO d c X.D).and (slO 32 11 v X.L.length (cellsR bunL X.L)))).holds W o
  lt := by rintro w o ⟨d, v, h⟩; exact Ob.lt _ w o h
  keep := by rintro w w' o ⟨d, v, h⟩ hk; exact ⟨d, v, Ob.keep _ w w' o h hk⟩
section
variable {w0 W : World} {F : Ob} {p : Nat} {c : Cfg} {X : Wo}
theorem wopen (h : Own w0 W ((worldO p c X).and F)) : ∃ d v, Own w0 W ((boxO p #[.pointer (some ⟨d, 0, none⟩), v] 83).and ((deskO d c X.D).and ((slO 32 11 v X.L.length (cellsR bunL X.L)).and F))) := by
  obtain ⟨o, ⟨a, f, ⟨d, v, h1⟩, h2, h3, h4⟩, h5⟩ := h
  have h' : Own w0 W (((boxO p #[.pointer (some ⟨d, 0, none⟩), v] 83).and ((deskO d c X.D).and (slO 32 11 v X.L.length (cellsR bunL X.L)))).and F) := ⟨o, ⟨a, f, h1, h2, h3, h4⟩, h5⟩
  exact ⟨d, v, h'.assoc.inner fun _ h => and_assoc' h⟩
theorem and_shut' {A B C : Ob} {o : Nat → Prop} (h : (A.and (B.and C)).holds W o) : ((A.and B).and C).holds W o := and_comm' (and_assoc' (and_comm' (and_assoc' (and_comm' h))))
theorem wshut {d : Nat} {v : Value} (h : Own w0 W ((boxO p #[.pointer (some ⟨d, 0, none⟩), v] 83).and ((deskO d c X.D).and ((slO 32 11 v X.L.length (cellsR bunL X.L)).and F)))) : Own w0 W ((worldO p c X).and F) := by
  have h' := (h.inner (G := ((deskO d c X.D).and (slO 32 11 v X.L.length (cellsR bunL X.L))).and F) fun _ h => and_shut' h).assoc'
  obtain ⟨o, ⟨a, f, h1, h2, h3, h4⟩, h5⟩ := h'
  exact ⟨o, ⟨a, f, ⟨d, v, h1⟩, h2, h3, h4⟩, h5⟩
end
section
variable {w0 W : World} {F : Ob} {p : Nat} {c : Cfg} {X : Wo}

theorem wlist_o (h : Own w0 W ((worldO p c X).and F)) (hl : X.L.length ≤ 1000000) : Calls Tryz.prog 12 #[.pointer (some ⟨p, 0, none⟩)] W fun e w' => ∃ v, e = .returned v ∧ RNew bunL 32 11 W w' v X.L := by
  obtain ⟨d, v, h⟩ := wopen h
  have hb := h.box
  have x0 := hb.1 0
  have x1 := hb.1 1
  simp at x0 x1
  have hlt := hb.2.2.1
  obtain ⟨z0, z1, z2⟩ := ltz hlt
  have H := Lib.hid h
  obtain ⟨hs, _⟩ := h.third.sl
  have hin := BIn.of_sl hs
  obtain ⟨pv, cv, rfl⟩ := sl_frm hs
  have HC := Lib.hid (fun V hV => clone_bin (.slice pv X.L.length cv) X.L V (hin.keep (w' := V) hV) hl)
  clear hs hin
  clear h hb
  go_enter Tryz.func12, Tryz.ntmps12
  go_wp2_with fail
  refine (HC.out _ bg).mono ?_
  rintro e w' ⟨v', rfl, hn⟩
  have HN := Lib.hid hn
  obtain ⟨pw, cw, rfl⟩ := sl_frm hn.1
  clear hn
  go_wp2_with fail
  go_ret
  exact ⟨_, rfl, HN.out.1, Below.trans (Below.mono (B := W.heap.size) bg (Nat.le_refl _)) (HN.out.2.1.mono (Nat.le_refl _)), HN.out.2.2⟩

theorem Own.inner2 {A B C G : Ob} (h : Own w0 W (A.and (B.and (C.and G)))) : Own w0 W (A.and (B.and (C.and G))) := h
theorem wt_o (h : Own w0 W ((worldO p c X).and F))  : Calls Tryz.prog 36 #[.pointer (some ⟨p, 0, none⟩)] W fun e w' => e = .returned (.int .i64 X.D.t) ∧ Below W.heap.size W w' := by
  obtain ⟨d, v, h⟩ := wopen h
  have hb := h.box
  have x0 := hb.1 0
  have x1 := hb.1 1
  simp at x0 x1
  have hlt := hb.2.2.1
  obtain ⟨z0, z1, z2⟩ := ltz hlt
  have H := Lib.hid h
  have HC := Lib.hid (fun V (hV : Own w0 V ((deskO d c X.D).and ((boxO p #[.pointer (some ⟨d, 0, none⟩), v] 83).and ((slO 32 11 v X.L.length (cellsR bunL X.L)).and F)))) => tick_o hV)
  have H2 := Lib.hid h.swap.inner2
  clear h hb
  go_enter Tryz.func36, Tryz.ntmps36
  go_wp2_with fail
  refine (HC.out _ (H2.out.grow bg)).mono ?_
  rintro e w' ⟨rfl, hb⟩
  have HB := Lib.hid hb
  clear hb
  go_wp2_with fail
  go_ret
  exact ⟨rfl, Below.trans (Below.mono (B := W.heap.size) bg (Nat.le_refl _)) (HB.out.mono (by simp))⟩

theorem wwaits_o (h : Own w0 W ((worldO p c X).and F)) (ho : CfgOk c) : Calls Tryz.prog 20 #[.pointer (some ⟨p, 0, none⟩)] W fun e w' => ∃ v, e = .returned v ∧ RNew cmC 34 16 W w' v X.D.q := by
  obtain ⟨d, v, h⟩ := wopen h
  have hb := h.box
  have x0 := hb.1 0
  have x1 := hb.1 1
  simp at x0 x1
  have hlt := hb.2.2.1
  obtain ⟨z0, z1, z2⟩ := ltz hlt
  have H := Lib.hid h
  have HC := Lib.hid (fun V (hV : Own w0 V ((deskO d c X.D).and ((boxO p #[.pointer (some ⟨d, 0, none⟩), v] 83).and ((slO 32 11 v X.L.length (cellsR bunL X.L)).and F)))) => waiting_o hV ho)
  have H2 := Lib.hid h.swap.inner2
  clear h hb
  go_enter Tryz.func20, Tryz.ntmps20
  go_wp2_with fail
  refine (HC.out _ (H2.out.grow bg)).mono ?_
  rintro e w' ⟨va, rfl, hn⟩
  obtain ⟨pw, cw, rfl⟩ := sl_frm hn.1
  have HN := Lib.hid hn
  clear hn
  go_wp2_with fail
  go_ret
  exact ⟨_, rfl, HN.out.1, Below.trans (Below.mono (B := W.heap.size) bg (Nat.le_refl _)) (HN.out.2.1.mono (Nat.le_refl _)), HN.out.2.2⟩
theorem own_made {w0 W : World} {X : Ob} (h : Own w0 W X) : Made w0 W X := by
  obtain ⟨o, h1, h2, h3⟩ := h
  exact ⟨o, h1, h3, h2⟩
end
theorem wnew_ok (cols rows side radius speed ids queue : Int) (w : World) (ho : CfgOk ⟨cols, rows, side, radius, speed, ids, queue⟩) :
    Calls Tryz.prog 17 #[.agg #[.int .i64 cols, .int .i64 rows, .int .i64 side, .int .i64 radius, .int .i64 speed, .int .i64 ids, .int .i64 queue]] w fun e w' => ∃ p, e = .returned (.tuple #[.pointer (some ⟨p, 0, none⟩), .int .i64 0]) ∧ Made w w' (worldO p ⟨cols, rows, side, radius, speed, ids, queue⟩ (newW ⟨cols, rows, side, radius, speed, ids, queue⟩)) := by
  have HN := Lib.hid (fun V => dnew_ok cols rows side radius speed ids queue V ho)
  clear ho
  go_enter Tryz.func17, Tryz.ntmps17
  go_wp2_with fail
  generalize hw1 : World.alloc w _ = w1
  have hb1 : Below w.heap.size w w1 := by rw [← hw1]; exact bg
  clear hw1
  refine (HN.out _).mono ?_
  rintro e w2 ⟨d, rfl, hm⟩
  have h2 := ((Own.nil w).grow hb1).made hm
  have H2 := Lib.hid h2
  clear hm h2 HN hb1
  go_wp2_with fail
  go_ret2
  have hnil : Made w2 w2 (slO 32 11 (.slice none 0 0) ([] : List Bun).length (cellsR bunL [])) := made_sl ⟨rfl, .inl ⟨rfl, rfl⟩⟩ (Below.refl _ _) (fun g hg => by cases hg)
  have h3 := ((H2.out.made hnil).made (made_box w2 #[.pointer (some ⟨d, 0, none⟩), .slice none 0 0] 83)).inner fun _ h => and_swap' h
  exact ⟨_, rfl, own_made (wshut (X := newW ⟨cols, rows, side, radius, speed, ids, queue⟩) h3).fst⟩
end Go.Proofs.YtoimjjhopljdmaaGreat
namespace Go.Proofs.YtoimjjhopljdmaaGreat
open Go
section
variable {P : Program} {ops : Array Oper} {Q : Exit → Act → World → Prop} {md : Region.Mode} {S : World → Prop} {n : Nat}
def chainW (md : Region.Mode) (ops : Array Oper) (n : Nat) : Bool := (List.range ops.size).all fun t => decide (t ≤ n) || (List.range t).any fun u => decide (n ≤ u) && Region.waitsFor md ops t u
theorem tail_waitsW {listed : Array Bool} (hs : Region.sinkB md ops n = true) (hc : chainW md ops n = true) (hn : n < ops.size) (inv : HeadInv md ops n listed) :
    ∀ (d i : Nat), n - i = d → i < n → listed.getD i true = false → ∀ t, n ≤ t → t ∉ Region.ready md ops listed := by
  intro d
  induction d using Nat.strongRecOn with
  | _ d ih =>
    intro i hd hi hun t ht hr
    obtain ⟨_, ot, hot, hall⟩ := mem_ready.1 hr
    have htlt : t < ops.size := (Array.getElem?_eq_some_iff.1 hot).1
    by_cases htn : t = n
    · subst htn
      have h1 := List.all_eq_true.1 hs i (List.mem_range.2 hi)
      obtain ⟨j, hj, hj2⟩ := List.any_eq_true.1 h1
      simp only [Bool.and_eq_true, decide_eq_true_eq] at hj2
      obtain ⟨oj, hoj, e, he, hb, hon⟩ := Region.waitsFor_spec hj2.2
      have hjle : j ≤ t := by have := List.mem_range.1 hj; omega
      by_cases hjt : j = t
      · subst hjt
        have : oj = ot := Option.some.inj (hoj.symm.trans hot)
        subst this
        have h2 := hall e he hb
        rw [hon, getD_both hun] at h2
        cases h2
      · cases hl : listed.getD j false with
        | true =>
          have h2 := inv.closed j oj hoj hl e he hb
          rw [hon, getD_both hun] at h2
          cases h2
        | false =>
          have hjs : j < listed.size := by rw [inv.size]; omega
          exact ih (t - j) (by omega) j rfl (by omega) (getD_in hjs hl) t (Nat.le_refl _) hr
    · have h1 := List.all_eq_true.1 hc t (List.mem_range.2 htlt)
      simp only [Bool.or_eq_true, decide_eq_true_eq] at h1
      rcases h1 with h1 | h1
      · omega
      · obtain ⟨u, hu, hu2⟩ := List.any_eq_true.1 h1
        simp only [Bool.and_eq_true, decide_eq_true_eq] at hu2
        obtain ⟨o', ho', e, he, hb, hon⟩ := Region.waitsFor_spec hu2.2
        have : o' = ot := Option.some.inj (ho'.symm.trans hot)
        subst this
        have h2 := hall e he hb
        have hul : u < t := List.mem_range.1 hu
        rw [hon, getD_both (inv.tail u hu2.1 (by omega))] at h2
        cases h2
theorem anyX_firstW {i : Nat} {oi : Oper} {v : Value} (hi : ops[i]? = some oi) (hsel : Region.noSelect ops = true) (hs : Region.sinkB md ops n = true) (hc : chainW md ops n = true) (hn : n < ops.size) (hin : i < n)
    (hQ : ∀ c a w, Q (.panic c) (a.put oi.dst v) w → Q (.panic c) a w) : ∀ (fuel : Nat) (listed : Array Bool) (a : Act) (w : World), HeadInv md ops n listed →
      (∀ j oj, ops[j]? = some oj → j ≠ i → listed.getD j true = false → (∀ e ∈ oj.after, Region.binds md e = true → e.on ≠ i) → oi.apart ops oj = true) →
      i ∈ Region.ready md ops listed → YieldsIf P ops S oi v a → S w →
      AnyX P md ops Q S n fuel (listed.setIfInBounds i true) (a.put oi.dst v) w → AnyX P md ops Q S n (fuel + 1) listed a w
  | fuel, listed, a, w, inv, hfree, hr, hy, hS, H => by
    have hun := (mem_ready.1 hr).1
    refine ⟨fun h => (by rw [h] at hr; cases hr), fun j hj => ?_⟩
    have hjn : j < n := Nat.lt_of_not_le fun h => tail_waitsW hs hc hn inv _ i rfl hin hun j h hj
    by_cases hji : j = i
    · rw [hji]; exact hy.wpOp hi hS ⟨fun _ => hS, H⟩
    · cases fuel with
      | zero =>
        have := ready_mono hj hji
        rw [H.1] at this
        cases this
      | succ fuel =>
        have h1 := H.2 j (ready_mono hj hji)
        obtain ⟨hjun, oj, hoj, hall⟩ := mem_ready.1 hj
        have hnot : ∀ e ∈ oj.after, Region.binds md e = true → e.on ≠ i := fun e he hb heq => by
          have h2 := hall e he hb
          rw [heq, getD_both hun] at h2
          cases h2
        have h2 := wpOp_putIf hoj (hfree j oj hoj hji hjun hnot) (fun cs b => Region.noSelect_spec hsel i oi cs b hi) (fun cs b => Region.noSelect_spec hsel j oj cs b hoj) hQ hy h1
        refine wpOp_mono (fun a' w' h3 => ⟨h3.2.1, anyX_firstW hi hsel hs hc hn hin hQ fuel (listed.setIfInBounds j true) a' w' (inv.set hj hjn) (fun k ok hk hki hku hno => ?_) (ready_mono hr (Ne.symm hji)) h3.1 (h3.2.1 hjn) ?_⟩) h2
        · refine hfree k ok hk hki ?_ hno
          by_cases hjk : j = k
          · rw [← hjk]; exact hjun
          · rwa [getD_set_ne true hjk] at hku
        · rw [Array.setIfInBounds_comm _ _ hji]
          exact h3.2.2
theorem anyX_takeW {i : Nat} {oi : Oper} {v : Value} {fuel : Nat} {listed : Array Bool} {a : Act} {w : World} (hi : ops[i]? = some oi)
    (hB : (Region.noSelect ops && Region.sinkB md ops n && chainW md ops n && decide (n < ops.size) && decide (i < n) && headB md ops n listed && Region.free md ops listed i && (Region.ready md ops listed).contains i) = true)
    (hQ : ∀ c a w, Q (.panic c) (a.put oi.dst v) w → Q (.panic c) a w) (hy : YieldsIf P ops S oi v a) (hS : S w)
    (h : AnyX P md ops Q S n fuel (listed.setIfInBounds i true) (a.put oi.dst v) w) : AnyX P md ops Q S n (fuel + 1) listed a w := by
  simp only [Bool.and_eq_true, decide_eq_true_eq] at hB
  obtain ⟨⟨⟨⟨⟨⟨⟨b1, b2⟩, b3⟩, b4⟩, b5⟩, b6⟩, b7⟩, b8⟩ := hB
  exact anyX_firstW hi b1 b2 b3 b4 b5 hQ fuel listed a w (headB_inv b6) (Region.free_spec hi b7) (by simpa using b8) hy hS h
theorem anyX_turn {n' : Nat} : ∀ (fuel : Nat) (listed : Array Bool) (a : Act) (w : World), (∀ i, i < n → listed.getD i true = true) → AnyX P md ops Q (fun _ => True) n' fuel listed a w → AnyX P md ops Q S n fuel listed a w
  | 0, _, _, _, _, h => h
  | fuel + 1, listed, a, w, hl, h => ⟨h.1, fun i hi => wpOp_mono (fun a' w' h' => ⟨fun hin => (by
      have h1 := (mem_ready.1 hi).1
      rw [hl i hin] at h1; cases h1), anyX_turn fuel _ a' w' (fun j hj => by
      by_cases e : i = j
      · subst e
        have h1 := (mem_ready.1 hi).1
        rw [hl i hj] at h1; cases h1
      · rw [getD_set_ne true e]; exact hl j hj) h'.2⟩) (h.2 i hi)⟩
end
end Go.Proofs.YtoimjjhopljdmaaGreat

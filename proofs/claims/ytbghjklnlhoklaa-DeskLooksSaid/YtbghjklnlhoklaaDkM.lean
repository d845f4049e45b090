/-
  Chapter 16, plain: a name that Look gave is taken by Admit, behind a Reserve where Look said so. No program here. No condition.
-/
import Derived.Test.YtbghjklnlhoklaaMk11
namespace Go.Proofs.Ytbghjklnlhoklaa
open Go.RowKit
theorem head_ok {M : List Sh} {k : Int} (hg : ∀ m ∈ M, Good m) (h : (headF M k).2.2 = 0) : ∃ m x f r, shOf M k = some m ∧ m ∈ M ∧ m.free = f :: r ∧ m.all[f.toNat]? = some x ∧ headF M k = (f, decide (x.gen < x.bound), 0) ∧ 0 ≤ f ∧ f < m.all.length ∧ 0 ≤ x.gen ∧ x.gen < 1048576 ∧ x.bound ≤ 1048576 ∧ x.gen ≤ x.bound ∧ ixOf M k f = some x := by
  unfold headF at h ⊢
  cases hm : shOf M k with
  | none => simp [hm] at h
  | some m =>
    simp only [hm] at h ⊢
    have hmem : m ∈ M := by
      unfold shOf at hm
      split at hm
      · exact List.mem_of_getElem? hm
      · cases hm
    have G := hg m hmem
    cases hf : m.free with
    | nil => simp [hf] at h
    | cons f r =>
      simp only [hf] at h ⊢
      cases hx : m.all[f.toNat]? with
      | none => simp [hx] at h
      | some x =>
        simp only
        have hfm : f ∈ m.free := by rw [hf]; exact List.mem_cons_self ..
        obtain ⟨h1, h2⟩ := G.inv.fr f hfm
        obtain ⟨q1, q2, q3, q4, _⟩ := G.inv.rng _ _ hx
        refine ⟨m, x, f, r, rfl, hmem, hf, hx, rfl, h1, h2, q1, G.fg f hfm x hx, q4, G.le _ _ hx, ?_⟩
        unfold ixOf
        rw [hm]
        simp only [Option.bind_some, if_pos h1]
        exact hx
theorem take_head {M : List Sh} {k : Int} (hg : ∀ m ∈ M, Good m) (h : (headF M k).2.2 = 0) :
    ((headF M k).2.1 = true → (takeF M k (headF M k).1 (genF M k (headF M k).1)).1 = 0) ∧ ((headF M k).2.1 = false → (takeF M k (headF M k).1 (genF M k (headF M k).1)).1 = 9) := by
  obtain ⟨m, x, f, r, hm, hmem, hf, hx, hh, h1, h2, q1, q2, q3, q4, hix⟩ := head_ok hg h
  rw [hh]
  have hfr : frOf M k = f :: r := by unfold frOf; rw [hm]; exact hf
  have hge : genF M k f = x.gen := by unfold genF; rw [hix]
  unfold takeF
  simp only [hix, hge, hfr]
  rw [if_neg (by omega), if_neg (by simp)]
  constructor
  · intro hb
    have : x.gen < x.bound := by simpa using hb
    rw [if_neg (by omega)]
  · intro hb
    have : ¬ x.gen < x.bound := by simpa using hb
    rw [if_pos (by omega)]
theorem take_nine {M : List Sh} {k i g : Int} (h : (takeF M k i g).1 = 9) : (takeF M k i g).2 = M := by
  unfold takeF at h ⊢
  split at h
  · rfl
  · split at h
    · rename_i h1; simp only [if_pos h1]
    · rename_i h1
      split at h
      · rename_i h2; simp only [if_neg h1, if_pos h2]
      · rename_i h2
        split at h
        · rename_i h3; simp only [if_neg h1, if_neg h2, if_pos h3]
        · simp at h
theorem res_head {M : List Sh} {k : Int} (hg : ∀ m ∈ M, Good m) (h : (headF M k).2.2 = 0) (hb : (headF M k).2.1 = false) :
    (reserveF M k (headF M k).1).1 = 0 ∧ (takeF (reserveF M k (headF M k).1).2 k (headF M k).1 (genF M k (headF M k).1)).1 = 0 := by
  obtain ⟨m, x, f, r, hm, hmem, hf, hx, hh, h1, h2, q1, q2, q3, q4, hix⟩ := head_ok hg h
  rw [hh] at hb ⊢
  have hb : ¬ x.gen < x.bound := by simpa using hb
  have hge : genF M k f = x.gen := by unfold genF; rw [hix]
  have hr : reserveF M k f = (0, setIx M k f { x with bound := min (x.bound + 8) 1048576 }) := by
    unfold reserveF
    simp only [hix]
    rw [if_neg (by omega)]
  simp only [hr, hge, true_and]
  have hk : 0 ≤ k ∧ M[k.toNat]? = some m := by
    unfold shOf at hm
    split at hm
    · exact ⟨by assumption, hm⟩
    · cases hm
  have hkl := (List.getElem?_eq_some_iff.1 hk.2).1
  have hfl := (List.getElem?_eq_some_iff.1 hx).1
  have hsh : shOf (setIx M k f { x with bound := min (x.bound + 8) 1048576 }) k = some { m with all := m.all.set f.toNat { x with bound := min (x.bound + 8) 1048576 } } := by
    unfold setIx
    simp only [hm]
    unfold shOf
    rw [if_pos hk.1, List.getElem?_set_self hkl]
  unfold takeF
  have hi2 : ixOf (setIx M k f { x with bound := min (x.bound + 8) 1048576 }) k f = some { x with bound := min (x.bound + 8) 1048576 } := by
    unfold ixOf
    rw [hsh]
    simp only [Option.bind_some, if_pos h1]
    rw [List.getElem?_set_self hfl]
  have hfr : frOf (setIx M k f { x with bound := min (x.bound + 8) 1048576 }) k = f :: r := by unfold frOf; rw [hsh]; exact hf
  simp only [hi2, hfr]
  rw [if_neg (by omega), if_neg (by simp), if_neg (by omega)]
theorem cmdB_name {m : Cm} {s i g : Int} (hk : m.k = 1) (h : cmdB m = true) (ho : idOk s i g = true) : cmdB (nameCm m s i g) = true := by
  unfold cmdB nameCm at *
  simp only [hk, beq_self_eq_true, if_true, checkB, rightB, Bool.and_eq_true] at h ⊢
  exact ⟨h.1, ⟨h.2.1, ho⟩⟩
theorem adm_name {c : Cfg} {D : Dk} {m : Cm} {s i g : Int} (hk : m.k = 1) (hc : cmdB (nameCm m s i g) = true) (hf : fullB c D ≠ true) (ho : ofF c m.b.x m.b.y = s) : (admitF c D (nameCm m s i g)).1 = (takeF D.M s i g).1 ∧ ((takeF D.M s i g).1 = 9 → (admitF c D (nameCm m s i g)).2 = D) := by
  unfold admitF
  rw [if_neg (by rw [hc]; simp), if_neg hf, if_pos (show (nameCm m s i g).k = 1 from hk), if_neg (fun h => h ho)]
  change (if (takeF D.M s i g).1 ≠ 0 then ((takeF D.M s i g).1, { D with M := (takeF D.M s i g).2 }) else (0, { D with M := (takeF D.M s i g).2, q := D.q ++ [nameCm m s i g] }) : Int × Dk).1 = _ ∧ (_ → (if (takeF D.M s i g).1 ≠ 0 then ((takeF D.M s i g).1, { D with M := (takeF D.M s i g).2 }) else (0, { D with M := (takeF D.M s i g).2, q := D.q ++ [nameCm m s i g] }) : Int × Dk).2 = D)
  by_cases h0 : (takeF D.M s i g).1 = 0
  · rw [if_neg (fun h => h h0), h0]; exact ⟨rfl, fun h => by omega⟩
  · rw [if_pos h0]
    refine ⟨rfl, fun h9 => ?_⟩
    simp only [take_nine h9]
theorem look_adm (c : Cfg) (D : Dk) (m a : Cm) (must : Bool) (hg : ∀ m ∈ D.M, Good m) (hl : D.M.length ≤ 16) (h : lookF c D m = (a, must, 0)) :
    (m.k = 1 → ∃ s i g, a = nameCm m s i g ∧ newB m = true ∧ ofF c m.b.x m.b.y = s ∧ (must = false → (admitF c D a).1 = 0) ∧ (must = true → (admitF c D a).1 = 9 ∧ (admitF c D a).2 = D ∧ (reservedF D s i).1 = 0 ∧ (admitF c (reservedF D s i).2 a).1 = 0)) ∧ (m.k ≠ 1 → a = m ∧ must = false ∧ (admitF c D a).1 = 0) := by
  unfold lookF at h
  split at h
  · simp at h
  rename_i h1
  have hcm : cmdB m = true := by
    cases hb : cmdB m with
    | true => rfl
    | false => exact absurd (Or.inl hb) h1
  split at h
  · rename_i hk
    have hnew : newB m = true := by
      cases hb : newB m with
      | true => rfl
      | false => exact absurd (Or.inr ⟨hk, hb⟩) h1
    split at h
    · simp at h
    split at h
    · simp at h
    rename_i hfull
    split at h
    · simp at h
    rename_i hh0
    have hh := Decidable.not_not.1 hh0
    refine ⟨fun _ => ?_, fun hn => absurd hk hn⟩
    generalize hzn : ofF c m.b.x m.b.y = zn at *
    have T1 := take_head hg hh
    have T2 := fun hb => res_head hg hh hb
    obtain ⟨m0, x, f, r, hm, hmem, hf, hx, he, f1, f2, q1, q2, q3, q4, hix⟩ := head_ok hg hh
    have hge : genF D.M zn f = x.gen := by unfold genF; rw [hix]
    rw [he] at h T1 T2
    simp only [hge] at h T1 T2
    simp only [Prod.mk.injEq, and_true] at h
    obtain ⟨rfl, rfl⟩ := h
    have hid : idOk zn f x.gen = true := by
      have hz : 0 ≤ zn ∧ zn.toNat < D.M.length := by
        unfold shOf at hm
        split at hm
        · exact ⟨by assumption, (List.getElem?_eq_some_iff.1 hm).1⟩
        · cases hm
      have h16 := (hg m0 hmem).inv.few
      simp [idOk, inR]
      omega
    have hc := cmdB_name hk hcm hid
    obtain ⟨A1, A2⟩ := adm_name (c := c) (D := D) hk hc hfull hzn
    refine ⟨zn, f, x.gen, rfl, hnew, rfl, fun hb => ?_, fun hb => ?_⟩
    · rw [A1]; exact T1.1 (by simpa using hb)
    · have hb' : decide (x.gen < x.bound) = false := by simpa using hb
      have h9 := T1.2 hb'
      obtain ⟨B1, B2⟩ := T2 hb'
      refine ⟨A1.trans h9, A2 h9, B1, ?_⟩
      exact (adm_name (c := c) (D := (reservedF D zn f).2) hk hc hfull hzn).1.trans B2
  · rename_i hk
    refine ⟨fun hn => absurd hn hk, fun _ => ?_⟩
    split at h
    · simp at h
    rename_i h2
    split at h
    · simp at h
    split at h
    · simp at h
    rename_i h4
    simp only [Prod.mk.injEq, and_true] at h
    obtain ⟨rfl, rfl⟩ := h
    refine ⟨rfl, rfl, ?_⟩
    unfold admitF
    rw [if_neg (by rw [hcm]; simp), if_neg h4, if_neg hk, if_neg h2]
end Go.Proofs.Ytbghjklnlhoklaa

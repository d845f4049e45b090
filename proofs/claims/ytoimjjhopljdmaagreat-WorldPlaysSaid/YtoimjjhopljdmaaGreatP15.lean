/- Texts SoN DkM WoP CmL DkV DkW ShA SoO: what the claim reaches of them. Conditions stand at each theorem. -/
import Derived.Test.YtoimjjhopljdmaaGreatP14
set_option maxRecDepth 100000
set_option maxHeartbeats 8000000
namespace Go.Proofs.YtoimjjhopljdmaaGreat
open Go.RowKit
open Go.Proofs.Tryz (prog)
open Go.Value (int)
open Go.IntKind (i64)
open Go.Lib (hid)
section
open Go.Sort
theorem find_any (v : Value) (l : List Bun) (s i g : Int) (w : World) (h : BIn w v l) (hl : l.length ≤ 1000000) :
 Calls prog 63 #[v, .agg #[int i64 s, int i64 i, int i64 g]] w fun e w' => e = .returned (.tuple #[int i64 (findB s i g l 0).1, .bool (findB s i g l 0).2]) ∧ Below w.heap.size w w' := by
 have H := hid h
 obtain ⟨pv, cv, rfl, _⟩ := h
 go_enter Tryz.func63, Tryz.ntmps63
 go_wp2_with fail
 go_loopg [11] l.length (fun kx x wr => ∃ k : Nat, x = int i64 k ∧ k ≤ l.length ∧ l.length - k ≤ kx ∧ Hid (findB s i g (l.drop k) k = findB s i g l 0) ∧ Hid (Below w.heap.size w wr) ∧ w.heap.size < wr.heap.size ∧ Hid (∀ j, wr.cell? ⟨w.heap.size, j, none⟩ = (#[int i64 s, int i64 i, int i64 g] : Array Value)[j]?))
 case atStart => exact ⟨0, by go_num, by omega, by omega, hid rfl, hid bg, by simp, hid (fun j => by simp)⟩
 case round =>
  obtain ⟨k, rfl, hk, hkx, HF, HB, hsz, HI⟩ := hrel
  by_cases hlt : k < l.length
  · have t1 : (k : Int) < (l.length : Int) := by omega
    obtain ⟨b, hb⟩ : ∃ b, l[k]? = some b := ⟨_, List.getElem?_eq_getElem hlt⟩
    obtain ⟨gb, ob, cb, hv, hgb, hcb⟩ := (H.out.keep HB.out).cells hb
    simp only [Value.slice.injEq, true_and] at hv
    obtain ⟨rfl, rfl⟩ := hv
    have hq := HF.out
    rw [List.drop_eq_getElem_cons hlt, show l[k] = b from by have := List.getElem?_eq_getElem hlt; rw [hb] at this; exact (Option.some.inj this).symm] at hq
    simp only [findB] at hq
    have c0 := hcb 0 _ rfl
    have c1 := hcb 1 _ rfl
    have c2 := hcb 2 _ rfl
    have c3 := hcb 3 _ rfl
    have c4 := hcb 4 _ rfl
    have c5 := hcb 5 _ rfl
    have c6 := hcb 6 _ rfl
    have c7 := hcb 7 _ rfl
    have c8 := hcb 8 _ rfl
    have c9 := hcb 9 _ rfl
    have c10 := hcb 10 _ rfl
    simp only [Nat.add_zero] at c0
    have i0 := HI.out 0; have i1 := HI.out 1; have i2 := HI.out 2
    simp at i0 i1 i2
    have HQ := hid hq
    clear hcb hq hb
    obtain ⟨s', i', g', m', x', y', vx', vy', hp', pw', lf'⟩ := b
    have HC := hid (fun W => compare_any s' i' g' s i g W)
    have lb : w.heap.size < wr.heap.size := hsz
    obtain ⟨x0, x1, x2, x3⟩ := ltq hsz
    by_cases h0 : 0 ≤ cmpId s' i' g' s i g
    · have hr := HQ.out
      simp only [if_pos h0] at hr
      have HR := hid hr
      clear hr
      generalize cmpId s' i' g' s i g = r at *
      go_wp2_with (go_at_call 106; refine belA (HC.out _) fun d os => ?_)
      exact bodyPost_ret (v := .tuple #[int i64 k, .bool (r == 0)]) (by simp [results, Tryz.results63, go_sem]) rfl ⟨by rw [← HR.out], HB.out.trans (Below.mono (B := wr.heap.size) bg (by omega))⟩
    · have hr := HQ.out
      simp only [if_neg h0] at hr
      have HR := hid hr
      clear hr
      generalize cmpId s' i' g' s i g = r at *
      go_wp2_with (go_at_call 106; refine belA (HC.out _) fun d os => ?_)
      go_roundg (l.length - (k + 1))
      case measure => omega
      case rel => exact ⟨k + 1, by go_num, by omega, by omega, HR, hid (HB.out.trans (Below.mono (B := wr.heap.size) bg (by omega))), by simp; omega, hid (fun j => by rw [← HI.out j]; exact Below.cell (B := wr.heap.size) bg (by simpa using hsz))⟩
  · obtain rfl : k = l.length := by omega
    have hr := HF.out
    rw [List.drop_length] at hr
    simp only [findB] at hr
    have HR := hid hr
    clear hr
    go_wp2_with fail
    exact bodyPost_ret (v := .tuple #[int i64 l.length, .bool false]) (by simp [results, Tryz.results63, go_sem]) rfl ⟨by rw [← HR.out], HB.out⟩
theorem BIn.cell3 {w : World} {v : Value} {l : List Bun} (h : BIn w v l) {k : Nat} {b : Bun} (hk : l[k]? = some b) : ∃ blk off cap, v = .slice (some ⟨blk, off, none⟩) l.length cap ∧ blk < w.heap.size ∧ w.cell? ⟨blk, off + k * 11, none⟩ = some (int i64 b.s) ∧ w.cell? ⟨blk, off + k * 11 + 1, none⟩ = some (int i64 b.i) ∧ w.cell? ⟨blk, off + k * 11 + 2, none⟩ = some (int i64 b.g) := by
 obtain ⟨g, o, c, hv, h1, h2⟩ := h.cells hk
 exact ⟨g, o, c, hv, h1, h2 0 _ rfl, h2 1 _ rfl, h2 2 _ rfl⟩
theorem rfind_any (v : Value) (l : List Bun) (s i g : Int) (w : World) (h : BIn w v l) (hl : l.length ≤ 1000000) :
 Calls prog 93 #[v, .agg #[int i64 s, int i64 i, int i64 g]] w fun e w' => e = .returned (.tuple #[int i64 (findB s i g l 0).1, .bool (findB s i g l 0).2]) ∧ Below w.heap.size w w' := by
 have H := hid h
 obtain ⟨pv, cv, rfl, _⟩ := h
 go_enter Tryz.func93, Tryz.ntmps93
 go_wp2_with fail
 go_loopg [6] l.length (fun kx x wr => ∃ k : Nat, x = int i64 k ∧ k ≤ l.length ∧ l.length - k ≤ kx ∧ Hid (findB s i g (l.drop k) k = findB s i g l 0) ∧ Hid (Below w.heap.size w wr) ∧ w.heap.size < wr.heap.size ∧ Hid (∀ j, wr.cell? ⟨w.heap.size, j, none⟩ = (#[int i64 s, int i64 i, int i64 g] : Array Value)[j]?))
 case atStart => exact ⟨0, by go_num, by omega, by omega, hid rfl, hid bg, by simp, hid (fun j => by simp)⟩
 case round =>
  obtain ⟨k, rfl, hk, hkx, HF, HB, hsz, HI⟩ := hrel
  have i0 := HI.out 0; have i1 := HI.out 1; have i2 := HI.out 2
  simp at i0 i1 i2
  obtain ⟨x0, x1, x2, x3⟩ := ltq hsz
  by_cases hlt : k < l.length
  · have t1 : (k : Int) < (l.length : Int) := by omega
    obtain ⟨b, hb⟩ : ∃ b, l[k]? = some b := ⟨_, List.getElem?_eq_getElem hlt⟩
    obtain ⟨gb, ob, cb, hv, hgb, c0, c1, c2⟩ := (H.out.keep HB.out).cell3 hb
    simp only [Value.slice.injEq, true_and] at hv
    obtain ⟨rfl, rfl⟩ := hv
    obtain ⟨y0, y1, y2, y3⟩ := ltq hgb
    have hq := HF.out
    rw [List.drop_eq_getElem_cons hlt, show l[k] = b from by have := List.getElem?_eq_getElem hlt; rw [hb] at this; exact (Option.some.inj this).symm] at hq
    simp only [findB] at hq
    have HQ := hid hq
    have HBC := hid (cmpId_before b.s b.i b.g s i g)
    have HZ := hid (cmpId_zero b.s b.i b.g s i g)
    have HBF := hid (fun W => before_any b.s b.i b.g s i g W)
    clear hq hb
    cases hbv : beforeB b.s b.i b.g s i g with
    | true =>
      have h1 := HBF.out
      rw [hbv] at h1
      have HBF2 := hid h1
      have hr := HQ.out
      have hlt2 := HBC.out
      rw [hbv] at hlt2
      simp only [if_neg (show ¬ 0 ≤ cmpId b.s b.i b.g s i g by have := of_decide_eq_true hlt2.symm; omega)] at hr
      have HR := hid hr
      clear hr h1 hlt2 hbv
      go_wp2_with fail
      refine wpm ?_
      repeat (go_big_quiet_step ((first | (go_at_call 16; exact more_call (HBF2.out _)))))
      refine wpQuiet_nil ?_
      rintro _ ⟨pm, rfl⟩
      go_wp2_with fail
      go_roundg (l.length - (k + 1))
      case measure => omega
      case rel => exact ⟨k + 1, by go_num, by omega, by omega, HR, hid (HB.out.trans (Below.mono (B := wr.heap.size) bg (by omega))), by simp; omega, hid (fun j => by rw [← HI.out j]; exact Below.cell (B := wr.heap.size) bg (by simpa using hsz))⟩
    | false =>
      have h1 := HBF.out
      rw [hbv] at h1
      have HBF2 := hid h1
      have hr := HQ.out
      have hlt2 := HBC.out
      rw [hbv] at hlt2
      simp only [if_pos (show 0 ≤ cmpId b.s b.i b.g s i g by have := of_decide_eq_false hlt2.symm; omega)] at hr
      have hz : (cmpId b.s b.i b.g s i g == 0) = idEq b.s b.i b.g s i g := by
       rw [Bool.eq_iff_iff, beq_iff_eq, HZ.out]
       simp [idEq, and_assoc]
      rw [hz] at hr
      have HR := hid hr
      clear hr h1 hlt2 hbv hz
      go_wp2_with fail
      refine wpm ?_
      repeat (go_big_quiet_step ((first | (go_at_call 16; exact more_call (HBF2.out _)))))
      refine wpQuiet_nil ?_
      rintro _ ⟨pm, rfl⟩
      have hw2 : Below w.heap.size w (more wr pm.d pm.os) := HB.out.trans (Below.mono (B := wr.heap.size) bg (by omega))
      have d0 := (more_cell wr pm.d pm.os ⟨gb, ob + k * 11, none⟩ hgb).trans c0
      have d1 := (more_cell wr pm.d pm.os ⟨gb, ob + k * 11 + 1, none⟩ hgb).trans c1
      have d2 := (more_cell wr pm.d pm.os ⟨gb, ob + k * 11 + 2, none⟩ hgb).trans c2
      have j0 := (more_cell wr pm.d pm.os ⟨w.heap.size, 0, none⟩ hsz).trans i0
      have j1 := (more_cell wr pm.d pm.os ⟨w.heap.size, 1, none⟩ hsz).trans i1
      have j2 := (more_cell wr pm.d pm.os ⟨w.heap.size, 2, none⟩ hsz).trans i2
      have hg2 : gb < (more wr pm.d pm.os).heap.size := by rw [more_size]; omega
      have hw3 : w.heap.size < (more wr pm.d pm.os).heap.size := by rw [more_size]; omega
      have HW2 := hid hw2
      clear hw2 c0 c1 c2 i0 i1 i2
      generalize more wr pm.d pm.os = W2 at *
      go_wp2_with fail
      refine wpm ?_
      repeat (go_big_quiet_step (fail))
      refine wpQuiet_nil ?_
      rintro _ ⟨pn, rfl⟩
      go_wp2_with fail
      exact bodyPost_ret (v := .tuple #[int i64 k, .bool (idEq b.s b.i b.g s i g)]) (by simp [results, Tryz.results93, go_sem]) rfl ⟨by rw [← HR.out], HW2.out.trans (Below.mono (B := W2.heap.size) bg (by omega))⟩
  · obtain rfl : k = l.length := by omega
    have hr := HF.out
    rw [List.drop_length] at hr
    simp only [findB] at hr
    have HR := hid hr
    have t1 : ¬ (l.length : Int) < (l.length : Int) := by omega
    clear hr
    go_wp2_with fail
    refine wpm ?_
    repeat (go_big_quiet_step (fail))
    refine wpQuiet_nil ?_
    rintro _ ⟨pn, rfl⟩
    go_wp2_with fail
    refine wpm ?_
    repeat (go_big_quiet_step (fail))
    refine wpQuiet_nil ?_
    rintro _ ⟨pq, rfl⟩
    go_wp2_with fail
    exact bodyPost_ret (v := .tuple #[int i64 l.length, .bool false]) (by simp [results, Tryz.results93, go_sem]) rfl ⟨by rw [← HR.out], HB.out.trans (Below.mono (B := wr.heap.size) bg (by omega))⟩
end
theorem head_ok {M : List Sh} {k : Int} (hg : ∀ m ∈ M, Good m) (h : (headF M k).2.2 = 0) : ∃ m x f r, shOf M k = some m ∧ m ∈ M ∧ m.free = f :: r ∧ m.all[f.toNat]? = some x ∧ headF M k = (f, decide (x.gen < x.bound), 0) ∧ 0 ≤ f ∧ f < m.all.length ∧ 0 ≤ x.gen ∧ x.gen < 1048576 ∧ x.bound ≤ 1048576 ∧ x.gen ≤ x.bound ∧ ixOf M k f = some x := by
 unfold headF at h ⊢
 cases hm : shOf M k with
 | none => simp [hm] at h
 | some m =>
   simp only [hm] at h ⊢
   have hmem : m ∈ M := by
    unfold shOf at hm
    split at hm
    · exact List.mem_of_getElem? hm
    · cases hm
   have G := hg m hmem
   cases hf : m.free with
   | nil => simp [hf] at h
   | cons f r =>
     simp only [hf] at h ⊢
     cases hx : m.all[f.toNat]? with
     | none => simp [hx] at h
     | some x =>
       simp only
       have hfm : f ∈ m.free := by rw [hf]; exact List.mem_cons_self ..
       obtain ⟨h1, h2⟩ := G.inv.fr f hfm
       obtain ⟨q1, q2, q3, q4, _⟩ := G.inv.rng _ _ hx
       refine ⟨m, x, f, r, rfl, hmem, hf, hx, rfl, h1, h2, q1, G.fg f hfm x hx, q4, G.le _ _ hx, ?_⟩
       unfold ixOf
       rw [hm]
       simp only [Option.bind_some, if_pos h1]
       exact hx
theorem take_head {M : List Sh} {k : Int} (hg : ∀ m ∈ M, Good m) (h : (headF M k).2.2 = 0) :
 ((headF M k).2.1 = true → (takeF M k (headF M k).1 (genF M k (headF M k).1)).1 = 0) ∧ ((headF M k).2.1 = false → (takeF M k (headF M k).1 (genF M k (headF M k).1)).1 = 9) := by
 obtain ⟨m, x, f, r, hm, hmem, hf, hx, hh, h1, h2, q1, q2, q3, q4, hix⟩ := head_ok hg h
 rw [hh]
 have hfr : frOf M k = f :: r := by unfold frOf; rw [hm]; exact hf
 have hge : genF M k f = x.gen := by unfold genF; rw [hix]
 unfold takeF
 simp only [hix, hge, hfr]
 rw [if_neg (by omega), if_neg (by simp)]
 constructor
 · intro hb
   have : x.gen < x.bound := by simpa using hb
   rw [if_neg (by omega)]
 · intro hb
   have : ¬ x.gen < x.bound := by simpa using hb
   rw [if_pos (by omega)]
theorem take_nine {M : List Sh} {k i g : Int} (h : (takeF M k i g).1 = 9) : (takeF M k i g).2 = M := by
 unfold takeF at h ⊢
 split at h
 · rfl
 · split at h
   · rename_i h1; simp only [if_pos h1]
   · rename_i h1
     split at h
     · rename_i h2; simp only [if_neg h1, if_pos h2]
     · rename_i h2
       split at h
       · rename_i h3; simp only [if_neg h1, if_neg h2, if_pos h3]
       · simp at h
theorem res_head {M : List Sh} {k : Int} (hg : ∀ m ∈ M, Good m) (h : (headF M k).2.2 = 0) (hb : (headF M k).2.1 = false) :
 (reserveF M k (headF M k).1).1 = 0 ∧ (takeF (reserveF M k (headF M k).1).2 k (headF M k).1 (genF M k (headF M k).1)).1 = 0 := by
 obtain ⟨m, x, f, r, hm, hmem, hf, hx, hh, h1, h2, q1, q2, q3, q4, hix⟩ := head_ok hg h
 rw [hh] at hb ⊢
 have hb : ¬ x.gen < x.bound := by simpa using hb
 have hge : genF M k f = x.gen := by unfold genF; rw [hix]
 have hr : reserveF M k f = (0, setIx M k f { x with bound := min (x.bound + 8) 1048576 }) := by
  unfold reserveF
  simp only [hix]
  rw [if_neg (by omega)]
 simp only [hr, hge, true_and]
 have hk : 0 ≤ k ∧ M[k.toNat]? = some m := by
  unfold shOf at hm
  split at hm
  · exact ⟨by assumption, hm⟩
  · cases hm
 have hkl := (List.getElem?_eq_some_iff.1 hk.2).1
 have hfl := (List.getElem?_eq_some_iff.1 hx).1
 have hsh : shOf (setIx M k f { x with bound := min (x.bound + 8) 1048576 }) k = some { m with all := m.all.set f.toNat { x with bound := min (x.bound + 8) 1048576 } } := by
  unfold setIx
  simp only [hm]
  unfold shOf
  rw [if_pos hk.1, List.getElem?_set_self hkl]
 unfold takeF
 have hi2 : ixOf (setIx M k f { x with bound := min (x.bound + 8) 1048576 }) k f = some { x with bound := min (x.bound + 8) 1048576 } := by
  unfold ixOf
  rw [hsh]
  simp only [Option.bind_some, if_pos h1]
  rw [List.getElem?_set_self hfl]
 have hfr : frOf (setIx M k f { x with bound := min (x.bound + 8) 1048576 }) k = f :: r := by unfold frOf; rw [hsh]; exact hf
 simp only [hi2, hfr]
 rw [if_neg (by omega), if_neg (by simp), if_neg (by omega)]
theorem cmdB_name {m : Cm} {s i g : Int} (hk : m.k = 1) (h : cmdB m = true) (ho : idOk s i g = true) : cmdB (nameCm m s i g) = true := by
 unfold cmdB nameCm at *
 simp only [hk, beq_self_eq_true, if_true, checkB, rightB, Bool.and_eq_true] at h ⊢
 exact ⟨h.1, ⟨h.2.1, ho⟩⟩
theorem adm_name {c : Cfg} {D : Dk} {m : Cm} {s i g : Int} (hk : m.k = 1) (hc : cmdB (nameCm m s i g) = true) (hf : fullB c D ≠ true) (ho : ofF c m.b.x m.b.y = s) : (admitF c D (nameCm m s i g)).1 = (takeF D.M s i g).1 ∧ ((takeF D.M s i g).1 = 9 → (admitF c D (nameCm m s i g)).2 = D) := by
 unfold admitF
 rw [if_neg (by rw [hc]; simp), if_neg hf, if_pos (show (nameCm m s i g).k = 1 from hk), if_neg (fun h => h ho)]
 change (if (takeF D.M s i g).1 ≠ 0 then ((takeF D.M s i g).1, { D with M := (takeF D.M s i g).2 }) else (0, { D with M := (takeF D.M s i g).2, q := D.q ++ [nameCm m s i g] }) : Int × Dk).1 = _ ∧ (_ → (if (takeF D.M s i g).1 ≠ 0 then ((takeF D.M s i g).1, { D with M := (takeF D.M s i g).2 }) else (0, { D with M := (takeF D.M s i g).2, q := D.q ++ [nameCm m s i g] }) : Int × Dk).2 = D)
 by_cases h0 : (takeF D.M s i g).1 = 0
 · rw [if_neg (fun h => h h0), h0]; exact ⟨rfl, fun h => by omega⟩
 · rw [if_pos h0]
   refine ⟨rfl, fun h9 => ?_⟩
   simp only [take_nine h9]
theorem look_adm (c : Cfg) (D : Dk) (m a : Cm) (must : Bool) (hg : ∀ m ∈ D.M, Good m) (hl : D.M.length ≤ 16) (h : lookF c D m = (a, must, 0)) :
 (m.k = 1 → ∃ s i g, a = nameCm m s i g ∧ newB m = true ∧ ofF c m.b.x m.b.y = s ∧ (must = false → (admitF c D a).1 = 0) ∧ (must = true → (admitF c D a).1 = 9 ∧ (admitF c D a).2 = D ∧ (reservedF D s i).1 = 0 ∧ (admitF c (reservedF D s i).2 a).1 = 0)) ∧ (m.k ≠ 1 → a = m ∧ must = false ∧ (admitF c D a).1 = 0) := by
 unfold lookF at h
 split at h
 · simp at h
 rename_i h1
 have hcm : cmdB m = true := by
  cases hb : cmdB m with
  | true => rfl
  | false => exact absurd (Or.inl hb) h1
 split at h
 · rename_i hk
   have hnew : newB m = true := by
    cases hb : newB m with
    | true => rfl
    | false => exact absurd (Or.inr ⟨hk, hb⟩) h1
   split at h
   · simp at h
   split at h
   · simp at h
   rename_i hfull
   split at h
   · simp at h
   rename_i hh0
   have hh := Decidable.not_not.1 hh0
   refine ⟨fun _ => ?_, fun hn => absurd hk hn⟩
   generalize hzn : ofF c m.b.x m.b.y = zn at *
   have T1 := take_head hg hh
   have T2 := fun hb => res_head hg hh hb
   obtain ⟨m0, x, f, r, hm, hmem, hf, hx, he, f1, f2, q1, q2, q3, q4, hix⟩ := head_ok hg hh
   have hge : genF D.M zn f = x.gen := by unfold genF; rw [hix]
   rw [he] at h T1 T2
   simp only [hge] at h T1 T2
   simp only [Prod.mk.injEq, and_true] at h
   obtain ⟨rfl, rfl⟩ := h
   have hid : idOk zn f x.gen = true := by
    have hz : 0 ≤ zn ∧ zn.toNat < D.M.length := by
     unfold shOf at hm
     split at hm
     · exact ⟨by assumption, (List.getElem?_eq_some_iff.1 hm).1⟩
     · cases hm
    have h16 := (hg m0 hmem).inv.few
    simp [idOk, inR]
    omega
   have hc := cmdB_name hk hcm hid
   obtain ⟨A1, A2⟩ := adm_name (c := c) (D := D) hk hc hfull hzn
   refine ⟨zn, f, x.gen, rfl, hnew, rfl, fun hb => ?_, fun hb => ?_⟩
   · rw [A1]; exact T1.1 (by simpa using hb)
   · have hb' : decide (x.gen < x.bound) = false := by simpa using hb
     have h9 := T1.2 hb'
     obtain ⟨B1, B2⟩ := T2 hb'
     refine ⟨A1.trans h9, A2 h9, B1, ?_⟩
     exact (adm_name (c := c) (D := (reservedF D zn f).2) hk hc hfull hzn).1.trans B2
 · rename_i hk
   refine ⟨fun hn => absurd hn hk, fun _ => ?_⟩
   split at h
   · simp at h
   rename_i h2
   split at h
   · simp at h
   split at h
   · simp at h
   rename_i h4
   simp only [Prod.mk.injEq, and_true] at h
   obtain ⟨rfl, rfl⟩ := h
   refine ⟨rfl, rfl, ?_⟩
   unfold admitF
   rw [if_neg (by rw [hcm]; simp), if_neg h4, if_neg hk, if_neg h2]
structure GM (ids : Nat) (M : List Sh) : Prop where
 i16 : ids ≤ 16
 m16 : M.length ≤ 16
 len : ∀ m ∈ M, m.all.length = ids
 good : ∀ m ∈ M, Good m
theorem GM.set {ids : Nat} {M : List Sh} (h : GM ids M) {k : Nat} {m' : Sh} (hl : m'.all.length = ids) (hg : Good m') : GM ids (M.set k m') := by
 refine ⟨h.i16, by rw [List.length_set]; exact h.m16, fun a ha => ?_, fun a ha => ?_⟩
 · rcases List.mem_or_eq_of_mem_set ha with ha | rfl
   · exact h.len a ha
   · exact hl
 · rcases List.mem_or_eq_of_mem_set ha with ha | rfl
   · exact h.good a ha
   · exact hg
theorem shOf_iff {M : List Sh} {k : Int} {m : Sh} : shOf M k = some m ↔ ∃ n : Nat, k = n ∧ M[n]? = some m := by
 unfold shOf
 constructor
 · intro h
   split at h
   · exact ⟨k.toNat, by omega, h⟩
   · cases h
 · rintro ⟨n, rfl, h⟩
   rw [if_pos (Int.natCast_nonneg n), Int.toNat_natCast]; exact h
theorem ixOf_iff {M : List Sh} {k i : Int} {x : Ix} : ixOf M k i = some x ↔ ∃ (n j : Nat) (m : Sh), k = n ∧ i = j ∧ M[n]? = some m ∧ m.all[j]? = some x := by
 unfold ixOf
 constructor
 · intro h
   obtain ⟨m, hm, hx⟩ := Option.bind_eq_some_iff.1 h
   obtain ⟨n, rfl, hn⟩ := shOf_iff.1 hm
   split at hx
   · exact ⟨n, i.toNat, m, rfl, by omega, hn, hx⟩
   · cases hx
 · rintro ⟨n, j, m, rfl, rfl, hm, hx⟩
   rw [shOf_iff.2 ⟨n, rfl, hm⟩]
   simp only [Option.bind_some, if_pos (Int.natCast_nonneg j), Int.toNat_natCast]; exact hx
theorem ixOf_set {M : List Sh} {k j : Nat} {m : Sh} {x y : Ix} {fr : List Int} (hm : M[k]? = some m) (hx : m.all[j]? = some x) (s i : Int) : ixOf (M.set k ⟨m.all.set j y, fr⟩) s i = if s = k ∧ i = j then some y else ixOf M s i := by
 have hk := (List.getElem?_eq_some_iff.1 hm).1
 have hj := (List.getElem?_eq_some_iff.1 hx).1
 apply Option.ext
 intro a
 constructor
 · intro h
   obtain ⟨n, q, m', rfl, rfl, h1, h2⟩ := ixOf_iff.1 h
   by_cases hn : n = k
   · subst hn
     rw [List.getElem?_set_self hk] at h1
     cases h1
     by_cases hq : q = j
     · subst hq
       rw [List.getElem?_set_self hj] at h2
       rw [if_pos ⟨rfl, rfl⟩]; exact h2
     · rw [List.getElem?_set_ne (Ne.symm hq)] at h2
       rw [if_neg (fun e => hq (by omega))]
       exact ixOf_iff.2 ⟨n, q, m, rfl, rfl, hm, h2⟩
   · rw [List.getElem?_set_ne (Ne.symm hn)] at h1
     rw [if_neg (fun e => hn (by omega))]
     exact ixOf_iff.2 ⟨n, q, m', rfl, rfl, h1, h2⟩
 · intro h
   by_cases he : s = k ∧ i = j
   · obtain ⟨rfl, rfl⟩ := he
     rw [if_pos ⟨rfl, rfl⟩] at h
     exact ixOf_iff.2 ⟨k, j, _, rfl, rfl, List.getElem?_set_self hk, by rw [List.getElem?_set_self hj]; exact h⟩
   · rw [if_neg he] at h
     obtain ⟨n, q, m', rfl, rfl, h1, h2⟩ := ixOf_iff.1 h
     by_cases hn : n = k
     · subst hn
       rw [hm] at h1
       cases h1
       exact ixOf_iff.2 ⟨n, q, _, rfl, rfl, List.getElem?_set_self hk, by rw [List.getElem?_set_ne (fun e => he ⟨rfl, by omega⟩)]; exact h2⟩
     · exact ixOf_iff.2 ⟨n, q, m', rfl, rfl, by rw [List.getElem?_set_ne (Ne.symm hn)]; exact h1, h2⟩
def alN (M : List Sh) (n : Nid) : Prop := aliveF M n.s n.i n.g = true
theorem alN_iff {M : List Sh} {n : Nid} : alN M n ↔ ∃ x, ixOf M n.s n.i = some x ∧ x.alive = true ∧ x.gen = n.g := by
 unfold alN aliveF
 cases h : ixOf M n.s n.i with
 | none => simp
 | some x => simp
def usedN (M : List Sh) (n : Nid) : Prop := ∃ x, ixOf M n.s n.i = some x ∧ (n.g < x.gen ∨ (n.g = x.gen ∧ x.alive = true))
theorem alN.used {M : List Sh} {n : Nid} (h : alN M n) : usedN M n := by
 obtain ⟨x, h1, h2, h3⟩ := alN_iff.1 h
 exact ⟨x, h1, .inr ⟨h3.symm, h2⟩⟩
structure Beg (ids : Nat) (M : List Sh) (k : Int) (M' : List Sh) (n : Nid) : Prop where
 gm : GM ids M'
 len : M'.length = M.length
 al : ∀ a, alN M' a ↔ alN M a ∨ a = n
 fresh : ¬ usedN M n
 used : ∀ a, usedN M a → usedN M' a
 s : n.s = k
theorem take_go {M : List Sh} {k i : Nat} {m : Sh} {fs : List Int} {x : Ix} (hm : M[k]? = some m) (hf : m.free = (i : Int) :: fs) (hx : m.all[i]? = some x) (hg : Good m) (hb : x.gen < x.bound) : takeF M k i x.gen = (0, M.set k ⟨m.all.set i ⟨x.gen, x.bound, true⟩, fs⟩) := by
 have hkl := (List.getElem?_eq_some_iff.1 hm).1
 have hix : ixOf M k i = some x := ixOf_iff.2 ⟨k, i, m, rfl, rfl, hm, hx⟩
 have hfr : frOf M k = (i : Int) :: fs := by rw [frOf_nat hm]; exact hf
 have h0 := (hg.inv.rng i x hx).1
 have hnd := hg.inv.nd
 rw [hf] at hnd
 have hni := (List.nodup_cons.1 hnd).1
 unfold takeF
 simp only [hix, hfr]
 rw [if_neg (by omega), if_neg (by simp), if_neg (by omega), setIx_nat _ hm]
 rw [setFr_nat (m := { m with all := m.all.set i ⟨x.gen, x.bound, true⟩ }) _ (List.getElem?_set_self hkl), List.set_set]
 have e : ((i : Int) :: fs).filter (fun j => !(j == (i : Int))) = fs := by
  rw [List.filter_cons]
  simp only [beq_self_eq_true, Bool.not_true, Bool.false_eq_true, if_false]
  rw [List.filter_eq_self]
  intro a ha
  simp only [Bool.not_eq_true', beq_eq_false_iff_ne]
  intro e; subst e; exact hni ha
 rw [e]
theorem res_go {M : List Sh} {k i : Nat} {m : Sh} {x : Ix} (hm : M[k]? = some m) (hx : m.all[i]? = some x) (hb : ¬ x.bound = 1048576) : reserveF M k i = (0, M.set k { m with all := m.all.set i { x with bound := min (x.bound + 8) 1048576 } }) := by
 have hix : ixOf M k i = some x := ixOf_iff.2 ⟨k, i, m, rfl, rfl, hm, hx⟩
 unfold reserveF
 simp only [hix, if_neg hb]
 rw [setIx_nat _ hm]
theorem beg_pool {ids : Nat} {M : List Sh} (h : GM ids M) {k : Int} (hh : (headF M k).2.2 = 0) :
 ∃ f g : Int, f = (headF M k).1 ∧ g = genF M k (headF M k).1 ∧ ((headF M k).2.1 = true → (takeF M k f g).1 = 0 ∧ Beg ids M k (takeF M k f g).2 ⟨k, f, g⟩) ∧
   ((headF M k).2.1 = false → (reserveF M k f).1 = 0 ∧ (takeF (reserveF M k f).2 k f g).1 = 0 ∧ Beg ids M k (takeF (reserveF M k f).2 k f g).2 ⟨k, f, g⟩) := by
 obtain ⟨m, x, f, fs, hm, hmem, hf, hx, he, h1, h2, q1, q2, q3, q4, hix⟩ := head_ok h.good hh
 obtain ⟨n, rfl, hn⟩ := shOf_iff.1 hm
 obtain ⟨i, rfl⟩ := Int.eq_ofNat_of_zero_le h1
 rw [Int.toNat_natCast] at hx
 have hG := h.good m hmem
 have hge : genF M (n : Int) (i : Int) = x.gen := by unfold genF; rw [hix]
 rw [he]
 refine ⟨(i : Int), x.gen, rfl, hge.symm, ?_⟩
 obtain ⟨x', hx', _, _, hgood⟩ := nextF_cons hn hf hG
 rw [Int.toNat_natCast, hx] at hx'
 cases hx'
 rw [Int.toNat_natCast] at hgood
 have hdead := hG.inv.dead (i : Int) (by rw [hf]; simp) x (by simpa using hx)
 have key : ∀ M', M' = M.set n ⟨m.all.set i (nxtIx x), fs⟩ → Beg ids M (n : Int) M' ⟨n, i, x.gen⟩ := by
  rintro M' rfl
  have hset := fun s j => ixOf_set (y := nxtIx x) (fr := fs) hn hx s j
  refine ⟨h.set (by rw [List.length_set]; exact h.len m hmem) hgood, List.length_set .., fun a => ?_, ?_, fun a ha => ?_, rfl⟩
  · rw [alN_iff, hset, alN_iff]
    by_cases he2 : a.s = (n : Int) ∧ a.i = (i : Int)
    · rw [if_pos he2]
      constructor
      · rintro ⟨y, hy, _, h4⟩
        cases hy
        refine .inr ?_
        obtain ⟨a1, a2, a3⟩ := a
        simp only at he2 h4
        rw [he2.1, he2.2, ← h4]; rfl
      · rintro (⟨y, hy, h3, h4⟩ | rfl)
        · rw [he2.1, he2.2, hix] at hy; cases hy; rw [hdead] at h3; cases h3
        · exact ⟨_, rfl, rfl, rfl⟩
    · rw [if_neg he2]
      constructor
      · intro h; exact .inl h
      · rintro (h | rfl)
        · exact h
        · exact absurd ⟨rfl, rfl⟩ he2
  · rintro ⟨y, hy, h3⟩
    rw [hix] at hy
    cases hy
    simp only at h3
    rcases h3 with h3 | h3
    · omega
    · rw [hdead] at h3; cases h3.2
  · obtain ⟨y, hy, h3⟩ := ha
    by_cases he2 : a.s = (n : Int) ∧ a.i = (i : Int)
    · rw [he2.1, he2.2, hix] at hy
      cases hy
      refine ⟨nxtIx x, by rw [hset, if_pos he2], ?_⟩
      rcases h3 with h3 | h3
      · exact .inl h3
      · exact .inr ⟨h3.1, rfl⟩
    · exact ⟨y, by rw [hset, if_neg he2]; exact hy, h3⟩
 constructor
 · intro hb
   have hb : x.gen < x.bound := by simpa using hb
   rw [take_go hn hf hx hG hb]
   refine ⟨rfl, key _ ?_⟩
   simp only [nxtIx, if_pos hb]
 · intro hb
   have hb : ¬ x.gen < x.bound := by simpa using hb
   rw [res_go hn hx (by omega)]
   have hkl := (List.getElem?_eq_some_iff.1 hn).1
   have hil := (List.getElem?_eq_some_iff.1 hx).1
   have hr := hG.inv.rng i x hx
   have hn1 : (M.set n { m with all := m.all.set i { x with bound := min (x.bound + 8) 1048576 } })[n]? = some { m with all := m.all.set i { x with bound := min (x.bound + 8) 1048576 } } := List.getElem?_set_self hkl
   have hG1 : Good { m with all := m.all.set i { x with bound := min (x.bound + 8) 1048576 } } := by
    refine set_good hG _ (hG.inv.set_ix i _ ⟨hr.1, hr.2.1, ?_, ?_, fun ha => hr.2.2.2.2 ha⟩ fun _ => hdead) ?_ ?_ fun _ => q2
    · simp only; omega
    · simp only; omega
    · simp only; omega
    · simp only; intro ha; rw [hdead] at ha; cases ha
   have ht := take_go (x := { x with bound := min (x.bound + 8) 1048576 }) hn1 hf (List.getElem?_set_self hil) hG1 (by simp only; omega)
   simp only at ht
   rw [ht]
   refine ⟨rfl, rfl, key _ ?_⟩
   rw [List.set_set, List.set_set]
   simp only [nxtIx, if_neg hb]
theorem free_pool {ids : Nat} {M : List Sh} (h : GM ids M) (d : Nid) : GM ids (freeF M d.s d.i d.g).2 ∧ (freeF M d.s d.i d.g).2.length = M.length ∧ (∀ a, alN (freeF M d.s d.i d.g).2 a ↔ alN M a ∧ a ≠ d) ∧ (∀ a, usedN M a → usedN (freeF M d.s d.i d.g).2 a) ∧ ((freeF M d.s d.i d.g).1 = 0 ↔ alN M d) := by
 by_cases hd : alN M d
 · obtain ⟨x, hx, ha, hg⟩ := alN_iff.1 hd
   obtain ⟨n, i, m, h1, h2, hm, hxi⟩ := ixOf_iff.1 hx
   have hG := h.good m (List.mem_of_getElem? hm)
   obtain ⟨e1, e2⟩ := freeF_alive hm hxi ha hG
   obtain ⟨ds, di, dg⟩ := d
   simp only at h1 h2 hg hx ⊢
   subst h1 h2 hg
   rw [e1]
   have hl : (freedSh m i x).all = m.all.set i ⟨x.gen + 1, x.bound, false⟩ := by unfold freedSh; split <;> rfl
   have hset : ∀ s j, ixOf (M.set n (freedSh m i x)) s j = if s = (n : Int) ∧ j = (i : Int) then some ⟨x.gen + 1, x.bound, false⟩ else ixOf M s j := fun s j => by
    have e : freedSh m i x = ⟨m.all.set i ⟨x.gen + 1, x.bound, false⟩, (freedSh m i x).free⟩ := by rw [← hl]
    rw [e]
    exact ixOf_set hm hxi s j
   refine ⟨h.set (by rw [hl, List.length_set]; exact h.len m (List.mem_of_getElem? hm)) e2, List.length_set .., fun a => ?_, fun a hu => ?_, ?_⟩
   · rw [alN_iff, hset, alN_iff]
     by_cases he2 : a.s = (n : Int) ∧ a.i = (i : Int)
     · rw [if_pos he2]
       constructor
       · rintro ⟨y, hy, h3, _⟩; cases hy; cases h3
       · rintro ⟨⟨y, hy, h3, h4⟩, hne⟩
         rw [he2.1, he2.2, hx] at hy
         cases hy
         obtain ⟨a1, a2, a3⟩ := a
         simp only at he2 h4
         exact absurd (by rw [he2.1, he2.2, h4]) hne
     · rw [if_neg he2]
       constructor
       · intro h3; exact ⟨h3, fun e => he2 (by rw [e]; exact ⟨rfl, rfl⟩)⟩
       · exact fun h3 => h3.1
   · obtain ⟨y, hy, h3⟩ := hu
     by_cases he2 : a.s = (n : Int) ∧ a.i = (i : Int)
     · rw [he2.1, he2.2, hx] at hy
       cases hy
       exact ⟨_, by rw [hset, if_pos he2], .inl (by simp only; rcases h3 with h3 | h3 <;> omega)⟩
     · exact ⟨y, by rw [hset, if_neg he2]; exact hy, h3⟩
   · exact ⟨fun _ => hd, fun _ => rfl⟩
 · have e : (freeF M d.s d.i d.g).2 = M ∧ (freeF M d.s d.i d.g).1 ≠ 0 := by
    unfold freeF
    cases hx : ixOf M d.s d.i with
    | none => exact ⟨rfl, by simp⟩
    | some x =>
      simp only
      split
      · exact ⟨rfl, by simp⟩
      · split
        · exact ⟨rfl, by simp⟩
        · rename_i h3
          simp only [Bool.not_eq_false, Bool.and_eq_true, beq_iff_eq] at h3
          exact absurd (alN_iff.2 ⟨x, hx, h3.1, h3.2⟩) hd
   rw [e.1]
   exact ⟨h, rfl, fun a => ⟨fun h3 => ⟨h3, fun e => hd (e ▸ h3)⟩, fun h3 => h3.1⟩, fun _ h => h, ⟨fun h3 => absurd h3 e.2, fun h3 => absurd h3 hd⟩⟩
theorem frees_pool {ids : Nat} : ∀ (l : List Nid) {M : List Sh} (n : Nat), GM ids M → GM ids (freesF M n l).2 ∧ (freesF M n l).2.length = M.length ∧ (∀ a, alN (freesF M n l).2 a ↔ alN M a ∧ a ∉ l) ∧ (∀ a, usedN M a → usedN (freesF M n l).2 a)
 | [], M, n, h => ⟨h, rfl, fun a => ⟨fun h3 => ⟨h3, by simp⟩, fun h3 => h3.1⟩, fun _ h => h⟩
 | x :: l, M, n, h => by
   obtain ⟨h1, h2, h3, h4, _⟩ := free_pool h x
   obtain ⟨g1, g2, g3, g4⟩ := frees_pool l (n + if (freeF M x.s x.i x.g).1 = 0 then 1 else 0) h1
   rw [freesF]
   refine ⟨g1, g2.trans h2, fun a => ?_, fun a ha => g4 a (h4 a ha)⟩
   rw [g3, h3]
   simp only [List.mem_cons, not_or]
   constructor
   · rintro ⟨⟨q1, q2⟩, q3⟩; exact ⟨q1, q2, q3⟩
   · rintro ⟨q1, q2, q3⟩; exact ⟨⟨q1, q2⟩, q3⟩
section
theorem RIn.ldm {w : World} {v : Value} {l : List Cm} (h : RIn cmC w v l) {j : Nat} {b : Cm} (hk : l[j]? = some b) : ∃ blk off cap, v = .slice (some ⟨blk, off, none⟩) l.length cap ∧ ∀ d os, (ldM ⟨blk, off + j * 16, none⟩).run prog (more w d os) = .ok (.agg (cmC b).toArray) (more w d os) := by
 obtain ⟨g, o, c, hv, h1, h2⟩ := h.cells cmC_len hk
 exact ⟨g, o, c, hv, fun d os => ldM_of b fun j' u hj => (more_cell w d os ⟨g, o + j * 16 + j', none⟩ h1).trans (h2 j' u hj)⟩
attribute [local go_sem ↓] loadVar_ldM storeVar_stM
theorem sameCm_self (va vb : Value) (l : List Cm) (w : World) (ha : RIn cmC w va l) (hb : RIn cmC w vb l) :
 Calls prog 73 #[va, vb] w fun e w' => e = .returned (.bool true) ∧ Below w.heap.size w w' := by
 have HA := hid ha
 have HB := hid hb
 obtain ⟨pa, ca, rfl, ma, _⟩ := ha
 obtain ⟨pb, cb, rfl, mb, _⟩ := hb
 unfold maxLen at ma mb
 go_enter Tryz.func73, Tryz.ntmps73
 go_wp2_with fail
 go_loopg [5] l.length (fun kx x wr => ∃ k : Nat, x = int i64 k ∧ k ≤ l.length ∧ l.length - k ≤ kx ∧ Hid (Below w.heap.size w wr))
 case atStart => exact ⟨0, by go_num, by omega, by omega, hid (Below.refl _ _)⟩
 case round =>
  obtain ⟨j, rfl, hk, hkx, HW⟩ := hrel
  by_cases hlt : j < l.length
  · have t1 : (j : Int) < (l.length : Int) := by omega
    obtain ⟨b, hb⟩ : ∃ b, l[j]? = some b := ⟨_, List.getElem?_eq_getElem hlt⟩
    obtain ⟨g1, o1, c1, hv1, l1⟩ := (HA.out.keep HW.out).ldm hb
    obtain ⟨g2, o2, c2, hv2, l2⟩ := (HB.out.keep HW.out).ldm hb
    simp only [Value.slice.injEq, true_and] at hv1 hv2
    obtain ⟨rfl, rfl⟩ := hv1
    obtain ⟨rfl, rfl⟩ := hv2
    clear hb
    obtain ⟨k, s, i, g, ⟨es, ei, eg, m, x, y, vx, vy, hp, pw, lf⟩, mask⟩ := b
    have hbe : cmEq ⟨k, s, i, g, ⟨es, ei, eg, m, x, y, vx, vy, hp, pw, lf⟩, mask⟩ ⟨k, s, i, g, ⟨es, ei, eg, m, x, y, vx, vy, hp, pw, lf⟩, mask⟩ = true := cmEq_self _
    have m1 : ∀ d os, (ldM ⟨g1, o1 + j * 16, none⟩).run prog (more wr d os) = .ok (.agg #[int i64 k, int i64 s, int i64 i, int i64 g, int i64 es, int i64 ei, int i64 eg, int i64 m, int i64 x, int i64 y, int i64 vx, int i64 vy, int i64 hp, int i64 pw, int i64 lf, int i64 mask]) (more wr d os) := l1
    have m2 : ∀ d os, (ldM ⟨g2, o2 + j * 16, none⟩).run prog (more wr d os) = .ok (.agg #[int i64 k, int i64 s, int i64 i, int i64 g, int i64 es, int i64 ei, int i64 eg, int i64 m, int i64 x, int i64 y, int i64 vx, int i64 vy, int i64 hp, int i64 pw, int i64 lf, int i64 mask]) (more wr d os) := l2
    clear l1 l2
    go_wp2_with fail
    refine wpm ?_
    repeat (go_big_quiet_step (fail))
    refine wpQuiet_nil ?_
    rintro _ ⟨pn, rfl⟩
    go_wp2_with fail
    go_roundg (l.length - (j + 1))
    case measure => omega
    case rel => exact ⟨j + 1, by go_num, by omega, by omega, hid (HW.out.trans (Below.mono (B := wr.heap.size) bg HW.out.size))⟩
  · have t1 : ¬ (j : Int) < (l.length : Int) := by omega
    go_wp2_with fail
    go_ret
    exact ⟨rfl, HW.out⟩
theorem sameNid_self (va vb : Value) (l : List Nid) (w : World) (ha : RIn nidL w va l) (hb : RIn nidL w vb l) :
 Calls prog 30 #[va, vb] w fun e w' => e = .returned (.bool true) ∧ Below w.heap.size w w' := by
 have HA := hid ha
 have HB := hid hb
 obtain ⟨pa, ca, rfl, ma, _⟩ := ha
 obtain ⟨pb, cb, rfl, mb, _⟩ := hb
 unfold maxLen at ma mb
 go_enter Tryz.func30, Tryz.ntmps30
 go_wp2_with fail
 go_loopg [5] l.length (fun kx x wr => ∃ k : Nat, x = int i64 k ∧ k ≤ l.length ∧ l.length - k ≤ kx ∧ Hid (Below w.heap.size w wr))
 case atStart => exact ⟨0, by go_num, by omega, by omega, hid (Below.refl _ _)⟩
 case round =>
  obtain ⟨j, rfl, hk, hkx, HW⟩ := hrel
  by_cases hlt : j < l.length
  · have t1 : (j : Int) < (l.length : Int) := by omega
    obtain ⟨b, hb⟩ : ∃ b, l[j]? = some b := ⟨_, List.getElem?_eq_getElem hlt⟩
    obtain ⟨g1, o1, c1, hv1, b1, l1⟩ := (HA.out.keep HW.out).cells nidL_len hb
    obtain ⟨g2, o2, c2, hv2, b2, l2⟩ := (HB.out.keep HW.out).cells nidL_len hb
    simp only [Value.slice.injEq, true_and] at hv1 hv2
    obtain ⟨rfl, rfl⟩ := hv1
    obtain ⟨rfl, rfl⟩ := hv2
    clear hb
    obtain ⟨s, i, g⟩ := b
    have hbe : idEq s i g s i g = true := by simp [idEq]
    have p0 := l1 0 _ rfl
    have p1 := l1 1 _ rfl
    have p2 := l1 2 _ rfl
    have q0 := l2 0 _ rfl
    have q1 := l2 1 _ rfl
    have q2 := l2 2 _ rfl
    rw [Nat.add_zero] at p0 q0
    obtain ⟨z0, z1, z2⟩ := ltz b1
    obtain ⟨y0, y1, y2⟩ := ltz b2
    clear l1 l2
    simp only at p0 p1 p2 q0 q1 q2
    go_wp2_with fail
    refine wpm ?_
    repeat (go_big_quiet_step (fail))
    refine wpQuiet_nil ?_
    rintro _ ⟨pn, rfl⟩
    go_wp2_with fail
    go_roundg (l.length - (j + 1))
    case measure => omega
    case rel => exact ⟨j + 1, by go_num, by omega, by omega, hid (HW.out.trans (Below.mono (B := wr.heap.size) bg HW.out.size))⟩
  · have t1 : ¬ (j : Int) < (l.length : Int) := by omega
    go_wp2_with fail
    go_ret
    exact ⟨rfl, HW.out⟩
end
def lookedF (c : Cfg) (D : Dk) (m : Cm) : Dk := if (lookF c D m).2.1 = true then (reservedF D (lookF c D m).1.b.s (lookF c D m).1.b.i).2 else D
section
theorem look_cases (c : Cfg) (D : Dk) (m : Cm) : (∃ e : Int, e ≠ 0 ∧ lookF c D m = (zeroCm, false, e)) ∨ (m.k = 1 ∧ (headF D.M (ofF c m.b.x m.b.y)).2.2 = 0 ∧ lookF c D m = (nameCm m (ofF c m.b.x m.b.y) (headF D.M (ofF c m.b.x m.b.y)).1 (genF D.M (ofF c m.b.x m.b.y) (headF D.M (ofF c m.b.x m.b.y)).1), !(headF D.M (ofF c m.b.x m.b.y)).2.1, 0)) ∨ (m.k ≠ 1 ∧ lookF c D m = (m, false, 0)) := by
 unfold lookF
 split
 · exact .inl ⟨1, by omega, rfl⟩
 split
 · rename_i hk
   split
   · exact .inl ⟨5, by omega, rfl⟩
   split
   · exact .inl ⟨8, by omega, rfl⟩
   split
   · exact .inl ⟨13, by omega, rfl⟩
   rename_i hh
   exact .inr (.inl ⟨hk, Decidable.not_not.1 hh, rfl⟩)
 · rename_i hk
   split
   · exact .inl ⟨9, by omega, rfl⟩
   split
   · exact .inl ⟨10, by omega, rfl⟩
   split
   · exact .inl ⟨8, by omega, rfl⟩
   exact .inr (.inr ⟨hk, rfl⟩)
theorem look_mask (c : Cfg) (D : Dk) (m : Cm) : (lookF c D m).1.b.m = m.b.m ∨ (lookF c D m).1.b.m = 0 := by
 rcases look_cases c D m with ⟨e, _, h⟩ | ⟨_, _, h⟩ | ⟨_, h⟩
 · rw [h]; exact .inr rfl
 · rw [h]; exact .inl rfl
 · rw [h]; exact .inl rfl
theorem st_at (V : World) (b : Nat) (h16 : ∀ j, j < 16 → (V.cell? ⟨b, j, none⟩).isSome = true) (hf : ∀ j, V.frozen? ⟨b, j, none⟩ = false) (m : Cm) : (stM ⟨b, 0, none⟩ (.agg (cmC m).toArray)).run prog V = .ok () (V.setCells b 0 (cmC m)) := by
 have h := Go.run_storeCells_cells (P := prog) b 0 (cmC m) 0 V (fun j hj => by rw [show 0 + 0 + j = j by omega]; exact h16 j hj) (fun j _ => hf _) (cmC_one m)
 exact stM_of m (by simpa using h)
theorem arr16 {cur : Array Value} {m : Cm} (hs : cur.size = 16) (hin : ∀ (j : Nat) (u : Value), (cmC m)[j]? = some u → cur[j]? = some u) : cur = (cmC m).toArray := by
 apply Array.ext_getElem?
 intro j
 have e : (cmC m).toArray[j]? = (cmC m)[j]? := List.getElem?_toArray ..
 rw [e]
 cases h : (cmC m)[j]? with
 | some u => exact hin j u h
 | none =>
   have := List.getElem?_eq_none_iff.1 h
   rw [cmC_len] at this
   exact Array.getElem?_eq_none (by omega)
theorem cells_box (V : World) (b : Nat) (a : Array Value) (T : TypeId) (ha : a.size = 16) (hh : V.heap[b]? = some (.cells a T (0, 0))) (m : Cm) : (V.setCells b 0 (cmC m)).heap[b]? = some (.cells (cmC m).toArray T (0, 0)) := by
 obtain ⟨cur', hg', hs', _, hin, _⟩ := setCells_heap b T (0, 0) (cmC m) 0 V a hh (by rw [cmC_len]; omega)
 have e := arr16 (cur := cur') (m := m) (by omega) fun j u hj => by have := hin j u hj; rwa [Nat.zero_add] at this
 rw [hg', e]
theorem new_cmO (W : World) (m : Cm) : ∃ w5, (stM ⟨W.heap.size, 0, none⟩ (.agg (cmC m).toArray)).run prog (W.alloc (.cells #[int i64 0, int i64 0, int i64 0, int i64 0, int i64 0, int i64 0, int i64 0, int i64 0, int i64 0, int i64 0, int i64 0, int i64 0, int i64 0, int i64 0, int i64 0, int i64 0] 34)) = .ok () w5 ∧ Made W w5 (boxO W.heap.size (cmC m).toArray 34) := by
 obtain ⟨k5, g5, s5, b5⟩ := new_box W #[int i64 0, int i64 0, int i64 0, int i64 0, int i64 0, int i64 0, int i64 0, int i64 0, int i64 0, int i64 0, int i64 0, int i64 0, int i64 0, int i64 0, int i64 0, int i64 0] 34 W.heap.size rfl
 have hh := heap_alloc_new W (.cells #[int i64 0, int i64 0, int i64 0, int i64 0, int i64 0, int i64 0, int i64 0, int i64 0, int i64 0, int i64 0, int i64 0, int i64 0, int i64 0, int i64 0, int i64 0, int i64 0] 34)
 generalize W.alloc (.cells #[int i64 0, int i64 0, int i64 0, int i64 0, int i64 0, int i64 0, int i64 0, int i64 0, int i64 0, int i64 0, int i64 0, int i64 0, int i64 0, int i64 0, int i64 0, int i64 0] 34) = V at *
 have hx := cells_box V W.heap.size _ _ rfl hh m
 have h0 := st_at V W.heap.size (fun j hj => by rw [k5 j, Array.getElem?_eq_getElem (by simpa using hj)]; rfl) g5 m
 have ht := setCells_turned W.heap.size (cmC m) 0 V
 exact ⟨_, h0, fun x => x = W.heap.size, ⟨hx, fun _ => Iff.rfl⟩, Turned.below_new ht (fun q hq => by cases hq; exact Nat.le_refl _) b5 b5.size, fun x hx => Nat.le_of_eq hx.symm⟩
attribute [local go_sem ↓] loadVar_ldM storeVar_stM
end
def takeC (r : Int) (b c : Bun) : Bool := (!(idEq c.s c.i c.g b.s b.i b.g) && hasB c.m 8) && decide (farF b.x b.y c.x c.y ≤ r)
def takesF (r : Int) (b : Bun) : Int → List Bun → Int
 | n, [] => n
 | n, c :: l => takesF r b (if takeC r b c then addF n c.pw else n) l
structure Hit where
 (s i g n : Int)
 deriving DecidableEq
def hitL (h : Hit) : List Value := [int i64 h.s, int i64 h.i, int i64 h.g, int i64 h.n]
theorem hitL_len (h : Hit) : (hitL h).length = 4 := rfl
theorem hitL_one (h : Hit) : ∀ v ∈ hitL h, v.oneCell' = true := fun v hv => by
 simp [hitL] at hv
 rcases hv with rfl | rfl | rfl | rfl <;> rfl
def hitOf (r : Int) (own oth : List Bun) (b : Bun) : Option Hit :=
 if hasB b.m 4 then (if 0 < takesF r b (takesF r b 0 own) oth then some ⟨b.s, b.i, b.g, takesF r b (takesF r b 0 own) oth⟩ else none) else none
def hitsF (r : Int) (own oth : List Bun) : List Hit := (stableF cmpBun own).filterMap (hitOf r own oth)
theorem info_hitJ : (prog.info? 149).map (fun i => (i.zero, i.size, i.bytes)) = some (some (.agg #[int i64 0, int i64 0, int i64 0, int i64 0]), 4, 32) := by kernel_rfl
def sumAt (r : Int) (b : Bun) (l1 l2 : List Bun) (j : Nat) : Int := if j = 0 then 0 else if j = 1 then takesF r b 0 l1 else takesF r b (takesF r b 0 l1) l2
theorem hits_any (r : Int) (v1 v2 : Value) (l1 l2 : List Bun) (w : World) (h1 : BIn w v1 l1) (h2 : BIn w v2 l2) (hl1 : l1.length ≤ 1000) (hl2 : l2.length ≤ 1000) :
 Calls prog 97 #[int i64 r, v1, v2] w fun e w' => ∃ v', e = .returned v' ∧ RNew hitL 149 4 w w' v' (hitsF r l1 l2) := by
 obtain ⟨i0, hi0, hz0, hz1, hz2⟩ := info_parts info_hitJ
 have H1 := hid h1
 have H2 := hid h2
 have hso := sorted_any v1 l1 w h1 (by omega)
 unfold hitsF
 generalize hls : stableF cmpBun l1 = ls at *
 have hlsn : ls.length ≤ 1000 := by rw [← hls, stableF_len]; exact hl1
 have HSO := hid hso
 clear hso hls
 obtain ⟨p1, e1, rfl, _⟩ := h1
 obtain ⟨p2, e2, rfl, _⟩ := h2
 go_enter Tryz.func97, Tryz.ntmps97
 go_wp2_with fail
 refine HSO.out.mono ?_
 rintro e w1 ⟨vs, rfl, hS⟩
 obtain ⟨ps, cs, rfl⟩ := sl_frm hS.1
 have HS := hid hS
 have hsz1 := hS.2.1.size
 clear hS
 go_wp2_with fail
 go_loopg [18, 7] ls.length (fun kx x o wr => ∃ k : Nat, x = int i64 k ∧ k ≤ ls.length ∧ ls.length - k ≤ kx ∧ Hid (Below w1.heap.size w1 wr) ∧ Hid (RNew hitL 149 4 w1 wr o ((ls.take k).filterMap (hitOf r l1 l2))) ∧ Hid (((ls.take k).filterMap (hitOf r l1 l2)).length ≤ k))
 case atStart => exact ⟨0, by go_num, by omega, by omega, hid (Below.refl _ _), hid (RNew.nil w1), hid (Nat.le_refl _)⟩
 case round =>
  obtain ⟨k, rfl, hk, hkx, HW, HN, HNL⟩ := hrel
  obtain ⟨wa, rfl⟩ : ∃ wa : World, wa = wr := ⟨_, rfl⟩
  by_cases hlt : k < ls.length
  · have t1 : (k : Int) < (ls.length : Int) := by omega
    obtain ⟨b, hb⟩ : ∃ b, ls[k]? = some b := ⟨_, List.getElem?_eq_getElem hlt⟩
    obtain ⟨gb, ob, cb, hv, hgb, hcb⟩ := (HS.out.bin.keep HW.out).cells hb
    simp only [Value.slice.injEq, true_and] at hv
    obtain ⟨rfl, rfl⟩ := hv
    have c0 := hcb 0 _ rfl
    have c1 := hcb 1 _ rfl
    have c2 := hcb 2 _ rfl
    have c3 := hcb 3 _ rfl
    have c4 := hcb 4 _ rfl
    have c5 := hcb 5 _ rfl
    have c6 := hcb 6 _ rfl
    have c7 := hcb 7 _ rfl
    have c8 := hcb 8 _ rfl
    have c9 := hcb 9 _ rfl
    have c10 := hcb 10 _ rfl
    simp only [Nat.add_zero] at c0
    obtain ⟨po, co, rfl⟩ := sl_frm HN.out.1
    have hstep : (ls.take (k + 1)).filterMap (hitOf r l1 l2) = (ls.take k).filterMap (hitOf r l1 l2) ++ (hitOf r l1 l2 b).toList := by
     rw [List.take_succ_eq_append_getElem hlt, List.filterMap_append, show ls[k] = b from by have := List.getElem?_eq_getElem hlt; rw [hb] at this; exact (Option.some.inj this).symm]
     cases hh : hitOf r l1 l2 b <;> simp [hh]
    have HST := hid hstep
    clear hstep hcb hb
    generalize hacc : (ls.take k).filterMap (hitOf r l1 l2) = acc at *
    have hal := HNL.out
    have HAC := hid hacc
    clear hacc HNL
    obtain ⟨s, i, g, m, x, y, vx, vy, hp, pw, lf⟩ := b
    cases hlife : hasB m 4 with
    | false =>
      have he : hitOf r l1 l2 ⟨s, i, g, m, x, y, vx, vy, hp, pw, lf⟩ = none := by unfold hitOf; simp [hlife]
      rw [he] at HST
      have HE := hid HST.out
      clear he HST
      go_wp2_with (go_at_call 136; refine belA (has_any _ _ _ _ _ _ _ _ _ _ _ _ _) fun d os => ?_)
      go_roundg (ls.length - (k + 1))
      case measure => omega
      case rel => exact ⟨k + 1, by go_num, by omega, by omega, hid (HW.out.trans (Below.mono (B := wa.heap.size) bg HW.out.size)), hid (by rw [HE.out]; simpa using HN.out.grow bg), hid (by rw [HE.out]; simp; omega)⟩
    | true =>
      go_wp2_with (go_at_call 136; refine belA (has_any _ _ _ _ _ _ _ _ _ _ _ _ _) fun d os => ?_)
      go_loopg [29, 10] 2 (fun kx sx sn wr2 => ∃ j : Nat, sx = int i64 j ∧ j ≤ 2 ∧ 2 - j ≤ kx ∧ sn = int i64 (sumAt r ⟨s, i, g, m, x, y, vx, vy, hp, pw, lf⟩ l1 l2 j) ∧ Hid (Below wa.heap.size wa wr2) ∧ Hid (∀ t, wr2.cell? ⟨wa.heap.size, t, none⟩ = (#[int i64 s, int i64 i, int i64 g, int i64 m, int i64 x, int i64 y, int i64 vx, int i64 vy, int i64 hp, int i64 pw, int i64 lf] : Array Value)[t]?) ∧
       Hid (∀ t, wr2.cell? ⟨wa.heap.size + 1 + os.size, t, none⟩ = (#[.slice p1 l1.length e1, .slice p2 l2.length e2] : Array Value)[t]?) ∧ wa.heap.size + 1 + os.size < wr2.heap.size)
      case atStart => exact ⟨0, by go_num, by omega, by omega, rfl, hid bg, hid (fun t => by simp [go_sem]), hid (fun t => by simp [go_sem]), by simp⟩
      case round =>
       obtain ⟨j, rfl, hj, hkx2, rfl, HW2, HB2, HS2, hsz2⟩ := hrel
       obtain ⟨wb, rfl⟩ : ∃ wb : World, wb = wr := ⟨_, rfl⟩
       generalize hSB : wa.heap.size + 1 + os.size = SB at *
       have hSB1 : wa.heap.size < SB := by omega
       by_cases hlt2 : j < 2
       · have t2 : (j : Int) < 2 := by omega
         obtain ⟨pk, ck, lk, hcell, hbin, hsum, hlk⟩ : ∃ pk ck lk, (#[.slice p1 l1.length e1, .slice p2 l2.length e2] : Array Value)[j]? = some (.slice pk (lk : List Bun).length ck) ∧ BIn w (.slice pk lk.length ck) lk ∧ sumAt r ⟨s, i, g, m, x, y, vx, vy, hp, pw, lf⟩ l1 l2 (j + 1) = takesF r ⟨s, i, g, m, x, y, vx, vy, hp, pw, lf⟩ (sumAt r ⟨s, i, g, m, x, y, vx, vy, hp, pw, lf⟩ l1 l2 j) lk ∧ lk.length ≤ 1000 := by
          rcases (show j = 0 ∨ j = 1 by omega) with rfl | rfl
          · exact ⟨p1, e1, l1, rfl, H1.out, rfl, hl1⟩
          · exact ⟨p2, e2, l2, rfl, H2.out, rfl, hl2⟩
         have hq := (HS2.out j).trans hcell
         have HSM := hid hsum
         have HBK := hid hbin
         clear hcell hsum hbin
         go_wp2_with fail
         go_loopg [35, 10] lk.length (fun kx sx sn wr3 => ∃ (t : Nat) (q : Int), sx = int i64 t ∧ sn = int i64 q ∧ t ≤ lk.length ∧ lk.length - t ≤ kx ∧ Hid (takesF r ⟨s, i, g, m, x, y, vx, vy, hp, pw, lf⟩ q (lk.drop t) = sumAt r ⟨s, i, g, m, x, y, vx, vy, hp, pw, lf⟩ l1 l2 (j + 1)) ∧ Hid (Below wb.heap.size wb wr3))
         case atStart => exact ⟨0, _, by go_num, rfl, by omega, by omega, hid HSM.out.symm, hid (Below.refl _ _)⟩
         case round =>
          clear hq HSM
          obtain ⟨t, q, rfl, rfl, ht, hkx3, HF, HW3⟩ := hrel
          obtain ⟨wc, rfl⟩ : ∃ wc : World, wc = wr := ⟨_, rfl⟩
          by_cases hlt3 : t < lk.length
          · have t3 : (t : Int) < (lk.length : Int) := by omega
            obtain ⟨c, hc⟩ : ∃ c, lk[t]? = some c := ⟨_, List.getElem?_eq_getElem hlt3⟩
            have hsz3 := HW3.out.size
            have hsw := HW2.out.size
            have hws := HW.out.size
            have hsw1 := HS.out.2.1.size
            obtain ⟨gc, oc, cc, hv, hgc, hcc⟩ := (HBK.out.keep ((HS.out.2.1.trans ((HW.out.trans ((HW2.out.trans (HW3.out.mono hsw)).mono hws)).mono hsw1)))).cells hc
            simp only [Value.slice.injEq, true_and] at hv
            obtain ⟨rfl, rfl⟩ := hv
            have u0 := hcc 0 _ rfl
            have u1 := hcc 1 _ rfl
            have u2 := hcc 2 _ rfl
            have u3 := hcc 3 _ rfl
            have u4 := hcc 4 _ rfl
            have u5 := hcc 5 _ rfl
            have u6 := hcc 6 _ rfl
            have u7 := hcc 7 _ rfl
            have u8 := hcc 8 _ rfl
            have u9 := hcc 9 _ rfl
            have u10 := hcc 10 _ rfl
            simp only [Nat.add_zero] at u0
            have y0 := (HW3.out.cell (p := ⟨wa.heap.size, 0, none⟩) (by simp only; omega)).trans (HB2.out 0); simp at y0
            have y1 := (HW3.out.cell (p := ⟨wa.heap.size, 1, none⟩) (by simp only; omega)).trans (HB2.out 1); simp at y1
            have y2 := (HW3.out.cell (p := ⟨wa.heap.size, 2, none⟩) (by simp only; omega)).trans (HB2.out 2); simp at y2
            have y4 := (HW3.out.cell (p := ⟨wa.heap.size, 4, none⟩) (by simp only; omega)).trans (HB2.out 4); simp at y4
            have y5 := (HW3.out.cell (p := ⟨wa.heap.size, 5, none⟩) (by simp only; omega)).trans (HB2.out 5); simp at y5
            have hq := HF.out
            rw [List.drop_eq_getElem_cons hlt3, show lk[t] = c from by have := List.getElem?_eq_getElem hlt3; rw [hc] at this; exact (Option.some.inj this).symm] at hq
            simp only [takesF] at hq
            have HQ := hid hq
            have hB3 : wa.heap.size < wc.heap.size := by omega
            obtain ⟨z0, z1, z2, z3⟩ := ltq hB3
            clear hq hcc hc HF
            obtain ⟨s', i', g', m', x', y', vx', vy', hp', pw', lf'⟩ := c
            cases h1 : idEq s' i' g' s i g with
            | true =>
              have ht : takeC r ⟨s, i, g, m, x, y, vx, vy, hp, pw, lf⟩ ⟨s', i', g', m', x', y', vx', vy', hp', pw', lf'⟩ = false := by unfold takeC; simp only; rw [h1]; rfl
              have HT := hid ht
              clear ht
              go_wp2_with (first | (go_at_call 136; refine belA (has_any _ _ _ _ _ _ _ _ _ _ _ _ _) fun d os => ?_) | (go_at_call 137; refine eqA (far_any _ _ _ _ _) ?_))
              go_roundg (lk.length - (t + 1))
              case measure => omega
              case rel => exact ⟨t + 1, q, by go_num, rfl, by omega, by omega, hid (by have h := HQ.out; rw [HT.out] at h; exact h), hid (HW3.out.trans (Below.mono (B := wc.heap.size) bg HW3.out.size))⟩
            | false =>
              cases h2 : hasB m' 8 with
              | false =>
                have ht : takeC r ⟨s, i, g, m, x, y, vx, vy, hp, pw, lf⟩ ⟨s', i', g', m', x', y', vx', vy', hp', pw', lf'⟩ = false := by unfold takeC; simp only; rw [h1, h2]; rfl
                have HT := hid ht
                clear ht
                go_wp2_with (first | (go_at_call 136; refine belA (has_any _ _ _ _ _ _ _ _ _ _ _ _ _) fun d os => ?_) | (go_at_call 137; refine eqA (far_any _ _ _ _ _) ?_))
                go_roundg (lk.length - (t + 1))
                case measure => omega
                case rel => exact ⟨t + 1, q, by go_num, rfl, by omega, by omega, hid (by have h := HQ.out; rw [HT.out] at h; exact h), hid (HW3.out.trans (Below.mono (B := wc.heap.size) bg HW3.out.size))⟩
              | true =>
                cases h3 : decide (farF x y x' y' ≤ r) with
                | false =>
                  have ht : takeC r ⟨s, i, g, m, x, y, vx, vy, hp, pw, lf⟩ ⟨s', i', g', m', x', y', vx', vy', hp', pw', lf'⟩ = false := by unfold takeC; simp only; rw [h1, h2, h3]; rfl
                  have HT := hid ht
                  clear ht
                  go_wp2_with (first | (go_at_call 136; refine belA (has_any _ _ _ _ _ _ _ _ _ _ _ _ _) fun d os => ?_) | (go_at_call 137; refine eqA (far_any _ _ _ _ _) ?_))
                  go_roundg (lk.length - (t + 1))
                  case measure => omega
                  case rel => exact ⟨t + 1, q, by go_num, rfl, by omega, by omega, hid (by have h := HQ.out; rw [HT.out] at h; exact h), hid (HW3.out.trans (Below.mono (B := wc.heap.size) bg HW3.out.size))⟩
                | true =>
                  have ht : takeC r ⟨s, i, g, m, x, y, vx, vy, hp, pw, lf⟩ ⟨s', i', g', m', x', y', vx', vy', hp', pw', lf'⟩ = true := by unfold takeC; simp only; rw [h1, h2, h3]; rfl
                  have HT := hid ht
                  clear ht
                  go_wp2_with (first | (go_at_call 136; refine belA (has_any _ _ _ _ _ _ _ _ _ _ _ _ _) fun d os => ?_) | (go_at_call 137; refine eqA (far_any _ _ _ _ _) ?_) | (go_at_call 138; refine eqA (add_any _ _ _ _ (by simp [go_sem]; rfl) (by simp [go_sem]; rfl)) ?_))
                  go_roundg (lk.length - (t + 1))
                  case measure => omega
                  case rel => exact ⟨t + 1, _, by go_num, rfl, by omega, by omega, hid (by have h := HQ.out; rw [HT.out] at h; exact h), hid (HW3.out.trans (Below.mono (B := wc.heap.size) bg HW3.out.size))⟩
          · have t3 : ¬ (t : Int) < (lk.length : Int) := by omega
            obtain rfl : t = lk.length := by omega
            have hq := HF.out
            rw [List.drop_length] at hq
            simp only [takesF] at hq
            have HQ := hid hq
            clear hq HF
            go_wp2_with fail
            go_roundg (2 - (j + 1))
            case measure => omega
            case rel => exact ⟨j + 1, by go_num, by omega, by omega, by rw [← HQ.out], hid (HW2.out.trans (HW3.out.mono HW2.out.size)), hid (fun u => (HW3.out.cell (p := ⟨wa.heap.size, u, none⟩) (by simp only; omega)).trans (HB2.out u)), hid (fun u => (HW3.out.cell (p := ⟨SB, u, none⟩) (by simp only; omega)).trans (HS2.out u)), by have := HW3.out.size; omega⟩
       · obtain rfl : j = 2 := by omega
         have hs2 : sumAt r ⟨s, i, g, m, x, y, vx, vy, hp, pw, lf⟩ l1 l2 2 = takesF r ⟨s, i, g, m, x, y, vx, vy, hp, pw, lf⟩ (takesF r ⟨s, i, g, m, x, y, vx, vy, hp, pw, lf⟩ 0 l1) l2 := rfl
         have hho : hitOf r l1 l2 ⟨s, i, g, m, x, y, vx, vy, hp, pw, lf⟩ = if 0 < sumAt r ⟨s, i, g, m, x, y, vx, vy, hp, pw, lf⟩ l1 l2 2 then some ⟨s, i, g, sumAt r ⟨s, i, g, m, x, y, vx, vy, hp, pw, lf⟩ l1 l2 2⟩ else none := by
          rw [hs2]; unfold hitOf; simp only; rw [hlife, if_pos rfl]
         have HHO := hid hho
         clear hs2 hho
         generalize sumAt r ⟨s, i, g, m, x, y, vx, vy, hp, pw, lf⟩ l1 l2 2 = n at *
         have hbw : Below w1.heap.size w1 wb := HW.out.trans (HW2.out.mono HW.out.size)
         have HBW := hid hbw
         have hnb := HN.out.grow HW2.out
         have HNB := hid hnb
         have y0 := HB2.out 0; simp at y0
         have y1 := HB2.out 1; simp at y1
         have y2 := HB2.out 2; simp at y2
         have hB3 : wa.heap.size < wb.heap.size := by omega
         obtain ⟨z0, z1, z2, z3⟩ := ltq hB3
         clear hbw hnb HB2 HS2
         by_cases hn : 0 < n
         · have hho := HHO.out
           rw [if_pos hn] at hho
           rw [hho] at HST
           have HST2 := hid HST.out
           clear hho HST HHO
           go_wp2_with (at_builtin; refine wpList_append_sl _ (by rfl) _ _ 97 (by rfl) 149 i0 _ 4 32 Tryz.underlying97 hi0 hz0 hz1 hz2 rfl (by omega) _ acc.length (cellsR hitL acc) (by rfl) (HNB.out.grow bg).1 ⟨_, 0, none⟩ 1 1 (hitL ⟨s, i, g, n⟩) (by rfl) (by rfl) (new_cells _ _ _) (hitL_one _) (by omega) (by unfold maxLen; omega) (by omega) ?_; intro v' w4 hs4 ht4 ho4)
           have hm := (HNB.out.grow bg).snoc hs4 ht4 ho4
           have HM := hid hm
           clear hs4 ht4 ho4 hm
           go_roundg (ls.length - (k + 1))
           case measure => omega
           case rel => exact ⟨k + 1, by go_num, by omega, by omega, hid HM.out.2.1, hid (by rw [HST2.out]; simpa using HM.out), hid (by rw [HST2.out]; simp; omega)⟩
         · have hho := HHO.out
           rw [if_neg hn] at hho
           rw [hho] at HST
           have HST2 := hid HST.out
           clear hho HST HHO
           go_wp2_with fail
           go_roundg (ls.length - (k + 1))
           case measure => omega
           case rel => exact ⟨k + 1, by go_num, by omega, by omega, hid HBW.out, hid (by rw [HST2.out]; simpa using HNB.out), hid (by rw [HST2.out]; simp; omega)⟩
  · have t1 : ¬ (k : Int) < (ls.length : Int) := by omega
    obtain rfl : k = ls.length := by omega
    rw [List.take_length] at HN
    go_wp2_with fail
    go_ret
    exact ⟨_, rfl, HN.out.since HS.out.2.1⟩
section
open Go.Sort
attribute [local go_sem ↓] loadVar_ldB
theorem BIn.ldm {w : World} {v : Value} {l : List Bun} (h : BIn w v l) {k : Nat} {b : Bun} (hk : l[k]? = some b) : ∃ blk off cap, v = .slice (some ⟨blk, off, none⟩) l.length cap ∧ ∀ d os, (ldB ⟨blk, off + k * 11, none⟩).run prog (more w d os) = .ok (.agg b.arr) (more w d os) := by
 obtain ⟨g, o, c, hv, h1, h2⟩ := h.cells hk
 exact ⟨g, o, c, hv, fun d os => ld_of fun j u hj => (more_cell w d os ⟨g, o + k * 11 + j, none⟩ h1).trans (h2 j u hj)⟩
theorem same_any (va vb : Value) (la lb : List Bun) (w : World) (ha : BIn w va la) (hb : BIn w vb lb) :
 Calls prog 26 #[va, vb] w fun e w' => e = .returned (.bool (decide (la = lb))) ∧ Below w.heap.size w w' := by
 have mixed : prog.follows .mixedOrders = true := by kernel_rfl
 have HA := hid ha
 have HB := hid hb
 obtain ⟨pa, ca, rfl, ma, _⟩ := ha
 obtain ⟨pb, cb, rfl, mb, _⟩ := hb
 unfold maxLen at ma mb
 by_cases hlen : la.length = lb.length
 · have hd : ((la.length : Int) != (lb.length : Int)) = false := by simp; omega
   have hd2 : (la.length : Int) = (lb.length : Int) := by omega
   have HL := hid hlen
   clear hlen
   by_cases heq : la = lb
   · subst heq
     rw [decide_eq_true rfl]
     go_enter Tryz.func26, Tryz.ntmps26
     go_wp2_with fail
     go_loopg [5] la.length (fun kx x wr => ∃ k : Nat, x = int i64 k ∧ k ≤ la.length ∧ la.length - k ≤ kx ∧ Hid (Below w.heap.size w wr))
     case atStart => exact ⟨0, by go_num, by omega, by omega, hid (Below.refl _ _)⟩
     case round =>
      obtain ⟨k, rfl, hk, hkx, HW⟩ := hrel
      by_cases hlt : k < la.length
      · have t1 : (k : Int) < (la.length : Int) := by omega
        obtain ⟨b, hb⟩ : ∃ b, la[k]? = some b := ⟨_, List.getElem?_eq_getElem hlt⟩
        obtain ⟨g1, o1, c1, hv1, l1⟩ := (HA.out.keep HW.out).ldm hb
        obtain ⟨g2, o2, c2, hv2, l2⟩ := (HB.out.keep HW.out).ldm hb
        simp only [Value.slice.injEq, true_and] at hv1 hv2
        obtain ⟨rfl, rfl⟩ := hv1
        obtain ⟨rfl, rfl⟩ := hv2
        clear hb
        obtain ⟨s, i, g, m, x, y, vx, vy, hp, pw, lf⟩ := b
        have hbe : bunEq ⟨s, i, g, m, x, y, vx, vy, hp, pw, lf⟩ ⟨s, i, g, m, x, y, vx, vy, hp, pw, lf⟩ = true := by simp [bunEq]
        go_wp2_with fail
        refine wpm ?_
        repeat (go_big_quiet_step (fail))
        refine wpQuiet_nil ?_
        rintro _ ⟨pn, rfl⟩
        go_wp2_with fail
        go_roundg (la.length - (k + 1))
        case measure => omega
        case rel => exact ⟨k + 1, by go_num, by omega, by omega, hid (HW.out.trans (Below.mono (B := wr.heap.size) bg HW.out.size))⟩
      · have t1 : ¬ (k : Int) < (la.length : Int) := by omega
        go_wp2_with fail
        go_ret
        exact ⟨rfl, HW.out⟩
   · rw [decide_eq_false heq]
     have HNE := hid heq
     clear heq
     go_enter Tryz.func26, Tryz.ntmps26
     go_wp2_with fail
     go_loopg [5] la.length (fun kx x wr => ∃ k : Nat, x = int i64 k ∧ k ≤ la.length ∧ la.length - k ≤ kx ∧ Hid (Below w.heap.size w wr) ∧ Hid (∀ t, t < k → la[t]? = lb[t]?))
     case atStart => exact ⟨0, by go_num, by omega, by omega, hid (Below.refl _ _), hid (fun t ht => by omega)⟩
     case round =>
      obtain ⟨k, rfl, hk, hkx, HW, HT⟩ := hrel
      by_cases hlt : k < la.length
      · have t1 : (k : Int) < (la.length : Int) := by omega
        have t2 : (k : Int) < (lb.length : Int) := by omega
        obtain ⟨b, hb⟩ : ∃ b, la[k]? = some b := ⟨_, List.getElem?_eq_getElem hlt⟩
        obtain ⟨c, hc⟩ : ∃ c, lb[k]? = some c := ⟨_, List.getElem?_eq_getElem (by omega)⟩
        obtain ⟨g1, o1, c1, hv1, l1⟩ := (HA.out.keep HW.out).ldm hb
        obtain ⟨g2, o2, c2, hv2, l2⟩ := (HB.out.keep HW.out).ldm hc
        simp only [Value.slice.injEq, true_and] at hv1 hv2
        obtain ⟨rfl, rfl⟩ := hv1
        obtain ⟨rfl, rfl⟩ := hv2
        have HBC := hid (And.intro hb hc)
        clear hb hc
        by_cases hbc : b = c
        · subst hbc
          obtain ⟨s, i, g, m, x, y, vx, vy, hp, pw, lf⟩ := b
          have hbe : bunEq ⟨s, i, g, m, x, y, vx, vy, hp, pw, lf⟩ ⟨s, i, g, m, x, y, vx, vy, hp, pw, lf⟩ = true := by simp [bunEq]
          go_wp2_with fail
          refine wpm ?_
          repeat (go_big_quiet_step (fail))
          refine wpQuiet_nil ?_
          rintro _ ⟨pn, rfl⟩
          go_wp2_with fail
          go_roundg (la.length - (k + 1))
          case measure => omega
          case rel => exact ⟨k + 1, by go_num, by omega, by omega, hid (HW.out.trans (Below.mono (B := wr.heap.size) bg HW.out.size)), hid (fun t ht => by
           by_cases htk : t = k
           · subst htk; exact HBC.out.1.trans HBC.out.2.symm
           · exact HT.out t (by omega))⟩
        · obtain ⟨s, i, g, m, x, y, vx, vy, hp, pw, lf⟩ := b
          obtain ⟨s', i', g', m', x', y', vx', vy', hp', pw', lf'⟩ := c
          have hbe : bunEq ⟨s, i, g, m, x, y, vx, vy, hp, pw, lf⟩ ⟨s', i', g', m', x', y', vx', vy', hp', pw', lf'⟩ = false := by unfold bunEq; exact decide_eq_false hbc
          clear hbc
          go_wp2_with fail
          refine wpm ?_
          repeat (go_big_quiet_step (fail))
          refine wpQuiet_nil ?_
          rintro _ ⟨pn, rfl⟩
          go_wp2_with fail
          go_ret
          exact ⟨rfl, HW.out.trans (Below.mono (B := wr.heap.size) bg HW.out.size)⟩
      · exfalso
        obtain rfl : k = la.length := by omega
        refine HNE.out (List.ext_getElem? fun t => ?_)
        by_cases ht : t < la.length
        · exact HT.out t ht
        · rw [List.getElem?_eq_none (by omega), List.getElem?_eq_none (by have := HL.out; omega)]
 · have hd : ((la.length : Int) != (lb.length : Int)) = true := by simp; omega
   have hd2 : ¬ (la.length : Int) = (lb.length : Int) := by omega
   rw [decide_eq_false (fun e => hlen (by rw [e]))]
   clear hlen
   go_enter Tryz.func26, Tryz.ntmps26
   go_wp2_with fail
   go_ret
   exact ⟨rfl, Below.refl _ _⟩
end
end Go.Proofs.YtoimjjhopljdmaaGreat

/-
  The reference's pool of names: how a step turns it, plain. No condition.
-/
import Derived.Test.YtjkbenghgbigdaaRefC
namespace Go.Proofs.Ytjkbenghgbigdaa
open Go.RowKit
def upd (rw : Int → Int → Int) (k i : Nat) (v : Int) : Int → Int → Int := fun a b => if a = k ∧ b = i then v else rw a b
theorem upd_same (rw : Int → Int → Int) (k i : Nat) (v : Int) : upd rw k i v k i = v := by simp [upd]
theorem upd_ne (rw : Int → Int → Int) (k i : Nat) (v : Int) {a b : Int} (h : ¬ (a = k ∧ b = i)) : upd rw k i v a b = rw a b := by simp only [upd, if_neg h]

theorem Sim.upd {ids : Nat} {M : List Sh} {rw rw' : Int → Int → Int} {put put' : Int} (h : Sim ids M rw put) {k : Nat} {m m' : Sh} (hm : M[k]? = some m) (hl : m'.all.length = ids) (hg : Good m') (hrw : ∀ (a : Nat) (b : Int), a ≠ k → rw' a b = rw a b)
    (hr : ∀ i : Nat, i < ids → (0 ≤ rw' k i ↔ (i : Int) ∈ m'.free) ∧ rw' k i < put') (ho : (m'.free.map (rw' k)).Pairwise (· < ·)) (hp : put ≤ put') : Sim ids (M.set k m') rw' put' := by
  have hkl := (List.getElem?_eq_some_iff.1 hm).1
  refine ⟨⟨h.pos.1, h.pos.2.1, by simpa using h.pos.2.2⟩, fun a ha => ?_, fun a ha => ?_, fun a b hb => ?_, fun a b hb => ?_, Int.le_trans h.put hp⟩
  · rcases List.mem_or_eq_of_mem_set ha with ha | rfl
    · exact h.len a ha
    · exact hl
  · rcases List.mem_or_eq_of_mem_set ha with ha | rfl
    · exact h.good a ha
    · exact hg
  · rw [List.getElem?_set] at hb
    by_cases e : k = a
    · subst e
      rw [if_pos rfl, if_pos hkl] at hb
      obtain rfl : m' = b := by simpa using hb
      exact hr
    · rw [if_neg e] at hb
      intro i hi
      rw [hrw a i (fun e' => e e'.symm)]
      have := h.row a b hb i hi
      exact ⟨this.1, by have := this.2; omega⟩
  · rw [List.getElem?_set] at hb
    by_cases e : k = a
    · subst e
      rw [if_pos rfl, if_pos hkl] at hb
      obtain rfl : m' = b := by simpa using hb
      exact ho
    · rw [if_neg e] at hb
      have : b.free.map (rw' a) = b.free.map (rw a) := List.map_congr_left fun f _ => hrw a f (fun e' => e e'.symm)
      rw [this]
      exact h.ord a b hb

variable {W : World} {R : RLay} {ids : Nat} {M : List Sh} {rw : Int → Int → Int} {put : Int} {k i : Nat} {m : Sh} {x : Ix}
/-- Some fields of a slot are stored into, and its row is another one. -/
theorem RefAt.turn (h2 : Sim ids M rw put) (hm : M[k]? = some m) (hx : m.all[i]? = some x) {m' : Sh} {x' : Ix} {rw' : Int → Int → Int} (ha : m'.all = m.all.set i x')
    (hrw : ∀ (a b : Nat), ¬ (a = k ∧ b = i) → rw' a b = rw a b) {W' : World} {put' : Int} (hs : ∀ s : Slot, s = ⟨k, i, x'.gen, x'.bound, rw' k i, x'.alive⟩ → RefAt W' R ((mSlots rw 0 M).set (k * ids + i) s) put') : RefAt W' R (mSlots rw' 0 (M.set k m')) put' := by
  rw [mSlots_set h2.len hm hx ha hrw]
  exact hs _ rfl

theorem Sim.reserve (h2 : Sim ids M rw put) (hm : M[k]? = some m) (hx : m.all[i]? = some x) : Sim ids (M.set k { m with all := m.all.set i { x with bound := min (x.bound + 8) 1048576 } }) rw put := by
  have hg := h2.good m (List.mem_of_getElem? hm)
  have hr := hg.inv.rng i x hx
  have hle := hg.le i x hx
  refine h2.upd hm (by simpa using h2.len m (List.mem_of_getElem? hm)) ?_ (fun _ _ _ => rfl) (h2.row k m hm) (h2.ord k m hm) (Int.le_refl _)
  refine set_good hg _ (hg.inv.set_ix i _ ⟨hr.1, hr.2.1, by simp only; omega, by simp only; omega, hr.2.2.2.2⟩ fun hf => hg.inv.dead i hf x (by simpa using hx)) (by simp only; omega) (fun ha => by have := hg.lv i x hx ha; simp only; omega) (fun hf => hg.fg i hf x (by simpa using hx))

theorem row_drop (h2 : Sim ids M rw put) (hm : M[k]? = some m) (fr : List Int) (hs : ∀ j : Nat, j ≠ i → ((j : Int) ∈ m.free ↔ (j : Int) ∈ fr)) (hn : (i : Int) ∉ fr) : ∀ j : Nat, j < ids → (0 ≤ upd rw k i (-1) k j ↔ (j : Int) ∈ fr) ∧ upd rw k i (-1) k j < put := by
  intro j hj
  by_cases e : j = i
  · subst e
    rw [upd_same]
    have := h2.put
    exact ⟨⟨fun h => by omega, fun h => absurd h hn⟩, by omega⟩
  · rw [upd_ne _ _ _ _ (by omega)]
    have := h2.row k m hm j hj
    exact ⟨this.1.trans (hs j e), this.2⟩
theorem ord_drop (h2 : Sim ids M rw put) (hm : M[k]? = some m) (fr : List Int) (hs : fr.Sublist m.free) (hn : (i : Int) ∉ fr) : (fr.map (upd rw k i (-1) k)).Pairwise (· < ·) := by
  have e : fr.map (upd rw k i (-1) k) = fr.map (rw k) := List.map_congr_left fun f hf => upd_ne _ _ _ _ fun h => hn (by rw [← h.2]; exact hf)
  rw [e]
  exact (h2.ord k m hm).sublist (hs.map _)

theorem Sim.issue (h2 : Sim ids M rw put) (hm : M[k]? = some m) {fs : List Int} (hf : m.free = (i : Int) :: fs) (hx : m.all[i]? = some x) (hb : x.gen < x.bound) : Sim ids (M.set k ⟨m.all.set i { x with alive := true }, fs⟩) (Go.Proofs.Ytjkbenghgbigdaa.upd rw k i (-1)) put := by
  have hg := h2.good m (List.mem_of_getElem? hm)
  have hr := hg.inv.rng i x hx
  have hnd := hg.inv.nd
  rw [hf] at hnd
  have hni := (List.nodup_cons.1 hnd).1
  have hgm := hg.fg i (by rw [hf]; simp) x (by simpa using hx)
  have g1 := free_drop_good hg fs (hg.inv.tail hf) (fun a ha => by rw [hf]; exact List.mem_cons_of_mem _ ha)
  refine h2.upd hm (by simpa using h2.len m (List.mem_of_getElem? hm)) ?_ (fun a b ha => upd_ne _ _ _ _ (by omega)) (row_drop h2 hm fs (fun j hj => by rw [hf, List.mem_cons]; exact ⟨fun h => h.resolve_left (by omega), .inr⟩) hni) (ord_drop h2 hm fs (by rw [hf]; exact List.sublist_cons_self _ _) hni) (Int.le_refl _)
  exact set_good g1 { x with alive := true } (g1.inv.set_ix i _ ⟨hr.1, hr.2.1, hr.2.2.1, hr.2.2.2.1, fun _ => hgm⟩ (fun hm => absurd hm hni)) (by simp only; omega) (fun _ => hb) (fun hm => absurd hm hni)

theorem Sim.take (h2 : Sim ids M rw put) (hm : M[k]? = some m) (hx : m.all[i]? = some x) {g : Int} (hg0 : 0 ≤ g) (hb : g < x.bound) :
    Sim ids (M.set k ⟨m.all.set i ⟨g, x.bound, true⟩, m.free.filter fun j => !(j == (i : Int))⟩) (Go.Proofs.Ytjkbenghgbigdaa.upd rw k i (-1)) put := by
  have hg := h2.good m (List.mem_of_getElem? hm)
  have hr := hg.inv.rng i x hx
  have hni : (i : Int) ∉ m.free.filter fun j => !(j == (i : Int)) := fun h => by simp [List.mem_filter] at h
  have hdr := hg.inv.drop (i := i) ⟨g, x.bound, true⟩ ⟨hg0, by simp only; omega, hr.2.2.1, hr.2.2.2.1, fun _ => by simp only; omega⟩
  have g1 := free_drop_good hg _ hdr.1 fun f hf => (List.mem_filter.1 hf).1
  refine h2.upd hm (by simpa using h2.len m (List.mem_of_getElem? hm)) ?_ (fun a b ha => upd_ne _ _ _ _ (by omega)) (row_drop h2 hm _ (fun j hj => by simp only [List.mem_filter]; exact ⟨fun h => ⟨h, by simp; omega⟩, fun h => h.1⟩) hni) (ord_drop h2 hm _ List.filter_sublist hni) (Int.le_refl _)
  exact set_good g1 ⟨g, x.bound, true⟩ hdr.2 (by simp only; omega) (fun _ => hb) (fun hm => absurd hm hni)

theorem Sim.free (h2 : Sim ids M rw put) (hm : M[k]? = some m) (hx : m.all[i]? = some x) (ha : x.alive = true) (hlt : x.gen + 1 < 1048576) :
    Sim ids (M.set k ⟨m.all.set i ⟨x.gen + 1, x.bound, false⟩, m.free ++ [(i : Int)]⟩) (Go.Proofs.Ytjkbenghgbigdaa.upd rw k i put) (put + 1) := by
  have hg := h2.good m (List.mem_of_getElem? hm)
  have hal := h2.len m (List.mem_of_getElem? hm)
  have hni : (i : Int) ∉ m.free := fun h => by have := hg.inv.dead i h x (by simpa using hx); rw [ha] at this; cases this
  have hgood := (freeF_alive hm hx ha hg).2
  unfold freedSh at hgood
  rw [if_pos hlt] at hgood
  have hp := h2.put
  refine h2.upd hm (by simpa using hal) hgood (fun a b ha => upd_ne _ _ _ _ (by omega)) (fun j hj => ?_) ?_ (by omega)
  · by_cases e : j = i
    · subst e
      rw [upd_same]
      exact ⟨⟨fun _ => by simp, fun _ => hp⟩, by omega⟩
    · rw [upd_ne _ _ _ _ (by omega)]
      have := h2.row k m hm j hj
      refine ⟨this.1.trans ?_, by omega⟩
      simp only [List.mem_append, List.mem_singleton]
      exact ⟨.inl, fun h => h.resolve_right (by omega)⟩
  · have e : m.free.map (Go.Proofs.Ytjkbenghgbigdaa.upd rw k i put k) = m.free.map (rw k) := List.map_congr_left fun f hf => upd_ne _ _ _ _ fun h => hni (by rw [← h.2]; exact hf)
    rw [List.map_append, e, List.pairwise_append]
    refine ⟨h2.ord k m hm, by simp, fun a hma b hmb => ?_⟩
    simp only [List.map_cons, List.map_nil, List.mem_singleton, upd_same] at hmb
    subst hmb
    obtain ⟨f, hf, rfl⟩ := List.mem_map.1 hma
    obtain ⟨h0, h1⟩ := hg.inv.fr f hf
    obtain ⟨j, rfl⟩ := Int.eq_ofNat_of_zero_le h0
    exact (h2.row k m hm j (by omega)).2

theorem Sim.worn (h2 : Sim ids M rw put) (hm : M[k]? = some m) (hx : m.all[i]? = some x) (ha : x.alive = true) (hlt : ¬ x.gen + 1 < 1048576) :
    Sim ids (M.set k ⟨m.all.set i ⟨x.gen + 1, x.bound, false⟩, m.free⟩) rw put := by
  have hg := h2.good m (List.mem_of_getElem? hm)
  have hgood := (freeF_alive hm hx ha hg).2
  unfold freedSh at hgood
  rw [if_neg hlt] at hgood
  exact h2.upd hm (by simpa using h2.len m (List.mem_of_getElem? hm)) hgood (fun _ _ _ => rfl) (h2.row k m hm) (h2.ord k m hm) (Int.le_refl _)
end Go.Proofs.Ytjkbenghgbigdaa

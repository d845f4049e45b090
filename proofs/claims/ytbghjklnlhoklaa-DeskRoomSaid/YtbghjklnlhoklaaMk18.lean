/-
  IdsOnce, plain: a pool, one that was told of it, and the names that were given. No program here. No condition.
  The reference's pool of names: what Lapse makes of the slots, plain. No condition.
  The reference's pool of names: Lapse, as the program's. No condition.
-/
import Derived.Test.YtbghjklnlhoklaaMk7
import Derived.Test.YtbghjklnlhoklaaRefF
namespace Go.Proofs.Ytbghjklnlhoklaa
open Go.RowKit
structure OnceR (mp mq : Sh) (gv : List (Id3 × Bool)) : Prop where
  gp : Good mp
  gq : Good mq
  rel : ∀ (i : Nat) (x : Ix), mp.all[i]? = some x → ∃ y : Ix, mq.all[i]? = some y ∧ y.bound = x.bound ∧ y.gen ≤ x.gen ∧ (y.alive = true → x.alive = true ∧ y.gen = x.gen) ∧ (y.alive = false → x.gen < 1048576 → (i : Int) ∈ mq.free)
  gvn : ∀ e ∈ gv, e.1.1 = 0 ∧ 0 ≤ e.1.2.1 ∧ 0 ≤ e.1.2.2 ∧ ∃ x y : Ix, mp.all[e.1.2.1.toNat]? = some x ∧ mq.all[e.1.2.1.toNat]? = some y ∧ e.1.2.2 < x.bound ∧ e.1.2.2 ≤ x.gen ∧ (x.alive = false → e.1.2.2 < x.gen) ∧ (x.alive = true → x.gen = e.1.2.2 → y.alive = e.2)

/-- One index of both has turned. -/
theorem OnceR.turn {mp mq mp' mq' : Sh} {gv : List (Id3 × Bool)} (h : OnceR mp mq gv) {i : Nat} {x y x' y' : Ix} (hx : mp.all[i]? = some x) (hy : mq.all[i]? = some y) (hp : mp'.all = mp.all.set i x') (hq : mq'.all = mq.all.set i y') (gp : Good mp') (gq : Good mq')
    (hf : ∀ j : Nat, j ≠ i → (j : Int) ∈ mq.free → (j : Int) ∈ mq'.free) (h1 : y'.bound = x'.bound) (h2 : y'.gen ≤ x'.gen) (h3 : y'.alive = true → x'.alive = true ∧ y'.gen = x'.gen) (h4 : y'.alive = false → x'.gen < 1048576 → (i : Int) ∈ mq'.free)
    (hb : x.bound ≤ x'.bound) (hg : ∀ e ∈ gv, e.1.2.1 = (i : Int) → e.1.2.2 ≤ x.gen → (x.alive = false → e.1.2.2 < x.gen) → (x.alive = true → x.gen = e.1.2.2 → y.alive = e.2) → e.1.2.2 ≤ x'.gen ∧ (x'.alive = false → e.1.2.2 < x'.gen) ∧ (x'.alive = true → x'.gen = e.1.2.2 → y'.alive = e.2)) : OnceR mp' mq' gv := by
  have hil : i < mp.all.length := (List.getElem?_eq_some_iff.1 hx).1
  have hil2 : i < mq.all.length := (List.getElem?_eq_some_iff.1 hy).1
  refine ⟨gp, gq, fun j z hz => ?_, fun e he => ?_⟩
  · rw [hp, List.getElem?_set] at hz
    by_cases hj : i = j
    · subst hj
      rw [if_pos rfl, if_pos hil] at hz
      obtain rfl : x' = z := by simpa using hz
      exact ⟨y', by rw [hq, List.getElem?_set_self hil2], h1, h2, h3, h4⟩
    · rw [if_neg hj] at hz
      obtain ⟨y2, a1, a2, a3, a4, a5⟩ := h.rel j z hz
      exact ⟨y2, by rw [hq, List.getElem?_set_ne hj]; exact a1, a2, a3, a4, fun b1 b2 => hf j (fun e => hj e.symm) (a5 b1 b2)⟩
  · obtain ⟨e0, e1, e1', x2, y2, e2, e3, e4, e5, e6, e7⟩ := h.gvn e he
    refine ⟨e0, e1, e1', ?_⟩
    by_cases hj : i = e.1.2.1.toNat
    · have hei : e.1.2.1 = (i : Int) := by omega
      rw [← hj] at e2 e3 ⊢
      rw [hx] at e2
      rw [hy] at e3
      obtain rfl := Option.some.inj e2
      obtain rfl := Option.some.inj e3
      obtain ⟨g1, g2, g3⟩ := hg e he hei e5 e6 e7
      exact ⟨x', y', by rw [hp, List.getElem?_set_self hil], by rw [hq, List.getElem?_set_self hil2], by omega, g1, g2, g3⟩
    · exact ⟨x2, y2, by rw [hp, List.getElem?_set_ne hj]; exact e2, by rw [hq, List.getElem?_set_ne hj]; exact e3, e4, e5, e6, e7⟩

theorem OnceR.snoc {mp mq : Sh} {gv : List (Id3 × Bool)} (h : OnceR mp mq gv) {i : Nat} {x y : Ix} (hx : mp.all[i]? = some x) (hy : mq.all[i]? = some y) (ha : x.alive = true) (hb : x.gen < x.bound) (h0 : 0 ≤ x.gen) {b : Bool} (hyb : y.alive = b) : OnceR mp mq (gv ++ [((0, (i : Int), x.gen), b)]) := by
  refine ⟨h.gp, h.gq, h.rel, fun e he => ?_⟩
  rcases List.mem_append.1 he with he | he
  · exact h.gvn e he
  · obtain rfl : e = ((0, (i : Int), x.gen), b) := by simpa using he
    exact ⟨rfl, Int.natCast_nonneg i, h0, x, y, by simpa using hx, by simpa using hy, hb, Int.le_refl _, (fun h => by rw [ha] at h; cases h), fun _ _ => hyb⟩

theorem fresh_once (n : Nat) (h : n ≤ 16) : OnceR (fresh n n) (fresh n n) [] := by
  refine ⟨fresh_good n h, fresh_good n h, fun i x hx => ⟨x, hx, rfl, Int.le_refl _, fun ha => ?_, fun _ _ => ?_⟩, fun e he => by cases he⟩
  · simp only [fresh, freshIx, List.getElem?_replicate] at hx
    split at hx
    · cases hx; cases ha
    · cases hx
  · have hil := (List.getElem?_eq_some_iff.1 hx).1
    simp [fresh, freshIx] at hil ⊢
    exact ⟨i, hil, rfl⟩

theorem OnceR.next {mp mq : Sh} {gv : List (Id3 × Bool)} (h : OnceR mp mq gv) {f : Int} {fs : List Int} (hf : mp.free = f :: fs) :
    ∃ (g a : Int) (mp' mq' mq'' : Sh), nextF [mp] 0 = (((0, f, g), a, true), [mp']) ∧ ((a = -1 ∧ mq' = mq) ∨ (0 ≤ a ∧ a = f ∧ reserveF [mq] 0 f = (0, [mq']))) ∧ OnceR mp' mq' (gv ++ [((0, f, g), false)]) ∧
      takeF [mq'] 0 f g = (0, [mq'']) ∧ OnceR mp' mq'' (gv ++ [((0, f, g), true)]) := by
  obtain ⟨x, hx, hf0, e, gp'⟩ := nextF_cons (M := [mp]) (k := 0) rfl hf h.gp
  obtain ⟨i, rfl⟩ := Int.eq_ofNat_of_zero_le hf0
  rw [Int.toNat_natCast] at hx e gp'
  have hmem : (i : Int) ∈ mp.free := by rw [hf]; simp
  have hxa := h.gp.inv.dead i hmem x (by simpa using hx)
  have hxg := h.gp.fg i hmem x (by simpa using hx)
  have hrr := h.gp.inv.rng i x hx
  have hxle := h.gp.le i x hx
  obtain ⟨y, hy, y1, y2, y3, y4⟩ := h.rel i x hx
  have hya : y.alive = false := by
    cases hh : y.alive with
    | false => rfl
    | true => have := (y3 hh).1; rw [hxa] at this; cases this
  have hyf := y4 hya hxg
  have hyr := h.gq.inv.rng i y hy
  have hil : i < mp.all.length := (List.getElem?_eq_some_iff.1 hx).1
  have hil2 : i < mq.all.length := (List.getElem?_eq_some_iff.1 hy).1
  -- the bound, behind what was set aside
  have hq' : ∃ (y' : Ix) (mq' : Sh), y' = ⟨y.gen, (nxtIx x).bound, false⟩ ∧ mq' = ⟨mq.all.set i y', mq.free⟩ ∧ Good mq' ∧ ((nxtAt x i = -1 ∧ mq' = mq) ∨ (0 ≤ nxtAt x i ∧ nxtAt x i = i ∧ reserveF [mq] 0 i = (0, [mq']))) := by
    refine ⟨_, _, rfl, rfl, ?_, ?_⟩
    · refine set_good h.gq _ (h.gq.inv.set_ix i _ ⟨hyr.1, hyr.2.1, ?_, ?_, fun h => by cases h⟩ fun _ => rfl) ?_ (fun h => by cases h) (fun _ => by simp only; omega)
      all_goals (simp only [nxtIx]; split <;> omega)
    · by_cases hlt : x.gen < x.bound
      · left
        refine ⟨by simp [nxtAt, hlt], ?_⟩
        have : (⟨y.gen, (nxtIx x).bound, false⟩ : Ix) = y := by
          obtain ⟨yg, yb, ya⟩ := y
          simp only at y1 hya
          simp [nxtIx, hlt, y1, hya]
        rw [this, ← (List.getElem?_eq_some_iff.1 hy).2]
        simp
      · right
        have hb : ¬ y.bound = 1048576 := by omega
        refine ⟨by simp [nxtAt, hlt], by simp [nxtAt, hlt], ?_⟩
        have hix : ixOf [mq] 0 i = some y := by simp [ixOf, shOf, hy]
        simp only [reserveF, hix, if_neg hb, setIx, shOf]
        simp [nxtIx, hlt, y1, hya]
  obtain ⟨y', mq', ey', emq', gq', hres⟩ := hq'
  have hnx : (nxtIx x).gen = x.gen := rfl
  have hnb : x.gen < (nxtIx x).bound := by simp only [nxtIx]; split <;> omega
  have hnb2 : x.bound ≤ (nxtIx x).bound := by simp only [nxtIx]; split <;> omega
  have hy' : mq'.all[i]? = some y' := by rw [emq']; exact List.getElem?_set_self hil2
  have hb1 : OnceR ⟨mp.all.set i (nxtIx x), fs⟩ mq' gv := by
    refine h.turn hx hy rfl (by rw [emq']) gp' gq' (fun j _ hj => by rw [emq']; exact hj) (by rw [ey']) (by rw [ey']; exact y2) (fun hh => by rw [ey'] at hh; cases hh) (fun _ _ => by rw [emq']; exact hyf) hnb2 ?_
    intro e _ _ e1 e2 _
    have := e2 hxa
    exact ⟨by rw [hnx]; omega, (fun hh => by cases hh), (fun _ hh => by rw [hnx] at hh; omega)⟩
  -- taken
  have hinv2 := gq'.inv.drop (i := i) (x' := ⟨x.gen, (nxtIx x).bound, true⟩)
  have hdr : ShInv { mq' with free := mq'.free.filter fun j => !(j == (i : Int)) } ∧ ShInv { mq' with all := mq'.all.set i ⟨x.gen, (nxtIx x).bound, true⟩, free := mq'.free.filter fun j => !(j == (i : Int)) } := hinv2 ⟨hrr.1, hrr.2.1, by simp only; omega, by simp only [nxtIx]; split <;> omega, fun _ => hxg⟩
  have g1 : Good { mq' with free := mq'.free.filter fun j => !(j == (i : Int)) } := free_drop_good gq' _ hdr.1 fun f hf => (List.mem_filter.1 hf).1
  have g2 : Good { mq' with all := mq'.all.set i ⟨x.gen, (nxtIx x).bound, true⟩, free := mq'.free.filter fun j => !(j == (i : Int)) } :=
    set_good g1 ⟨x.gen, (nxtIx x).bound, true⟩ hdr.2 (by simp only; omega) (fun _ => hnb) (fun hf => by simp [List.mem_filter] at hf)
  refine ⟨x.gen, nxtAt x i, _, mq', { mq' with all := mq'.all.set i ⟨x.gen, (nxtIx x).bound, true⟩, free := mq'.free.filter fun j => !(j == (i : Int)) }, by simpa using e, hres, hb1.snoc (x := nxtIx x) (List.getElem?_set_self hil) hy' rfl hnb hrr.1 (by rw [ey']), ?_, ?_⟩
  · have hix : ixOf [mq'] 0 i = some y' := by simp [ixOf, shOf, hy']
    have hfr : frOf [mq'] 0 = mq'.free := by simp [frOf, shOf]
    have hin : (i : Int) ∈ mq'.free := by rw [emq']; exact hyf
    have h1 : ¬ (x.gen < y'.gen ∨ y'.bound ≤ x.gen) := by rw [ey']; simp only; omega
    simp only [takeF, hix, hfr, if_neg (show ¬ x.gen < 0 by omega), hin, not_true, if_false, if_neg h1]
    simp [setIx, setFr, shOf, ey']
  · have hy2 : ({ mq' with all := mq'.all.set i ⟨x.gen, (nxtIx x).bound, true⟩, free := mq'.free.filter fun j => !(j == (i : Int)) } : Sh).all[i]? = some ⟨x.gen, (nxtIx x).bound, true⟩ := List.getElem?_set_self (List.getElem?_eq_some_iff.1 hy').1
    refine OnceR.snoc (x := nxtIx x) (y := ⟨x.gen, (nxtIx x).bound, true⟩) ?_ (List.getElem?_set_self hil) hy2 rfl hnb hrr.1 rfl
    refine h.turn hx hy (x' := nxtIx x) (y' := ⟨x.gen, (nxtIx x).bound, true⟩) rfl (by rw [emq']; simp) gp' g2 (fun j hj hm => ?_) rfl (Int.le_refl _) (fun _ => ⟨rfl, rfl⟩) (fun hh => by cases hh) hnb2 ?_
    · rw [emq']
      simp only [List.mem_filter]
      exact ⟨hm, by simp; omega⟩
    · intro e _ _ e1 e2 _
      have := e2 hxa
      exact ⟨by rw [hnx]; omega, (fun hh => by cases hh), (fun _ hh => by rw [hnx] at hh; omega)⟩

theorem freeF_not {m : Sh} {i g : Int} (h : (aliveF [m] 0 i g) = false) : ∃ c : Int, (c == 0) = false ∧ freeF [m] 0 i g = (c, [m]) := by
  cases hx : ixOf [m] 0 i with
  | none => exact ⟨1, rfl, by simp only [freeF, hx]⟩
  | some x =>
    by_cases h0 : g < 0
    · exact ⟨1, rfl, by simp only [freeF, hx, if_pos h0]⟩
    · have ha : (x.alive && x.gen == g) = false := by simpa [aliveF, hx] using h
      exact ⟨9, rfl, by simp only [freeF, hx, if_neg h0, ha, if_true]⟩

theorem freed_all (m : Sh) (i : Nat) (x : Ix) : (freedSh m i x).all = m.all.set i ⟨x.gen + 1, x.bound, false⟩ := by unfold freedSh; split <;> rfl
theorem freed_free {m : Sh} {i : Nat} {x : Ix} {f : Int} (h : f ∈ m.free) : f ∈ (freedSh m i x).free := by unfold freedSh; split <;> simp [h]
theorem freed_self {m : Sh} {i : Nat} {x : Ix} (h : x.gen + 1 < 1048576) : (i : Int) ∈ (freedSh m i x).free := by unfold freedSh; rw [if_pos h]; simp

theorem OnceR.free {mp mq : Sh} {gv : List (Id3 × Bool)} (h : OnceR mp mq gv) {e : Id3 × Bool} (he : e ∈ gv) :
    (∃ mp', freeF [mp] 0 e.1.2.1 e.1.2.2 = (0, [mp']) ∧ (e.2 = true → ∃ mq', freeF [mq] 0 e.1.2.1 e.1.2.2 = (0, [mq']) ∧ OnceR mp' mq' gv) ∧ (e.2 = false → OnceR mp' mq gv)) ∨ (∃ c : Int, (c == 0) = false ∧ freeF [mp] 0 e.1.2.1 e.1.2.2 = (c, [mp])) := by
  obtain ⟨e0, e1, e1', x, y, hx, hy, e4, e5, e6, e7⟩ := h.gvn e he
  obtain ⟨⟨es, ei, eg⟩, eb⟩ := e
  simp only at e0 e1 e1' hx hy e4 e5 e6 e7 ⊢
  obtain ⟨i, rfl⟩ := Int.eq_ofNat_of_zero_le e1
  rw [Int.toNat_natCast] at hx hy
  cases ha : aliveF [mp] 0 i eg with
  | false => exact .inr (freeF_not ha)
  | true =>
    left
    have ha' : x.alive = true ∧ x.gen = eg := by simpa [aliveF, ixOf, shOf, hx] using ha
    obtain ⟨hxa, rfl⟩ := ha'
    obtain ⟨f1, f2⟩ := freeF_alive (M := [mp]) (k := 0) rfl hx hxa h.gp
    have hyb := e7 hxa rfl
    obtain ⟨y2, hy2, y1, y3, y4, y5⟩ := h.rel i x hx
    rw [hy] at hy2
    obtain rfl := Option.some.inj hy2
    have hil := (List.getElem?_eq_some_iff.1 hx).1
    have hxr := (h.gp.inv.rng i x hx).2.2.2.2 hxa
    refine ⟨freedSh mp i x, by simpa using f1, fun hb => ?_, fun hb => ?_⟩
    · subst hb
      obtain ⟨y6, y7⟩ := y4 hyb
      obtain ⟨g1, g2⟩ := freeF_alive (M := [mq]) (k := 0) rfl hy hyb h.gq
      rw [y7] at g1
      refine ⟨freedSh mq i y, by simpa using g1, ?_⟩
      refine h.turn hx hy (x' := ⟨x.gen + 1, x.bound, false⟩) (y' := ⟨y.gen + 1, y.bound, false⟩) (freed_all _ _ _) (freed_all _ _ _) f2 g2 (fun j _ hm => freed_free hm) y1 (by simp only; omega) (fun hh => by cases hh) (fun _ hh => freed_self (by simp only at hh; omega)) (Int.le_refl _) ?_
      intro e _ _ q1 _ _
      exact ⟨by simp only; omega, fun _ => by simp only; omega, fun hh => by cases hh⟩
    · subst hb
      have hset : mq.all = mq.all.set i y := by rw [← (List.getElem?_eq_some_iff.1 hy).2]; simp
      refine h.turn hx hy (x' := ⟨x.gen + 1, x.bound, false⟩) (y' := y) (freed_all _ _ _) hset f2 h.gq (fun j _ hm => hm) y1 (by simp only; omega) (fun hh => by rw [hyb] at hh; cases hh) (fun hh _ => y5 hh hxr) (Int.le_refl _) ?_
      intro e _ _ q1 _ _
      exact ⟨by simp only; omega, fun _ => by simp only; omega, fun hh => by cases hh⟩

/-- Behind the lapse. -/
structure OnceQ (mq : Sh) (gv : List (Id3 × Bool)) : Prop where
  gq : Good mq
  new : ∀ f ∈ mq.free, ∀ e ∈ gv, e.1.2.1 = f → ∃ y : Ix, mq.all[f.toNat]? = some y ∧ e.1.2.2 < y.gen

theorem lap_good {m : Sh} (h : Good m) : Good (lapSh m) := by
  have hn : ∀ f ∈ m.free, 0 ≤ f := fun f hf => (h.inv.fr f hf).1
  have key : ∀ (i : Nat) (x : Ix), (lapSh m).all[i]? = some x → ∃ y, m.all[i]? = some y ∧ (x = y ∧ (i : Int) ∉ m.free ∨ x = lapIx y ∧ (i : Int) ∈ m.free) := by
    intro i x hx
    simp only [lapSh] at hx
    by_cases hi : (i : Int) ∈ m.free
    · rw [lapAll_mem _ _ _ hn h.inv.nd hi] at hx
      obtain ⟨y, hy, e⟩ := Option.map_eq_some_iff.1 hx
      exact ⟨y, hy, .inr ⟨e.symm, hi⟩⟩
    · rw [lapAll_ne _ _ _ hn hi] at hx
      exact ⟨x, hx, .inl ⟨rfl, hi⟩⟩
  refine ⟨lap_inv h.inv, fun i x hx => ?_, fun i x hx ha => ?_, fun f hf x hx => ?_⟩
  · obtain ⟨y, hy, ⟨rfl, _⟩ | ⟨rfl, _⟩⟩ := key i x hx
    · exact h.le i x hy
    · have := h.le i y hy
      unfold lapIx
      split
      · exact Int.le_refl _
      · exact this
  · obtain ⟨y, hy, ⟨rfl, _⟩ | ⟨rfl, hi⟩⟩ := key i x hx
    · exact h.lv i x hy ha
    · rw [lapIx_alive, h.inv.dead i hi y (by simpa using hy)] at ha
      cases ha
  · have h1 := (lap_inv h.inv).rng _ x hx
    have h2 : genAt (lapSh m).all f = x.gen := by simp [genAt, hx]
    have h3 : (!(genAt (lapSh m).all f == 1048576)) = true := (List.mem_filter.1 hf).2
    rw [h2] at h3
    simp at h3
    omega

theorem OnceR.lapse {mp mq : Sh} {gv : List (Id3 × Bool)} (h : OnceR mp mq gv) : OnceQ (lapSh mq) gv := by
  refine ⟨lap_good h.gq, fun f hf e he hef => ?_⟩
  have hfm : f ∈ mq.free := (List.mem_filter.1 hf).1
  obtain ⟨e0, e1, e1', x, y, hx, hy, e4, e5, e6, e7⟩ := h.gvn e he
  have hf0 := (h.gq.inv.fr f hfm).1
  obtain ⟨i, rfl⟩ := Int.eq_ofNat_of_zero_le hf0
  rw [hef] at hx hy
  rw [Int.toNat_natCast] at hx hy ⊢
  refine ⟨lapIx y, by simp only [lapSh]; rw [lapAll_mem _ _ _ (fun f hf => (h.gq.inv.fr f hf).1) h.gq.inv.nd hfm, hy]; rfl, ?_⟩
  obtain ⟨y2, hy2, y1, _⟩ := h.rel i x hx
  rw [hy] at hy2
  obtain rfl := Option.some.inj hy2
  have hle := h.gq.le i y hy
  unfold lapIx
  split
  · simp only; omega
  · omega

theorem OnceQ.next {mq : Sh} {gv : List (Id3 × Bool)} (h : OnceQ mq gv) :
    (nextF [mq] 0 = (((0, 0, 0), -1, false), [mq])) ∨ ∃ (f g a : Int) (mq' mq'' : Sh), nextF [mq] 0 = (((0, f, g), a, true), [mq']) ∧ (∀ e ∈ gv, (e.1.2.1 == f && e.1.2.2 == g) = false) ∧ OnceQ mq' gv ∧ freeF [mq'] 0 f g = (0, [mq'']) ∧ OnceQ mq'' gv := by
  cases hf : mq.free with
  | nil => exact .inl (nextF_nil (M := [mq]) (k := 0) rfl hf)
  | cons f fs =>
    right
    obtain ⟨x, hx, hf0, e, g'⟩ := nextF_cons (M := [mq]) (k := 0) rfl hf h.gq
    obtain ⟨i, rfl⟩ := Int.eq_ofNat_of_zero_le hf0
    rw [Int.toNat_natCast] at hx e g'
    have hil := (List.getElem?_eq_some_iff.1 hx).1
    have hnd := h.gq.inv.nd
    rw [hf] at hnd
    have hni := (List.nodup_cons.1 hnd).1
    have hn1 : (⟨mq.all.set i (nxtIx x), fs⟩ : Sh).all[i]? = some (nxtIx x) := List.getElem?_set_self hil
    have hq1 : OnceQ ⟨mq.all.set i (nxtIx x), fs⟩ gv := by
      refine ⟨g', fun f hfm e he hef => ?_⟩
      obtain ⟨y, hy, hy2⟩ := h.new f (by rw [hf]; exact List.mem_cons_of_mem _ hfm) e he hef
      have hne : i ≠ f.toNat := fun e => hni (by have := (h.gq.inv.fr f (by rw [hf]; exact List.mem_cons_of_mem _ hfm)).1; rw [show (i : Int) = f by omega]; exact hfm)
      exact ⟨y, by simp only; rw [List.getElem?_set_ne hne]; exact hy, hy2⟩
    obtain ⟨f1, f2⟩ := freeF_alive (M := [⟨mq.all.set i (nxtIx x), fs⟩]) (k := 0) rfl hn1 rfl g'
    refine ⟨i, x.gen, nxtAt x i, _, freedSh ⟨mq.all.set i (nxtIx x), fs⟩ i (nxtIx x), by simpa using e, fun e he => ?_, hq1, by simpa [nxtIx] using f1, f2, fun f hfm e he hef => ?_⟩
    · cases hh : (e.1.2.1 == (i : Int) && e.1.2.2 == x.gen) with
      | false => rfl
      | true =>
        simp only [Bool.and_eq_true, beq_iff_eq] at hh
        obtain ⟨y, hy, hy2⟩ := h.new i (by rw [hf]; simp) e he hh.1
        rw [Int.toNat_natCast, hx] at hy
        obtain rfl := Option.some.inj hy
        omega
    · rw [freed_all]
      by_cases hfi : f = (i : Int)
      · subst hfi
        rw [Int.toNat_natCast]
        refine ⟨_, List.getElem?_set_self (by simpa using hil), ?_⟩
        obtain ⟨y, hy, hy2⟩ := h.new i (by rw [hf]; simp) e he hef
        rw [Int.toNat_natCast, hx] at hy
        obtain rfl := Option.some.inj hy
        simp only [nxtIx]
        omega
      · have hfm2 : f ∈ fs := by
          unfold freedSh at hfm
          split at hfm
          · rcases List.mem_append.1 hfm with h1 | h1
            · exact h1
            · simp at h1; exact absurd h1 hfi
          · exact hfm
        obtain ⟨y, hy, hy2⟩ := hq1.new f hfm2 e he hef
        have := (h.gq.inv.fr f (by rw [hf]; exact List.mem_cons_of_mem _ hfm2)).1
        exact ⟨y, by rw [List.getElem?_set_ne (by omega)]; exact hy, hy2⟩
end Go.Proofs.Ytbghjklnlhoklaa
namespace Go.Proofs.Ytbghjklnlhoklaa
open Go.RowKit
def lapsS (s : Slot) : Bool := decide (0 ≤ s.row) && decide (s.gen < s.bound)
def lapSlot (s : Slot) : Slot := if lapsS s then { s with gen := s.bound, row := if s.bound = 1048576 then -1 else s.row } else s
def lapRw (M : List Sh) (rw : Int → Int → Int) : Int → Int → Int := fun a b => match ixOf M a b with
  | some x => if 0 ≤ rw a b ∧ x.gen < x.bound ∧ x.bound = 1048576 then -1 else rw a b
  | none => rw a b
/-- Behind n slots. -/
def lapL (l : List Slot) (n : Nat) : List Slot := (l.take n).map lapSlot ++ l.drop n
theorem lapL_zero (l : List Slot) : lapL l 0 = l := by simp [lapL]
theorem lapL_all (l : List Slot) : lapL l l.length = l.map lapSlot := by simp [lapL]
theorem lapL_len (l : List Slot) (n : Nat) (h : n ≤ l.length) : (lapL l n).length = l.length := by simp [lapL]; omega
theorem lapL_get {l : List Slot} {n : Nat} {s : Slot} (hs : l[n]? = some s) : (lapL l n)[n]? = some s := by
  have hn := (List.getElem?_eq_some_iff.1 hs).1
  rw [lapL, List.getElem?_append_right (by simp; omega)]
  simp [Nat.min_eq_left (Nat.le_of_lt hn), hs]
theorem lapL_succ {l : List Slot} {n : Nat} {s : Slot} (hs : l[n]? = some s) : lapL l (n + 1) = (lapL l n).set n (lapSlot s) := by
  have hn := (List.getElem?_eq_some_iff.1 hs).1
  have e := (List.getElem?_eq_some_iff.1 hs).2
  have hd : l.drop n = s :: l.drop (n + 1) := by rw [List.drop_eq_getElem_cons hn, e]
  rw [lapL, lapL, List.take_succ_eq_append_getElem hn, e, hd, List.set_append_right _ _ (by simp; omega)]
  simp [Nat.min_eq_left (Nat.le_of_lt hn)]
def lapC (l : List Slot) : Nat := (l.filter lapsS).length
theorem lapC_succ {l : List Slot} {n : Nat} {s : Slot} (hs : l[n]? = some s) : lapC (l.take (n + 1)) = lapC (l.take n) + if lapsS s then 1 else 0 := by
  have hn := (List.getElem?_eq_some_iff.1 hs).1
  rw [List.take_succ_eq_append_getElem hn, (List.getElem?_eq_some_iff.1 hs).2]
  simp only [lapC, List.filter_append, List.length_append]
  cases h : lapsS s <;> simp [h]

variable {ids : Nat} {M : List Sh} {rw : Int → Int → Int} {put : Int}
theorem lapSh_get {m : Sh} (hg : Good m) {i : Nat} {x : Ix} (hx : m.all[i]? = some x) : (lapSh m).all[i]? = some (if (i : Int) ∈ m.free then lapIx x else x) := by
  have hn : ∀ f ∈ m.free, 0 ≤ f := fun f hf => (hg.inv.fr f hf).1
  simp only [lapSh]
  split
  · rename_i hi
    rw [lapAll_mem _ _ _ hn hg.inv.nd hi, hx]; rfl
  · rename_i hi
    rw [lapAll_ne _ _ _ hn hi, hx]
theorem lapSh_len (m : Sh) : (lapSh m).all.length = m.all.length := lapAll_len _ _
theorem lapRw_at {k i : Nat} {m : Sh} {x : Ix} (hm : M[k]? = some m) (hx : m.all[i]? = some x) : lapRw M rw k i = if 0 ≤ rw k i ∧ x.gen < x.bound ∧ x.bound = 1048576 then -1 else rw k i := by
  simp [lapRw, ixOf, shOf, hm, hx]

theorem mSlots_lap (h : Sim ids M rw put) : (mSlots rw 0 M).map lapSlot = mSlots (lapRw M rw) 0 (M.map lapSh) := by
  have hl' : ∀ a ∈ M.map lapSh, a.all.length = ids := by
    intro a ha
    obtain ⟨m, hm, rfl⟩ := List.mem_map.1 ha
    rw [lapSh_len]; exact h.len m hm
  apply List.ext_getElem?
  intro n
  rw [List.getElem?_map]
  cases hs : (mSlots rw 0 M)[n]? with
  | none =>
    have : (mSlots rw 0 M).length ≤ n := List.getElem?_eq_none_iff.1 hs
    rw [mSlots_len M 0 h.len] at this
    rw [Option.map_none, List.getElem?_eq_none (by rw [mSlots_len _ 0 hl', List.length_map]; exact this)]
  | some s =>
    obtain ⟨k, i, m, x, rfl, hi, hm, hx, rfl⟩ := mSlots_split h.len hs
    have hg := h.good m (List.mem_of_getElem? hm)
    have := mSlots_get (rw := lapRw M rw) (M.map lapSh) 0 k i (lapSh m) _ hl' (by simp [hm]) (lapSh_get hg hx)
    rw [this, Option.map_some]
    have hrow := (h.row k m hm i hi).1
    have hle := hg.le i x hx
    simp only [Int.zero_add, lapRw_at hm hx, Option.some.injEq]
    by_cases hf : (i : Int) ∈ m.free
    · have hr := hrow.2 hf
      rw [if_pos hf]
      by_cases hlt : x.gen < x.bound
      · have e : lapsS ⟨k, i, x.gen, x.bound, rw k i, x.alive⟩ = true := by simp [lapsS, hr, hlt]
        simp [lapSlot, e, lapIx, hlt, hr]
      · have e : lapsS ⟨k, i, x.gen, x.bound, rw k i, x.alive⟩ = false := by simp [lapsS, hlt]
        simp [lapSlot, e, lapIx, hlt]
    · have hr : ¬ 0 ≤ rw k i := fun hr => hf (hrow.1 hr)
      have e : lapsS ⟨k, i, x.gen, x.bound, rw k i, x.alive⟩ = false := by simp [lapsS]; omega
      simp [lapSlot, e, hf, hr]

theorem Sim.lapse (h : Sim ids M rw put) : Sim ids (M.map lapSh) (lapRw M rw) put := by
  have key : ∀ (k : Nat) (m' : Sh), (M.map lapSh)[k]? = some m' → ∃ m, M[k]? = some m ∧ m' = lapSh m := by
    intro k m' hm
    rw [List.getElem?_map] at hm
    obtain ⟨m, h1, h2⟩ := Option.map_eq_some_iff.1 hm
    exact ⟨m, h1, h2.symm⟩
  have kf : ∀ (k : Nat) (m : Sh), M[k]? = some m → ∀ (i : Nat), i < ids → ((i : Int) ∈ (lapSh m).free ↔ (i : Int) ∈ m.free ∧ ¬ (∃ x, m.all[i]? = some x ∧ x.gen < x.bound ∧ x.bound = 1048576)) := by
    intro k m hm i hi
    have hg := h.good m (List.mem_of_getElem? hm)
    have hal := h.len m (List.mem_of_getElem? hm)
    have hx : m.all[i]? = some m.all[i] := List.getElem?_eq_getElem (by omega)
    generalize m.all[i] = x at hx
    show (i : Int) ∈ m.free.filter (fun f => !(genAt (lapSh m).all f == 1048576)) ↔ _
    rw [List.mem_filter]
    refine ⟨fun ⟨h1, h2⟩ => ⟨h1, ?_⟩, fun ⟨h1, h2⟩ => ⟨h1, ?_⟩⟩
    · rintro ⟨y, hy, h3, h4⟩
      rw [hx] at hy
      obtain rfl := Option.some.inj hy
      have := lapSh_get hg hx
      rw [if_pos h1] at this
      have h5 : x.gen < 1048576 := by omega
      simp [genAt, this, lapIx, h4, h5] at h2
    · have := lapSh_get hg hx
      rw [if_pos h1] at this
      have hfg := hg.fg i h1 x (by simpa using hx)
      simp only [genAt, Int.toNat_natCast, this]
      by_cases hlt : x.gen < x.bound
      · simp only [lapIx, if_pos hlt]
        simp
        intro e
        exact h2 ⟨x, hx, hlt, e⟩
      · simp only [lapIx, if_neg hlt]
        simp
        omega
  refine ⟨⟨h.pos.1, h.pos.2.1, by simpa using h.pos.2.2⟩, fun m' hm0 => ?_, fun m' hm0 => ?_, fun k m' hm0 i hi => ?_, fun k m' hm0 => ?_, h.put⟩
  · obtain ⟨m, hm, rfl⟩ := List.mem_map.1 hm0
    rw [lapSh_len]; exact h.len m hm
  · obtain ⟨m, hm, rfl⟩ := List.mem_map.1 hm0
    exact lap_good (h.good m hm)
  · obtain ⟨m, hm, rfl⟩ := key k m' hm0
    have hal := h.len m (List.mem_of_getElem? hm)
    have hx : m.all[i]? = some m.all[i] := List.getElem?_eq_getElem (by omega)
    generalize m.all[i] = x at hx
    obtain ⟨r1, r2⟩ := h.row k m hm i hi
    have hp := h.put
    rw [lapRw_at hm hx, kf k m hm i hi]
    by_cases hc : 0 ≤ rw k i ∧ x.gen < x.bound ∧ x.bound = 1048576
    · rw [if_pos hc]
      refine ⟨⟨fun h => by omega, fun h => absurd ⟨x, hx, hc.2⟩ h.2⟩, by omega⟩
    · rw [if_neg hc]
      refine ⟨⟨fun h => ⟨r1.1 h, ?_⟩, fun h => r1.2 h.1⟩, r2⟩
      rintro ⟨y, hy, h3⟩
      rw [hx] at hy
      obtain rfl := Option.some.inj hy
      exact hc ⟨h, h3⟩
  · obtain ⟨m, hm, rfl⟩ := key k m' hm0
    have hg := h.good m (List.mem_of_getElem? hm)
    have hal := h.len m (List.mem_of_getElem? hm)
    have hsub : (lapSh m).free.Sublist m.free := List.filter_sublist
    have e : (lapSh m).free.map (lapRw M rw k) = (lapSh m).free.map (rw k) := by
      refine List.map_congr_left fun f hf => ?_
      have hfm := hsub.subset hf
      obtain ⟨h0, h1⟩ := hg.inv.fr f hfm
      obtain ⟨i, rfl⟩ := Int.eq_ofNat_of_zero_le h0
      have hi : i < ids := by omega
      have hx : m.all[i]? = some m.all[i] := List.getElem?_eq_getElem (by omega)
      rw [lapRw_at hm hx, if_neg]
      rintro ⟨_, h3⟩
      exact ((kf k m hm i hi).1 hf).2 ⟨_, hx, h3⟩
    rw [e]
    exact (h.ord k m hm).sublist (hsub.map _)

/-- So many lapse. -/
theorem ixSlots_cnt (k : Nat) (m : Sh) (hg : Good m) (hr : ∀ i : Nat, i < m.all.length → (0 ≤ rw k i ↔ (i : Int) ∈ m.free)) : lapC (ixSlots rw k 0 m.all) = lapN m := by
  have h1 : ixSlots rw k 0 m.all = (List.range m.all.length).map fun (i : Nat) => (⟨(k : Int), (i : Int), (m.all.getD i ⟨0, 0, false⟩).gen, (m.all.getD i ⟨0, 0, false⟩).bound, rw (k : Int) (i : Int), (m.all.getD i ⟨0, 0, false⟩).alive⟩ : Slot) := by
    apply List.ext_getElem?
    intro j
    rw [ixSlots_get, List.getElem?_map]
    by_cases hj : j < m.all.length
    · simp [List.getElem?_range hj, List.getElem?_eq_getElem hj, List.getD]
    · rw [List.getElem?_eq_none (by omega), List.getElem?_eq_none (by simp; omega)]; rfl
  have h2 : (m.free.filter (lapses m.all)).Perm (((List.range m.all.length).filter fun (i : Nat) => decide ((i : Int) ∈ m.free) && lapses m.all i).map Int.ofNat) := by
    refine (List.perm_ext_iff_of_nodup (hg.inv.nd.filter _) ?_).2 fun a => ?_
    · rw [List.nodup_iff_pairwise_ne, List.pairwise_map]
      exact (List.nodup_range.filter _).imp fun hne e => hne (Int.ofNat.inj e)
    · simp only [List.mem_filter, List.mem_map, List.mem_range, Bool.and_eq_true, decide_eq_true_eq]
      constructor
      · rintro ⟨h3, h4⟩
        obtain ⟨h0, h5⟩ := hg.inv.fr a h3
        obtain ⟨i, rfl⟩ := Int.eq_ofNat_of_zero_le h0
        exact ⟨i, ⟨by omega, h3, h4⟩, rfl⟩
      · rintro ⟨i, ⟨_, h3, h4⟩, rfl⟩
        exact ⟨h3, h4⟩
  rw [lapN, lapCnt, h2.length_eq, List.length_map, lapC, h1, List.filter_map, List.length_map]
  congr 1
  refine List.filter_congr fun i hi => ?_
  have hil := List.mem_range.1 hi
  have hrr := hr i hil
  simp only [Function.comp, lapsS, lapses, Int.toNat_natCast, List.getElem?_eq_getElem hil, List.getD, Option.getD_some]
  by_cases hf : (i : Int) ∈ m.free
  · simp [hf, hrr.2 hf]
  · have : ¬ 0 ≤ rw k i := fun h => hf (hrr.1 h)
    simp [hf, this]
theorem mSlots_cnt : ∀ (M : List Sh) (k0 : Nat), (∀ m ∈ M, Good m) → (∀ (k : Nat) (m : Sh), M[k]? = some m → ∀ i : Nat, i < m.all.length → (0 ≤ rw ((k0 + k : Nat) : Int) i ↔ (i : Int) ∈ m.free)) → lapC (mSlots rw k0 M) = (M.map lapN).sum
  | [], _, _, _ => by simp [mSlots, lapC]
  | m :: M, k0, hg, hr => by
    have h1 := ixSlots_cnt (rw := rw) k0 m (hg m (by simp)) (hr 0 m rfl)
    have h2 := mSlots_cnt M (k0 + 1) (fun m hm => hg m (List.mem_cons_of_mem _ hm)) fun k m hm i hi => by
      have := hr (k + 1) m (by simpa using hm) i hi
      rwa [show k0 + (k + 1) = k0 + 1 + k by omega] at this
    have e : lapC (mSlots rw k0 (m :: M)) = lapC (ixSlots rw k0 0 m.all) + lapC (mSlots rw ((k0 : Int) + 1) M) := by
      simp [mSlots, lapC, List.filter_append]
    rw [e, h1, List.map_cons, List.sum_cons, ← h2]
    rfl
theorem Sim.cnt (h : Sim ids M rw put) : lapC (mSlots rw 0 M) = (M.map lapN).sum :=
  mSlots_cnt M 0 h.good fun k m hm i hi => by
    have := (h.row k m hm i (by rw [← h.len m (List.mem_of_getElem? hm)]; exact hi)).1
    simpa using this
theorem lapC_le (l : List Slot) : lapC l ≤ l.length := List.length_filter_le _ _
end Go.Proofs.Ytbghjklnlhoklaa
namespace Go.Proofs.Ytbghjklnlhoklaa
open Go.RowKit

/-- Behind n slots of the walk. -/
def LapR (w : World) (R : RLay) (l : List Slot) (put : Int) (wr : World) (n : Nat) : Prop := RefAt wr R (lapL l n) put ∧ Chg w wr R.own ∧ w.heap.size ≤ wr.heap.size
theorem LapR.later {w wr W : World} {R : RLay} {l : List Slot} {put : Int} {n : Nat} (h : LapR w R l put wr n) (hb : Below wr.heap.size wr W) : LapR w R l put W n := ⟨h.1.grown hb, h.2.1.then_below (hb.mono h.2.2), Nat.le_trans h.2.2 hb.size⟩
theorem LapR.same {w wr : World} {R : RLay} {l : List Slot} {put : Int} {n : Nat} {s : Slot} (h : LapR w R l put wr n) (hs : l[n]? = some s) (hn : lapsS s = false) : LapR w R l put wr (n + 1) := by
  refine ⟨?_, h.2⟩
  rw [lapL_succ hs, lapSlot, hn]
  have := lapL_get hs
  rw [if_neg (by simp), ← (List.getElem?_eq_some_iff.1 this).2]
  simpa using h.1
theorem LapR.gen {w wr : World} {R : RLay} {l : List Slot} {put : Int} {n : Nat} {s : Slot} (h : LapR w R l put wr n) (hs : l[n]? = some s) (hn : lapsS s = true) (hb : s.bound ≠ 1048576) : LapR w R l put (wr.setCell ⟨R.b, R.off + n * 6 + 2, none⟩ (.int .i64 s.bound)) (n + 1) := by
  refine ⟨?_, h.2.1.put1 _ _, by simpa [World.setCell] using h.2.2⟩
  rw [lapL_succ hs, lapSlot, hn]
  exact h.1.put1 (lapL_get hs) 2 _ (by omega) (by simp [Slot.cells, hb])
theorem LapR.worn {w wr : World} {R : RLay} {l : List Slot} {put : Int} {n : Nat} {s : Slot} (h : LapR w R l put wr n) (hs : l[n]? = some s) (hn : lapsS s = true) (hb : s.bound = 1048576) :
    LapR w R l put ((wr.setCell ⟨R.b, R.off + n * 6 + 2, none⟩ (.int .i64 s.bound)).setCell ⟨R.b, R.off + n * 6 + 4, none⟩ (.int .i64 (-1))) (n + 1) := by
  refine ⟨?_, (h.2.1.put1 _ _).put1 _ _, by simpa [World.setCell] using h.2.2⟩
  rw [lapL_succ hs, lapSlot, hn]
  have h3 := h.1.put1 (lapL_get hs) 2 (.int .i64 s.bound) (s' := { s with gen := s.bound }) (by omega) (by simp [Slot.cells])
  have h4 := h3.put1 (get_set (lapL_get hs)) 4 (.int .i64 (-1)) (s' := { s with gen := s.bound, row := -1 }) (by omega) (by simp [Slot.cells])
  rw [List.set_set] at h4
  simpa [hb] using h4

set_option maxRecDepth 100000 in
set_option maxHeartbeats 4000000 in
theorem rlapse_any (w : World) (R : RLay) (ids : Nat) {c : Int} (M : List Sh) (h : RPool w R ids c M) : Calls Try.prog 61 #[.pointer (some ⟨R.p, 0, none⟩)] w fun e w' => e = .returned (.int .i64 (lapseF M).1) ∧ RStp w R ids c w' (lapseF M).2 := by
  obtain ⟨rw, put, h1, h2, hpc⟩ := h
  have hcnt := h2.cnt
  have hlen := mSlots_len (rw := rw) M 0 h2.len
  have hle : (mSlots rw 0 M).length ≤ 256 := by rw [hlen]; exact Nat.mul_le_mul h2.pos.2.2 h2.pos.2.1
  have hfin : ∀ W, LapR w R (mSlots rw 0 M) put W (mSlots rw 0 M).length → RStp w R ids c W (lapseF M).2 := fun W hW => by
    have := hW.1
    rw [lapL_all, mSlots_lap h2] at this
    exact ⟨⟨_, put, this, h2.lapse, hpc⟩, hW.2.1⟩
  have HFIN := Lib.hid hfin
  have hres : ((lapC (mSlots rw 0 M) : Nat) : Int) = (lapseF M).1 := by rw [hcnt]; rfl
  have HRES := Lib.hid hres
  have h0 : LapR w R (mSlots rw 0 M) put w 0 := ⟨by rw [lapL_zero]; exact h1, Chg.refl _ _, Nat.le_refl _⟩
  have H0 := Lib.hid h0
  obtain ⟨z1, z2⟩ := h1.bnd
  unfold maxLen at z2
  clear hcnt hlen hfin hres h1 h2 hpc h0
  generalize mSlots rw 0 M = l at *
  go_enter Try.func61, Try.ntmps61
  go_wp2_with fail
  go_loopw [3, 4] (fun v x wr => ∃ n : Nat, n ≤ l.length ∧ x = .int .i64 n ∧ v = .int .i64 (lapC (l.take n) : Nat) ∧ Hid (LapR w R l put wr n)) (fun _ x _ => l.length - (intOf x).toNat)
  case atStart => exact ⟨0, Nat.zero_le _, rfl, by simp [lapC], H0⟩
  case round =>
    obtain ⟨n, hn, rfl, rfl, hh⟩ := hrel
    obtain ⟨wo, rfl⟩ : ∃ wo : World, wo = wr := ⟨_, rfl⟩
    have hI : 0 ≤ (n : Int) := Int.natCast_nonneg n
    obtain ⟨c0, _, fp, fb, b0, b1⟩ := hh.out.1.tops
    rw [lapL_len l n hn] at c0
    have hpb := hh.out.1.ne
    obtain ⟨y0, y1, y2, y3⟩ := lts b0
    obtain ⟨x0, x1, x2, x3⟩ := lts b1
    have b00 : ∀ n, R.p < wo.heap.size + n := fun n => by omega
    have b11 : ∀ n, R.b < wo.heap.size + n := fun n => by omega
    have hc0 := lapC_le (l.take n)
    rw [List.length_take, Nat.min_eq_left hn] at hc0
    by_cases hlt : n < l.length
    · obtain ⟨s, hs⟩ : ∃ s, l[n]? = some s := ⟨_, List.getElem?_eq_getElem hlt⟩
      obtain ⟨s0, s1, s2, s3, s4, s5⟩ := hh.out.1.slot (lapL_get hs)
      have hcs := lapC_succ hs
      have HS := Lib.hid hs
      have HC := Lib.hid hcs
      clear hs hcs
      obtain ⟨sk, si, sg, sb, srow, sa⟩ := s
      simp only at s0 s1 s2 s3 s4 s5
      generalize lapC (l.take n) = cn at *
      by_cases hr : 0 ≤ srow
      · have hd1 : decide (srow < 0) = false := by simpa using hr
        by_cases hg : sg < sb
        · have hd2 : decide (sb ≤ sg) = false := by simpa using hg
          have hl : lapsS ⟨sk, si, sg, sb, srow, sa⟩ = true := by simp [lapsS, hr, hg]
          rw [hl] at HC
          have HLL := Lib.hid hl
          clear hl
          by_cases hb : sb = 1048576
          · have hbb : (sb == 1048576) = true := by simpa using hb
            have HB := Lib.hid hb
            clear hb
            go_wp2_with fail
            refine wp_region_more (by kernel_rfl) (by kernel_rfl) ?_
            repeat (go_big_quiet_step (fail))
            refine wpQuiet_nil ?_
            rintro _ ⟨pn, rfl⟩
            go_wp2_with fail
            refine wp_region_still_tail 15 (by kernel_rfl) (by kernel_rfl) ?_
            simp only [List.take_succ_cons, List.take_zero, List.drop_succ_cons, List.drop_zero]
            repeat (first | still_step)
            refine wpStill_nil ?_
            go_wp2_with fail
            go_roundw
            case rel => exact ⟨n + 1, hlt, by go_num, by rw [HC.out]; go_num, Lib.hid ((hh.out.worn HS.out HLL.out HB.out).later (by repeat' (first | (with_reducible exact Below.refl _ _) | (with_reducible assumption) | (with_reducible refine below_drewN ?_ _) | (with_reducible refine below_more _ _ _ ?_ ?_) | (with_reducible refine Below.alloc ?_ ?_ _) | (with_reducible refine Below.drew ?_) | (with_reducible refine Below.setCell ?_ ?_ _) | go_size)))⟩
            case measure => simp [intOf]; omega
          · have hbb : (sb == 1048576) = false := by simpa using hb
            have HB := Lib.hid hb
            clear hb
            go_wp2_with fail
            refine wp_region_more (by kernel_rfl) (by kernel_rfl) ?_
            repeat (go_big_quiet_step (fail))
            refine wpQuiet_nil ?_
            rintro _ ⟨pn, rfl⟩
            go_wp2_with fail
            refine wp_region_still_tail 15 (by kernel_rfl) (by kernel_rfl) ?_
            simp only [List.take_succ_cons, List.take_zero, List.drop_succ_cons, List.drop_zero]
            repeat (first | still_step)
            refine wpStill_nil ?_
            go_wp2_with fail
            go_roundw
            case rel => exact ⟨n + 1, hlt, by go_num, by rw [HC.out]; go_num, Lib.hid ((hh.out.gen HS.out HLL.out HB.out).later (by repeat' (first | (with_reducible exact Below.refl _ _) | (with_reducible assumption) | (with_reducible refine below_drewN ?_ _) | (with_reducible refine below_more _ _ _ ?_ ?_) | (with_reducible refine Below.alloc ?_ ?_ _) | (with_reducible refine Below.drew ?_) | (with_reducible refine Below.setCell ?_ ?_ _) | go_size)))⟩
            case measure => simp [intOf]; omega
        · have hd2 : decide (sb ≤ sg) = true := by simpa using hg
          have hl : lapsS ⟨sk, si, sg, sb, srow, sa⟩ = false := by simp [lapsS, hg]
          rw [hl] at HC
          have HLL := Lib.hid hl
          clear hl hg
          go_wp2_with fail
          refine wp_region_more (by kernel_rfl) (by kernel_rfl) ?_
          repeat (go_big_quiet_step (fail))
          refine wpQuiet_nil ?_
          rintro _ ⟨pn, rfl⟩
          go_wp2_with fail
          go_roundw
          case rel => exact ⟨n + 1, hlt, by go_num, by rw [HC.out]; go_num, Lib.hid ((hh.out.same HS.out HLL.out).later (by repeat' (first | (with_reducible exact Below.refl _ _) | (with_reducible assumption) | (with_reducible refine below_drewN ?_ _) | (with_reducible refine below_more _ _ _ ?_ ?_) | (with_reducible refine Below.alloc ?_ ?_ _) | (with_reducible refine Below.drew ?_) | (with_reducible refine Below.setCell ?_ ?_ _) | go_size)))⟩
          case measure => simp [intOf]; omega
      · have hd1 : decide (srow < 0) = true := by simpa using hr
        have hl : lapsS ⟨sk, si, sg, sb, srow, sa⟩ = false := by simp [lapsS]; omega
        rw [hl] at HC
        have HLL := Lib.hid hl
        clear hl hr
        go_wp2_with fail
        refine wp_region_more (by kernel_rfl) (by kernel_rfl) ?_
        repeat (go_big_quiet_step (fail))
        refine wpQuiet_nil ?_
        rintro _ ⟨pn, rfl⟩
        go_wp2_with fail
        go_roundw
        case rel => exact ⟨n + 1, hlt, by go_num, by rw [HC.out]; go_num, Lib.hid ((hh.out.same HS.out HLL.out).later (by repeat' (first | (with_reducible exact Below.refl _ _) | (with_reducible assumption) | (with_reducible refine below_drewN ?_ _) | (with_reducible refine below_more _ _ _ ?_ ?_) | (with_reducible refine Below.alloc ?_ ?_ _) | (with_reducible refine Below.drew ?_) | (with_reducible refine Below.setCell ?_ ?_ _) | go_size)))⟩
        case measure => simp [intOf]; omega
    · obtain rfl : n = l.length := by omega
      rw [List.take_length] at hc0 ⊢
      clear hlt
      go_wp2_with fail
      go_ret
      exact ⟨by rw [← HRES.out]; rfl, HFIN.out _ (hh.out.later (by repeat' (first | (with_reducible exact Below.refl _ _) | (with_reducible assumption) | (with_reducible refine below_drewN ?_ _) | (with_reducible refine below_more _ _ _ ?_ ?_) | (with_reducible refine Below.alloc ?_ ?_ _) | (with_reducible refine Below.drew ?_) | (with_reducible refine Below.setCell ?_ ?_ _) | go_size)))⟩
end Go.Proofs.Ytbghjklnlhoklaa

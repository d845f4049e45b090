/-
  IdsOnce, plain: a pool, one that was told of it, and the names that were given. No program here. No condition.
-/
import Derived.Test.YtjkbenghgbigdaaLapA
namespace Go.Proofs.Ytjkbenghgbigdaa
open Go.RowKit
structure OnceR (mp mq : Sh) (gv : List (Id3 × Bool)) : Prop where
  gp : Good mp
  gq : Good mq
  rel : ∀ (i : Nat) (x : Ix), mp.all[i]? = some x → ∃ y : Ix, mq.all[i]? = some y ∧ y.bound = x.bound ∧ y.gen ≤ x.gen ∧ (y.alive = true → x.alive = true ∧ y.gen = x.gen) ∧ (y.alive = false → x.gen < 1048576 → (i : Int) ∈ mq.free)
  gvn : ∀ e ∈ gv, e.1.1 = 0 ∧ 0 ≤ e.1.2.1 ∧ 0 ≤ e.1.2.2 ∧ ∃ x y : Ix, mp.all[e.1.2.1.toNat]? = some x ∧ mq.all[e.1.2.1.toNat]? = some y ∧ e.1.2.2 < x.bound ∧ e.1.2.2 ≤ x.gen ∧ (x.alive = false → e.1.2.2 < x.gen) ∧ (x.alive = true → x.gen = e.1.2.2 → y.alive = e.2)

/-- One index of both has turned. -/
theorem OnceR.turn {mp mq mp' mq' : Sh} {gv : List (Id3 × Bool)} (h : OnceR mp mq gv) {i : Nat} {x y x' y' : Ix} (hx : mp.all[i]? = some x) (hy : mq.all[i]? = some y) (hp : mp'.all = mp.all.set i x') (hq : mq'.all = mq.all.set i y') (gp : Good mp') (gq : Good mq')
    (hf : ∀ j : Nat, j ≠ i → (j : Int) ∈ mq.free → (j : Int) ∈ mq'.free) (h1 : y'.bound = x'.bound) (h2 : y'.gen ≤ x'.gen) (h3 : y'.alive = true → x'.alive = true ∧ y'.gen = x'.gen) (h4 : y'.alive = false → x'.gen < 1048576 → (i : Int) ∈ mq'.free)
    (hb : x.bound ≤ x'.bound) (hg : ∀ e ∈ gv, e.1.2.1 = (i : Int) → e.1.2.2 ≤ x.gen → (x.alive = false → e.1.2.2 < x.gen) → (x.alive = true → x.gen = e.1.2.2 → y.alive = e.2) → e.1.2.2 ≤ x'.gen ∧ (x'.alive = false → e.1.2.2 < x'.gen) ∧ (x'.alive = true → x'.gen = e.1.2.2 → y'.alive = e.2)) : OnceR mp' mq' gv := by
  have hil : i < mp.all.length := (List.getElem?_eq_some_iff.1 hx).1
  have hil2 : i < mq.all.length := (List.getElem?_eq_some_iff.1 hy).1
  refine ⟨gp, gq, fun j z hz => ?_, fun e he => ?_⟩
  · rw [hp, List.getElem?_set] at hz
    by_cases hj : i = j
    · subst hj
      rw [if_pos rfl, if_pos hil] at hz
      obtain rfl : x' = z := by simpa using hz
      exact ⟨y', by rw [hq, List.getElem?_set_self hil2], h1, h2, h3, h4⟩
    · rw [if_neg hj] at hz
      obtain ⟨y2, a1, a2, a3, a4, a5⟩ := h.rel j z hz
      exact ⟨y2, by rw [hq, List.getElem?_set_ne hj]; exact a1, a2, a3, a4, fun b1 b2 => hf j (fun e => hj e.symm) (a5 b1 b2)⟩
  · obtain ⟨e0, e1, e1', x2, y2, e2, e3, e4, e5, e6, e7⟩ := h.gvn e he
    refine ⟨e0, e1, e1', ?_⟩
    by_cases hj : i = e.1.2.1.toNat
    · have hei : e.1.2.1 = (i : Int) := by omega
      rw [← hj] at e2 e3 ⊢
      rw [hx] at e2
      rw [hy] at e3
      obtain rfl := Option.some.inj e2
      obtain rfl := Option.some.inj e3
      obtain ⟨g1, g2, g3⟩ := hg e he hei e5 e6 e7
      exact ⟨x', y', by rw [hp, List.getElem?_set_self hil], by rw [hq, List.getElem?_set_self hil2], by omega, g1, g2, g3⟩
    · exact ⟨x2, y2, by rw [hp, List.getElem?_set_ne hj]; exact e2, by rw [hq, List.getElem?_set_ne hj]; exact e3, e4, e5, e6, e7⟩

theorem OnceR.snoc {mp mq : Sh} {gv : List (Id3 × Bool)} (h : OnceR mp mq gv) {i : Nat} {x y : Ix} (hx : mp.all[i]? = some x) (hy : mq.all[i]? = some y) (ha : x.alive = true) (hb : x.gen < x.bound) (h0 : 0 ≤ x.gen) {b : Bool} (hyb : y.alive = b) : OnceR mp mq (gv ++ [((0, (i : Int), x.gen), b)]) := by
  refine ⟨h.gp, h.gq, h.rel, fun e he => ?_⟩
  rcases List.mem_append.1 he with he | he
  · exact h.gvn e he
  · obtain rfl : e = ((0, (i : Int), x.gen), b) := by simpa using he
    exact ⟨rfl, Int.natCast_nonneg i, h0, x, y, by simpa using hx, by simpa using hy, hb, Int.le_refl _, (fun h => by rw [ha] at h; cases h), fun _ _ => hyb⟩

theorem fresh_once (n : Nat) (h : n ≤ 16) : OnceR (fresh n n) (fresh n n) [] := by
  refine ⟨fresh_good n h, fresh_good n h, fun i x hx => ⟨x, hx, rfl, Int.le_refl _, fun ha => ?_, fun _ _ => ?_⟩, fun e he => by cases he⟩
  · simp only [fresh, freshIx, List.getElem?_replicate] at hx
    split at hx
    · cases hx; cases ha
    · cases hx
  · have hil := (List.getElem?_eq_some_iff.1 hx).1
    simp [fresh, freshIx] at hil ⊢
    exact ⟨i, hil, rfl⟩

theorem OnceR.next {mp mq : Sh} {gv : List (Id3 × Bool)} (h : OnceR mp mq gv) {f : Int} {fs : List Int} (hf : mp.free = f :: fs) :
    ∃ (g a : Int) (mp' mq' mq'' : Sh), nextF [mp] 0 = (((0, f, g), a, true), [mp']) ∧ ((a = -1 ∧ mq' = mq) ∨ (0 ≤ a ∧ a = f ∧ reserveF [mq] 0 f = (0, [mq']))) ∧ OnceR mp' mq' (gv ++ [((0, f, g), false)]) ∧
      takeF [mq'] 0 f g = (0, [mq'']) ∧ OnceR mp' mq'' (gv ++ [((0, f, g), true)]) := by
  obtain ⟨x, hx, hf0, e, gp'⟩ := nextF_cons (M := [mp]) (k := 0) rfl hf h.gp
  obtain ⟨i, rfl⟩ := Int.eq_ofNat_of_zero_le hf0
  rw [Int.toNat_natCast] at hx e gp'
  have hmem : (i : Int) ∈ mp.free := by rw [hf]; simp
  have hxa := h.gp.inv.dead i hmem x (by simpa using hx)
  have hxg := h.gp.fg i hmem x (by simpa using hx)
  have hrr := h.gp.inv.rng i x hx
  have hxle := h.gp.le i x hx
  obtain ⟨y, hy, y1, y2, y3, y4⟩ := h.rel i x hx
  have hya : y.alive = false := by
    cases hh : y.alive with
    | false => rfl
    | true => have := (y3 hh).1; rw [hxa] at this; cases this
  have hyf := y4 hya hxg
  have hyr := h.gq.inv.rng i y hy
  have hil : i < mp.all.length := (List.getElem?_eq_some_iff.1 hx).1
  have hil2 : i < mq.all.length := (List.getElem?_eq_some_iff.1 hy).1
  -- the bound, behind what was set aside
  have hq' : ∃ (y' : Ix) (mq' : Sh), y' = ⟨y.gen, (nxtIx x).bound, false⟩ ∧ mq' = ⟨mq.all.set i y', mq.free⟩ ∧ Good mq' ∧ ((nxtAt x i = -1 ∧ mq' = mq) ∨ (0 ≤ nxtAt x i ∧ nxtAt x i = i ∧ reserveF [mq] 0 i = (0, [mq']))) := by
    refine ⟨_, _, rfl, rfl, ?_, ?_⟩
    · refine set_good h.gq _ (h.gq.inv.set_ix i _ ⟨hyr.1, hyr.2.1, ?_, ?_, fun h => by cases h⟩ fun _ => rfl) ?_ (fun h => by cases h) (fun _ => by simp only; omega)
      all_goals (simp only [nxtIx]; split <;> omega)
    · by_cases hlt : x.gen < x.bound
      · left
        refine ⟨by simp [nxtAt, hlt], ?_⟩
        have : (⟨y.gen, (nxtIx x).bound, false⟩ : Ix) = y := by
          obtain ⟨yg, yb, ya⟩ := y
          simp only at y1 hya
          simp [nxtIx, hlt, y1, hya]
        rw [this, ← (List.getElem?_eq_some_iff.1 hy).2]
        simp
      · right
        have hb : ¬ y.bound = 1048576 := by omega
        refine ⟨by simp [nxtAt, hlt], by simp [nxtAt, hlt], ?_⟩
        have hix : ixOf [mq] 0 i = some y := by simp [ixOf, shOf, hy]
        simp only [reserveF, hix, if_neg hb, setIx, shOf]
        simp [nxtIx, hlt, y1, hya]
  obtain ⟨y', mq', ey', emq', gq', hres⟩ := hq'
  have hnx : (nxtIx x).gen = x.gen := rfl
  have hnb : x.gen < (nxtIx x).bound := by simp only [nxtIx]; split <;> omega
  have hnb2 : x.bound ≤ (nxtIx x).bound := by simp only [nxtIx]; split <;> omega
  have hy' : mq'.all[i]? = some y' := by rw [emq']; exact List.getElem?_set_self hil2
  have hb1 : OnceR ⟨mp.all.set i (nxtIx x), fs⟩ mq' gv := by
    refine h.turn hx hy rfl (by rw [emq']) gp' gq' (fun j _ hj => by rw [emq']; exact hj) (by rw [ey']) (by rw [ey']; exact y2) (fun hh => by rw [ey'] at hh; cases hh) (fun _ _ => by rw [emq']; exact hyf) hnb2 ?_
    intro e _ _ e1 e2 _
    have := e2 hxa
    exact ⟨by rw [hnx]; omega, (fun hh => by cases hh), (fun _ hh => by rw [hnx] at hh; omega)⟩
  -- taken
  have hinv2 := gq'.inv.drop (i := i) (x' := ⟨x.gen, (nxtIx x).bound, true⟩)
  have hdr : ShInv { mq' with free := mq'.free.filter fun j => !(j == (i : Int)) } ∧ ShInv { mq' with all := mq'.all.set i ⟨x.gen, (nxtIx x).bound, true⟩, free := mq'.free.filter fun j => !(j == (i : Int)) } := hinv2 ⟨hrr.1, hrr.2.1, by simp only; omega, by simp only [nxtIx]; split <;> omega, fun _ => hxg⟩
  have g1 : Good { mq' with free := mq'.free.filter fun j => !(j == (i : Int)) } := free_drop_good gq' _ hdr.1 fun f hf => (List.mem_filter.1 hf).1
  have g2 : Good { mq' with all := mq'.all.set i ⟨x.gen, (nxtIx x).bound, true⟩, free := mq'.free.filter fun j => !(j == (i : Int)) } :=
    set_good g1 ⟨x.gen, (nxtIx x).bound, true⟩ hdr.2 (by simp only; omega) (fun _ => hnb) (fun hf => by simp [List.mem_filter] at hf)
  refine ⟨x.gen, nxtAt x i, _, mq', { mq' with all := mq'.all.set i ⟨x.gen, (nxtIx x).bound, true⟩, free := mq'.free.filter fun j => !(j == (i : Int)) }, by simpa using e, hres, hb1.snoc (x := nxtIx x) (List.getElem?_set_self hil) hy' rfl hnb hrr.1 (by rw [ey']), ?_, ?_⟩
  · have hix : ixOf [mq'] 0 i = some y' := by simp [ixOf, shOf, hy']
    have hfr : frOf [mq'] 0 = mq'.free := by simp [frOf, shOf]
    have hin : (i : Int) ∈ mq'.free := by rw [emq']; exact hyf
    have h1 : ¬ (x.gen < y'.gen ∨ y'.bound ≤ x.gen) := by rw [ey']; simp only; omega
    simp only [takeF, hix, hfr, if_neg (show ¬ x.gen < 0 by omega), hin, not_true, if_false, if_neg h1]
    simp [setIx, setFr, shOf, ey']
  · have hy2 : ({ mq' with all := mq'.all.set i ⟨x.gen, (nxtIx x).bound, true⟩, free := mq'.free.filter fun j => !(j == (i : Int)) } : Sh).all[i]? = some ⟨x.gen, (nxtIx x).bound, true⟩ := List.getElem?_set_self (List.getElem?_eq_some_iff.1 hy').1
    refine OnceR.snoc (x := nxtIx x) (y := ⟨x.gen, (nxtIx x).bound, true⟩) ?_ (List.getElem?_set_self hil) hy2 rfl hnb hrr.1 rfl
    refine h.turn hx hy (x' := nxtIx x) (y' := ⟨x.gen, (nxtIx x).bound, true⟩) rfl (by rw [emq']; simp) gp' g2 (fun j hj hm => ?_) rfl (Int.le_refl _) (fun _ => ⟨rfl, rfl⟩) (fun hh => by cases hh) hnb2 ?_
    · rw [emq']
      simp only [List.mem_filter]
      exact ⟨hm, by simp; omega⟩
    · intro e _ _ e1 e2 _
      have := e2 hxa
      exact ⟨by rw [hnx]; omega, (fun hh => by cases hh), (fun _ hh => by rw [hnx] at hh; omega)⟩

theorem freeF_not {m : Sh} {i g : Int} (h : (aliveF [m] 0 i g) = false) : ∃ c : Int, (c == 0) = false ∧ freeF [m] 0 i g = (c, [m]) := by
  cases hx : ixOf [m] 0 i with
  | none => exact ⟨1, rfl, by simp only [freeF, hx]⟩
  | some x =>
    by_cases h0 : g < 0
    · exact ⟨1, rfl, by simp only [freeF, hx, if_pos h0]⟩
    · have ha : (x.alive && x.gen == g) = false := by simpa [aliveF, hx] using h
      exact ⟨9, rfl, by simp only [freeF, hx, if_neg h0, ha, if_true]⟩

theorem freed_all (m : Sh) (i : Nat) (x : Ix) : (freedSh m i x).all = m.all.set i ⟨x.gen + 1, x.bound, false⟩ := by unfold freedSh; split <;> rfl
theorem freed_free {m : Sh} {i : Nat} {x : Ix} {f : Int} (h : f ∈ m.free) : f ∈ (freedSh m i x).free := by unfold freedSh; split <;> simp [h]
theorem freed_self {m : Sh} {i : Nat} {x : Ix} (h : x.gen + 1 < 1048576) : (i : Int) ∈ (freedSh m i x).free := by unfold freedSh; rw [if_pos h]; simp

theorem OnceR.free {mp mq : Sh} {gv : List (Id3 × Bool)} (h : OnceR mp mq gv) {e : Id3 × Bool} (he : e ∈ gv) :
    (∃ mp', freeF [mp] 0 e.1.2.1 e.1.2.2 = (0, [mp']) ∧ (e.2 = true → ∃ mq', freeF [mq] 0 e.1.2.1 e.1.2.2 = (0, [mq']) ∧ OnceR mp' mq' gv) ∧ (e.2 = false → OnceR mp' mq gv)) ∨ (∃ c : Int, (c == 0) = false ∧ freeF [mp] 0 e.1.2.1 e.1.2.2 = (c, [mp])) := by
  obtain ⟨e0, e1, e1', x, y, hx, hy, e4, e5, e6, e7⟩ := h.gvn e he
  obtain ⟨⟨es, ei, eg⟩, eb⟩ := e
  simp only at e0 e1 e1' hx hy e4 e5 e6 e7 ⊢
  obtain ⟨i, rfl⟩ := Int.eq_ofNat_of_zero_le e1
  rw [Int.toNat_natCast] at hx hy
  cases ha : aliveF [mp] 0 i eg with
  | false => exact .inr (freeF_not ha)
  | true =>
    left
    have ha' : x.alive = true ∧ x.gen = eg := by simpa [aliveF, ixOf, shOf, hx] using ha
    obtain ⟨hxa, rfl⟩ := ha'
    obtain ⟨f1, f2⟩ := freeF_alive (M := [mp]) (k := 0) rfl hx hxa h.gp
    have hyb := e7 hxa rfl
    obtain ⟨y2, hy2, y1, y3, y4, y5⟩ := h.rel i x hx
    rw [hy] at hy2
    obtain rfl := Option.some.inj hy2
    have hil := (List.getElem?_eq_some_iff.1 hx).1
    have hxr := (h.gp.inv.rng i x hx).2.2.2.2 hxa
    refine ⟨freedSh mp i x, by simpa using f1, fun hb => ?_, fun hb => ?_⟩
    · subst hb
      obtain ⟨y6, y7⟩ := y4 hyb
      obtain ⟨g1, g2⟩ := freeF_alive (M := [mq]) (k := 0) rfl hy hyb h.gq
      rw [y7] at g1
      refine ⟨freedSh mq i y, by simpa using g1, ?_⟩
      refine h.turn hx hy (x' := ⟨x.gen + 1, x.bound, false⟩) (y' := ⟨y.gen + 1, y.bound, false⟩) (freed_all _ _ _) (freed_all _ _ _) f2 g2 (fun j _ hm => freed_free hm) y1 (by simp only; omega) (fun hh => by cases hh) (fun _ hh => freed_self (by simp only at hh; omega)) (Int.le_refl _) ?_
      intro e _ _ q1 _ _
      exact ⟨by simp only; omega, fun _ => by simp only; omega, fun hh => by cases hh⟩
    · subst hb
      have hset : mq.all = mq.all.set i y := by rw [← (List.getElem?_eq_some_iff.1 hy).2]; simp
      refine h.turn hx hy (x' := ⟨x.gen + 1, x.bound, false⟩) (y' := y) (freed_all _ _ _) hset f2 h.gq (fun j _ hm => hm) y1 (by simp only; omega) (fun hh => by rw [hyb] at hh; cases hh) (fun hh _ => y5 hh hxr) (Int.le_refl _) ?_
      intro e _ _ q1 _ _
      exact ⟨by simp only; omega, fun _ => by simp only; omega, fun hh => by cases hh⟩

/-- Behind the lapse. -/
structure OnceQ (mq : Sh) (gv : List (Id3 × Bool)) : Prop where
  gq : Good mq
  new : ∀ f ∈ mq.free, ∀ e ∈ gv, e.1.2.1 = f → ∃ y : Ix, mq.all[f.toNat]? = some y ∧ e.1.2.2 < y.gen

theorem lap_good {m : Sh} (h : Good m) : Good (lapSh m) := by
  have hn : ∀ f ∈ m.free, 0 ≤ f := fun f hf => (h.inv.fr f hf).1
  have key : ∀ (i : Nat) (x : Ix), (lapSh m).all[i]? = some x → ∃ y, m.all[i]? = some y ∧ (x = y ∧ (i : Int) ∉ m.free ∨ x = lapIx y ∧ (i : Int) ∈ m.free) := by
    intro i x hx
    simp only [lapSh] at hx
    by_cases hi : (i : Int) ∈ m.free
    · rw [lapAll_mem _ _ _ hn h.inv.nd hi] at hx
      obtain ⟨y, hy, e⟩ := Option.map_eq_some_iff.1 hx
      exact ⟨y, hy, .inr ⟨e.symm, hi⟩⟩
    · rw [lapAll_ne _ _ _ hn hi] at hx
      exact ⟨x, hx, .inl ⟨rfl, hi⟩⟩
  refine ⟨lap_inv h.inv, fun i x hx => ?_, fun i x hx ha => ?_, fun f hf x hx => ?_⟩
  · obtain ⟨y, hy, ⟨rfl, _⟩ | ⟨rfl, _⟩⟩ := key i x hx
    · exact h.le i x hy
    · have := h.le i y hy
      unfold lapIx
      split
      · exact Int.le_refl _
      · exact this
  · obtain ⟨y, hy, ⟨rfl, _⟩ | ⟨rfl, hi⟩⟩ := key i x hx
    · exact h.lv i x hy ha
    · rw [lapIx_alive, h.inv.dead i hi y (by simpa using hy)] at ha
      cases ha
  · have h1 := (lap_inv h.inv).rng _ x hx
    have h2 : genAt (lapSh m).all f = x.gen := by simp [genAt, hx]
    have h3 : (!(genAt (lapSh m).all f == 1048576)) = true := (List.mem_filter.1 hf).2
    rw [h2] at h3
    simp at h3
    omega

theorem OnceR.lapse {mp mq : Sh} {gv : List (Id3 × Bool)} (h : OnceR mp mq gv) : OnceQ (lapSh mq) gv := by
  refine ⟨lap_good h.gq, fun f hf e he hef => ?_⟩
  have hfm : f ∈ mq.free := (List.mem_filter.1 hf).1
  obtain ⟨e0, e1, e1', x, y, hx, hy, e4, e5, e6, e7⟩ := h.gvn e he
  have hf0 := (h.gq.inv.fr f hfm).1
  obtain ⟨i, rfl⟩ := Int.eq_ofNat_of_zero_le hf0
  rw [hef] at hx hy
  rw [Int.toNat_natCast] at hx hy ⊢
  refine ⟨lapIx y, by simp only [lapSh]; rw [lapAll_mem _ _ _ (fun f hf => (h.gq.inv.fr f hf).1) h.gq.inv.nd hfm, hy]; rfl, ?_⟩
  obtain ⟨y2, hy2, y1, _⟩ := h.rel i x hx
  rw [hy] at hy2
  obtain rfl := Option.some.inj hy2
  have hle := h.gq.le i y hy
  unfold lapIx
  split
  · simp only; omega
  · omega

theorem OnceQ.next {mq : Sh} {gv : List (Id3 × Bool)} (h : OnceQ mq gv) :
    (nextF [mq] 0 = (((0, 0, 0), -1, false), [mq])) ∨ ∃ (f g a : Int) (mq' mq'' : Sh), nextF [mq] 0 = (((0, f, g), a, true), [mq']) ∧ (∀ e ∈ gv, (e.1.2.1 == f && e.1.2.2 == g) = false) ∧ OnceQ mq' gv ∧ freeF [mq'] 0 f g = (0, [mq'']) ∧ OnceQ mq'' gv := by
  cases hf : mq.free with
  | nil => exact .inl (nextF_nil (M := [mq]) (k := 0) rfl hf)
  | cons f fs =>
    right
    obtain ⟨x, hx, hf0, e, g'⟩ := nextF_cons (M := [mq]) (k := 0) rfl hf h.gq
    obtain ⟨i, rfl⟩ := Int.eq_ofNat_of_zero_le hf0
    rw [Int.toNat_natCast] at hx e g'
    have hil := (List.getElem?_eq_some_iff.1 hx).1
    have hnd := h.gq.inv.nd
    rw [hf] at hnd
    have hni := (List.nodup_cons.1 hnd).1
    have hn1 : (⟨mq.all.set i (nxtIx x), fs⟩ : Sh).all[i]? = some (nxtIx x) := List.getElem?_set_self hil
    have hq1 : OnceQ ⟨mq.all.set i (nxtIx x), fs⟩ gv := by
      refine ⟨g', fun f hfm e he hef => ?_⟩
      obtain ⟨y, hy, hy2⟩ := h.new f (by rw [hf]; exact List.mem_cons_of_mem _ hfm) e he hef
      have hne : i ≠ f.toNat := fun e => hni (by have := (h.gq.inv.fr f (by rw [hf]; exact List.mem_cons_of_mem _ hfm)).1; rw [show (i : Int) = f by omega]; exact hfm)
      exact ⟨y, by simp only; rw [List.getElem?_set_ne hne]; exact hy, hy2⟩
    obtain ⟨f1, f2⟩ := freeF_alive (M := [⟨mq.all.set i (nxtIx x), fs⟩]) (k := 0) rfl hn1 rfl g'
    refine ⟨i, x.gen, nxtAt x i, _, freedSh ⟨mq.all.set i (nxtIx x), fs⟩ i (nxtIx x), by simpa using e, fun e he => ?_, hq1, by simpa [nxtIx] using f1, f2, fun f hfm e he hef => ?_⟩
    · cases hh : (e.1.2.1 == (i : Int) && e.1.2.2 == x.gen) with
      | false => rfl
      | true =>
        simp only [Bool.and_eq_true, beq_iff_eq] at hh
        obtain ⟨y, hy, hy2⟩ := h.new i (by rw [hf]; simp) e he hh.1
        rw [Int.toNat_natCast, hx] at hy
        obtain rfl := Option.some.inj hy
        omega
    · rw [freed_all]
      by_cases hfi : f = (i : Int)
      · subst hfi
        rw [Int.toNat_natCast]
        refine ⟨_, List.getElem?_set_self (by simpa using hil), ?_⟩
        obtain ⟨y, hy, hy2⟩ := h.new i (by rw [hf]; simp) e he hef
        rw [Int.toNat_natCast, hx] at hy
        obtain rfl := Option.some.inj hy
        simp only [nxtIx]
        omega
      · have hfm2 : f ∈ fs := by
          unfold freedSh at hfm
          split at hfm
          · rcases List.mem_append.1 hfm with h1 | h1
            · exact h1
            · simp at h1; exact absurd h1 hfi
          · exact hfm
        obtain ⟨y, hy, hy2⟩ := hq1.new f hfm2 e he hef
        have := (h.gq.inv.fr f (by rw [hf]; exact List.mem_cons_of_mem _ hfm2)).1
        exact ⟨y, by rw [List.getElem?_set_ne (by omega)]; exact hy, hy2⟩
end Go.Proofs.Ytjkbenghgbigdaa

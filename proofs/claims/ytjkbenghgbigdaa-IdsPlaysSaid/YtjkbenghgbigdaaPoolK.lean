/-
  Chapter 8's laws: mod, next, and the document's example (awake). No condition.
-/
import Derived.Test.YtjkbenghgbigdaaPoolH
import Derived.Test.YtjkbenghgbigdaaPoolI
namespace Go.Proofs.Ytjkbenghgbigdaa
open Go.RowKit

theorem Chg.then_alloc {w w' : World} {F : Nat → Prop} (h : Chg w w' F) (o : Obj) : Chg w (w'.alloc o) F := h.then_below ((Below.refl _ _).alloc h.size o)
theorem Chg.then_drew {w w' : World} {F : Nat → Prop} (h : Chg w w' F) : Chg w w'.drew F := h.then_below (Below.refl _ _).drew
theorem Chg.then_more {w w' : World} {F : Nat → Prop} (h : Chg w w' F) (d : Nat) (os : Array Obj) : Chg w (more w' d os) F := h.then_below ((more_below _ _ _).mono h.size)

/-- Behind a step that was made from W on, some of the blocks between w and W turned. -/
theorem Stp.finish {w W w1 w2 : World} {L : Lay} {M M' : List Sh} (hp : PoolAt w L M) (hW : Below w.heap.size w W) (h : Stp W L w1 M') (hc : Chg w1 w2 (fun b => w.heap.size ≤ b ∧ b < W.heap.size)) : Stp w L w2 M' := by
  obtain ⟨L', hP, hp', hc', ho⟩ := h
  refine ⟨L', hP, hp'.chg hc fun b hb h => ?_, ((Chg.of_below hW).trans hc' fun _ _ h => h).trans hc fun b hb h => ?_, fun b hb => (ho b hb).imp_right fun h => Nat.le_trans hW.size h⟩
  · rcases ho b hb with h1 | h1
    · have := hp.lt h1; omega
    · omega
  · omega

/-- A step, and one more. -/
theorem Stp.step {w w' : World} {L : Lay} {M' : List Sh} (h : Stp w L w' M') : ∃ L', L'.P = L.P ∧ PoolAt w' L' M' ∧ ∀ w'' M'', Stp w' L' w'' M'' → Stp w L w'' M'' := by
  obtain ⟨L', hP, hp, hc, ho⟩ := h
  refine ⟨L', hP, hp, fun w'' M'' h2 => ?_⟩
  obtain ⟨L2, hP2, hp2, hc2, ho2⟩ := h2
  refine ⟨L2, hP2.trans hP, hp2, hc.trans hc2 fun b hb h1 => ?_, fun b hb => ?_⟩
  · rcases ho b h1 with h | h
    · exact h
    · omega
  · rcases ho2 b hb with h | h
    · exact ho b h
    · exact .inr (Nat.le_trans hc.size h)

/-- The caller's boxes, behind a step. -/
theorem Stp.boxes {w W w1 : World} {L : Lay} {M M' : List Sh} (hp : PoolAt w L M) (hW : Below w.heap.size w W) (h : Stp W L w1 M') : W.heap.size ≤ w1.heap.size ∧ ∀ b o, w.heap.size ≤ b → b < W.heap.size → w1.cell? ⟨b, o, none⟩ = W.cell? ⟨b, o, none⟩ ∧ w1.frozen? ⟨b, o, none⟩ = W.frozen? ⟨b, o, none⟩ := by
  obtain ⟨L', _, _, hc', _⟩ := h
  have hs := hW.size
  exact ⟨hc'.size, fun b o h1 h2 => ⟨hc'.cell (a := ⟨b, o, none⟩) h2 fun h => by have := hp.lt h; simp only at this; omega, hc'.frozen (a := ⟨b, o, none⟩) h2 fun h => by have := hp.lt h; simp only at this; omega⟩⟩

/-- A number from 0 on, below n. -/
def modF (k n : Int) : Int := k % n

theorem mod_any (k n : Int) (w : World) (h1 : 1 ≤ n) (h2 : n ≤ 1000000) :
    Calls Try.prog 18 #[.int .i64 k, .int .i64 n] w fun e w' => e = .returned (.int .i64 (k % n)) ∧ w = w' := by
  have e0 : (Int.tmod k n + n) % n = k % n := by
    rw [Int.add_emod_right]
    by_cases hk0 : 0 ≤ k
    · rw [Int.tmod_eq_emod_of_nonneg hk0, Int.emod_emod_of_dvd _ (Int.dvd_refl n)]
    · rw [Int.tmod_eq_emod]
      split
      · simp
      · have hn : ((n.natAbs : Int)) = n := by omega
        rw [hn, Int.sub_emod_right, Int.emod_emod_of_dvd _ (Int.dvd_refl n)]
  have E0 := Lib.hid e0
  have t1 : -n < Int.tmod k n := by have := Int.tmod_lt_of_pos k (by omega : 0 < n); have := Int.lt_tmod_of_pos k (by omega : 0 < n); omega
  have t2 : Int.tmod k n < n := Int.tmod_lt_of_pos k (by omega)
  clear e0
  go_enter Try.func18, Try.ntmps18
  go_wp2
  go_ret
  refine ⟨?_, rfl⟩
  show Ending.returned (.int .i64 ((Int.tmod k n + n) % n)) = _
  rw [E0.out]

def nextF (M : List Sh) (k : Int) : (Id3 × Int × Bool) × List Sh :=
  if (headF M k).2.2 ≠ 0 then (((0, 0, 0), -1, false), M) else
  if (headF M k).2.1 = true then (((issueF M k).1, -1, (issueF M k).2.1 == 0), (issueF M k).2.2) else
  if (reserveF M k (headF M k).1).1 ≠ 0 then (((0, 0, 0), -1, false), (reserveF M k (headF M k).1).2) else
  (((issueF (reserveF M k (headF M k).1).2 k).1, (headF M k).1, (issueF (reserveF M k (headF M k).1).2 k).2.1 == 0), (issueF (reserveF M k (headF M k).1).2 k).2.2)


set_option maxRecDepth 100000 in
set_option maxHeartbeats 2000000 in
theorem next_any (w : World) (L : Lay) (M : List Sh) (k : Int) (h : PoolAt w L M) :
    Calls Try.prog 19 #[.pointer (some ⟨L.P, 0, none⟩), .int .i64 k] w fun e w' => e = .returned (.tuple #[.agg #[.int .i64 (nextF M k).1.1.1, .int .i64 (nextF M k).1.1.2.1, .int .i64 (nextF M k).1.1.2.2], .int .i64 (nextF M k).1.2.1, .bool (nextF M k).1.2.2]) ∧ Stp w L w' (nextF M k).2 := by
  have HH := fun w' (hb : Below w.heap.size w w') => head_any w' L M k (h.grown hb)
  have HE := Lib.hid (fun w' (hb : Below w.heap.size w w') => Stp.of_grown h hb)
  have HF := Lib.hid (fun W w1 w2 M' hW hs hc => Stp.finish (W := W) (w1 := w1) (w2 := w2) (M' := M') h hW hs hc)
  have HB := Lib.hid (fun W w1 M' hW hs => Stp.boxes (W := W) (w1 := w1) (M' := M') h hW hs)
  have HR := Lib.hid (fun w' (hb : Below w.heap.size w w') i => reserve_any w' L M k i (h.grown hb))
  have HI := Lib.hid (fun w' (hb : Below w.heap.size w w') => issue_any w' L M k (h.grown hb))
  by_cases h1 : (headF M k).2.2 ≠ 0
  · have e1 : nextF M k = (((0, 0, 0), -1, false), M) := by unfold nextF; rw [if_pos h1]
    rw [e1]
    have hd : ((headF M k).2.2 != 0) = true := by simpa using h1
    generalize headF M k = hh at *
    obtain ⟨i, ok, er⟩ := hh
    have HH := Lib.hid HH
    clear h1 e1
    go_enter Try.func19, Try.ntmps19
    go_wp2_with (go_at_call 38; refine (HH.out _ (by repeat' (first | (with_reducible exact Below.refl _ _) | (with_reducible assumption) | (with_reducible refine below_drewN ?_ _) | (with_reducible refine below_more _ _ _ ?_ ?_) | (with_reducible refine Below.alloc ?_ ?_ _) | (with_reducible refine Below.drew ?_) | (with_reducible refine Below.setCell ?_ ?_ _) | go_size))).mono ?_; rintro e w' ⟨rfl, hb⟩; obtain ⟨d, os, rfl⟩ := more_of hb; clear hb)
    exact bodyPost_ret (v := .tuple #[.agg #[.int .i64 0, .int .i64 0, .int .i64 0], .int .i64 (-1), .bool false]) (by simp [results, Try.results19, go_sem]) rfl ⟨rfl, HE.out _ (by repeat' (first | (with_reducible exact Below.refl _ _) | (with_reducible assumption) | (with_reducible refine below_drewN ?_ _) | (with_reducible refine below_more _ _ _ ?_ ?_) | (with_reducible refine Below.alloc ?_ ?_ _) | (with_reducible refine Below.drew ?_) | (with_reducible refine Below.setCell ?_ ?_ _) | go_size))⟩
  · by_cases h2 : (headF M k).2.1 = true
    · have e1 : nextF M k = (((issueF M k).1, -1, (issueF M k).2.1 == 0), (issueF M k).2.2) := by unfold nextF; rw [if_neg h1, if_pos h2]
      rw [e1]
      have hd : ((headF M k).2.2 != 0) = false := by simpa using h1
      generalize headF M k = hh at *
      obtain ⟨i, ok, er⟩ := hh
      simp only at h2
      subst h2
      generalize issueF M k = ii at *
      obtain ⟨⟨a, b, c⟩, er2, M'⟩ := ii
      have HH := Lib.hid HH
      clear h1 e1
      go_enter Try.func19, Try.ntmps19
      go_wp2_with (first | (go_at_call 38; refine (HH.out _ (by repeat' (first | (with_reducible exact Below.refl _ _) | (with_reducible assumption) | (with_reducible refine below_drewN ?_ _) | (with_reducible refine below_more _ _ _ ?_ ?_) | (with_reducible refine Below.alloc ?_ ?_ _) | (with_reducible refine Below.drew ?_) | (with_reducible refine Below.setCell ?_ ?_ _) | go_size))).mono ?_; rintro e w' ⟨rfl, hb⟩; obtain ⟨d, os, rfl⟩ := more_of hb; clear hb) | (go_at_call 44; refine (HI.out _ (by repeat' (first | (with_reducible exact Below.refl _ _) | (with_reducible assumption) | (with_reducible refine below_drewN ?_ _) | (with_reducible refine below_more _ _ _ ?_ ?_) | (with_reducible refine Below.alloc ?_ ?_ _) | (with_reducible refine Below.drew ?_) | (with_reducible refine Below.setCell ?_ ?_ _) | go_size))).mono ?_; rintro e w1 ⟨rfl, hs⟩; obtain ⟨z1, z2⟩ := HB.out _ _ _ (by repeat' (first | (with_reducible exact Below.refl _ _) | (with_reducible assumption) | (with_reducible refine below_drewN ?_ _) | (with_reducible refine below_more _ _ _ ?_ ?_) | (with_reducible refine Below.alloc ?_ ?_ _) | (with_reducible refine Below.drew ?_) | (with_reducible refine Below.setCell ?_ ?_ _) | go_size)) hs; have q0 := (z2 (w.heap.size) 0 (by first | (simp; done) | (simp; omega) | omega) (by first | (simp; done) | (simp; omega) | omega)).1; simp [go_sem] at q0; have fq0 := (z2 (w.heap.size) 0 (by first | (simp; done) | (simp; omega) | omega) (by first | (simp; done) | (simp; omega) | omega)).2; simp [go_sem] at fq0; have q1 := (z2 (w.heap.size) 1 (by first | (simp; done) | (simp; omega) | omega) (by first | (simp; done) | (simp; omega) | omega)).1; simp [go_sem] at q1; have fq1 := (z2 (w.heap.size) 1 (by first | (simp; done) | (simp; omega) | omega) (by first | (simp; done) | (simp; omega) | omega)).2; simp [go_sem] at fq1; have q2 := (z2 (w.heap.size) 2 (by first | (simp; done) | (simp; omega) | omega) (by first | (simp; done) | (simp; omega) | omega)).1; simp [go_sem] at q2; have fq2 := (z2 (w.heap.size) 2 (by first | (simp; done) | (simp; omega) | omega) (by first | (simp; done) | (simp; omega) | omega)).2; simp [go_sem] at fq2; have z3 : w.heap.size < w1.heap.size := (by simp at z1; omega); obtain ⟨y0, y1, y2, y3⟩ := lts z3; clear z2))
      exact bodyPost_ret (v := .tuple #[.agg #[.int .i64 a, .int .i64 b, .int .i64 c], .int .i64 (-1), .bool (er2 == 0)]) (by simp [results, Try.results19, go_sem, z3, q0, q1, q2]) rfl ⟨rfl, HF.out _ _ _ _ (by repeat' (first | (with_reducible exact Below.refl _ _) | (with_reducible assumption) | (with_reducible refine below_drewN ?_ _) | (with_reducible refine below_more _ _ _ ?_ ?_) | (with_reducible refine Below.alloc ?_ ?_ _) | (with_reducible refine Below.drew ?_) | (with_reducible refine Below.setCell ?_ ?_ _) | go_size)) hs (by repeat' (first | (with_reducible exact Chg.refl _ _) | (with_reducible refine Chg.then_alloc ?_ _) | (with_reducible refine Chg.then_drew ?_) | (with_reducible refine Chg.then_more ?_ _ _) | (with_reducible refine Chg.setCell ?_ _ _ (Or.inl ?_)) | (with_reducible refine And.intro ?_ ?_) | go_size))⟩
    · by_cases h3 : (reserveF M k (headF M k).1).1 ≠ 0
      · have e1 : nextF M k = (((0, 0, 0), -1, false), (reserveF M k (headF M k).1).2) := by unfold nextF; rw [if_neg h1, if_neg h2, if_pos h3]
        rw [e1]
        have hd : ((headF M k).2.2 != 0) = false := by simpa using h1
        have hd2 : ((reserveF M k (headF M k).1).1 != 0) = true := by simpa using h3
        have hr := fun w' hb => HR.out w' hb (headF M k).1
        have h2' : (headF M k).2.1 = false := by simpa using h2
        generalize headF M k = hh at *
        obtain ⟨i, ok, er⟩ := hh
        simp only at h2'
        subst h2'
        simp only at hr hd2 ⊢
        generalize reserveF M k i = rr at *
        obtain ⟨er1, M1⟩ := rr
        have HH := Lib.hid HH
        have HR' := Lib.hid hr
        clear h1 h2 h3 e1 hr
        go_enter Try.func19, Try.ntmps19
        go_wp2_with (first | (go_at_call 38; refine (HH.out _ (by repeat' (first | (with_reducible exact Below.refl _ _) | (with_reducible assumption) | (with_reducible refine below_drewN ?_ _) | (with_reducible refine below_more _ _ _ ?_ ?_) | (with_reducible refine Below.alloc ?_ ?_ _) | (with_reducible refine Below.drew ?_) | (with_reducible refine Below.setCell ?_ ?_ _) | go_size))).mono ?_; rintro e w' ⟨rfl, hb⟩; obtain ⟨d, os, rfl⟩ := more_of hb; clear hb) | (go_at_call 41; refine (HR'.out _ (by repeat' (first | (with_reducible exact Below.refl _ _) | (with_reducible assumption) | (with_reducible refine below_drewN ?_ _) | (with_reducible refine below_more _ _ _ ?_ ?_) | (with_reducible refine Below.alloc ?_ ?_ _) | (with_reducible refine Below.drew ?_) | (with_reducible refine Below.setCell ?_ ?_ _) | go_size))).mono ?_; rintro e w1 ⟨rfl, hs⟩; obtain ⟨z1, z2⟩ := HB.out _ _ _ (by repeat' (first | (with_reducible exact Below.refl _ _) | (with_reducible assumption) | (with_reducible refine below_drewN ?_ _) | (with_reducible refine below_more _ _ _ ?_ ?_) | (with_reducible refine Below.alloc ?_ ?_ _) | (with_reducible refine Below.drew ?_) | (with_reducible refine Below.setCell ?_ ?_ _) | go_size)) hs; have q0 := (z2 (w.heap.size) 0 (by first | (simp; done) | (simp; omega) | omega) (by first | (simp; done) | (simp; omega) | omega)).1; simp [go_sem] at q0; have fq0 := (z2 (w.heap.size) 0 (by first | (simp; done) | (simp; omega) | omega) (by first | (simp; done) | (simp; omega) | omega)).2; simp [go_sem] at fq0; have q1 := (z2 (w.heap.size) 1 (by first | (simp; done) | (simp; omega) | omega) (by first | (simp; done) | (simp; omega) | omega)).1; simp [go_sem] at q1; have fq1 := (z2 (w.heap.size) 1 (by first | (simp; done) | (simp; omega) | omega) (by first | (simp; done) | (simp; omega) | omega)).2; simp [go_sem] at fq1; have q2 := (z2 (w.heap.size) 2 (by first | (simp; done) | (simp; omega) | omega) (by first | (simp; done) | (simp; omega) | omega)).1; simp [go_sem] at q2; have fq2 := (z2 (w.heap.size) 2 (by first | (simp; done) | (simp; omega) | omega) (by first | (simp; done) | (simp; omega) | omega)).2; simp [go_sem] at fq2; have z3 : w.heap.size < w1.heap.size := (by simp at z1; omega); obtain ⟨y0, y1, y2, y3⟩ := lts z3; clear z2))
        exact bodyPost_ret (v := .tuple #[.agg #[.int .i64 0, .int .i64 0, .int .i64 0], .int .i64 (-1), .bool false]) (by simp [results, Try.results19, go_sem, q0, q1, q2]) rfl ⟨rfl, HF.out _ _ _ _ (by repeat' (first | (with_reducible exact Below.refl _ _) | (with_reducible assumption) | (with_reducible refine below_drewN ?_ _) | (with_reducible refine below_more _ _ _ ?_ ?_) | (with_reducible refine Below.alloc ?_ ?_ _) | (with_reducible refine Below.drew ?_) | (with_reducible refine Below.setCell ?_ ?_ _) | go_size)) hs (by repeat' (first | (with_reducible exact Chg.refl _ _) | (with_reducible refine Chg.then_alloc ?_ _) | (with_reducible refine Chg.then_drew ?_) | (with_reducible refine Chg.then_more ?_ _ _) | (with_reducible refine Chg.setCell ?_ _ _ (Or.inl ?_)) | (with_reducible refine And.intro ?_ ?_) | go_size))⟩
      · have e1 : nextF M k = (((issueF (reserveF M k (headF M k).1).2 k).1, (headF M k).1, (issueF (reserveF M k (headF M k).1).2 k).2.1 == 0), (issueF (reserveF M k (headF M k).1).2 k).2.2) := by unfold nextF; rw [if_neg h1, if_neg h2, if_neg h3]
        rw [e1]
        have hd : ((headF M k).2.2 != 0) = false := by simpa using h1
        have hd2 : ((reserveF M k (headF M k).1).1 != 0) = false := by simpa using h3
        have hr := fun w' hb => HR.out w' hb (headF M k).1
        have h2' : (headF M k).2.1 = false := by simpa using h2
        generalize headF M k = hh at *
        obtain ⟨i, ok, er⟩ := hh
        simp only at h2'
        subst h2'
        simp only at hr hd2 ⊢
        generalize reserveF M k i = rr at *
        obtain ⟨er1, M1⟩ := rr
        simp only at hr hd2 ⊢
        have HI2 := Lib.hid (fun (w' : World) (L' : Lay) (hP : L'.P = L.P) (h' : PoolAt w' L' M1) => by have := issue_any w' L' M1 k h'; rw [hP] at this; exact this)
        generalize issueF M1 k = ii at *
        obtain ⟨⟨a, b, c⟩, er2, M'⟩ := ii
        have HH := Lib.hid HH
        have HR' := Lib.hid hr
        clear h1 h2 h3 e1 hr
        go_enter Try.func19, Try.ntmps19
        go_wp2_with (first | (go_at_call 38; refine (HH.out _ (by repeat' (first | (with_reducible exact Below.refl _ _) | (with_reducible assumption) | (with_reducible refine below_drewN ?_ _) | (with_reducible refine below_more _ _ _ ?_ ?_) | (with_reducible refine Below.alloc ?_ ?_ _) | (with_reducible refine Below.drew ?_) | (with_reducible refine Below.setCell ?_ ?_ _) | go_size))).mono ?_; rintro e w' ⟨rfl, hb⟩; obtain ⟨d, os, rfl⟩ := more_of hb; clear hb) | (go_at_call 41; refine (HR'.out _ (by repeat' (first | (with_reducible exact Below.refl _ _) | (with_reducible assumption) | (with_reducible refine below_drewN ?_ _) | (with_reducible refine below_more _ _ _ ?_ ?_) | (with_reducible refine Below.alloc ?_ ?_ _) | (with_reducible refine Below.drew ?_) | (with_reducible refine Below.setCell ?_ ?_ _) | go_size))).mono ?_; rintro e w1 ⟨rfl, hs⟩; obtain ⟨z1, z2⟩ := HB.out _ _ _ (by repeat' (first | (with_reducible exact Below.refl _ _) | (with_reducible assumption) | (with_reducible refine below_drewN ?_ _) | (with_reducible refine below_more _ _ _ ?_ ?_) | (with_reducible refine Below.alloc ?_ ?_ _) | (with_reducible refine Below.drew ?_) | (with_reducible refine Below.setCell ?_ ?_ _) | go_size)) hs; have q0 := (z2 (w.heap.size) 0 (by first | (simp; done) | (simp; omega) | omega) (by first | (simp; done) | (simp; omega) | omega)).1; simp [go_sem] at q0; have fq0 := (z2 (w.heap.size) 0 (by first | (simp; done) | (simp; omega) | omega) (by first | (simp; done) | (simp; omega) | omega)).2; simp [go_sem] at fq0; have q1 := (z2 (w.heap.size) 1 (by first | (simp; done) | (simp; omega) | omega) (by first | (simp; done) | (simp; omega) | omega)).1; simp [go_sem] at q1; have fq1 := (z2 (w.heap.size) 1 (by first | (simp; done) | (simp; omega) | omega) (by first | (simp; done) | (simp; omega) | omega)).2; simp [go_sem] at fq1; have q2 := (z2 (w.heap.size) 2 (by first | (simp; done) | (simp; omega) | omega) (by first | (simp; done) | (simp; omega) | omega)).1; simp [go_sem] at q2; have fq2 := (z2 (w.heap.size) 2 (by first | (simp; done) | (simp; omega) | omega) (by first | (simp; done) | (simp; omega) | omega)).2; simp [go_sem] at fq2; have z3 : w.heap.size < w1.heap.size := (by simp at z1; omega); obtain ⟨y0, y1, y2, y3⟩ := lts z3; clear z2))
        obtain ⟨L1, hP1, hp1, hst⟩ := hs.step
        clear y0 y1 y2 y3 z3 q0 fq0 q1 fq1 q2 fq2
        refine (HI2.out _ L1 hP1 hp1).mono ?_
        rintro e w2 ⟨rfl, hs2⟩
        have hs3 := hst _ _ hs2
        have HS3 := Lib.hid hs3
        obtain ⟨z4, z2⟩ := HB.out _ _ _ (by repeat' (first | (with_reducible exact Below.refl _ _) | (with_reducible assumption) | (with_reducible refine below_drewN ?_ _) | (with_reducible refine below_more _ _ _ ?_ ?_) | (with_reducible refine Below.alloc ?_ ?_ _) | (with_reducible refine Below.drew ?_) | (with_reducible refine Below.setCell ?_ ?_ _) | go_size)) hs3
        have q0 := (z2 (w.heap.size) 0 (by first | (simp; done) | (simp; omega) | omega) (by first | (simp; done) | (simp; omega) | omega)).1; simp [go_sem] at q0; have fq0 := (z2 (w.heap.size) 0 (by first | (simp; done) | (simp; omega) | omega) (by first | (simp; done) | (simp; omega) | omega)).2; simp [go_sem] at fq0; have q1 := (z2 (w.heap.size) 1 (by first | (simp; done) | (simp; omega) | omega) (by first | (simp; done) | (simp; omega) | omega)).1; simp [go_sem] at q1; have fq1 := (z2 (w.heap.size) 1 (by first | (simp; done) | (simp; omega) | omega) (by first | (simp; done) | (simp; omega) | omega)).2; simp [go_sem] at fq1; have q2 := (z2 (w.heap.size) 2 (by first | (simp; done) | (simp; omega) | omega) (by first | (simp; done) | (simp; omega) | omega)).1; simp [go_sem] at q2; have fq2 := (z2 (w.heap.size) 2 (by first | (simp; done) | (simp; omega) | omega) (by first | (simp; done) | (simp; omega) | omega)).2; simp [go_sem] at fq2
        have z3 : w.heap.size < w2.heap.size := by simp at z4; omega
        obtain ⟨y0, y1, y2, y3⟩ := lts z3
        clear z2 hs hs2 hs3 hst hp1 hP1 z1
        go_wp2_with fail
        exact bodyPost_ret (v := .tuple #[.agg #[.int .i64 a, .int .i64 b, .int .i64 c], .int .i64 i, .bool (er2 == 0)]) (by simp [results, Try.results19, go_sem, z3, q0, q1, q2]) rfl ⟨rfl, HF.out _ _ _ _ (by repeat' (first | (with_reducible exact Below.refl _ _) | (with_reducible assumption) | (with_reducible refine below_drewN ?_ _) | (with_reducible refine below_more _ _ _ ?_ ?_) | (with_reducible refine Below.alloc ?_ ?_ _) | (with_reducible refine Below.drew ?_) | (with_reducible refine Below.setCell ?_ ?_ _) | go_size)) HS3.out (by repeat' (first | (with_reducible exact Chg.refl _ _) | (with_reducible refine Chg.then_alloc ?_ _) | (with_reducible refine Chg.then_drew ?_) | (with_reducible refine Chg.then_more ?_ _ _) | (with_reducible refine Chg.setCell ?_ _ _ (Or.inl ?_)) | (with_reducible refine And.intro ?_ ?_) | go_size))⟩
end Go.Proofs.Ytjkbenghgbigdaa

/-
  Worlds that differ in blocks of three empty slices alone; a tick with a zone's ghosts, or with all others, in one contract. Condition: the world may be.
-/
import Derived.Test.YtcnclcfipabimaaMtg
import Derived.Test.YtcnclcfipabimaaOrd
namespace Go.Proofs.Ytcnclcfipabimaa
open Go.RowKit Go.Sort

/-- Block for block the same, but for some that read as three empty slices. -/
def SimZ (W X : World) : Prop := W.heap.size = X.heap.size ∧ ∀ g : Nat, X.heap[g]? = W.heap[g]? ∨ ∃ T fr, W.heap[g]? = some (Obj.cells #[.slice none 0 0, .slice none 0 0, .slice none 0 0] T fr)
theorem sim_refl (W : World) : SimZ W W := ⟨rfl, fun _ => .inl rfl⟩
theorem sim_more {A B : World} (h : SimZ A B) (d d' : Nat) (os : Array Obj) : SimZ (more A d os) (more B d' os) := by
  refine ⟨by simp [h.1], fun g => ?_⟩
  have h0 := h.1
  simp only [more]
  by_cases hg : g < A.heap.size
  · rw [Array.getElem?_append_left hg, Array.getElem?_append_left (by omega)]
    exact h.2 g
  · rw [Array.getElem?_append_right (by omega), Array.getElem?_append_right (by omega), h0]
    exact .inl rfl
theorem alloc_more (A : World) (o : Obj) : A.alloc o = more A A.drawn #[o] := by
  have : A.heap ++ #[o] = A.heap.push o := by simp
  unfold more
  rw [this]
  rfl
theorem sim_alloc {A B : World} (h : SimZ A B) (o : Obj) : SimZ (A.alloc o) (B.alloc o) := by
  rw [alloc_more, alloc_more]; exact sim_more h _ _ _
theorem sim_put {A B : World} (h : SimZ A B) (T T' : TypeId) (arr : Array Value) : SimZ (A.alloc (.cells #[.slice none 0 0, .slice none 0 0, .slice none 0 0] T)) (B.alloc (.cells arr T')) := by
  refine ⟨by simp [h.1], fun g => ?_⟩
  by_cases hg : g < A.heap.size
  · rw [((Below.refl _ A).alloc (Nat.le_refl _) _).block g hg, ((Below.refl _ B).alloc (Nat.le_refl _) _).block g (by have := h.1; omega)]
    exact h.2 g
  · by_cases he : g = A.heap.size
    · subst he
      exact .inr ⟨_, _, heap_alloc_new_at A _ _ rfl⟩
    · refine .inl ?_
      rw [Array.getElem?_eq_none (by simp; have := h.1; omega), Array.getElem?_eq_none (by simp; omega)]
theorem sim_drewL {A B : World} (h : SimZ A B) : SimZ A.drew B := h
theorem sim_drewR {A B : World} (h : SimZ A B) : SimZ A B.drew := h
/-- A slice of numbers reads the same in both. -/
theorem RIn.sim {β : Type} {enc : β → List Value} (he : ∀ x, ∀ u ∈ enc x, ∃ k, u = .int .i64 k) {W X : World} {v : Value} {l : List β} (h : RIn enc W v l) (hs : SimZ W X) : RIn enc X v l := by
  obtain ⟨p, cap, rfl, h1, h2, h3, h4⟩ := h
  refine ⟨p, cap, rfl, h1, h2, h3, fun hn => ?_⟩
  obtain ⟨blk, off, rfl, h5, h6⟩ := h4 hn
  refine ⟨blk, off, rfl, by have := hs.1; omega, fun t u hu => ?_⟩
  have h7 := h6 t u hu
  rcases hs.2 blk with e | ⟨T, fr, e⟩
  · exact (World.cell?_of_block (w := W) (a := ⟨blk, off + t, none⟩) e).trans h7
  · exfalso
    obtain ⟨b, _, hb⟩ := List.mem_flatMap.1 (List.mem_of_getElem? hu)
    obtain ⟨k, rfl⟩ := he b u hb
    have h8 : (#[.slice none 0 0, .slice none 0 0, .slice none 0 0] : Array Value)[off + t]? = some (.int .i64 k) := by simpa [World.cell?, e] using h7
    have h9 := Array.mem_of_getElem? h8
    simp at h9
theorem bunL_int (x : Bun) : ∀ u ∈ bunL x, ∃ k, u = .int .i64 k := fun u hu => by
  simp only [bunL, List.mem_cons, List.not_mem_nil, or_false] at hu
  rcases hu with rfl | rfl | rfl | rfl | rfl | rfl | rfl | rfl | rfl | rfl | rfl <;> exact ⟨_, rfl⟩
theorem nidL_int (x : Nid) : ∀ u ∈ nidL x, ∃ k, u = .int .i64 k := fun u hu => by
  simp only [nidL, List.mem_cons, List.not_mem_nil, or_false] at hu
  rcases hu with rfl | rfl | rfl <;> exact ⟨_, rfl⟩
theorem BIn.sim {W X : World} {v : Value} {l : List Bun} (h : BIn W v l) (hs : SimZ W X) : BIn X v l := RIn.sim (enc := bunL) bunL_int h hs
theorem BIn.simH {W X : World} {v : Value} {l : List Bun} (h : Hid (BIn W v l)) (hs : SimZ W X) : BIn X v l := h.out.sim hs
theorem bin_more {W : World} {v : Value} {l : List Bun} (d : Nat) (os : Array Obj) (h : BIn W v l) : BIn (more W d os) v l := h.keep (more_below W d os)
theorem bin_alloc {W : World} {v : Value} {l : List Bun} (o : Obj) (h : BIn W v l) : BIn (W.alloc o) v l := h.keep ((Below.refl _ _).alloc (Nat.le_refl _) o)
theorem bin_drew {W : World} {v : Value} {l : List Bun} (h : BIn W v l) : BIn W.drew v l := h
theorem nin_sim {W X : World} {v : Value} {l : List Nid} (h : RIn nidL W v l) (hs : SimZ W X) : RIn nidL X v l := h.sim nidL_int hs
theorem nin_simH {W X : World} {v : Value} {l : List Nid} (h : Hid (RIn nidL W v l)) (hs : SimZ W X) : RIn nidL X v l := nin_sim h.out hs
theorem nin_more {W : World} {v : Value} {l : List Nid} (d : Nat) (os : Array Obj) (h : RIn nidL W v l) : RIn nidL (more W d os) v l := h.keep (more_below W d os)
theorem nin_alloc {W : World} {v : Value} {l : List Nid} (o : Obj) (h : RIn nidL W v l) : RIn nidL (W.alloc o) v l := h.keep ((Below.refl _ _).alloc (Nat.le_refl _) o)
theorem nin_drew {W : World} {v : Value} {l : List Nid} (h : RIn nidL W v l) : RIn nidL W.drew v l := h
/-- A box of these cells. -/
def Bxo (W : World) (n : Nat) (arr : Array Value) : Prop := n < W.heap.size ∧ ∀ u, W.cell? ⟨n, u, none⟩ = arr[u]?
theorem bxo_new (W : World) (n : Nat) (arr : Array Value) (T : TypeId) (h : n = W.heap.size) : Bxo (W.alloc (.cells arr T)) n arr := ⟨(new_box W arr T n h).2.2.1, (new_box W arr T n h).1⟩
theorem bxo_more {W : World} {n : Nat} {arr : Array Value} (d : Nat) (os : Array Obj) (h : Bxo W n arr) : Bxo (more W d os) n arr := ⟨by simp; have := h.1; omega, box_on (more_below W d os) h.1 h.2⟩
theorem bxo_alloc {W : World} {n : Nat} {arr : Array Value} (o : Obj) (h : Bxo W n arr) : Bxo (W.alloc o) n arr := ⟨by simp; have := h.1; omega, box_on ((Below.refl _ _).alloc (Nat.le_refl _) o) h.1 h.2⟩
theorem bxo_drew {W : World} {n : Nat} {arr : Array Value} (h : Bxo W n arr) : Bxo W.drew n arr := h
/-- A box that holds what a tick left. -/
def Rsx (W : World) (s : Value) (oL gL : List Bun) (dN : List Nid) : Prop :=
  ∃ n pa ca pb cb pd cd, s = .pointer (some ⟨n, 0, none⟩) ∧ Bxo W n #[.slice pa oL.length ca, .slice pb gL.length cb, .slice pd dN.length cd] ∧ BIn W (.slice pa oL.length ca) oL ∧ BIn W (.slice pb gL.length cb) gL ∧ RIn nidL W (.slice pd dN.length cd) dN
theorem Rsx.mk {W : World} {s : Value} {n : Nat} {pa pb pd : Option Addr} {ca cb cd : Nat} {oL gL : List Bun} {dN : List Nid} (h1 : s = .pointer (some ⟨n, 0, none⟩)) (h2 : Bxo W n #[.slice pa oL.length ca, .slice pb gL.length cb, .slice pd dN.length cd])
    (h3 : BIn W (.slice pa oL.length ca) oL) (h4 : BIn W (.slice pb gL.length cb) gL) (h5 : RIn nidL W (.slice pd dN.length cd) dN) : Rsx W s oL gL dN := ⟨n, pa, ca, pb, cb, pd, cd, h1, h2, h3, h4, h5⟩
/-- What Run leaves, as constructors. -/
theorem RunQ.open {w : World} {own gone : List Bun} {dead : List Nid} {e : Ending} {w' : World} (h : RunQ w own gone dead e w') :
    ∃ pa ca pb cb pd cd d os, e = .returned (.agg #[.slice pa own.length ca, .slice pb gone.length cb, .slice pd dead.length cd]) ∧ w' = more w d os ∧ BIn (more w d os) (.slice pa own.length ca) own ∧ BIn (more w d os) (.slice pb gone.length cb) gone ∧ RIn nidL (more w d os) (.slice pd dead.length cd) dead := by
  obtain ⟨va, vb, vd, rfl, hb, h1, h2, h3⟩ := h
  obtain ⟨d, os, rfl⟩ := more_of hb
  have g1 := h1; have g2 := h2; have g3 := h3
  obtain ⟨pa, ca, rfl, _⟩ := g1
  obtain ⟨pb, cb, rfl, _⟩ := g2
  obtain ⟨pd, cd, rfl, _⟩ := g3
  exact ⟨pa, ca, pb, cb, pd, cd, d, os, rfl, rfl, h1, h2, h3⟩
/-- A zone's tick with its ghosts, or with all others. -/
theorem run_two (cols rows side radius speed ids queue k : Int) (l : List Bun) (ms : List Cm) (ho : CfgOk ⟨cols, rows, side, radius, speed, ids, queue⟩) (h0 : 0 ≤ k) (h1 : k < cols * rows) (hf : ∀ b ∈ livF ⟨cols, rows, side, radius, speed, ids, queue⟩ l, BFit b) (hm : ∀ m ∈ ms, CmFit m) (hml : ms.length ≤ 1000) (hll : (livF ⟨cols, rows, side, radius, speed, ids, queue⟩ l).length ≤ 60)
    (vo vn vc : Value) (w : World) (hown : BIn w vo (stableF cmpBun (partF ⟨cols, rows, side, radius, speed, ids, queue⟩ k (livF ⟨cols, rows, side, radius, speed, ids, queue⟩ l)))) (hnear : BIn w vn (stableF cmpBun (saysF ⟨cols, rows, side, radius, speed, ids, queue⟩ k (livF ⟨cols, rows, side, radius, speed, ids, queue⟩ l) (besideF ⟨cols, rows, side, radius, speed, ids, queue⟩ k))) ∨ BIn w vn (othF ⟨cols, rows, side, radius, speed, ids, queue⟩ k (livF ⟨cols, rows, side, radius, speed, ids, queue⟩ l))) (hc : RIn cmC w vc ms) :
    Calls Try.prog 41 #[.agg #[.int .i64 cols, .int .i64 rows, .int .i64 side, .int .i64 radius, .int .i64 speed, .int .i64 ids, .int .i64 queue], .int .i64 k, vo, vn, vc] w (RunQ w (ownL ⟨cols, rows, side, radius, speed, ids, queue⟩ k (stableF cmpBun (partF ⟨cols, rows, side, radius, speed, ids, queue⟩ k (livF ⟨cols, rows, side, radius, speed, ids, queue⟩ l))) (othF ⟨cols, rows, side, radius, speed, ids, queue⟩ k (livF ⟨cols, rows, side, radius, speed, ids, queue⟩ l)) ms)
      (goneL ⟨cols, rows, side, radius, speed, ids, queue⟩ k (stableF cmpBun (partF ⟨cols, rows, side, radius, speed, ids, queue⟩ k (livF ⟨cols, rows, side, radius, speed, ids, queue⟩ l))) (othF ⟨cols, rows, side, radius, speed, ids, queue⟩ k (livF ⟨cols, rows, side, radius, speed, ids, queue⟩ l)) ms) (setN (deadN ⟨cols, rows, side, radius, speed, ids, queue⟩ k (stableF cmpBun (partF ⟨cols, rows, side, radius, speed, ids, queue⟩ k (livF ⟨cols, rows, side, radius, speed, ids, queue⟩ l))) (othF ⟨cols, rows, side, radius, speed, ids, queue⟩ k (livF ⟨cols, rows, side, radius, speed, ids, queue⟩ l)) ms))) := by
  have hfo : ∀ b ∈ stableF cmpBun (partF ⟨cols, rows, side, radius, speed, ids, queue⟩ k (livF ⟨cols, rows, side, radius, speed, ids, queue⟩ l)), BFit b := fun b hb => hf b (List.mem_filter.1 ((stF_perm _).mem_iff.1 hb)).1
  have hlo : (stableF cmpBun (partF ⟨cols, rows, side, radius, speed, ids, queue⟩ k (livF ⟨cols, rows, side, radius, speed, ids, queue⟩ l))).length ≤ 1000 := by
    rw [(stF_perm _).length_eq]
    have : (partF ⟨cols, rows, side, radius, speed, ids, queue⟩ k (livF ⟨cols, rows, side, radius, speed, ids, queue⟩ l)).length ≤ (livF ⟨cols, rows, side, radius, speed, ids, queue⟩ l).length := List.length_filter_le _ _
    omega
  rcases hnear with hn | hn
  · obtain ⟨e1, e2, e3⟩ := tick_near ho h0 h1 l ms
    rw [← e1, ← e2, ← e3]
    rw [says_sorted ho h0 h1 (livF_in ho l) (livF_un _ l)] at hn ⊢
    refine run15_any cols rows side radius speed ids queue k vo vn vc _ _ ms w ho (by omega) h1 hown hn hc hfo (fun b hb => hf b (List.mem_filter.1 ((stF_perm _).mem_iff.1 hb)).1) hm hlo ?_ hml
    rw [(stF_perm _).length_eq]
    have : (wantF ⟨cols, rows, side, radius, speed, ids, queue⟩ k (livF ⟨cols, rows, side, radius, speed, ids, queue⟩ l)).length ≤ (livF ⟨cols, rows, side, radius, speed, ids, queue⟩ l).length := List.length_filter_le _ _
    omega
  · refine run15_any cols rows side radius speed ids queue k vo vn vc _ _ ms w ho (by omega) h1 hown hn hc hfo (fun b hb => hf b (List.mem_filter.1 hb).1) hm hlo ?_ hml
    have : (othF ⟨cols, rows, side, radius, speed, ids, queue⟩ k (livF ⟨cols, rows, side, radius, speed, ids, queue⟩ l)).length ≤ (livF ⟨cols, rows, side, radius, speed, ids, queue⟩ l).length := List.length_filter_le _ _
    omega
end Go.Proofs.Ytcnclcfipabimaa

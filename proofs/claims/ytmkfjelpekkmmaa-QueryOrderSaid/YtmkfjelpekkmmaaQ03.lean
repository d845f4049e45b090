/-
  Chapter texts Base: what the claim reaches of them. Conditions stand at each theorem.
-/
import Derived.Test.YtmkfjelpekkmmaaProg
import Derived.WalkKit
import Derived.WalkSpells
import Derived.WalkLawsBesides
import Derived.Handy
import Derived.Lib.Hide
import Derived.Lib.QuietBelow
import Derived.BigQuiet
import Derived.Deep.RegionHeld3
import Derived.Deep.RegionWith
import Derived.Deep.DeepFit
import Derived.Deep.DeepCutAuto
import Derived.Deep.LoopGhost
import Derived.Deep.Light
namespace Go.Proofs.Ytmkfjelpekkmmaa
open Go.RowKit

theorem cell_keep {W w' : World} {a : Addr} {v : Value} (hb : Below W.heap.size W w') (h : W.cell? a = some v) : w'.cell? a = some v := by
  rw [hb.cell (World.block_lt_of_cell? W a h)]; exact h

theorem box_keep {B0 b : Nat} {w0 W w' : World} {arr : Array Value} (hb : Below W.heap.size W w') (h : (Below B0 w0 W ∧ B0 ≤ W.heap.size ∧ b < W.heap.size) ∧ ∀ j, W.cell? ⟨b, j, none⟩ = arr[j]?) :
    (Below B0 w0 w' ∧ B0 ≤ w'.heap.size ∧ b < w'.heap.size) ∧ ∀ j, w'.cell? ⟨b, j, none⟩ = arr[j]? :=
  ⟨⟨h.1.1.trans (hb.mono h.1.2.1), Nat.le_trans h.1.2.1 hb.size, Nat.lt_of_lt_of_le h.1.2.2 hb.size⟩, fun j => (hb.cell (p := ⟨b, j, none⟩) h.1.2.2).trans (h.2 j)⟩

theorem box_alloc {B0 b : Nat} {w0 W : World} {arr : Array Value} (o : Obj) (h : (Below B0 w0 W ∧ B0 ≤ W.heap.size ∧ b < W.heap.size) ∧ ∀ j, W.cell? ⟨b, j, none⟩ = arr[j]?) :
    (Below B0 w0 (W.alloc o) ∧ B0 ≤ (W.alloc o).heap.size ∧ b < (W.alloc o).heap.size) ∧ ∀ j, (W.alloc o).cell? ⟨b, j, none⟩ = arr[j]? :=
  box_keep ((Below.refl _ _).alloc (Nat.le_refl _) o) h

theorem box_drew {B0 b : Nat} {w0 W : World} {arr : Array Value} (h : (Below B0 w0 W ∧ B0 ≤ W.heap.size ∧ b < W.heap.size) ∧ ∀ j, W.cell? ⟨b, j, none⟩ = arr[j]?) :
    (Below B0 w0 W.drew ∧ B0 ≤ W.drew.heap.size ∧ b < W.drew.heap.size) ∧ ∀ j, W.drew.cell? ⟨b, j, none⟩ = arr[j]? := ⟨⟨h.1.1.drew, h.1.2⟩, h.2⟩

theorem box_new (w : World) (arr : Array Value) (t : TypeId) : (Below w.heap.size w (w.alloc (.cells arr t)).drew ∧ w.heap.size ≤ (w.alloc (.cells arr t)).drew.heap.size ∧ w.heap.size < (w.alloc (.cells arr t)).drew.heap.size) ∧ ∀ j, (w.alloc (.cells arr t)).drew.cell? ⟨w.heap.size, j, none⟩ = arr[j]? :=
  ⟨⟨((Below.refl _ _).alloc (Nat.le_refl _) _).drew, by simp, by simp⟩, fun j => by simp⟩

theorem box_new0 (w : World) (arr : Array Value) (t : TypeId) : (Below w.heap.size w (w.alloc (.cells arr t)) ∧ w.heap.size ≤ (w.alloc (.cells arr t)).heap.size ∧ w.heap.size < (w.alloc (.cells arr t)).heap.size) ∧ ∀ j, (w.alloc (.cells arr t)).cell? ⟨w.heap.size, j, none⟩ = arr[j]? :=
  ⟨⟨(Below.refl _ _).alloc (Nat.le_refl _) _, by simp, by simp⟩, fun j => by simp⟩

def more (w : World) (d : Nat) (os : Array Obj) : World := { w with heap := w.heap ++ os, drawn := d }

theorem more_of {w w' : World} (h : Below w.heap.size w w') : ∃ d os, w' = more w d os := by
  refine ⟨w'.drawn, w'.heap.extract w.heap.size w'.heap.size, ?_⟩
  obtain ⟨heap', tape', drawn', os', output'⟩ := w'
  have e1 : os' = w.os := h.os
  have e2 : tape' = w.tape := h.tape
  have e3 : output' = w.output := h.output
  have hs : w.heap.size ≤ heap'.size := h.size
  have hb : ∀ k, k < w.heap.size → heap'[k]? = w.heap[k]? := h.block
  subst e1 e2 e3
  have eh : heap' = w.heap ++ heap'.extract w.heap.size heap'.size := by
    apply Array.ext_getElem?
    intro k
    by_cases hk : k < w.heap.size
    · rw [Array.getElem?_append_left hk]; exact hb k hk
    · rw [Array.getElem?_append_right (by omega), Array.getElem?_extract]
      by_cases hk2 : k < heap'.size
      · rw [if_pos (by omega)]; congr 1; omega
      · rw [if_neg (by omega), Array.getElem?_eq_none (by omega)]
  simp only [more]
  congr 1

section
variable (w : World) (d : Nat) (os : Array Obj)
@[simp, go_sem] theorem more_size : (more w d os).heap.size = w.heap.size + os.size := by simp [more]
@[simp, go_sem] theorem more_drew : (more w d os).drew = more w (d + 1) os := rfl
@[simp, go_sem] theorem more_drewN (n : Nat) : (more w d os).drewN n = more w (d + n) os := rfl
theorem more_below : Below w.heap.size w (more w d os) := ⟨rfl, rfl, rfl, by simp, fun k hk => by simp [more, Array.getElem?_append, hk]⟩
@[go_sem] theorem more_cell (a : Addr) (h : a.block < w.heap.size) : (more w d os).cell? a = w.cell? a := (more_below w d os).cell h
@[go_sem] theorem more_frozen (a : Addr) (h : a.block < w.heap.size) : (more w d os).frozen? a = w.frozen? a := (more_below w d os).frozen h
@[go_sem] theorem more_setCell (a : Addr) (v : Value) (h : a.block < w.heap.size) : (more w d os).setCell a v = more (w.setCell a v) d os := by
  simp only [more, World.setCell]
  congr 1
  apply Array.ext_getElem?
  intro k
  by_cases hk : k < w.heap.size
  · rw [Array.getElem?_append_left (by simpa using hk), Array.getElem?_modify, Array.getElem?_modify, Array.getElem?_append_left hk]
  · rw [Array.getElem?_append_right (by simpa using hk), Array.getElem?_modify, if_neg (by omega), Array.getElem?_append_right (by omega)]
    simp
theorem more_more (d' : Nat) (os' : Array Obj) : more (more w d os) d' os' = more w d' (os ++ os') := by simp [more, Array.append_assoc]
theorem below_more {B : Nat} {a : World} (h : Below B a w) (hB : B ≤ w.heap.size) : Below B a (more w d os) := h.trans ((more_below w d os).mono hB)
end

structure MoreP where
  d : Nat
  os : Array Obj
  deriving Inhabited

theorem wp_region_more {P : Program} {id : Nat} {Q : Exit → Act → World → Prop} {a : Act} {w : World} {l : List Oper} (hm : P.follows .mixedOrders = true) (hB : Region.lexB .any l.toArray = true)
    (h : wpQuiet P l.toArray (fun w' => ∃ p : MoreP, w' = more w p.d p.os) (fun a' => ∀ w', (∃ p : MoreP, w' = more w p.d p.os) → Q .normal a' w') l a) : (Code.region id l.toArray true).wp P Q a w :=
  wp_region_quiet (C := fun w' => ∃ p : MoreP, w' = more w p.d p.os) hm hB ⟨⟨w.drawn + 1, #[]⟩, by simp [more]⟩ (by simpa using h)

theorem more_call {P : Program} {f : FuncId} {args : Array Value} {w : World} {d : Nat} {os : Array Obj} {v : Value}
    (h : Calls P f args (more w d os) fun e w' => e = .returned v ∧ Below (more w d os).heap.size (more w d os) w') : Calls P f args (more w d os) fun e w'' => e = .returned v ∧ ∃ p : MoreP, w'' = more w p.d p.os :=
  h.mono fun _ _ ⟨he, hb⟩ => by
    obtain ⟨d', os', rfl⟩ := more_of hb
    exact ⟨he, ⟨d', os ++ os'⟩, more_more w d os d' os'⟩

theorem more_same {P : Program} {f : FuncId} {args : Array Value} {w : World} {d : Nat} {os : Array Obj} {v : Value}
    (h : Calls P f args (more w d os) fun e w' => e = .returned v ∧ more w d os = w') : Calls P f args (more w d os) fun e w'' => e = .returned v ∧ ∃ p : MoreP, w'' = more w p.d p.os :=
  h.mono fun _ _ ⟨he, hw⟩ => ⟨he, ⟨d, os⟩, hw.symm⟩

@[go_sem] theorem nat_lt_0 (a : Nat) : (a < a + 1) = True := by simp; try omega
@[go_sem] theorem nat_ne_0 (a : Nat) : (a = a + 1) = False := by simp; try omega
@[go_sem] theorem nat_en_0 (a : Nat) : (a + 1 = a) = False := by simp; try omega
@[go_sem] theorem nat_lt_1 (a c0 : Nat) : (a < a + 1 + c0) = True := by simp; try omega
@[go_sem] theorem nat_ne_1 (a c0 : Nat) : (a = a + 1 + c0) = False := by simp; try omega
@[go_sem] theorem nat_en_1 (a c0 : Nat) : (a + 1 + c0 = a) = False := by simp; try omega
@[go_sem] theorem nat_lt_2 (a c0 c1 : Nat) : (a < a + 1 + c0 + c1) = True := by simp; try omega
@[go_sem] theorem nat_ne_2 (a c0 c1 : Nat) : (a = a + 1 + c0 + c1) = False := by simp; try omega
@[go_sem] theorem nat_en_2 (a c0 c1 : Nat) : (a + 1 + c0 + c1 = a) = False := by simp; try omega
@[go_sem] theorem nat_lt_3 (a c0 c1 c2 : Nat) : (a < a + 1 + c0 + c1 + c2) = True := by simp; try omega
@[go_sem] theorem nat_ne_3 (a c0 c1 c2 : Nat) : (a = a + 1 + c0 + c1 + c2) = False := by simp; try omega
@[go_sem] theorem nat_en_3 (a c0 c1 c2 : Nat) : (a + 1 + c0 + c1 + c2 = a) = False := by simp; try omega
@[go_sem] theorem nat_lt_4 (a c0 c1 c2 c3 : Nat) : (a < a + 1 + c0 + c1 + c2 + c3) = True := by simp; try omega
@[go_sem] theorem nat_ne_4 (a c0 c1 c2 c3 : Nat) : (a = a + 1 + c0 + c1 + c2 + c3) = False := by simp; try omega
@[go_sem] theorem nat_en_4 (a c0 c1 c2 c3 : Nat) : (a + 1 + c0 + c1 + c2 + c3 = a) = False := by simp; try omega
@[go_sem] theorem nat_lt_5 (a c0 c1 c2 c3 c4 : Nat) : (a < a + 1 + c0 + c1 + c2 + c3 + c4) = True := by simp; try omega
@[go_sem] theorem nat_ne_5 (a c0 c1 c2 c3 c4 : Nat) : (a = a + 1 + c0 + c1 + c2 + c3 + c4) = False := by simp; try omega
@[go_sem] theorem nat_en_5 (a c0 c1 c2 c3 c4 : Nat) : (a + 1 + c0 + c1 + c2 + c3 + c4 = a) = False := by simp; try omega
@[go_sem] theorem nat_lt_6 (a c0 c1 c2 c3 c4 c5 : Nat) : (a < a + 1 + c0 + c1 + c2 + c3 + c4 + c5) = True := by simp; try omega
@[go_sem] theorem nat_ne_6 (a c0 c1 c2 c3 c4 c5 : Nat) : (a = a + 1 + c0 + c1 + c2 + c3 + c4 + c5) = False := by simp; try omega
@[go_sem] theorem nat_en_6 (a c0 c1 c2 c3 c4 c5 : Nat) : (a + 1 + c0 + c1 + c2 + c3 + c4 + c5 = a) = False := by simp; try omega
@[go_sem] theorem nat_lt_7 (a c0 c1 c2 c3 c4 c5 c6 : Nat) : (a < a + 1 + c0 + c1 + c2 + c3 + c4 + c5 + c6) = True := by simp; try omega
@[go_sem] theorem nat_ne_7 (a c0 c1 c2 c3 c4 c5 c6 : Nat) : (a = a + 1 + c0 + c1 + c2 + c3 + c4 + c5 + c6) = False := by simp; try omega
@[go_sem] theorem nat_en_7 (a c0 c1 c2 c3 c4 c5 c6 : Nat) : (a + 1 + c0 + c1 + c2 + c3 + c4 + c5 + c6 = a) = False := by simp; try omega
@[go_sem] theorem nat_lt_8 (a c0 c1 c2 c3 c4 c5 c6 c7 : Nat) : (a < a + 1 + c0 + c1 + c2 + c3 + c4 + c5 + c6 + c7) = True := by simp; try omega
@[go_sem] theorem nat_ne_8 (a c0 c1 c2 c3 c4 c5 c6 c7 : Nat) : (a = a + 1 + c0 + c1 + c2 + c3 + c4 + c5 + c6 + c7) = False := by simp; try omega
@[go_sem] theorem nat_en_8 (a c0 c1 c2 c3 c4 c5 c6 c7 : Nat) : (a + 1 + c0 + c1 + c2 + c3 + c4 + c5 + c6 + c7 = a) = False := by simp; try omega
@[go_sem] theorem nat_lt_9 (a c0 c1 c2 c3 c4 c5 c6 c7 c8 : Nat) : (a < a + 1 + c0 + c1 + c2 + c3 + c4 + c5 + c6 + c7 + c8) = True := by simp; try omega
@[go_sem] theorem nat_ne_9 (a c0 c1 c2 c3 c4 c5 c6 c7 c8 : Nat) : (a = a + 1 + c0 + c1 + c2 + c3 + c4 + c5 + c6 + c7 + c8) = False := by simp; try omega
@[go_sem] theorem nat_en_9 (a c0 c1 c2 c3 c4 c5 c6 c7 c8 : Nat) : (a + 1 + c0 + c1 + c2 + c3 + c4 + c5 + c6 + c7 + c8 = a) = False := by simp; try omega
@[go_sem] theorem nat_lt_10 (a c0 c1 c2 c3 c4 c5 c6 c7 c8 c9 : Nat) : (a < a + 1 + c0 + c1 + c2 + c3 + c4 + c5 + c6 + c7 + c8 + c9) = True := by simp; try omega
@[go_sem] theorem nat_ne_10 (a c0 c1 c2 c3 c4 c5 c6 c7 c8 c9 : Nat) : (a = a + 1 + c0 + c1 + c2 + c3 + c4 + c5 + c6 + c7 + c8 + c9) = False := by simp; try omega
@[go_sem] theorem nat_en_10 (a c0 c1 c2 c3 c4 c5 c6 c7 c8 c9 : Nat) : (a + 1 + c0 + c1 + c2 + c3 + c4 + c5 + c6 + c7 + c8 + c9 = a) = False := by simp; try omega
@[go_sem] theorem nat_lt_11 (a c0 c1 c2 c3 c4 c5 c6 c7 c8 c9 c10 : Nat) : (a < a + 1 + c0 + c1 + c2 + c3 + c4 + c5 + c6 + c7 + c8 + c9 + c10) = True := by simp; try omega
@[go_sem] theorem nat_ne_11 (a c0 c1 c2 c3 c4 c5 c6 c7 c8 c9 c10 : Nat) : (a = a + 1 + c0 + c1 + c2 + c3 + c4 + c5 + c6 + c7 + c8 + c9 + c10) = False := by simp; try omega
@[go_sem] theorem nat_en_11 (a c0 c1 c2 c3 c4 c5 c6 c7 c8 c9 c10 : Nat) : (a + 1 + c0 + c1 + c2 + c3 + c4 + c5 + c6 + c7 + c8 + c9 + c10 = a) = False := by simp; try omega
@[go_sem] theorem nat_lt_12 (a c0 c1 c2 c3 c4 c5 c6 c7 c8 c9 c10 c11 : Nat) : (a < a + 1 + c0 + c1 + c2 + c3 + c4 + c5 + c6 + c7 + c8 + c9 + c10 + c11) = True := by simp; try omega
@[go_sem] theorem nat_ne_12 (a c0 c1 c2 c3 c4 c5 c6 c7 c8 c9 c10 c11 : Nat) : (a = a + 1 + c0 + c1 + c2 + c3 + c4 + c5 + c6 + c7 + c8 + c9 + c10 + c11) = False := by simp; try omega
@[go_sem] theorem nat_en_12 (a c0 c1 c2 c3 c4 c5 c6 c7 c8 c9 c10 c11 : Nat) : (a + 1 + c0 + c1 + c2 + c3 + c4 + c5 + c6 + c7 + c8 + c9 + c10 + c11 = a) = False := by simp; try omega
@[go_sem] theorem nat_lt_13 (a c0 c1 c2 c3 c4 c5 c6 c7 c8 c9 c10 c11 c12 : Nat) : (a < a + 1 + c0 + c1 + c2 + c3 + c4 + c5 + c6 + c7 + c8 + c9 + c10 + c11 + c12) = True := by simp; try omega
@[go_sem] theorem nat_ne_13 (a c0 c1 c2 c3 c4 c5 c6 c7 c8 c9 c10 c11 c12 : Nat) : (a = a + 1 + c0 + c1 + c2 + c3 + c4 + c5 + c6 + c7 + c8 + c9 + c10 + c11 + c12) = False := by simp; try omega
@[go_sem] theorem nat_en_13 (a c0 c1 c2 c3 c4 c5 c6 c7 c8 c9 c10 c11 c12 : Nat) : (a + 1 + c0 + c1 + c2 + c3 + c4 + c5 + c6 + c7 + c8 + c9 + c10 + c11 + c12 = a) = False := by simp; try omega
@[go_sem] theorem nat_lt_14 (a c0 c1 c2 c3 c4 c5 c6 c7 c8 c9 c10 c11 c12 c13 : Nat) : (a < a + 1 + c0 + c1 + c2 + c3 + c4 + c5 + c6 + c7 + c8 + c9 + c10 + c11 + c12 + c13) = True := by simp; try omega
@[go_sem] theorem nat_ne_14 (a c0 c1 c2 c3 c4 c5 c6 c7 c8 c9 c10 c11 c12 c13 : Nat) : (a = a + 1 + c0 + c1 + c2 + c3 + c4 + c5 + c6 + c7 + c8 + c9 + c10 + c11 + c12 + c13) = False := by simp; try omega
@[go_sem] theorem nat_en_14 (a c0 c1 c2 c3 c4 c5 c6 c7 c8 c9 c10 c11 c12 c13 : Nat) : (a + 1 + c0 + c1 + c2 + c3 + c4 + c5 + c6 + c7 + c8 + c9 + c10 + c11 + c12 + c13 = a) = False := by simp; try omega

theorem s_refl (W1 : World) : W1.heap.size ≤ W1.drew.heap.size ∧ ∀ b o, b < W1.heap.size → W1.drew.cell? ⟨b, o, none⟩ = W1.cell? ⟨b, o, none⟩ := ⟨Nat.le_refl _, fun _ _ _ => rfl⟩
theorem s_id (W1 : World) : W1.heap.size ≤ W1.heap.size ∧ ∀ b o, b < W1.heap.size → W1.cell? ⟨b, o, none⟩ = W1.cell? ⟨b, o, none⟩ := ⟨Nat.le_refl _, fun _ _ _ => rfl⟩
theorem s_drew {W1 W : World} (h : W1.heap.size ≤ W.heap.size ∧ ∀ b o, b < W1.heap.size → W.cell? ⟨b, o, none⟩ = W1.cell? ⟨b, o, none⟩) :
    W1.heap.size ≤ W.drew.heap.size ∧ ∀ b o, b < W1.heap.size → W.drew.cell? ⟨b, o, none⟩ = W1.cell? ⟨b, o, none⟩ := h
theorem s_below {W1 W w' : World} (hb : Below W.heap.size W w') (h : W1.heap.size ≤ W.heap.size ∧ ∀ b o, b < W1.heap.size → W.cell? ⟨b, o, none⟩ = W1.cell? ⟨b, o, none⟩) :
    W1.heap.size ≤ w'.heap.size ∧ ∀ b o, b < W1.heap.size → w'.cell? ⟨b, o, none⟩ = W1.cell? ⟨b, o, none⟩ :=
  ⟨Nat.le_trans h.1 hb.size, fun b o hlt => (hb.cell (p := ⟨b, o, none⟩) (Nat.lt_of_lt_of_le hlt h.1)).trans (h.2 b o hlt)⟩
theorem s_more {W1 W : World} (d : Nat) (os : Array Obj) (h : W1.heap.size ≤ W.heap.size ∧ ∀ b o, b < W1.heap.size → W.cell? ⟨b, o, none⟩ = W1.cell? ⟨b, o, none⟩) :
    W1.heap.size ≤ (more W d os).heap.size ∧ ∀ b o, b < W1.heap.size → (more W d os).cell? ⟨b, o, none⟩ = W1.cell? ⟨b, o, none⟩ := s_below (more_below W d os) h
theorem s_alloc {W1 W : World} (o' : Obj) (h : W1.heap.size ≤ W.heap.size ∧ ∀ b o, b < W1.heap.size → W.cell? ⟨b, o, none⟩ = W1.cell? ⟨b, o, none⟩) :
    W1.heap.size ≤ (W.alloc o').heap.size ∧ ∀ b o, b < W1.heap.size → (W.alloc o').cell? ⟨b, o, none⟩ = W1.cell? ⟨b, o, none⟩ := s_below ((Below.refl _ _).alloc (Nat.le_refl _) o') h

theorem below_drewN {B : Nat} {a w : World} (h : Below B a w) (n : Nat) : Below B a (w.drewN n) := ⟨h.os, h.tape, h.output, h.size, h.block⟩

end Go.Proofs.Ytmkfjelpekkmmaa

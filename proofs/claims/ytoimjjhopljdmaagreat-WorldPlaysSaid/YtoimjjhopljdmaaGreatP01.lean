/- Texts Base Sl PoolA PoolB: what the claim reaches of them. Conditions stand at each theorem. -/
import Derived.Test.YtoimjjhopljdmaaGreatProg
import Derived.WalkKit
import Derived.WalkSpells
import Derived.WalkLawsBesides
import Derived.Handy
import Derived.Lib.Hide
import Derived.Lib.QuietBelow
import Derived.BigQuiet
import Derived.Deep.RegionHeld3
import Derived.Deep.RegionWith
import Derived.Deep.DeepFit
import Derived.Deep.DeepCutAuto
import Derived.Deep.LoopGhost
import Derived.Deep.Light
import Derived.Deep.RegionLaw
import Derived.Deep.RegionLawGrows
set_option maxRecDepth 100000
set_option maxHeartbeats 8000000
namespace Go.Proofs.YtoimjjhopljdmaaGreat
open Go.RowKit
open Go.Proofs.Tryz (prog)
open Go.Value (int)
open Go.IntKind (i64)
open Go.Lib (hid)
section
theorem cell_keep {W w' : World} {a : Addr} {v : Value} (hb : Below W.heap.size W w') (h : W.cell? a = some v) : w'.cell? a = some v := by
 rw [hb.cell (World.block_lt_of_cell? W a h)]; exact h
theorem bcell {W w1 : World} (hb : Below W.heap.size W w1) : (∀ b o, b < W.heap.size → w1.cell? ⟨b, o, none⟩ = W.cell? ⟨b, o, none⟩) ∧ (∀ b o, b < W.heap.size → w1.frozen? ⟨b, o, none⟩ = W.frozen? ⟨b, o, none⟩) :=
 ⟨fun b o h => hb.cell (p := ⟨b, o, none⟩) h, fun b o h => hb.frozen (p := ⟨b, o, none⟩) h⟩
theorem box_keep {B0 b : Nat} {w0 W w' : World} {arr : Array Value} (hb : Below W.heap.size W w') (h : (Below B0 w0 W ∧ B0 ≤ W.heap.size ∧ b < W.heap.size) ∧ ∀ j, W.cell? ⟨b, j, none⟩ = arr[j]?) :
 (Below B0 w0 w' ∧ B0 ≤ w'.heap.size ∧ b < w'.heap.size) ∧ ∀ j, w'.cell? ⟨b, j, none⟩ = arr[j]? :=
 ⟨⟨h.1.1.trans (hb.mono h.1.2.1), Nat.le_trans h.1.2.1 hb.size, Nat.lt_of_lt_of_le h.1.2.2 hb.size⟩, fun j => (hb.cell (p := ⟨b, j, none⟩) h.1.2.2).trans (h.2 j)⟩
theorem box_alloc {B0 b : Nat} {w0 W : World} {arr : Array Value} (o : Obj) (h : (Below B0 w0 W ∧ B0 ≤ W.heap.size ∧ b < W.heap.size) ∧ ∀ j, W.cell? ⟨b, j, none⟩ = arr[j]?) :
 (Below B0 w0 (W.alloc o) ∧ B0 ≤ (W.alloc o).heap.size ∧ b < (W.alloc o).heap.size) ∧ ∀ j, (W.alloc o).cell? ⟨b, j, none⟩ = arr[j]? :=
 box_keep ((Below.refl _ _).alloc (Nat.le_refl _) o) h
theorem box_drew {B0 b : Nat} {w0 W : World} {arr : Array Value} (h : (Below B0 w0 W ∧ B0 ≤ W.heap.size ∧ b < W.heap.size) ∧ ∀ j, W.cell? ⟨b, j, none⟩ = arr[j]?) :
 (Below B0 w0 W.drew ∧ B0 ≤ W.drew.heap.size ∧ b < W.drew.heap.size) ∧ ∀ j, W.drew.cell? ⟨b, j, none⟩ = arr[j]? := ⟨⟨h.1.1.drew, h.1.2⟩, h.2⟩
theorem box_new (w : World) (arr : Array Value) (t : TypeId) : (Below w.heap.size w (w.alloc (.cells arr t)).drew ∧ w.heap.size ≤ (w.alloc (.cells arr t)).drew.heap.size ∧ w.heap.size < (w.alloc (.cells arr t)).drew.heap.size) ∧ ∀ j, (w.alloc (.cells arr t)).drew.cell? ⟨w.heap.size, j, none⟩ = arr[j]? :=
 ⟨⟨((Below.refl _ _).alloc (Nat.le_refl _) _).drew, by simp, by simp⟩, fun j => by simp⟩
theorem box_new0 (w : World) (arr : Array Value) (t : TypeId) : (Below w.heap.size w (w.alloc (.cells arr t)) ∧ w.heap.size ≤ (w.alloc (.cells arr t)).heap.size ∧ w.heap.size < (w.alloc (.cells arr t)).heap.size) ∧ ∀ j, (w.alloc (.cells arr t)).cell? ⟨w.heap.size, j, none⟩ = arr[j]? :=
 ⟨⟨(Below.refl _ _).alloc (Nat.le_refl _) _, by simp, by simp⟩, fun j => by simp⟩
def more (w : World) (d : Nat) (os : Array Obj) : World := { w with heap := w.heap ++ os, drawn := d }
theorem more_of {w w' : World} (h : Below w.heap.size w w') : ∃ d os, w' = more w d os := by
 refine ⟨w'.drawn, w'.heap.extract w.heap.size w'.heap.size, ?_⟩
 obtain ⟨heap', tape', drawn', os', output'⟩ := w'
 have e1 : os' = w.os := h.os
 have e2 : tape' = w.tape := h.tape
 have e3 : output' = w.output := h.output
 have hs : w.heap.size ≤ heap'.size := h.size
 have hb : ∀ k, k < w.heap.size → heap'[k]? = w.heap[k]? := h.block
 subst e1 e2 e3
 have eh : heap' = w.heap ++ heap'.extract w.heap.size heap'.size := by
  apply Array.ext_getElem?
  intro k
  by_cases hk : k < w.heap.size
  · rw [Array.getElem?_append_left hk]; exact hb k hk
  · rw [Array.getElem?_append_right (by omega), Array.getElem?_extract]
    by_cases hk2 : k < heap'.size
    · rw [if_pos (by omega)]; congr 1; omega
    · rw [if_neg (by omega), Array.getElem?_eq_none (by omega)]
 simp only [more]
 congr 1
section
variable (w : World) (d : Nat) (os : Array Obj)
@[simp, go_sem] theorem more_size : (more w d os).heap.size = w.heap.size + os.size := by simp [more]
@[simp, go_sem] theorem more_drew : (more w d os).drew = more w (d + 1) os := rfl
@[simp, go_sem] theorem more_drewN (n : Nat) : (more w d os).drewN n = more w (d + n) os := rfl
theorem more_below : Below w.heap.size w (more w d os) := ⟨rfl, rfl, rfl, by simp, fun k hk => by simp [more, Array.getElem?_append, hk]⟩
@[go_sem] theorem more_cell (a : Addr) (h : a.block < w.heap.size) : (more w d os).cell? a = w.cell? a := (more_below w d os).cell h
@[go_sem] theorem more_frozen (a : Addr) (h : a.block < w.heap.size) : (more w d os).frozen? a = w.frozen? a := (more_below w d os).frozen h
@[go_sem] theorem more_setCell (a : Addr) (v : Value) (h : a.block < w.heap.size) : (more w d os).setCell a v = more (w.setCell a v) d os := by
 simp only [more, World.setCell]
 congr 1
 apply Array.ext_getElem?
 intro k
 by_cases hk : k < w.heap.size
 · rw [Array.getElem?_append_left (by simpa using hk), Array.getElem?_modify, Array.getElem?_modify, Array.getElem?_append_left hk]
 · rw [Array.getElem?_append_right (by simpa using hk), Array.getElem?_modify, if_neg (by omega), Array.getElem?_append_right (by omega)]
   simp
theorem more_more (d' : Nat) (os' : Array Obj) : more (more w d os) d' os' = more w d' (os ++ os') := by simp [more, Array.append_assoc]
theorem below_more {B : Nat} {a : World} (h : Below B a w) (hB : B ≤ w.heap.size) : Below B a (more w d os) := h.trans ((more_below w d os).mono hB)
end
structure MoreP where
 d : Nat
 os : Array Obj
 deriving Inhabited
theorem wp_region_more {P : Program} {id : Nat} {Q : Exit → Act → World → Prop} {a : Act} {w : World} {l : List Oper} (hm : P.follows .mixedOrders = true) (hB : Region.lexB .any l.toArray = true)
 (h : wpQuiet P l.toArray (fun w' => ∃ p : MoreP, w' = more w p.d p.os) (fun a' => ∀ w', (∃ p : MoreP, w' = more w p.d p.os) → Q .normal a' w') l a) : (Code.region id l.toArray true).wp P Q a w :=
 wp_region_quiet (C := fun w' => ∃ p : MoreP, w' = more w p.d p.os) hm hB ⟨⟨w.drawn + 1, #[]⟩, by simp [more]⟩ (by simpa using h)
theorem more_call {P : Program} {f : FuncId} {args : Array Value} {w : World} {d : Nat} {os : Array Obj} {v : Value}
 (h : Calls P f args (more w d os) fun e w' => e = .returned v ∧ Below (more w d os).heap.size (more w d os) w') : Calls P f args (more w d os) fun e w'' => e = .returned v ∧ ∃ p : MoreP, w'' = more w p.d p.os :=
 h.mono fun _ _ ⟨he, hb⟩ => by
  obtain ⟨d', os', rfl⟩ := more_of hb
  exact ⟨he, ⟨d', os ++ os'⟩, more_more w d os d' os'⟩
theorem more_same {P : Program} {f : FuncId} {args : Array Value} {w : World} {d : Nat} {os : Array Obj} {v : Value}
 (h : Calls P f args (more w d os) fun e w' => e = .returned v ∧ more w d os = w') : Calls P f args (more w d os) fun e w'' => e = .returned v ∧ ∃ p : MoreP, w'' = more w p.d p.os :=
 h.mono fun _ _ ⟨he, hw⟩ => ⟨he, ⟨d, os⟩, hw.symm⟩
@[go_sem] theorem nat_lt_0 (a : Nat) : (a < a + 1) = True := by simp; try omega
@[go_sem] theorem nat_ne_0 (a : Nat) : (a = a + 1) = False := by simp; try omega
@[go_sem] theorem nat_en_0 (a : Nat) : (a + 1 = a) = False := by simp; try omega
@[go_sem] theorem nat_lt_1 (a c0 : Nat) : (a < a + 1 + c0) = True := by simp; try omega
@[go_sem] theorem nat_ne_1 (a c0 : Nat) : (a = a + 1 + c0) = False := by simp; try omega
@[go_sem] theorem nat_en_1 (a c0 : Nat) : (a + 1 + c0 = a) = False := by simp; try omega
@[go_sem] theorem nat_lt_2 (a c0 c1 : Nat) : (a < a + 1 + c0 + c1) = True := by simp; try omega
@[go_sem] theorem nat_ne_2 (a c0 c1 : Nat) : (a = a + 1 + c0 + c1) = False := by simp; try omega
@[go_sem] theorem nat_en_2 (a c0 c1 : Nat) : (a + 1 + c0 + c1 = a) = False := by simp; try omega
@[go_sem] theorem nat_lt_3 (a c0 c1 c2 : Nat) : (a < a + 1 + c0 + c1 + c2) = True := by simp; try omega
@[go_sem] theorem nat_ne_3 (a c0 c1 c2 : Nat) : (a = a + 1 + c0 + c1 + c2) = False := by simp; try omega
@[go_sem] theorem nat_en_3 (a c0 c1 c2 : Nat) : (a + 1 + c0 + c1 + c2 = a) = False := by simp; try omega
@[go_sem] theorem nat_lt_4 (a c0 c1 c2 c3 : Nat) : (a < a + 1 + c0 + c1 + c2 + c3) = True := by simp; try omega
@[go_sem] theorem nat_ne_4 (a c0 c1 c2 c3 : Nat) : (a = a + 1 + c0 + c1 + c2 + c3) = False := by simp; try omega
@[go_sem] theorem nat_en_4 (a c0 c1 c2 c3 : Nat) : (a + 1 + c0 + c1 + c2 + c3 = a) = False := by simp; try omega
@[go_sem] theorem nat_lt_5 (a c0 c1 c2 c3 c4 : Nat) : (a < a + 1 + c0 + c1 + c2 + c3 + c4) = True := by simp; try omega
@[go_sem] theorem nat_ne_5 (a c0 c1 c2 c3 c4 : Nat) : (a = a + 1 + c0 + c1 + c2 + c3 + c4) = False := by simp; try omega
@[go_sem] theorem nat_en_5 (a c0 c1 c2 c3 c4 : Nat) : (a + 1 + c0 + c1 + c2 + c3 + c4 = a) = False := by simp; try omega
@[go_sem] theorem nat_lt_6 (a c0 c1 c2 c3 c4 c5 : Nat) : (a < a + 1 + c0 + c1 + c2 + c3 + c4 + c5) = True := by simp; try omega
@[go_sem] theorem nat_ne_6 (a c0 c1 c2 c3 c4 c5 : Nat) : (a = a + 1 + c0 + c1 + c2 + c3 + c4 + c5) = False := by simp; try omega
@[go_sem] theorem nat_en_6 (a c0 c1 c2 c3 c4 c5 : Nat) : (a + 1 + c0 + c1 + c2 + c3 + c4 + c5 = a) = False := by simp; try omega
@[go_sem] theorem nat_lt_7 (a c0 c1 c2 c3 c4 c5 c6 : Nat) : (a < a + 1 + c0 + c1 + c2 + c3 + c4 + c5 + c6) = True := by simp; try omega
@[go_sem] theorem nat_ne_7 (a c0 c1 c2 c3 c4 c5 c6 : Nat) : (a = a + 1 + c0 + c1 + c2 + c3 + c4 + c5 + c6) = False := by simp; try omega
@[go_sem] theorem nat_en_7 (a c0 c1 c2 c3 c4 c5 c6 : Nat) : (a + 1 + c0 + c1 + c2 + c3 + c4 + c5 + c6 = a) = False := by simp; try omega
@[go_sem] theorem nat_lt_8 (a c0 c1 c2 c3 c4 c5 c6 c7 : Nat) : (a < a + 1 + c0 + c1 + c2 + c3 + c4 + c5 + c6 + c7) = True := by simp; try omega
@[go_sem] theorem nat_ne_8 (a c0 c1 c2 c3 c4 c5 c6 c7 : Nat) : (a = a + 1 + c0 + c1 + c2 + c3 + c4 + c5 + c6 + c7) = False := by simp; try omega
@[go_sem] theorem nat_en_8 (a c0 c1 c2 c3 c4 c5 c6 c7 : Nat) : (a + 1 + c0 + c1 + c2 + c3 + c4 + c5 + c6 + c7 = a) = False := by simp; try omega
@[go_sem] theorem nat_lt_9 (a c0 c1 c2 c3 c4 c5 c6 c7 c8 : Nat) : (a < a + 1 + c0 + c1 + c2 + c3 + c4 + c5 + c6 + c7 + c8) = True := by simp; try omega
@[go_sem] theorem nat_ne_9 (a c0 c1 c2 c3 c4 c5 c6 c7 c8 : Nat) : (a = a + 1 + c0 + c1 + c2 + c3 + c4 + c5 + c6 + c7 + c8) = False := by simp; try omega
@[go_sem] theorem nat_en_9 (a c0 c1 c2 c3 c4 c5 c6 c7 c8 : Nat) : (a + 1 + c0 + c1 + c2 + c3 + c4 + c5 + c6 + c7 + c8 = a) = False := by simp; try omega
@[go_sem] theorem nat_lt_10 (a c0 c1 c2 c3 c4 c5 c6 c7 c8 c9 : Nat) : (a < a + 1 + c0 + c1 + c2 + c3 + c4 + c5 + c6 + c7 + c8 + c9) = True := by simp; try omega
@[go_sem] theorem nat_ne_10 (a c0 c1 c2 c3 c4 c5 c6 c7 c8 c9 : Nat) : (a = a + 1 + c0 + c1 + c2 + c3 + c4 + c5 + c6 + c7 + c8 + c9) = False := by simp; try omega
@[go_sem] theorem nat_en_10 (a c0 c1 c2 c3 c4 c5 c6 c7 c8 c9 : Nat) : (a + 1 + c0 + c1 + c2 + c3 + c4 + c5 + c6 + c7 + c8 + c9 = a) = False := by simp; try omega
@[go_sem] theorem nat_lt_11 (a c0 c1 c2 c3 c4 c5 c6 c7 c8 c9 c10 : Nat) : (a < a + 1 + c0 + c1 + c2 + c3 + c4 + c5 + c6 + c7 + c8 + c9 + c10) = True := by simp; try omega
@[go_sem] theorem nat_ne_11 (a c0 c1 c2 c3 c4 c5 c6 c7 c8 c9 c10 : Nat) : (a = a + 1 + c0 + c1 + c2 + c3 + c4 + c5 + c6 + c7 + c8 + c9 + c10) = False := by simp; try omega
@[go_sem] theorem nat_en_11 (a c0 c1 c2 c3 c4 c5 c6 c7 c8 c9 c10 : Nat) : (a + 1 + c0 + c1 + c2 + c3 + c4 + c5 + c6 + c7 + c8 + c9 + c10 = a) = False := by simp; try omega
@[go_sem] theorem nat_lt_12 (a c0 c1 c2 c3 c4 c5 c6 c7 c8 c9 c10 c11 : Nat) : (a < a + 1 + c0 + c1 + c2 + c3 + c4 + c5 + c6 + c7 + c8 + c9 + c10 + c11) = True := by simp; try omega
@[go_sem] theorem nat_ne_12 (a c0 c1 c2 c3 c4 c5 c6 c7 c8 c9 c10 c11 : Nat) : (a = a + 1 + c0 + c1 + c2 + c3 + c4 + c5 + c6 + c7 + c8 + c9 + c10 + c11) = False := by simp; try omega
@[go_sem] theorem nat_en_12 (a c0 c1 c2 c3 c4 c5 c6 c7 c8 c9 c10 c11 : Nat) : (a + 1 + c0 + c1 + c2 + c3 + c4 + c5 + c6 + c7 + c8 + c9 + c10 + c11 = a) = False := by simp; try omega
@[go_sem] theorem nat_lt_13 (a c0 c1 c2 c3 c4 c5 c6 c7 c8 c9 c10 c11 c12 : Nat) : (a < a + 1 + c0 + c1 + c2 + c3 + c4 + c5 + c6 + c7 + c8 + c9 + c10 + c11 + c12) = True := by simp; try omega
@[go_sem] theorem nat_ne_13 (a c0 c1 c2 c3 c4 c5 c6 c7 c8 c9 c10 c11 c12 : Nat) : (a = a + 1 + c0 + c1 + c2 + c3 + c4 + c5 + c6 + c7 + c8 + c9 + c10 + c11 + c12) = False := by simp; try omega
@[go_sem] theorem nat_en_13 (a c0 c1 c2 c3 c4 c5 c6 c7 c8 c9 c10 c11 c12 : Nat) : (a + 1 + c0 + c1 + c2 + c3 + c4 + c5 + c6 + c7 + c8 + c9 + c10 + c11 + c12 = a) = False := by simp; try omega
@[go_sem] theorem nat_lt_14 (a c0 c1 c2 c3 c4 c5 c6 c7 c8 c9 c10 c11 c12 c13 : Nat) : (a < a + 1 + c0 + c1 + c2 + c3 + c4 + c5 + c6 + c7 + c8 + c9 + c10 + c11 + c12 + c13) = True := by simp; try omega
@[go_sem] theorem nat_ne_14 (a c0 c1 c2 c3 c4 c5 c6 c7 c8 c9 c10 c11 c12 c13 : Nat) : (a = a + 1 + c0 + c1 + c2 + c3 + c4 + c5 + c6 + c7 + c8 + c9 + c10 + c11 + c12 + c13) = False := by simp; try omega
@[go_sem] theorem nat_en_14 (a c0 c1 c2 c3 c4 c5 c6 c7 c8 c9 c10 c11 c12 c13 : Nat) : (a + 1 + c0 + c1 + c2 + c3 + c4 + c5 + c6 + c7 + c8 + c9 + c10 + c11 + c12 + c13 = a) = False := by simp; try omega
theorem s_refl (W1 : World) : W1.heap.size ≤ W1.drew.heap.size ∧ ∀ b o, b < W1.heap.size → W1.drew.cell? ⟨b, o, none⟩ = W1.cell? ⟨b, o, none⟩ := ⟨Nat.le_refl _, fun _ _ _ => rfl⟩
theorem s_id (W1 : World) : W1.heap.size ≤ W1.heap.size ∧ ∀ b o, b < W1.heap.size → W1.cell? ⟨b, o, none⟩ = W1.cell? ⟨b, o, none⟩ := ⟨Nat.le_refl _, fun _ _ _ => rfl⟩
theorem s_drew {W1 W : World} (h : W1.heap.size ≤ W.heap.size ∧ ∀ b o, b < W1.heap.size → W.cell? ⟨b, o, none⟩ = W1.cell? ⟨b, o, none⟩) :
 W1.heap.size ≤ W.drew.heap.size ∧ ∀ b o, b < W1.heap.size → W.drew.cell? ⟨b, o, none⟩ = W1.cell? ⟨b, o, none⟩ := h
theorem s_below {W1 W w' : World} (hb : Below W.heap.size W w') (h : W1.heap.size ≤ W.heap.size ∧ ∀ b o, b < W1.heap.size → W.cell? ⟨b, o, none⟩ = W1.cell? ⟨b, o, none⟩) :
 W1.heap.size ≤ w'.heap.size ∧ ∀ b o, b < W1.heap.size → w'.cell? ⟨b, o, none⟩ = W1.cell? ⟨b, o, none⟩ :=
 ⟨Nat.le_trans h.1 hb.size, fun b o hlt => (hb.cell (p := ⟨b, o, none⟩) (Nat.lt_of_lt_of_le hlt h.1)).trans (h.2 b o hlt)⟩
theorem s_more {W1 W : World} (d : Nat) (os : Array Obj) (h : W1.heap.size ≤ W.heap.size ∧ ∀ b o, b < W1.heap.size → W.cell? ⟨b, o, none⟩ = W1.cell? ⟨b, o, none⟩) :
 W1.heap.size ≤ (more W d os).heap.size ∧ ∀ b o, b < W1.heap.size → (more W d os).cell? ⟨b, o, none⟩ = W1.cell? ⟨b, o, none⟩ := s_below (more_below W d os) h
theorem s_alloc {W1 W : World} (o' : Obj) (h : W1.heap.size ≤ W.heap.size ∧ ∀ b o, b < W1.heap.size → W.cell? ⟨b, o, none⟩ = W1.cell? ⟨b, o, none⟩) :
 W1.heap.size ≤ (W.alloc o').heap.size ∧ ∀ b o, b < W1.heap.size → (W.alloc o').cell? ⟨b, o, none⟩ = W1.cell? ⟨b, o, none⟩ := s_below ((Below.refl _ _).alloc (Nat.le_refl _) o') h
theorem quiet_same {P : Program} {f : FuncId} {args : Array Value} {w : World} {n : Nat} {v : Value}
 (h : Calls P f args (w.drewN n) fun e w' => e = .returned v ∧ w.drewN n = w') : Calls P f args (w.drewN n) fun e w'' => e = .returned v ∧ ∃ m, w'' = w.drewN m :=
 h.mono fun _ _ ⟨he, hm⟩ => ⟨he, n, hm.symm⟩
theorem quiet_add_left {P : Program} {f : FuncId} {args : Array Value} {w : World} {a n : Nat} {v : Value}
 (h : Calls P f args (w.drewN (a + n)) fun e w' => e = .returned v ∧ w.drewN (a + n) = w') :
 Calls P f args (w.drewN (a + n)) fun e w'' => e = .returned v ∧ ∃ m, w'' = w.drewN (a + m) :=
 h.mono fun _ _ ⟨he, hm⟩ => ⟨he, n, hm.symm⟩
theorem below_drewN {B : Nat} {a w : World} (h : Below B a w) (n : Nat) : Below B a (w.drewN n) := ⟨h.os, h.tape, h.output, h.size, h.block⟩
theorem bg {B : Nat} {w w' : World} (h : Below B w w' := by repeat' (first | (with_reducible exact Below.refl _ _) | (with_reducible assumption) | (with_reducible refine below_drewN ?_ _) | (with_reducible refine below_more _ _ _ ?_ ?_) | (with_reducible refine Below.alloc ?_ ?_ _) | (with_reducible refine Below.drew ?_) | (with_reducible refine Below.setCell ?_ ?_ _) | go_size)) : Below B w w' := h
theorem belA {P : Program} {f : FuncId} {args : Array Value} {w : World} {v : Value} {R : Ending → World → Prop} (h : Calls P f args w fun e w' => e = .returned v ∧ Below w.heap.size w w') (hR : ∀ d os, R (.returned v) (more w d os)) : Calls P f args w R :=
 h.mono fun e w' ⟨he, hb⟩ => by
  obtain ⟨d, os, rfl⟩ := more_of hb
  rw [he]; exact hR d os
theorem eqA {P : Program} {f : FuncId} {args : Array Value} {w : World} {v : Value} {R : Ending → World → Prop} (h : Calls P f args w fun e w' => e = .returned v ∧ w = w') (hR : R (.returned v) w) : Calls P f args w R :=
 h.mono fun e w' ⟨he, hw⟩ => by
  subst hw
  rw [he]; exact hR
theorem wpm {P : Program} {id : Nat} {Q : Exit → Act → World → Prop} {a : Act} {w : World} {l : List Oper} (h : wpQuiet P l.toArray (fun w' => ∃ p : MoreP, w' = more w p.d p.os) (fun a' => ∀ w', (∃ p : MoreP, w' = more w p.d p.os) → Q .normal a' w') l a)
 (hm : P.follows .mixedOrders = true := by kernel_rfl) (hB : Region.lexB .any l.toArray = true := by kernel_rfl) : (Code.region id l.toArray true).wp P Q a w := wp_region_more hm hB h
end
def Sl (w : World) (e : TypeId) (size : Nat) (v : Value) (n : Nat) (xs : List Value) : Prop :=
 xs.length = n * size ∧
 ((v = .slice none 0 0 ∧ n = 0) ∨
  ∃ g off cap cur, v = .slice (some ⟨g, off, none⟩) n cap ∧ w.heap[g]? = some (.cells cur e (0, 0)) ∧ n ≤ cap ∧ cap ≤ maxLen ∧ off + cap * size ≤ cur.size ∧ ∀ j u, xs[j]? = some u → cur[off + j]? = some u)
theorem Sl.of_own {w : World} {base : Nat} {e : TypeId} {size : Nat} {v : Value} {n : Nat} {xs : List Value} (h : w.ownsRow base e size v n xs) : Sl w e size v n xs := by
 obtain ⟨h1, h2 | ⟨g, cap, cur, hv, hb, hg, hn, hm, hs, ht⟩⟩ := h
 · exact ⟨h1, .inl h2⟩
 · refine ⟨h1, .inr ⟨g, 0, cap, cur, hv, hg, hn, hm, by omega, fun j u hj => ?_⟩⟩
   rw [← ht] at hj
   rw [List.getElem?_take] at hj
   split at hj
   · simpa using hj
   · cases hj
theorem Sl.keep {w w' : World} {e : TypeId} {size : Nat} {v : Value} {n : Nat} {xs : List Value} (h : Sl w e size v n xs) (hk : ∀ g, v.ownBlock = some g → w'.heap[g]? = w.heap[g]?) : Sl w' e size v n xs := by
 obtain ⟨h1, h2 | ⟨g, off, cap, cur, rfl, hg, r⟩⟩ := h
 · exact ⟨h1, .inl h2⟩
 · exact ⟨h1, .inr ⟨g, off, cap, cur, rfl, by rw [hk g rfl]; exact hg, r⟩⟩
structure Turned (w w' : World) (b : Option Nat) : Prop where
 os : w'.os = w.os
 tape : w'.tape = w.tape
 output : w'.output = w.output
 size : w.heap.size ≤ w'.heap.size
 block : ∀ k, k < w.heap.size → some k ≠ b → w'.heap[k]? = w.heap[k]?
theorem Turned.of_grown {w w' : World} {b : Option Nat} (h : w.grownBy w' none) : Turned w w' b := ⟨h.os, h.tape, h.output, h.size, fun k hk _ => h.block k hk (by simp)⟩
theorem setCells_heap (g : Nat) (e : TypeId) (fr : Nat × Nat) : ∀ (vs : List Value) (o : Nat) (w : World) (cur : Array Value), w.heap[g]? = some (.cells cur e fr) → o + vs.length ≤ cur.size →
 ∃ cur', (w.setCells g o vs).heap[g]? = some (.cells cur' e fr) ∧ cur'.size = cur.size ∧ (∀ j, j < o → cur'[j]? = cur[j]?) ∧ (∀ j u, vs[j]? = some u → cur'[o + j]? = some u) ∧ (∀ j, o + vs.length ≤ j → cur'[j]? = cur[j]?)
 | [], o, w, cur, h, _ => ⟨cur, h, rfl, fun _ _ => rfl, fun j u hj => by simp at hj, fun _ _ => rfl⟩
 | v :: vs, o, w, cur, h, hl => by
   have h1 : (w.setCell ⟨g, o, none⟩ v).heap[g]? = some (.cells (cur.setIfInBounds o v) e fr) := by
    simp [World.setCell, Array.getElem?_modify, h]
   simp only [List.length_cons] at hl
   obtain ⟨cur', hg, hs, hlo, hin, hhi⟩ := setCells_heap g e fr vs (o + 1) _ _ h1 (by simp; omega)
   refine ⟨cur', hg, by rw [hs]; simp, fun j hj => ?_, fun j u hj => ?_, fun j hj => ?_⟩
   · rw [hlo j (by omega), Array.getElem?_setIfInBounds_ne (by omega)]
   · cases j with
     | zero =>
       simp only [List.getElem?_cons_zero, Option.some.injEq] at hj
       subst hj
       rw [Nat.add_zero, hlo o (by omega), Array.getElem?_setIfInBounds_self]
       rw [if_pos (by omega)]
     | succ j =>
       simp only [List.getElem?_cons_succ] at hj
       have := hin j u hj
       rwa [show o + 1 + j = o + (j + 1) from by omega] at this
   · simp only [List.length_cons] at hj
     rw [hhi j (by omega), Array.getElem?_setIfInBounds_ne (by omega)]
theorem setCells_turned (g : Nat) : ∀ (vs : List Value) (o : Nat) (w : World), Turned w (w.setCells g o vs) (some g)
 | [], o, w => ⟨rfl, rfl, rfl, Nat.le_refl _, fun _ _ _ => rfl⟩
 | v :: vs, o, w => by
   have h := setCells_turned g vs (o + 1) (w.setCell ⟨g, o, none⟩ v)
   refine ⟨h.os, h.tape, h.output, ?_, fun k hk hne => ?_⟩
   · have h2 := h.size
     rw [World.size_setCell] at h2
     exact h2
   · have h1 := h.block k (by simpa [World.setCell] using hk) hne
     rw [show w.setCells g o (v :: vs) = (w.setCell ⟨g, o, none⟩ v).setCells g (o + 1) vs from rfl, h1]
     exact Below.heap_setCell _ _ _ _ (by intro e; exact hne (by rw [e]))
theorem wpList_append_sl {P : Program} (w : World) {ops : Array Oper} {rest : List Oper} {o : Oper} {a : Act} {Q : Exit → Act → World → Prop}
 (hg : o.guard = none) (s x : Operand) (t : TypeId) (hop : o.op = Op.call { callee := Callee.builtin Builtin.append, args := #[s, x], argTypes := #[t, t] })
 (e : TypeId) (i : TypeInfo) (z : Value) (size bytes : Nat) (h1 : P.underlying t = some (.slice e)) (h2 : P.info? e = some i) (h3 : i.zero = some z) (h4 : i.size = size) (h5 : i.bytes = bytes) (h6 : z.cells.size = size) (h7 : 0 < size)
 (v : Value) (n : Nat) (xs : List Value) (hv : a.eval s = v) (hsl : Sl w e size v n xs)
 (ad : Addr) (m c : Nat) (news : List Value) (hx : a.eval x = .slice (some ad) m c) (hn : news.length = m * size) (hc : ∀ j u, news[j]? = some u → w.cell? (ad.add j) = some u) (h1c : ∀ u ∈ news, u.oneCell' = true) (hm : 0 < m)
 (b1 : n + m ≤ maxLen) (b2 : (n + m) * bytes ≤ 140737488355328)
 (hK : ∀ v' w', Sl w' e size v' (n + m) (xs ++ news) → Turned w w' v.ownBlock → (v'.ownBlock = v.ownBlock ∨ ∃ g, v'.ownBlock = some g ∧ w.heap.size ≤ g) → wpList P ops Q rest (a.put o.dst v') w') :
 wpList P ops Q (o :: rest) a w := by
 obtain ⟨hlx, ⟨rfl, rfl⟩ | ⟨g, off, cap, cur, rfl, hgb, hncap, hcm, hsz, hcur⟩⟩ := hsl
 · have hx0 : xs = [] := by simpa using hlx
   subst hx0
   refine wpList_append_grows w hg s x t hop e i z size bytes h1 h2 h3 h4 h5 h6 h7 none 0 0 [] hv (fun _ => ⟨rfl, rfl⟩) (by simp) (fun b hb => by cases hb) ad m c news hx hn hc h1c (by omega) b1 b2 fun v' w' ho hgr => ?_
   refine hK v' w' (Sl.of_own ho) (Turned.of_grown hgr) ?_
   obtain ⟨_, ⟨_, h0⟩ | ⟨g, cap, cur, rfl, hb, _⟩⟩ := ho
   · omega
   · exact .inr ⟨g, rfl, hb⟩
 · have hcell : ∀ j, w.cell? ⟨g, j, none⟩ = cur[j]? := fun j => by simp [World.cell?, hgb]
   have hfro : ∀ j, w.frozen? ⟨g, j, none⟩ = false := fun j => by simp [World.frozen?, hgb]
   refine wpList_append_arg w hg s x t hop e i z size bytes h1 h2 h3 h4 h5 h6 h7 g off n cap xs hv hlx (fun j u hj => by rw [hcell]; exact hcur j u hj) ad m c news hx hn hc h1c (fun hr j hj => ?_) b1 b2 (fun hr => ?_) fun hr v' w' ho hgr => ?_
   · have hlt : off + n * size + j < cur.size := by
      have : (n + m) * size ≤ cap * size := Nat.mul_le_mul_right _ hr
      rw [Nat.add_mul] at this
      omega
     exact ⟨by rw [hcell, Array.getElem?_eq_getElem hlt]; rfl, hfro _⟩
   · have hle : off + n * size + news.length ≤ cur.size := by
      have : (n + m) * size ≤ cap * size := Nat.mul_le_mul_right _ hr
      rw [Nat.add_mul] at this
      omega
     obtain ⟨cur', hg', hs', hlo, hin, hhi⟩ := setCells_heap g e (0, 0) news (off + n * size) w cur hgb hle
     refine hK _ _ ⟨by rw [List.length_append, hlx, hn, Nat.add_mul], .inr ⟨g, off, cap, cur', rfl, hg', hr, hcm, by omega, fun j u hj => ?_⟩⟩ (setCells_turned g news _ w) (.inl rfl)
     rw [List.getElem?_append] at hj
     split at hj
     · rename_i hlt
       rw [hlo _ (by omega)]
       exact hcur j u hj
     · rename_i hge
       have := hin (j - xs.length) u hj
       rwa [show off + n * size + (j - xs.length) = off + j from by omega] at this
   · refine hK v' w' (Sl.of_own ho) (Turned.of_grown hgr) ?_
     obtain ⟨_, ⟨_, h0⟩ | ⟨g', cap', cur', rfl, hb, _⟩⟩ := ho
     · omega
     · exact .inr ⟨g', rfl, hb⟩
theorem step_append_sl {P : Program} (w : World) {ops : Array Oper} {o : Oper} {a : Act} {K : Act → World → Prop} {Q : Exit → Act → World → Prop} {E : Prop}
 (hg : o.guard = none) (s x : Operand) (t : TypeId) (hop : o.op = Op.call { callee := Callee.builtin Builtin.append, args := #[s, x], argTypes := #[t, t] })
 (e : TypeId) (i : TypeInfo) (z : Value) (size bytes : Nat) (h1 : P.underlying t = some (.slice e)) (h2 : P.info? e = some i) (h3 : i.zero = some z) (h4 : i.size = size) (h5 : i.bytes = bytes) (h6 : z.cells.size = size) (h7 : 0 < size)
 (v : Value) (n : Nat) (xs : List Value) (hv : a.eval s = v) (hsl : Sl w e size v n xs)
 (ad : Addr) (m c : Nat) (news : List Value) (hx : a.eval x = .slice (some ad) m c) (hn : news.length = m * size) (hc : ∀ j u, news[j]? = some u → w.cell? (ad.add j) = some u) (h1c : ∀ u ∈ news, u.oneCell' = true) (hm : 0 < m)
 (b1 : n + m ≤ maxLen) (b2 : (n + m) * bytes ≤ 140737488355328)
 (hK : ∀ g off cap w', Sl w' e size (.slice (some ⟨g, off, none⟩) (n + m) cap) (n + m) (xs ++ news) → Turned w w' v.ownBlock → (v.ownBlock = some g ∨ w.heap.size ≤ g) → K (a.put o.dst (.slice (some ⟨g, off, none⟩) (n + m) cap)) w') :
 if Region.wanted o (yielded ops a.tmps) = true then Oper.wp P o a w K Q else E := by
 have fin : ∀ v' w', w'.ownsRow w.heap.size e size v' (n + m) (xs ++ news) → w.grownBy w' none → K (a.put o.dst v') w' := by
  intro v' w' ho hgr
  have hs := Sl.of_own ho
  obtain ⟨_, ⟨_, h0⟩ | ⟨g, cap, cur, rfl, hb, _⟩⟩ := ho
  · omega
  · have := hK g 0 cap w' hs (Turned.of_grown hgr) (.inr hb)
    exact this
 obtain ⟨hlx, ⟨rfl, rfl⟩ | ⟨g, off, cap, cur, rfl, hgb, hncap, hcm, hsz, hcur⟩⟩ := hsl
 · have hx0 : xs = [] := by simpa using hlx
   subst hx0
   exact step_append_grows hg s x t hop e i z size bytes h1 h2 h3 h4 h5 h6 h7 none 0 0 [] hv (fun _ => ⟨rfl, rfl⟩) (by simp) (fun b hb => by cases hb) ad m c news hx hn hc h1c (by omega) b1 b2 fin
 · have hcell : ∀ j, w.cell? ⟨g, j, none⟩ = cur[j]? := fun j => by simp [World.cell?, hgb]
   have hfro : ∀ j, w.frozen? ⟨g, j, none⟩ = false := fun j => by simp [World.frozen?, hgb]
   by_cases hr : n + m ≤ cap
   · have hle : off + n * size + news.length ≤ cur.size := by
      have : (n + m) * size ≤ cap * size := Nat.mul_le_mul_right _ hr
      rw [Nat.add_mul] at this
      omega
     refine step_append_room hg s x t hop e i size h1 h2 h4 g off n cap hv ad m c news hx hn hc h1c hr (fun j hj => ?_) ?_
     · have hlt : off + n * size + j < cur.size := by omega
       exact ⟨by rw [hcell, Array.getElem?_eq_getElem hlt]; rfl, hfro _⟩
     · obtain ⟨cur', hg', hs', hlo, hin, hhi⟩ := setCells_heap g e (0, 0) news (off + n * size) w cur hgb hle
       refine hK g off cap _ ⟨by rw [List.length_append, hlx, hn, Nat.add_mul], .inr ⟨g, off, cap, cur', rfl, hg', hr, hcm, by omega, fun j u hj => ?_⟩⟩ (setCells_turned g news _ w) (.inl rfl)
       rw [List.getElem?_append] at hj
       split at hj
       · rename_i hlt
         rw [hlo _ (by omega)]
         exact hcur j u hj
       · rename_i hge
         have := hin (j - xs.length) u hj
         rwa [show off + n * size + (j - xs.length) = off + j from by omega] at this
   · exact step_append_grows hg s x t hop e i z size bytes h1 h2 h3 h4 h5 h6 h7 (some ⟨g, off, none⟩) n cap xs hv (fun h => by cases h) hlx (fun b hb j u hj => by cases hb; rw [show Addr.add ⟨g, off, none⟩ j = ⟨g, off + j, none⟩ from by unfold Addr.add; split <;> simp_all]; rw [hcell]; exact hcur j u hj) ad m c news hx hn hc h1c (by omega) b1 b2 fin
structure Ix where
 (gen bound : Int) (alive : Bool)
structure Sh where
 (all : List Ix) (free : List Int)
structure ShL where
 (A : Nat) (fv : Value)
structure Lay where
 (P S : Nat) (sh : List ShL)
def Lay.has (L : Lay) : Nat → Nat → Prop
 | 0, b => L.P = b
 | 1, b => L.S = b
 | t + 2, b => ∃ l, L.sh[t / 2]? = some l ∧ ((t % 2 = 0 ∧ l.A = b) ∨ (t % 2 = 1 ∧ l.fv.ownBlock = some b))
def Lay.own (L : Lay) (b : Nat) : Prop := ∃ t, L.has t b
structure ShInv (m : Sh) : Prop where
 few : m.all.length ≤ 16
 rng : ∀ (i : Nat) (x : Ix), m.all[i]? = some x → 0 ≤ x.gen ∧ x.gen ≤ 1048576 ∧ 0 ≤ x.bound ∧ x.bound ≤ 1048576 ∧ (x.alive = true → x.gen < 1048576)
 fr : ∀ f ∈ m.free, (0 : Int) ≤ f ∧ f < m.all.length
 nd : m.free.Nodup
 dead : ∀ f ∈ m.free, ∀ (x : Ix), m.all[f.toNat]? = some x → x.alive = false
structure ShAt (w : World) (cur : Array Value) (k : Nat) (m : Sh) (l : ShL) : Prop where
 slA : cur[k * 2]? = some (.slice (some ⟨l.A, 0, none⟩) m.all.length m.all.length)
 slF : cur[k * 2 + 1]? = some l.fv
 rows : ∃ ca, w.heap[l.A]? = some (.cells ca 186 (0, 0)) ∧ ca.size = 3 * m.all.length ∧ ∀ (i : Nat) (x : Ix), m.all[i]? = some x → ca[i * 3]? = some (int i64 x.gen) ∧ ca[i * 3 + 1]? = some (int i64 x.bound) ∧ ca[i * 3 + 2]? = some (.bool x.alive)
 free : Sl w 3 1 l.fv m.free.length (m.free.map (Value.int .i64))
 inv : ShInv m
structure PoolN (w : World) (L : Lay) (M : List Sh) (n : Nat) : Prop where
 len : L.sh.length = M.length
 le : M.length ≤ n
 few : n ≤ 16
 top : w.heap[L.P]? = some (.cells #[.slice (some ⟨L.S, 0, none⟩) n n] 174 (0, 0))
 shards : ∃ cur, w.heap[L.S]? = some (.cells cur 178 (0, 0)) ∧ cur.size = 2 * n ∧ (∀ j, M.length ≤ j → j < n → cur[j * 2]? = some (.slice none 0 0) ∧ cur[j * 2 + 1]? = some (.slice none 0 0)) ∧ ∀ (k : Nat) (m : Sh) (l : ShL), M[k]? = some m → L.sh[k]? = some l → ShAt w cur k m l
 apart : ∀ t t' b, L.has t b → L.has t' b → t = t'
abbrev PoolAt (w : World) (L : Lay) (M : List Sh) : Prop := PoolN w L M M.length
structure Chg (w w' : World) (F : Nat → Prop) : Prop where
 os : w'.os = w.os
 tape : w'.tape = w.tape
 output : w'.output = w.output
 size : w.heap.size ≤ w'.heap.size
 block : ∀ k, k < w.heap.size → ¬ F k → w'.heap[k]? = w.heap[k]?
theorem Chg.of_below {w w' : World} {F : Nat → Prop} (h : Below w.heap.size w w') : Chg w w' F := ⟨h.os, h.tape, h.output, h.size, fun k hk _ => h.block k hk⟩
theorem Chg.refl (w : World) (F : Nat → Prop) : Chg w w F := Chg.of_below (Below.refl _ _)
theorem Chg.trans {w w' w'' : World} {F F' : Nat → Prop} (h : Chg w w' F) (h' : Chg w' w'' F') (hF : ∀ b, b < w.heap.size → F' b → F b) : Chg w w'' F :=
 ⟨h'.os.trans h.os, h'.tape.trans h.tape, h'.output.trans h.output, Nat.le_trans h.size h'.size, fun k hk hn => (h'.block k (Nat.lt_of_lt_of_le hk h.size) (fun e => hn (hF k hk e))).trans (h.block k hk hn)⟩
theorem Chg.mono {w w' : World} {F F' : Nat → Prop} (h : Chg w w' F) (hF : ∀ b, b < w.heap.size → F b → F' b) : Chg w w' F' := ⟨h.os, h.tape, h.output, h.size, fun k hk hn => h.block k hk fun e => hn (hF k hk e)⟩
theorem Chg.setCell {w w' : World} {F : Nat → Prop} (h : Chg w w' F) (a : Addr) (u : Value) (ha : F a.block ∨ w.heap.size ≤ a.block) : Chg w (w'.setCell a u) F :=
 ⟨h.os, h.tape, h.output, by have := h.size; simpa [World.setCell] using this, fun k hk hn => (Below.heap_setCell _ _ _ _ (by rintro rfl; rcases ha with ha | ha; exact hn ha; omega)).trans (h.block k hk hn)⟩
theorem Chg.then_below {w w' w'' : World} {F : Nat → Prop} (h : Chg w w' F) (h' : Below w.heap.size w' w'') : Chg w w'' F :=
 ⟨h'.os.trans h.os, h'.tape.trans h.tape, h'.output.trans h.output, Nat.le_trans h.size h'.size, fun k hk hn => (h'.block k hk).trans (h.block k hk hn)⟩
theorem Chg.of_turned {w w' : World} {b : Option Nat} {F : Nat → Prop} (h : Turned w w' b) (hF : ∀ k, b = some k → k < w.heap.size → F k) : Chg w w' F :=
 ⟨h.os, h.tape, h.output, h.size, fun k hk hn => h.block k hk (fun e => hn (hF k e.symm hk))⟩
theorem Chg.cell {w w' : World} {F : Nat → Prop} (h : Chg w w' F) {a : Addr} (hs : a.block < w.heap.size) (hn : ¬ F a.block) : w'.cell? a = w.cell? a := World.cell?_of_block (w := w) (h.block _ hs hn)
theorem Chg.frozen {w w' : World} {F : Nat → Prop} (h : Chg w w' F) {a : Addr} (hs : a.block < w.heap.size) (hn : ¬ F a.block) : w'.frozen? a = w.frozen? a := World.frozen?_of_block (w := w) (h.block _ hs hn)
theorem Chg.below {w w' : World} {F : Nat → Prop} {B : Nat} (h : Chg w w' F) (hB : B ≤ w.heap.size) (hF : ∀ b, F b → B ≤ b) : Below B w w' :=
 ⟨h.os, h.tape, h.output, h.size, fun k hk => h.block k (by omega) fun e => by have := hF k e; omega⟩
theorem lt_of_heap {w : World} {b : Nat} {o : Obj} (h : w.heap[b]? = some o) : b < w.heap.size := (Array.getElem?_eq_some_iff.1 h).1
theorem Sl.lt {w : World} {e : TypeId} {size : Nat} {v : Value} {n : Nat} {xs : List Value} (h : Sl w e size v n xs) {g : Nat} (hg : v.ownBlock = some g) : g < w.heap.size := by
 obtain ⟨_, ⟨rfl, _⟩ | ⟨g', off, cap, cur, rfl, hb, _⟩⟩ := h
 · cases hg
 · simp [Value.ownBlock] at hg
   subst hg
   exact lt_of_heap hb
theorem PoolN.lt {w : World} {L : Lay} {M : List Sh} {n : Nat} (h : PoolN w L M n) {b : Nat} (hb : L.own b) : b < w.heap.size := by
 obtain ⟨t, ht⟩ := hb
 obtain ⟨cur, hS, _, _, hsh⟩ := h.shards
 match t, ht with
 | 0, ht => subst ht; exact lt_of_heap h.top
 | 1, ht => subst ht; exact lt_of_heap hS
 | t + 2, ht =>
   obtain ⟨l, hl, hor⟩ := ht
   have hk : t / 2 < M.length := by rw [← h.len]; exact (List.getElem?_eq_some_iff.1 hl).1
   have hs := hsh _ _ l (List.getElem?_eq_getElem hk) hl
   rcases hor with ⟨_, rfl⟩ | ⟨_, hg⟩
   · obtain ⟨ca, hca, _⟩ := hs.rows
     exact lt_of_heap hca
   · exact hs.free.lt hg
theorem ShAt.keep {w w' : World} {cur : Array Value} {k : Nat} {m : Sh} {l : ShL} (h : ShAt w cur k m l) {cur' : Array Value} (h0 : cur'[k * 2]? = cur[k * 2]?) (h1 : cur'[k * 2 + 1]? = cur[k * 2 + 1]?)
 (hA : w'.heap[l.A]? = w.heap[l.A]?) (hF : ∀ g, l.fv.ownBlock = some g → w'.heap[g]? = w.heap[g]?) : ShAt w' cur' k m l :=
 ⟨by rw [h0]; exact h.slA, by rw [h1]; exact h.slF, by rw [hA]; exact h.rows, h.free.keep hF, h.inv⟩
theorem PoolN.keep {w w' : World} {L : Lay} {M : List Sh} {n : Nat} (h : PoolN w L M n) (hk : ∀ b, L.own b → w'.heap[b]? = w.heap[b]?) : PoolN w' L M n := by
 obtain ⟨cur, hS, hsz, hrest, hsh⟩ := h.shards
 refine ⟨h.len, h.le, h.few, by rw [hk _ ⟨0, rfl⟩]; exact h.top, ⟨cur, by rw [hk _ ⟨1, rfl⟩]; exact hS, hsz, hrest, fun k m l hm hl => (hsh k m l hm hl).keep rfl rfl (hk _ ⟨2 * k + 2, l, ?_, .inl ⟨?_, rfl⟩⟩) fun g hg => hk _ ⟨2 * k + 1 + 2, l, ?_, .inr ⟨?_, hg⟩⟩⟩, h.apart⟩
 · rw [show 2 * k / 2 = k by omega]; exact hl
 · omega
 · rw [show (2 * k + 1) / 2 = k by omega]; exact hl
 · omega
theorem PoolN.below {w w' : World} {L : Lay} {M : List Sh} {n : Nat} (h : PoolN w L M n) {B : Nat} (hb : Below B w w') (hB : ∀ b, L.own b → b < B) : PoolN w' L M n := h.keep fun b ho => hb.block b (hB b ho)
theorem PoolN.grown {w w' : World} {L : Lay} {M : List Sh} {n : Nat} (h : PoolN w L M n) (hb : Below w.heap.size w w') : PoolN w' L M n := h.below hb fun _ ho => h.lt ho
def Stp (w : World) (L : Lay) (w' : World) (M' : List Sh) : Prop := ∃ L', L'.P = L.P ∧ PoolAt w' L' M' ∧ Chg w w' L.own ∧ ∀ b, L'.own b → L.own b ∨ w.heap.size ≤ b
theorem Stp.of_grown {w w' : World} {L : Lay} {M : List Sh} (h : PoolAt w L M) (hb : Below w.heap.size w w') : Stp w L w' M := ⟨L, rfl, h.grown hb, Chg.of_below hb, fun _ h => .inl h⟩
def Lay.at (L : Lay) (l : ShL) (b : Nat) : Prop := b = L.S ∨ b = l.A ∨ l.fv.ownBlock = some b
theorem Lay.own_at {L : Lay} {l : ShL} {k : Nat} (hl : L.sh[k]? = some l) {b : Nat} (h : L.at l b) : L.own b := by
 rcases h with rfl | rfl | h
 · exact ⟨1, rfl⟩
 · exact ⟨2 * k + 2, l, by rw [show 2 * k / 2 = k by omega]; exact hl, .inl ⟨by omega, rfl⟩⟩
 · exact ⟨2 * k + 1 + 2, l, by rw [show (2 * k + 1) / 2 = k by omega]; exact hl, .inr ⟨by omega, h⟩⟩
theorem Lay.has_A {L : Lay} {l : ShL} {k : Nat} (hl : L.sh[k]? = some l) : L.has (2 * k + 2) l.A := ⟨l, by rw [show 2 * k / 2 = k by omega]; exact hl, .inl ⟨by omega, rfl⟩⟩
theorem Lay.has_F {L : Lay} {l : ShL} {k : Nat} (hl : L.sh[k]? = some l) {g : Nat} (hg : l.fv.ownBlock = some g) : L.has (2 * k + 1 + 2) g := ⟨l, by rw [show (2 * k + 1) / 2 = k by omega]; exact hl, .inr ⟨by omega, hg⟩⟩
theorem PoolN.S_ne_A {w : World} {L : Lay} {M : List Sh} {n : Nat} (h : PoolN w L M n) {k : Nat} {l : ShL} (hl : L.sh[k]? = some l) : L.S ≠ l.A := fun e => by
 have := h.apart 1 (2 * k + 2) l.A e (Lay.has_A hl); omega
theorem PoolN.S_ne_F {w : World} {L : Lay} {M : List Sh} {n : Nat} (h : PoolN w L M n) {k : Nat} {l : ShL} (hl : L.sh[k]? = some l) {g : Nat} (hg : l.fv.ownBlock = some g) : L.S ≠ g := fun e => by
 have := h.apart 1 _ g e (Lay.has_F hl hg); omega
theorem PoolN.A_ne_F {w : World} {L : Lay} {M : List Sh} {n : Nat} (h : PoolN w L M n) {k k' : Nat} {l l' : ShL} (hl : L.sh[k]? = some l) (hl' : L.sh[k']? = some l') {g : Nat} (hg : l'.fv.ownBlock = some g) : l.A ≠ g := fun e => by
 have := h.apart _ _ g (e ▸ Lay.has_A hl) (Lay.has_F hl' hg); omega
def Lay.put (L : Lay) (k : Nat) (l : ShL) : Lay := { L with sh := L.sh.set k l }
theorem PoolN.updN {w w' : World} {L : Lay} {M : List Sh} {n : Nat} (h : PoolN w L M n) {k : Nat} {l : ShL} (hl : L.sh[k]? = some l) {m' : Sh} {l' : ShL} (hA : l'.A = l.A)
 (hc : Chg w w' (L.at l)) (hf : ∀ g, l'.fv.ownBlock = some g → l.fv.ownBlock = some g ∨ w.heap.size ≤ g)
 (hS : ∀ cur, w.heap[L.S]? = some (.cells cur 178 (0, 0)) → cur.size = 2 * n → (∀ m l, M[k]? = some m → L.sh[k]? = some l → ShAt w cur k m l) →
   ∃ cur', w'.heap[L.S]? = some (.cells cur' 178 (0, 0)) ∧ cur'.size = cur.size ∧ (∀ j, j / 2 ≠ k → cur'[j]? = cur[j]?) ∧ ShAt w' cur' k m' l') :
 PoolN w' (L.put k l') (M.set k m') n ∧ ∀ b, (L.put k l').own b → L.own b ∨ w.heap.size ≤ b := by
 obtain ⟨cur, hcur, hsz, hrest, hsh⟩ := h.shards
 obtain ⟨cur', hcur', hsz', hoth, hnew⟩ := hS cur hcur hsz fun m l hm hl => hsh k m l hm hl
 have hkl : k < L.sh.length := (List.getElem?_eq_some_iff.1 hl).1
 have hhas : ∀ t b, Lay.has (L.put k l') t b → L.has t b ∨ (t = 2 * k + 1 + 2 ∧ w.heap.size ≤ b) := by
  intro t b ht
  match t, ht with
  | 0, ht => exact .inl ht
  | 1, ht => exact .inl ht
  | t + 2, ht =>
    obtain ⟨x, hx, hor⟩ := ht
    simp only [Lay.put, List.getElem?_set] at hx
    split at hx
    · rename_i hk
      obtain rfl : l' = x := by simpa using hx
      rcases hor with ⟨h0, h1⟩ | ⟨h0, h1⟩
      · exact .inl ⟨l, by rw [← hk]; exact hl, .inl ⟨h0, by rw [← hA]; exact h1⟩⟩
      · rcases hf b h1 with h2 | h2
        · exact .inl ⟨l, by rw [← hk]; exact hl, .inr ⟨h0, h2⟩⟩
        · exact .inr ⟨by omega, h2⟩
    · exact .inl ⟨x, hx, hor⟩
 have hPn : ¬ L.at l L.P := by
  rintro (e | e | e)
  · have := h.apart 0 1 L.P rfl e.symm; omega
  · have := h.apart 0 (2 * k + 2) L.P rfl (e ▸ Lay.has_A hl); omega
  · have := h.apart 0 _ L.P rfl (Lay.has_F hl e); omega
 have hkM : k < M.length := by rw [← h.len]; exact hkl
 refine ⟨⟨by simp [Lay.put, h.len], by simpa using h.le, h.few, ?_, ⟨cur', hcur', by simp [hsz', hsz], fun j hj hjn => ?_, fun k2 m2 l2 hm2 hl2 => ?_⟩, ?_⟩, ?_⟩
 · exact (hc.block _ (lt_of_heap h.top) hPn).trans h.top
 · rw [List.length_set] at hj
   rw [hoth _ (by omega), hoth _ (by omega)]
   exact hrest j hj hjn
 · simp only [Lay.put, List.getElem?_set] at hm2 hl2
   by_cases hk : k = k2
   · subst hk
     rw [if_pos rfl, if_pos (by rw [← h.len]; exact hkl)] at hm2
     rw [if_pos rfl, if_pos hkl] at hl2
     cases hm2; cases hl2
     exact hnew
   · rw [if_neg hk] at hm2 hl2
     have hs2 := hsh k2 m2 l2 hm2 hl2
     refine hs2.keep (hoth _ (by omega)) (hoth _ (by omega)) (hc.block _ ?_ ?_) fun g hg => hc.block _ (hs2.free.lt hg) ?_
     · obtain ⟨ca, hca, _⟩ := hs2.rows; exact lt_of_heap hca
     · rintro (e | e | e)
       · exact h.S_ne_A hl2 e.symm
       · have := h.apart _ _ _ (Lay.has_A hl2) (e ▸ Lay.has_A hl); omega
       · exact h.A_ne_F hl2 hl e rfl
     · rintro (e | e | e)
       · exact h.S_ne_F hl2 hg e.symm
       · exact h.A_ne_F hl hl2 hg e.symm
       · have := h.apart _ _ _ (Lay.has_F hl2 hg) (Lay.has_F hl e); omega
 · intro t t' b ht ht'
   rcases hhas t b ht with a | ⟨a, hb⟩ <;> rcases hhas t' b ht' with a' | ⟨a', hb'⟩
   · exact h.apart t t' b a a'
   · have := h.lt ⟨t, a⟩; omega
   · have := h.lt ⟨t', a'⟩; omega
   · omega
 · rintro b ⟨t, ht⟩
   rcases hhas t b ht with a | ⟨_, hb⟩
   · exact .inl ⟨t, a⟩
   · exact .inr hb
theorem PoolN.toAt {w : World} {L : Lay} {M : List Sh} {n : Nat} (h : PoolN w L M n) (hn : n = M.length) : PoolAt w L M := by subst hn; exact h
theorem PoolAt.upd {w w' : World} {L : Lay} {M : List Sh} (h : PoolAt w L M) {k : Nat} {l : ShL} (hl : L.sh[k]? = some l) {m' : Sh} {l' : ShL} (hA : l'.A = l.A)
 (hc : Chg w w' (L.at l)) (hf : ∀ g, l'.fv.ownBlock = some g → l.fv.ownBlock = some g ∨ w.heap.size ≤ g)
 (hS : ∀ cur, w.heap[L.S]? = some (.cells cur 178 (0, 0)) → cur.size = 2 * M.length → (∀ m l, M[k]? = some m → L.sh[k]? = some l → ShAt w cur k m l) →
   ∃ cur', w'.heap[L.S]? = some (.cells cur' 178 (0, 0)) ∧ cur'.size = cur.size ∧ (∀ j, j / 2 ≠ k → cur'[j]? = cur[j]?) ∧ ShAt w' cur' k m' l') :
 PoolAt w' (L.put k l') (M.set k m') ∧ ∀ b, (L.put k l').own b → L.own b ∨ w.heap.size ≤ b := by
 have := h.updN hl hA hc hf hS
 exact ⟨this.1.toAt (by simp), this.2⟩
theorem Stp.trans {w w' w'' : World} {L : Lay} {M' M'' : List Sh} (h : Stp w L w' M') (h2 : ∀ L', L'.P = L.P → PoolAt w' L' M' → Stp w' L' w'' M'') : Stp w L w'' M'' := by
 obtain ⟨L', hP, hp, hc, ho⟩ := h
 obtain ⟨L'', hP', hp', hc', ho'⟩ := h2 L' hP hp
 refine ⟨L'', hP'.trans hP, hp', hc.trans hc' fun b hb h1 => ?_, fun b hb => ?_⟩
 · rcases ho b h1 with h | h
   · exact h
   · omega
 · rcases ho' b hb with h | h
   · exact ho b h
   · exact .inr (Nat.le_trans hc.size h)
theorem Stp.then_below {w w' w'' : World} {L : Lay} {M' : List Sh} (h : Stp w L w' M') (hb : Below w'.heap.size w' w'') : Stp w L w'' M' := h.trans fun _ _ h2 => Stp.of_grown h2 hb
theorem Stp.from_below {w w' w'' : World} {L : Lay} {M' : List Sh} (hb : Below w.heap.size w w') (h : Stp w' L w'' M') : Stp w L w'' M' := by
 obtain ⟨L', hP, hp', hc, ho⟩ := h
 exact ⟨L', hP, hp', (Chg.of_below hb).trans hc fun _ _ h => h, fun b h => (ho b h).imp_right fun h => Nat.le_trans hb.size h⟩
theorem heap_setCell_same (w : World) (b o : Nat) (u : Value) (cs : Array Value) (e : TypeId) (fr : Nat × Nat) (h : w.heap[b]? = some (.cells cs e fr)) : (w.setCell ⟨b, o, none⟩ u).heap[b]? = some (.cells (cs.setIfInBounds o u) e fr) := by
 simp [World.setCell, Array.getElem?_modify, h]
theorem set_self (ca : Array Value) (j : Nat) (v : Value) (h : j < ca.size) : (ca.setIfInBounds j v)[j]? = some v := by simp [h]
theorem PoolAt.set_row {w w' : World} {L : Lay} {M : List Sh} (h : PoolAt w L M) {k i : Nat} {m : Sh} {l : ShL} {x' : Ix} (hm : M[k]? = some m) (hl : L.sh[k]? = some l) (hil : i < m.all.length)
 (hc : Chg w w' (fun b => b = l.A))
 (hr : ∀ ca : Array Value, w.heap[l.A]? = some (.cells ca 186 (0, 0)) → ca.size = 3 * m.all.length → (∀ x, m.all[i]? = some x → ca[i * 3]? = some (int i64 x.gen) ∧ ca[i * 3 + 1]? = some (int i64 x.bound) ∧ ca[i * 3 + 2]? = some (.bool x.alive)) →
   ∃ ca' : Array Value, w'.heap[l.A]? = some (.cells ca' 186 (0, 0)) ∧ ca'.size = ca.size ∧ (∀ j, j / 3 ≠ i → ca'[j]? = ca[j]?) ∧ ca'[i * 3]? = some (int i64 x'.gen) ∧ ca'[i * 3 + 1]? = some (int i64 x'.bound) ∧ ca'[i * 3 + 2]? = some (.bool x'.alive))
 (hi : ShInv { m with all := m.all.set i x' }) : PoolAt w' L (M.set k { m with all := m.all.set i x' }) := by
 have hput : L.put k l = L := by
  obtain ⟨hk, e⟩ := List.getElem?_eq_some_iff.1 hl
  subst e
  simp [Lay.put]
 have hup := fun hS => (h.upd hl (m' := { m with all := m.all.set i x' }) (l' := l) (w' := w') rfl (hc.mono fun b _ e => .inr (.inl e)) (fun g hg => .inl hg) hS).1
 rw [hput] at hup
 refine hup fun cur hcur _ hsh => ⟨cur, ?_, rfl, fun _ _ => rfl, ?_⟩
 · rw [hc.block _ (lt_of_heap hcur) (h.S_ne_A hl)]; exact hcur
 · have hs := hsh m l hm hl
   obtain ⟨ca, hca, hsz, hrow⟩ := hs.rows
   obtain ⟨ca', hca', hsz', hoth, r0, r1, r2⟩ := hr ca hca hsz (hrow i)
   refine ⟨by simpa using hs.slA, hs.slF, ⟨ca', hca', by rw [hsz', hsz]; simp, fun j y hy => ?_⟩, hs.free.keep fun g hg => hc.block _ (hs.free.lt hg) (fun e => h.A_ne_F hl hl hg e.symm), hi⟩
   simp only [List.getElem?_set] at hy
   by_cases hij : i = j
   · subst hij
     rw [if_pos rfl, if_pos hil] at hy
     obtain rfl : x' = y := by simpa using hy
     exact ⟨r0, r1, r2⟩
   · rw [if_neg hij] at hy
     obtain ⟨q0, q1, q2⟩ := hrow j y hy
     exact ⟨by rw [hoth _ (by omega)]; exact q0, by rw [hoth _ (by omega)]; exact q1, by rw [hoth _ (by omega)]; exact q2⟩
theorem PoolAt.set_ix {w : World} {L : Lay} {M : List Sh} (h : PoolAt w L M) {k i : Nat} {m : Sh} {l : ShL} {x x' : Ix} (hm : M[k]? = some m) (hl : L.sh[k]? = some l) (hx : m.all[i]? = some x) (q : Nat) (v : Value)
 (hv : (q = 0 ∧ x' = { x with gen := x'.gen } ∧ v = int i64 x'.gen) ∨ (q = 1 ∧ x' = { x with bound := x'.bound } ∧ v = int i64 x'.bound) ∨ (q = 2 ∧ x' = { x with alive := x'.alive } ∧ v = .bool x'.alive))
 (hi : ShInv { m with all := m.all.set i x' }) : PoolAt (w.setCell ⟨l.A, i * 3 + q, none⟩ v) L (M.set k { m with all := m.all.set i x' }) := by
 have hil : i < m.all.length := (List.getElem?_eq_some_iff.1 hx).1
 refine h.set_row hm hl hil ((Chg.refl _ _).setCell _ _ (.inl rfl)) (fun ca hca hsz hrow => ⟨ca.setIfInBounds (i * 3 + q) v, heap_setCell_same _ _ _ _ _ _ _ hca, by simp, fun j hj => Array.getElem?_setIfInBounds_ne (by rcases hv with ⟨rfl, _⟩ | ⟨rfl, _⟩ | ⟨rfl, _⟩ <;> omega), ?_⟩) hi
 obtain ⟨r0, r1, r2⟩ := hrow x hx
 rcases hv with ⟨rfl, e, rfl⟩ | ⟨rfl, e, rfl⟩ | ⟨rfl, e, rfl⟩
 · refine ⟨?_, ?_, ?_⟩
   · exact set_self _ _ _ (by omega)
   · rw [Array.getElem?_setIfInBounds_ne (by omega), r1, e]
   · rw [Array.getElem?_setIfInBounds_ne (by omega), r2, e]
 · refine ⟨?_, ?_, ?_⟩
   · rw [Array.getElem?_setIfInBounds_ne (by omega), r0, e]
   · exact set_self _ _ _ (by omega)
   · rw [Array.getElem?_setIfInBounds_ne (by omega), r2, e]
 · refine ⟨?_, ?_, ?_⟩
   · rw [Array.getElem?_setIfInBounds_ne (by omega), r0, e]
   · rw [Array.getElem?_setIfInBounds_ne (by omega), r1, e]
   · exact set_self _ _ _ (by omega)
theorem PoolAt.set_ga {w : World} {L : Lay} {M : List Sh} (h : PoolAt w L M) {k i : Nat} {m : Sh} {l : ShL} {x x' : Ix} (hm : M[k]? = some m) (hl : L.sh[k]? = some l) (hx : m.all[i]? = some x) (hb : x'.bound = x.bound)
 (hi : ShInv { m with all := m.all.set i x' }) : PoolAt ((w.setCell ⟨l.A, i * 3, none⟩ (int i64 x'.gen)).setCell ⟨l.A, i * 3 + 2, none⟩ (.bool x'.alive)) L (M.set k { m with all := m.all.set i x' }) := by
 have hil : i < m.all.length := (List.getElem?_eq_some_iff.1 hx).1
 have hc : Chg w ((w.setCell ⟨l.A, i * 3, none⟩ (int i64 x'.gen)).setCell ⟨l.A, i * 3 + 2, none⟩ (.bool x'.alive)) (fun b => b = l.A) :=
  ((Chg.refl w (fun b => b = l.A)).setCell ⟨l.A, i * 3, none⟩ (int i64 x'.gen) (.inl rfl)).setCell ⟨l.A, i * 3 + 2, none⟩ (.bool x'.alive) (.inl rfl)
 refine h.set_row hm hl hil hc (fun ca hca hsz hrow => ?_) hi
 have e1 := heap_setCell_same w l.A (i * 3) (int i64 x'.gen) ca _ _ hca
 have e2 := heap_setCell_same _ l.A (i * 3 + 2) (.bool x'.alive) _ _ _ e1
 refine ⟨_, e2, by simp, fun j hj => ?_, ?_, ?_, ?_⟩
 · rw [Array.getElem?_setIfInBounds_ne (by omega), Array.getElem?_setIfInBounds_ne (by omega)]
 · rw [Array.getElem?_setIfInBounds_ne (by omega)]; exact set_self _ _ _ (by omega)
 · rw [Array.getElem?_setIfInBounds_ne (by omega), Array.getElem?_setIfInBounds_ne (by omega), (hrow x hx).2.1, hb]
 · exact set_self _ _ _ (by simp; omega)
theorem PoolN.set_freeN {w w1 : World} {L : Lay} {M : List Sh} {n : Nat} (h : PoolN w L M n) {k : Nat} {m : Sh} {l : ShL} (hm : M[k]? = some m) (hl : L.sh[k]? = some l) {v : Value} {fr : List Int}
 (hc : Chg w w1 (fun b => l.fv.ownBlock = some b)) (hs : Sl w1 3 1 v fr.length (fr.map (Value.int .i64))) (hf : ∀ g, v.ownBlock = some g → l.fv.ownBlock = some g ∨ w.heap.size ≤ g)
 (hi : ShInv { m with free := fr }) : PoolN (w1.setCell ⟨L.S, k * 2 + 1, none⟩ v) (L.put k { l with fv := v }) (M.set k { m with free := fr }) n ∧ ∀ b, (L.put k { l with fv := v }).own b → L.own b ∨ w.heap.size ≤ b := by
 refine h.updN hl (l' := { l with fv := v }) rfl ((hc.mono fun b _ e => .inr (.inr e)).setCell _ _ (.inl (.inl rfl))) hf fun cur hcur hsz hsh => ⟨cur.setIfInBounds (k * 2 + 1) v, ?_, by simp, fun j hj => ?_, ?_⟩
 · exact heap_setCell_same _ _ _ _ _ _ _ ((hc.block _ (lt_of_heap hcur) fun e => h.S_ne_F hl e rfl).trans hcur)
 · rw [Array.getElem?_setIfInBounds_ne (by omega)]
 · have hs0 := hsh m l hm hl
   obtain ⟨ca, hca, hz, hr⟩ := hs0.rows
   have hkM : k < M.length := (List.getElem?_eq_some_iff.1 hm).1
   have hle := h.le
   refine ⟨?_, ?_, ⟨ca, ?_, hz, hr⟩, hs.keep fun g hg => ?_, hi⟩
   · rw [Array.getElem?_setIfInBounds_ne (by omega)]; exact hs0.slA
   · exact set_self _ _ _ (by omega)
   · rw [Below.heap_setCell _ _ _ _ (h.S_ne_A hl).symm]
     exact (hc.block _ (lt_of_heap hca) fun e => h.A_ne_F hl hl e rfl).trans hca
   · refine Below.heap_setCell _ _ _ _ fun e => ?_
     rcases hf g hg with e2 | e2
     · exact h.S_ne_F hl e2 e.symm
     · have : g < w.heap.size := by rw [e]; exact lt_of_heap hcur
       omega
theorem PoolAt.set_free {w w1 : World} {L : Lay} {M : List Sh} (h : PoolAt w L M) {k : Nat} {m : Sh} {l : ShL} (hm : M[k]? = some m) (hl : L.sh[k]? = some l) {v : Value} {fr : List Int}
 (hc : Chg w w1 (fun b => l.fv.ownBlock = some b)) (hs : Sl w1 3 1 v fr.length (fr.map (Value.int .i64))) (hf : ∀ g, v.ownBlock = some g → l.fv.ownBlock = some g ∨ w.heap.size ≤ g)
 (hi : ShInv { m with free := fr }) : PoolAt (w1.setCell ⟨L.S, k * 2 + 1, none⟩ v) (L.put k { l with fv := v }) (M.set k { m with free := fr }) ∧ ∀ b, (L.put k { l with fv := v }).own b → L.own b ∨ w.heap.size ≤ b := by
 have := h.set_freeN hm hl hc hs hf hi
 exact ⟨this.1.toAt (by simp), this.2⟩
theorem Stp.same {w w' : World} {L : Lay} {M' : List Sh} (h : PoolAt w' L M') (hc : Chg w w' L.own) : Stp w L w' M' := ⟨L, rfl, h, hc, fun _ h => .inl h⟩
theorem nodup_le : ∀ (n : Nat) (l : List Int), l.Nodup → (∀ f ∈ l, 0 ≤ f ∧ f < n) → l.length ≤ n
 | 0, l, _, h => by
   cases l with
   | nil => simp
   | cons a t => have := h a (by simp); omega
 | n + 1, l, hn, h => by
   have h1 := nodup_le n (l.erase (n : Int)) (hn.erase _) (fun f hf => by
    have hm := (List.Nodup.mem_erase_iff hn).1 hf
    have := h f hm.2
    exact ⟨this.1, by omega⟩)
   by_cases hm : (n : Int) ∈ l
   · rw [List.length_erase_of_mem hm] at h1; omega
   · rw [List.erase_of_not_mem hm] at h1; omega
theorem ShInv.free_le {m : Sh} (h : ShInv m) : m.free.length ≤ 16 := by
 have := nodup_le m.all.length m.free h.nd h.fr
 have := h.few
 omega
def shOf (M : List Sh) (k : Int) : Option Sh := if 0 ≤ k then M[k.toNat]? else none
def ixOf (M : List Sh) (k i : Int) : Option Ix := (shOf M k).bind fun m => if 0 ≤ i then m.all[i.toNat]? else none
theorem shOf_nat {w : World} {L : Lay} {M : List Sh} (h : PoolAt w L M) {k : Int} {m : Sh} (hm : shOf M k = some m) : ∃ (k' : Nat) (l : ShL), k = k' ∧ M[k']? = some m ∧ L.sh[k']? = some l := by
 unfold shOf at hm
 split at hm
 · have hk : k.toNat < L.sh.length := by rw [h.len]; exact (List.getElem?_eq_some_iff.1 hm).1
   exact ⟨k.toNat, L.sh[k.toNat], by omega, hm, List.getElem?_eq_getElem hk⟩
 · cases hm
theorem ixOf_nat {w : World} {L : Lay} {M : List Sh} (h : PoolAt w L M) {k i : Int} {x : Ix} (hx : ixOf M k i = some x) : ∃ (k' i' : Nat) (m : Sh) (l : ShL), k = k' ∧ i = i' ∧ M[k']? = some m ∧ L.sh[k']? = some l ∧ m.all[i']? = some x := by
 unfold ixOf at hx
 obtain ⟨m, hm, hy⟩ := Option.bind_eq_some_iff.1 hx
 obtain ⟨k', l, hk, hm', hl⟩ := shOf_nat h hm
 split at hy
 · exact ⟨k', i.toNat, m, l, hk, by omega, hm', hl, hy⟩
 · cases hy
theorem PoolN.sh {w : World} {L : Lay} {M : List Sh} {n : Nat} (h : PoolN w L M n) {k : Nat} {m : Sh} {l : ShL} (hm : M[k]? = some m) (hl : L.sh[k]? = some l) :
 w.cell? ⟨L.S, k * 2, none⟩ = some (.slice (some ⟨l.A, 0, none⟩) m.all.length m.all.length) ∧ w.cell? ⟨L.S, k * 2 + 1, none⟩ = some l.fv ∧ (∀ o, w.frozen? ⟨L.S, o, none⟩ = false) ∧ (∀ o, w.frozen? ⟨l.A, o, none⟩ = false) ∧ ShInv m ∧ k < M.length ∧ Sl w 3 1 l.fv m.free.length (m.free.map (Value.int .i64)) := by
 obtain ⟨cur, hcur, _, _, hsh⟩ := h.shards
 have hs := hsh k m l hm hl
 obtain ⟨ca, hca, _⟩ := hs.rows
 exact ⟨by simp [World.cell?, hcur, hs.slA], by simp [World.cell?, hcur, hs.slF], fun o => by simp [World.frozen?, hcur], fun o => by simp [World.frozen?, hca], hs.inv, (List.getElem?_eq_some_iff.1 hm).1, hs.free⟩
theorem PoolN.ix {w : World} {L : Lay} {M : List Sh} {n : Nat} (h : PoolN w L M n) {k i : Nat} {m : Sh} {l : ShL} {x : Ix} (hm : M[k]? = some m) (hl : L.sh[k]? = some l) (hx : m.all[i]? = some x) :
 w.cell? ⟨l.A, i * 3, none⟩ = some (int i64 x.gen) ∧ w.cell? ⟨l.A, i * 3 + 1, none⟩ = some (int i64 x.bound) ∧ w.cell? ⟨l.A, i * 3 + 2, none⟩ = some (.bool x.alive) := by
 obtain ⟨cur, hcur, _, _, hsh⟩ := h.shards
 have hs := hsh k m l hm hl
 obtain ⟨ca, hca, _, hr⟩ := hs.rows
 obtain ⟨r0, r1, r2⟩ := hr i x hx
 exact ⟨by simp [World.cell?, hca, r0], by simp [World.cell?, hca, r1], by simp [World.cell?, hca, r2]⟩
theorem of_none (w : World) (k : Int) : Calls prog 128 #[.pointer none, int i64 k] w fun e w' => e = .returned (.pointer none) ∧ w = w' := by
 go_enter Tryz.func128, Tryz.ntmps128
 go_wp2
 go_ret
 exact ⟨rfl, rfl⟩
theorem of_any (w : World) (L : Lay) (M : List Sh) (k : Int) (h : PoolAt w L M) :
 Calls prog 128 #[.pointer (some ⟨L.P, 0, none⟩), int i64 k] w fun e w' => e = .returned (.pointer (if 0 ≤ k ∧ k < M.length then some ⟨L.S, k.toNat * 2, none⟩ else none)) ∧ w = w' := by
 have hf := h.few
 have hc : w.cell? ⟨L.P, 0, none⟩ = some (.slice (some ⟨L.S, 0, none⟩) M.length M.length) := by simp [World.cell?, h.top]
 generalize M.length = n at *
 by_cases h1 : 0 ≤ k ∧ k < n
 · rw [if_pos h1]
   obtain ⟨h1, h2⟩ := h1
   go_enter Tryz.func128, Tryz.ntmps128
   go_wp2
   go_ret
   exact ⟨rfl, rfl⟩
 · rw [if_neg h1]
   by_cases h2 : k < 0
   · go_enter Tryz.func128, Tryz.ntmps128
     go_wp2
     go_ret
     exact ⟨rfl, rfl⟩
   · have h3 : (n : Int) ≤ k := by omega
     clear h1
     go_enter Tryz.func128, Tryz.ntmps128
     go_wp2
     go_ret
     exact ⟨rfl, rfl⟩
theorem of_in (w : World) (L : Lay) (M : List Sh) (k : Nat) (m : Sh) (h : PoolAt w L M) (hm : M[k]? = some m) :
 Calls prog 128 #[.pointer (some ⟨L.P, 0, none⟩), int i64 k] w fun e w' => e = .returned (.pointer (some ⟨L.S, k * 2, none⟩)) ∧ w = w' := by
 have hk : k < M.length := (List.getElem?_eq_some_iff.1 hm).1
 have hof := of_any w L M k h
 rwa [if_pos (by omega), Int.toNat_natCast] at hof
theorem of_out (w : World) (L : Lay) (M : List Sh) (k : Int) (h : PoolAt w L M) (hm : shOf M k = none) :
 Calls prog 128 #[.pointer (some ⟨L.P, 0, none⟩), int i64 k] w fun e w' => e = .returned (.pointer none) ∧ w = w' := by
 have hof := of_any w L M k h
 rwa [if_neg] at hof
 rintro ⟨h1, h2⟩
 unfold shOf at hm
 rw [if_pos h1, List.getElem?_eq_none_iff] at hm
 omega
theorem at_in (w : World) (L : Lay) (M : List Sh) (k i : Nat) (m : Sh) (l : ShL) (h : PoolAt w L M) (hm : M[k]? = some m) (hl : L.sh[k]? = some l) (hi : i < m.all.length) :
 Calls prog 125 #[.pointer (some ⟨L.P, 0, none⟩), int i64 k, int i64 i] w fun e w' => e = .returned (.tuple #[.pointer (some ⟨L.S, k * 2, none⟩), .pointer (some ⟨l.A, i * 3, none⟩)]) ∧ Below w.heap.size w w' := by
 obtain ⟨hcA, _, _, _, hinv, hk, _⟩ := h.sh hm hl
 have hsm := hinv.few
 have hof := of_in w L M k m h hm
 have HOF := hid hof
 clear hof hm hl hinv
 generalize m.all.length = q at *
 go_enter Tryz.func125, Tryz.ntmps125
 go_wp2_with (go_at_call 128; refine HOF.out.mono ?_; rintro e w' ⟨rfl, rfl⟩)
 go_quiet (fail)
 go_wp2
 go_ret2
 exact ⟨rfl, below_drewN (Below.refl _ _) _⟩
theorem at_none (w : World) (k i : Int) : Calls prog 125 #[.pointer none, int i64 k, int i64 i] w fun e w' => e = .returned (.tuple #[.pointer none, .pointer none]) ∧ Below w.heap.size w w' := by
 go_enter Tryz.func125, Tryz.ntmps125
 go_wp2_with (go_at_call 128; refine eqA (of_none _ _) ?_)
 go_ret2
 exact ⟨rfl, Below.refl _ _⟩
theorem at_out (w : World) (L : Lay) (M : List Sh) (k i : Int) (h : PoolAt w L M) (ho : ixOf M k i = none) :
 Calls prog 125 #[.pointer (some ⟨L.P, 0, none⟩), int i64 k, int i64 i] w fun e w' => e = .returned (.tuple #[.pointer none, .pointer none]) ∧ Below w.heap.size w w' := by
 cases hm : shOf M k with
 | none =>
   have HOF := hid (of_out w L M k h hm)
   clear hm ho
   go_enter Tryz.func125, Tryz.ntmps125
   go_wp2_with (go_at_call 128; refine HOF.out.mono ?_; rintro e w' ⟨rfl, rfl⟩)
   go_ret2
   exact ⟨rfl, Below.refl _ _⟩
 | some m =>
   simp only [ixOf, hm, Option.bind_some] at ho
   obtain ⟨k', l, rfl, hm', hl⟩ := shOf_nat h hm
   have HOF := hid (of_in w L M k' m h hm')
   obtain ⟨hcA, _, _, _, hinv, hk, _⟩ := h.sh hm' hl
   have hsm := hinv.few
   clear hm hm' hl hinv
   by_cases h2 : i < 0
   · clear ho
     generalize m.all.length = q at *
     go_enter Tryz.func125, Tryz.ntmps125
     go_wp2_with (go_at_call 128; refine HOF.out.mono ?_; rintro e w' ⟨rfl, rfl⟩)
     go_ret2
     exact ⟨rfl, Below.refl _ _⟩
   · have h3 : (m.all.length : Int) ≤ i := by rw [if_pos (by omega), List.getElem?_eq_none_iff] at ho; omega
     clear ho
     generalize m.all.length = q at *
     go_enter Tryz.func125, Tryz.ntmps125
     go_wp2_with (go_at_call 128; refine HOF.out.mono ?_; rintro e w' ⟨rfl, rfl⟩)
     go_ret2
     exact ⟨rfl, Below.refl _ _⟩
theorem gen_out (w : World) (L : Lay) (M : List Sh) (k i : Int) (h : PoolAt w L M) (ho : ixOf M k i = none) :
 Calls prog 87 #[.pointer (some ⟨L.P, 0, none⟩), int i64 k, int i64 i] w fun e w' => e = .returned (int i64 0) ∧ Below w.heap.size w w' := by
 have HAT := hid (at_out w L M k i h ho)
 clear ho
 go_enter Tryz.func87, Tryz.ntmps87
 go_wp2_with (go_at_call 125; refine HAT.out.mono ?_; rintro e w' ⟨rfl, hb⟩)
 go_ret
 exact ⟨rfl, hb⟩
theorem gen_in (w : World) (L : Lay) (M : List Sh) (k i : Int) (x : Ix) (h : PoolAt w L M) (hx : ixOf M k i = some x) :
 Calls prog 87 #[.pointer (some ⟨L.P, 0, none⟩), int i64 k, int i64 i] w fun e w' => e = .returned (int i64 x.gen) ∧ Below w.heap.size w w' := by
 obtain ⟨k, i, m, l, rfl, rfl, hm, hl, hx⟩ := ixOf_nat h hx
 obtain ⟨c0, c1, c2⟩ := h.ix hm hl hx
 have HAT := hid (at_in w L M k i m l h hm hl (List.getElem?_eq_some_iff.1 hx).1)
 clear hm hl hx
 go_enter Tryz.func87, Tryz.ntmps87
 go_wp2_with (go_at_call 125; refine HAT.out.mono ?_; rintro e w' ⟨rfl, hb⟩; have c0' := cell_keep hb c0)
 go_ret
 exact ⟨rfl, hb⟩
def aliveF (M : List Sh) (s i g : Int) : Bool := match ixOf M s i with
 | none => false
 | some x => x.alive && x.gen == g
theorem alive_none (w : World) (s i g : Int) :
 Calls prog 84 #[.pointer none, .agg #[int i64 s, int i64 i, int i64 g]] w fun e w' => e = .returned (.bool false) ∧ Below w.heap.size w w' := by
 go_enter Tryz.func84, Tryz.ntmps84
 go_wp2_with (go_at_call 125; refine belA (at_none _ _ _) fun d os => ?_)
 go_quiet (fail)
 go_wp2
 go_ret
 exact ⟨rfl, bg⟩
theorem alive_any (w : World) (L : Lay) (M : List Sh) (s i g : Int) (h : PoolAt w L M) :
 Calls prog 84 #[.pointer (some ⟨L.P, 0, none⟩), .agg #[int i64 s, int i64 i, int i64 g]] w fun e w' => e = .returned (.bool (aliveF M s i g)) ∧ Below w.heap.size w w' := by
 have hb0 : Below w.heap.size w (w.alloc (.cells #[int i64 s, int i64 i, int i64 g] 30)) := (Below.refl _ _).alloc (Nat.le_refl _) _
 unfold aliveF
 cases hx : ixOf M s i with
 | none =>
   have HAT := hid (at_out _ L M s i (h.grown hb0) hx)
   clear hx hb0
   go_enter Tryz.func84, Tryz.ntmps84
   go_wp2_with (go_at_call 125; refine belA (HAT.out) fun d os => ?_)
   go_quiet (fail)
   go_wp2
   go_ret
   exact ⟨rfl, bg⟩
 | some x =>
   obtain ⟨s, i, m, l, rfl, rfl, hm, hl, hx'⟩ := ixOf_nat h hx
   have HAT := hid (at_in _ L M s i m l (h.grown hb0) hm hl (List.getElem?_eq_some_iff.1 hx').1)
   obtain ⟨c0, c1, c2⟩ := (h.grown hb0).ix hm hl hx'
   have k0 := fun d os => cell_keep (more_below _ d os) c0
   have k2 := fun d os => cell_keep (more_below _ d os) c2
   clear hx hm hl hx' hb0 c0 c1 c2
   obtain ⟨gen, bound, alive⟩ := x
   cases alive with
   | false =>
     go_enter Tryz.func84, Tryz.ntmps84
     go_wp2_with (go_at_call 125; refine belA (HAT.out) fun d os => ?_)
     go_quiet (fail)
     go_wp2
     go_ret
     exact ⟨rfl, bg⟩
   | true =>
     go_enter Tryz.func84, Tryz.ntmps84
     go_wp2_with (go_at_call 125; refine belA (HAT.out) fun d os => ?_)
     go_quiet (fail)
     go_wp2
     go_ret
     exact ⟨rfl, bg⟩
end Go.Proofs.YtoimjjhopljdmaaGreat

/-
  slices.SortStableFunc's helpers over entities: swapRange, rotate. Condition: how the row lies.
-/
import Derived.Test.YtcnclcfipabimaaBase
import Derived.Shelf.SlSortCmp.KitK
import Derived.Sort.WalkB2
import Derived.Sort.WalkB12
namespace Go.Proofs.Ytcnclcfipabimaa
open Go.Shelf Go.RowKit Go.Lib Go.Sort Go.Proofs

variable {α : Type} [Inhabited α]

/-- n elements from a on exchanged with those from b on. -/
def swapN (a b : Nat) : Nat → Array α → Array α
  | 0, d => d
  | n + 1, d => swp (swapN a b n d) (a + n) (b + n)
theorem size_swapN (a b : Nat) : ∀ (n : Nat) (d : Array α), (swapN a b n d).size = d.size
  | 0, _ => rfl
  | n + 1, d => by rw [swapN, size_swp, size_swapN a b n d]

/-- A load, and a store, of a whole entity: behind a name, so that the walk leaves them whole. -/
def ldB (a : Addr) : Sem Value := loadVar 41 a
def stB (a : Addr) (v : Value) : Sem Unit := storeVar 41 a v
theorem loadVar_ldB (a : Addr) : loadVar 41 a = ldB a := rfl
theorem storeVar_stB (a : Addr) (v : Value) : storeVar 41 a v = stB a v := rfl

theorem ldB_of {W : World} {a : Addr} {cs : List Value} (h : Sem.run Try.prog (loadCellsFrom a 0 11 #[]) W = .ok cs.toArray W) : (ldB a).run Try.prog W = .ok (.agg cs.toArray) W := by
  simp [ldB, loadVar, loadCells, h]
theorem stB_of {W W' : World} {a : Addr} {cs : List Value} (hl : cs.length = 11) (h : Sem.run Try.prog (storeCells a cs 0) W = .ok () W') : (stB a (.agg cs.toArray)).run Try.prog W = .ok () W' := by
  simp [stB, storeVar, Value.cells, hl, h]
attribute [local go_sem ↓] loadVar_ldB storeVar_stB

set_option maxHeartbeats 4000000 in
set_option maxRecDepth 1000000 in
theorem swapRange (enc : α → List Value) (f : Value) (blk off cap a b n : Nat) (d0 d : Array α) (w0 w : World)
    (R : RowK enc 11 w0 blk off d0) (hs : d0.size = d.size) (S : SWK enc 11 w0 blk off d w) (ha : a + n ≤ d.size) (hb : b + n ≤ d.size) (hsz : d.size < 4611686018427387904) :
    Calls Try.prog 162 #[.slice (some ⟨blk, off, none⟩) d.size cap, .int .i64 a, .int .i64 b, .int .i64 n, f] w fun e w' => e = .returned (.tuple #[]) ∧ SWK enc 11 w0 blk off (swapN a b n d) w' := by
  have mixed : Try.prog.follows .mixedOrders = true := by kernel_rfl
  have S0 : Aside (SWK enc 11 w0 blk off d w) := S
  clear S
  go_enter Try.func162, Try.ntmps162
  go_wp2_with fail
  go_loopg [10] n (fun kx s wr => ∃ (i : Nat) (dk : Array α), s = .int .i64 i ∧ i ≤ n ∧ n - i ≤ kx ∧ dk.size = d.size ∧ dk = swapN a b i d ∧ Aside (SWK enc 11 w0 blk off dk wr))
  case atStart => exact ⟨0, d, rfl, by omega, by omega, rfl, rfl, S0⟩
  case round =>
    clear S0
    obtain ⟨i, dk, rfl, hin, hkx, hds, heq, S1⟩ := hrel
    have HEQ := Lib.hid heq
    clear heq
    by_cases hlt : i < n
    · have hltz : (i : Int) < (n : Int) := by omega
      go_wp2_with fail
      have ea44 : ((a : Int) + (i : Int)).toNat = a + i := by omega
      have pa44 : (0 : Int) ≤ (a : Int) + (i : Int) := by omega
      have ba44 : (a : Int) + (i : Int) < (d.size : Int) := by omega
      have ra44 : IntKind.i64.wrap ((a : Int) + (i : Int)) = (a : Int) + (i : Int) := by rw [IntKind.wrap_i64]; omega
      have ec44 : ((b : Int) + (i : Int)).toNat = b + i := by omega
      have pc44 : (0 : Int) ≤ (b : Int) + (i : Int) := by omega
      have bc44 : (b : Int) + (i : Int) < (d.size : Int) := by omega
      have rc44 : IntKind.i64.wrap ((b : Int) + (i : Int)) = (b : Int) + (i : Int) := by rw [IntKind.wrap_i64]; omega
      have S2 : Aside (SWK enc 11 w0 blk off (swp dk (a + i) (b + i)) ((wr.drew.setCells blk (off + (a + i) * 11) (enc dk[b + i]!)).setCells blk (off + (b + i) * 11) (enc dk[a + i]!))) := S1.out.swapped R (a + i) (b + i) (by omega) (by omega)
      have l44a := ldB_of (S1.out.ld1 R (by omega) Try.prog (a + i) (by omega))
      have l44b := ldB_of (S1.out.ld1 R (by omega) Try.prog (b + i) (by omega))
      have s44a := stB_of (R.hk _) (S1.out.st1 R (by omega) Try.prog (a + i) (by omega) dk[b + i]!)
      have s44b := stB_of (R.hk _) (S1.out.st2 R (by omega) Try.prog (a + i) (b + i) (by omega) (by omega) dk[b + i]! dk[a + i]!)
      generalize enc dk[a + i]! = cI44 at S2 l44a s44b
      generalize enc dk[b + i]! = cJ44 at S2 l44b s44a s44b
      clear S1
      go_wp2_with fail
      go_big_region_o
      clear l44a l44b s44a s44b
      generalize (wr.drew.setCells blk (off + (a + i) * 11) cJ44).setCells blk (off + (b + i) * 11) cI44 = w2 at S2 ⊢
      go_wp2
      go_roundg (n - (i + 1))
      case measure => omega
      case rel =>
        exact ⟨i + 1, swp dk (a + i) (b + i), by simp, by omega, by omega, by rw [size_swp]; exact hds, by rw [HEQ.out]; rfl, S2⟩
    · have hnot : ¬ (i : Int) < (n : Int) := by omega
      go_wp2
      go_returns
      refine ⟨rfl, ?_⟩
      obtain rfl : i = n := by omega
      rw [← HEQ.out]
      exact S1.out
end Go.Proofs.Ytcnclcfipabimaa

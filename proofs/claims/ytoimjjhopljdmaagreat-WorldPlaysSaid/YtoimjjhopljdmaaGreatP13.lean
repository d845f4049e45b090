/- Texts SoC SoD SoE SoF SoG: what the claim reaches of them. Conditions stand at each theorem. -/
import Derived.Shelf.SlSortCmp.Insertion
import Derived.Test.YtoimjjhopljdmaaGreatP12
set_option maxRecDepth 100000
set_option maxHeartbeats 8000000
namespace Go.Proofs.YtoimjjhopljdmaaGreat
open Go.RowKit
open Go.Proofs.Tryz (prog)
open Go.Value (int)
open Go.IntKind (i64)
open Go.Lib (hid)
section
open Go.Shelf Go.Lib Go.Sort Go.Proofs
variable {α : Type} [Inhabited α]
def Rotd (enc : α → List Value) (w0 : World) (blk off : Nat) (d : Array α) (a m b : Nat) (w' : World) : Prop :=
 ∃ d' : Array α, d'.size = d.size ∧ (∀ t, d'[t]! = rotG d a m b t) ∧ SWK enc 11 w0 blk off d' w'
theorem rotate_any (enc : α → List Value) (f : Value) (blk off cap a m b : Nat) (d0 d : Array α) (w0 w : World)
 (R : RowK enc 11 w0 blk off d0) (hs : d0.size = d.size) (S : SWK enc 11 w0 blk off d w) (ham : a < m) (hmb : m < b) (hb : b ≤ d.size) (hsz : d.size < 4611686018427387904) :
 Calls prog 181 #[.slice (some ⟨blk, off, none⟩) d.size cap, int i64 a, int i64 m, int i64 b, f] w fun e w' => e = .returned (.tuple #[]) ∧ Rotd enc w0 blk off d a m b w' := by
 have S0 : Aside (SWK enc 11 w0 blk off d w) := S
 clear S
 have b1 : (b : Int) ≤ (d.size : Int) := by omega
 have b2 : (a : Int) < (m : Int) := by omega
 have b3 : (m : Int) < (b : Int) := by omega
 go_enter Tryz.func181, Tryz.ntmps181
 go_wp2_with fail
 go_loopg [10, 11] (b - a) (fun kx si sj wr => ∃ (i j : Nat) (dk : Array α), si = int i64 i ∧ sj = int i64 j ∧ 0 < i ∧ 0 < j ∧ i ≤ m ∧ m + j ≤ d.size ∧ i + j ≤ kx ∧ dk.size = d.size ∧ Hid (∀ t, rotG dk (m - i) m (m + j) t = rotG d a m b t) ∧ Aside (SWK enc 11 w0 blk off dk wr))
 case atStart => exact ⟨m - a, b - m, d, by congr 1; omega, by congr 1; omega, by omega, by omega, by omega, by omega, by omega, rfl, hid (fun t => by rw [show m - (m - a) = a by omega, show m + (b - m) = b by omega]), S0⟩
 case round =>
  clear S0
  obtain ⟨i, j, dk, rfl, rfl, hi0, hj0, him, hjs, hkx, hds, HE, S1⟩ := hrel
  have c1 : (i : Int) ≤ (m : Int) := by omega
  have c2 : (m : Int) + (j : Int) ≤ (d.size : Int) := by omega
  have c3 : 0 < (i : Int) := by omega
  have c4 : 0 < (j : Int) := by omega
  by_cases hij : j < i
  · have t1 : (j : Int) < (i : Int) := by omega
    have t2 : ((i : Int) != (j : Int)) = true := by simp; omega
    have q1 := swapRange enc f blk off cap (m - i) (m) j d0 dk w0 wr R (by omega) S1.out (by omega) (by omega) (by omega)
    rw [hds, show ((m - i : Nat) : Int) = (m : Int) - (i : Int) by omega, show ((m : Nat) : Int) = (m : Int) by omega] at q1
    have Q1 := hid q1
    clear q1
    go_wp2_with fail
    refine Q1.out.mono ?_
    rintro e w1 ⟨rfl, S2⟩
    have S3 : Aside _ := S2
    clear S2
    go_wp2_with fail
    go_roundg (i - j + j)
    case measure => omega
    case rel => exact ⟨i - j, j, swapN (m - i) m j dk, by congr 1; omega, rfl, by omega, hj0, by omega, hjs, by omega, by rw [size_swapN]; exact hds, hid (fun t => by rw [← HE.out t]; exact rot_left dk m i j him hij (by omega) t), S3⟩
  · by_cases hji : i < j
    · have t1 : ¬ (j : Int) < (i : Int) := by omega
      have t2 : ((i : Int) != (j : Int)) = true := by simp; omega
      have q1 := swapRange enc f blk off cap (m - i) (m + j - i) i d0 dk w0 wr R (by omega) S1.out (by omega) (by omega) (by omega)
      rw [hds, show ((m - i : Nat) : Int) = (m : Int) - (i : Int) by omega, show ((m + j - i : Nat) : Int) = (m : Int) + (j : Int) - (i : Int) by omega] at q1
      have Q1 := hid q1
      clear q1
      go_wp2_with fail
      refine Q1.out.mono ?_
      rintro e w1 ⟨rfl, S2⟩
      have S3 : Aside _ := S2
      clear S2
      go_wp2_with fail
      go_roundg (i + (j - i))
      case measure => omega
      case rel => exact ⟨i, j - i, swapN (m - i) (m + j - i) i dk, rfl, by congr 1; omega, hi0, by omega, him, by omega, by omega, by rw [size_swapN]; exact hds, hid (fun t => by rw [← HE.out t]; exact rot_right dk m i j him hji (by omega) t), S3⟩
    · obtain rfl : i = j := by omega
      clear hij hji
      have q1 := swapRange enc f blk off cap (m - i) (m) i d0 dk w0 wr R (by omega) S1.out (by omega) (by omega) (by omega)
      rw [hds, show ((m - i : Nat) : Int) = (m : Int) - (i : Int) by omega, show ((m : Nat) : Int) = (m : Int) by omega] at q1
      have Q1 := hid q1
      clear q1
      go_wp2_with fail
      refine Q1.out.mono ?_
      rintro e w1 ⟨rfl, S2⟩
      have S3 : Aside _ := S2
      clear S2
      go_wp2_with fail
      go_returns
      exact ⟨rfl, swapN (m - i) m i dk, by rw [size_swapN]; exact hds, fun t => by rw [← HE.out t]; exact rot_end dk m i him (by omega) t, S3.out⟩
end
section
open Go.Shelf Go.Lib Go.Sort Go.Proofs
attribute [local go_sem ↓] loadVar_ldB storeVar_stB
variable {α : Type} [Inhabited α]
def Mrgd (enc : α → List Value) (w0 : World) (blk off : Nat) (lt : α → α → Bool) (d : Array α) (a b : Nat) (w' : World) : Prop :=
 ∃ d' : Array α, d'.size = d.size ∧ MPost lt d a b d' ∧ SWK enc 11 w0 blk off d' w'
theorem sym_left (enc : α → List Value) (cf : α → α → Int) (lt : α → α → Bool) (hS : SWO lt) (g : Nat) (cb : Array Value) (blk off cap a m b : Nat) (d0 d : Array α) (w0 w : World)
 (eg : ∀ args w, (callFunc g args).run prog w = .ok (.enter g args) w) (hcmp : CmpLays prog g cb enc 11 cf blk off d0.size w0)
 (R : RowK enc 11 w0 blk off d0) (hs : d0.size = d.size) (S : SWK enc 11 w0 blk off d w) (hM : MPre cf lt d a m b) (ham : m = a + 1) (hmb : m < b) (hsz : d.size < 4611686018427387904) :
 Calls prog 174 #[.slice (some ⟨blk, off, none⟩) d.size cap, int i64 a, int i64 m, int i64 b, .func (.func g) #[] cb] w fun e w' => e = .returned (.tuple #[]) ∧ Mrgd enc w0 blk off lt d a b w' := by
 have mixed : prog.follows .mixedOrders = true := by kernel_rfl
 have S0 : Aside (SWK enc 11 w0 blk off d w) := S
 have HM := hid hM
 have HSO := hid hS
 have HC : Aside _ := hcmp
 have bs := hM.bs
 clear S hM hS hcmp
 have t0 : ((m : Int) - (a : Int) == 1) = true := by simp; omega
 have am1 : m ≤ a + 1 := by omega
 have am2 : a + 1 ≤ m := by omega
 clear ham
 go_enter Tryz.func174, Tryz.ntmps174
 go_wp2_with fail
 go_loopg [10, 11] (b - m) (fun kx si sj wr => ∃ (i j : Nat), si = int i64 i ∧ sj = int i64 j ∧ m ≤ i ∧ i ≤ j ∧ j ≤ b ∧ j - i ≤ kx ∧ Hid (i = m ∨ cf d[i - 1]! d[a]! < 0) ∧ Hid (j = b ∨ ¬ cf d[j]! d[a]! < 0) ∧ Aside (SWK enc 11 w0 blk off d wr))
 case atStart => exact ⟨m, b, rfl, rfl, by omega, by omega, by omega, by omega, hid (.inl rfl), hid (.inl rfl), S0⟩
 case round =>
  clear S0
  obtain ⟨i, j, rfl, rfl, hmi, hij, hjb, hkx, HI, HJ, S1⟩ := hrel
  by_cases hlt : i < j
  · have t1 : (i : Int) < (j : Int) := by omega
    obtain ⟨h, hh, hih, hhj⟩ : ∃ h : Nat, ((i : Int) + (j : Int)) / 2 = (h : Int) ∧ i ≤ h ∧ h < j := ⟨(i + j) / 2, by omega, by omega, by omega⟩
    have ea1 : ((h : Int)).toNat = h := by omega
    have pa1 : (0 : Int) ≤ (h : Int) := by omega
    have ba1 : (h : Int) < (d.size : Int) := by omega
    have ra1 : IntKind.i64.wrap ((h : Int)) = (h : Int) := by rw [IntKind.wrap_i64]; omega
    have ea2 : ((a : Int)).toNat = a := by omega
    have pa2 : (0 : Int) ≤ (a : Int) := by omega
    have ba2 : (a : Int) < (d.size : Int) := by omega
    have ra2 : IntKind.i64.wrap ((a : Int)) = (a : Int) := by rw [IntKind.wrap_i64]; omega
    by_cases hc : cf d[h]! d[a]! < 0
    · have HCD := hid hc
      have hcd : decide (cf d[h]! d[a]! < 0) = true := by simpa using hc
      clear hc
      have lA : ∀ n' os', (ldB ⟨blk, off + (h) * 11, none⟩).run prog (grow (wr.drewN n') os') = .ok (.agg (enc d[h]!).toArray) (grow (wr.drewN n') os') := fun n' os' => ldB_of (S1.out.ld R (by omega) prog (h) (by omega) n' os')
      have lB : ∀ n' os', (ldB ⟨blk, off + (a) * 11, none⟩).run prog (grow (wr.drewN n') os') = .ok (.agg (enc d[a]!).toArray) (grow (wr.drewN n') os') := fun n' os' => ldB_of (S1.out.ld R (by omega) prog (a) (by omega) n' os')
      have hcg := fun n' os' => S1.out.cmp HC (by omega) d[h]! d[a]! n' os'
      have GR : Hid (∀ n' os', SWK enc 11 w0 blk off d (grow (wr.drewN n') os')) := fun n' os' => S1.out.grown n' os'
      generalize hX : d[h]! = X at lA hcg hcd
      generalize hY : d[a]! = Y at lB hcg hcd
      have HX := hid hX
      have HY := hid hY
      clear hX hY S1
      go_wp2_with fail
      go_quiet_grown (first | (go_at_fn g; refine Calls.grown_of (hcg _ _)))
      go_wp2_with fail
      have S2 : Aside _ := GR.out nq osq
      clear lA lB hcg GR
      generalize grow (wr.drewN nq) osq = w2 at S2 ⊢
      go_roundg (j - (h + 1))
      case measure => omega
      case rel => exact ⟨h + 1, j, by go_num, rfl, by omega, by omega, hjb, by omega, hid (.inr (by rw [Nat.add_sub_cancel]; exact HCD.out)), HJ, S2⟩
    · have HCD := hid hc
      have hcd : decide (cf d[h]! d[a]! < 0) = false := by simpa using hc
      clear hc
      have lA : ∀ n' os', (ldB ⟨blk, off + (h) * 11, none⟩).run prog (grow (wr.drewN n') os') = .ok (.agg (enc d[h]!).toArray) (grow (wr.drewN n') os') := fun n' os' => ldB_of (S1.out.ld R (by omega) prog (h) (by omega) n' os')
      have lB : ∀ n' os', (ldB ⟨blk, off + (a) * 11, none⟩).run prog (grow (wr.drewN n') os') = .ok (.agg (enc d[a]!).toArray) (grow (wr.drewN n') os') := fun n' os' => ldB_of (S1.out.ld R (by omega) prog (a) (by omega) n' os')
      have hcg := fun n' os' => S1.out.cmp HC (by omega) d[h]! d[a]! n' os'
      have GR : Hid (∀ n' os', SWK enc 11 w0 blk off d (grow (wr.drewN n') os')) := fun n' os' => S1.out.grown n' os'
      generalize hX : d[h]! = X at lA hcg hcd
      generalize hY : d[a]! = Y at lB hcg hcd
      have HX := hid hX
      have HY := hid hY
      clear hX hY S1
      go_wp2_with fail
      go_quiet_grown (first | (go_at_fn g; refine Calls.grown_of (hcg _ _)))
      go_wp2_with fail
      have S2 : Aside _ := GR.out nq osq
      clear lA lB hcg GR
      generalize grow (wr.drewN nq) osq = w2 at S2 ⊢
      go_roundg (h - i)
      case measure => omega
      case rel => exact ⟨i, h, rfl, rfl, hmi, hih, by omega, by omega, HI, hid (.inr HCD.out), S2⟩
  · obtain rfl : i = j := by omega
    go_wp2_with fail
    go_loopg [13] (i - 1 - a) (fun kx sk wr => ∃ (k : Nat) (dk : Array α), sk = int i64 k ∧ a ≤ k ∧ k + 1 ≤ i ∧ i - 1 - k ≤ kx ∧ dk.size = d.size ∧ Hid (∀ t, dk[t]! = rotG d a (a + 1) (k + 1) t) ∧ Aside (SWK enc 11 w0 blk off dk wr))
    case atStart => exact ⟨a, d, rfl, by omega, by omega, by omega, rfl, hid (fun t => (rot_none d a t).symm), S1⟩
    case round =>
     clear S1
     obtain ⟨k, dk, rfl, hak, hki, hkx2, hds, HR, S1⟩ := hrel
     by_cases hlt2 : k + 1 < i
     · have t2 : (k : Int) < (i : Int) - 1 := by omega
       have ea1 : ((k : Int)).toNat = k := by omega
       have pa1 : (0 : Int) ≤ (k : Int) := by omega
       have ba1 : (k : Int) < (d.size : Int) := by omega
       have ra1 : IntKind.i64.wrap ((k : Int)) = (k : Int) := by rw [IntKind.wrap_i64]; omega
       have ea2 : ((k : Int) + 1).toNat = k + 1 := by omega
       have pa2 : (0 : Int) ≤ (k : Int) + 1 := by omega
       have ba2 : (k : Int) + 1 < (d.size : Int) := by omega
       have ra2 : IntKind.i64.wrap ((k : Int) + 1) = (k : Int) + 1 := by rw [IntKind.wrap_i64]; omega
       have S2 : Aside (SWK enc 11 w0 blk off (swp dk (k) (k + 1)) ((wr.drew.setCells blk (off + (k) * 11) (enc dk[k + 1]!)).setCells blk (off + (k + 1) * 11) (enc dk[k]!))) := S1.out.swapped R (k) (k + 1) (by omega) (by omega)
       have l44a := ldB_of (S1.out.ld1 R (by omega) prog (k) (by omega))
       have l44b := ldB_of (S1.out.ld1 R (by omega) prog (k + 1) (by omega))
       have s44a := stB_of (R.hk _) (S1.out.st1 R (by omega) prog (k) (by omega) dk[k + 1]!)
       have s44b := stB_of (R.hk _) (S1.out.st2 R (by omega) prog (k) (k + 1) (by omega) (by omega) dk[k + 1]! dk[k]!)
       generalize enc dk[k]! = cI44 at S2 l44a s44b
       generalize enc dk[k + 1]! = cJ44 at S2 l44b s44a s44b
       clear S1
       go_wp2_with fail
       go_big_region_o
       clear l44a l44b s44a s44b
       generalize (wr.drew.setCells blk (off + (k) * 11) cJ44).setCells blk (off + (k + 1) * 11) cI44 = w2 at S2 ⊢
       go_wp2
       go_roundg (i - 1 - (k + 1))
       case measure => omega
       case rel => exact ⟨k + 1, swp dk k (k + 1), by go_num, by omega, by omega, by omega, by rw [size_swp]; exact hds, hid (fun t => rot_up d dk a k hak (by omega) HR.out t), S2⟩
     · obtain rfl : i = k + 1 := by omega
       have t2 : ¬ (k : Int) < (k : Int) + 1 - 1 := by omega
       go_wp2_with fail
       go_returns
       obtain rfl : m = a + 1 := by omega
       exact ⟨rfl, dk, hds, merge_one_left HSO.out HM.out (by omega) (by omega) (by rcases HI.out with h | h; exact .inl h; exact .inr (by omega)) (by rcases HJ.out with h | h; exact .inl h; exact .inr (by omega)) hds HR.out, S1.out⟩
theorem sym_right (enc : α → List Value) (cf : α → α → Int) (lt : α → α → Bool) (hS : SWO lt) (g : Nat) (cb : Array Value) (blk off cap a m b : Nat) (d0 d : Array α) (w0 w : World)
 (eg : ∀ args w, (callFunc g args).run prog w = .ok (.enter g args) w) (hcmp : CmpLays prog g cb enc 11 cf blk off d0.size w0)
 (R : RowK enc 11 w0 blk off d0) (hs : d0.size = d.size) (S : SWK enc 11 w0 blk off d w) (hM : MPre cf lt d a m b) (ham : a + 2 ≤ m) (hmb : b = m + 1) (hsz : d.size < 4611686018427387904) :
 Calls prog 174 #[.slice (some ⟨blk, off, none⟩) d.size cap, int i64 a, int i64 m, int i64 b, .func (.func g) #[] cb] w fun e w' => e = .returned (.tuple #[]) ∧ Mrgd enc w0 blk off lt d a b w' := by
 have mixed : prog.follows .mixedOrders = true := by kernel_rfl
 have S0 : Aside (SWK enc 11 w0 blk off d w) := S
 have HM := hid hM
 have HSO := hid hS
 have HC : Aside _ := hcmp
 have bs := hM.bs
 clear S hM hS hcmp
 have t0 : ((m : Int) - (a : Int) == 1) = false := by simp; omega
 have t00 : ((b : Int) - (m : Int) == 1) = true := by simp; omega
 have am1 : b ≤ m + 1 := by omega
 have am2 : m + 1 ≤ b := by omega
 clear hmb
 go_enter Tryz.func174, Tryz.ntmps174
 go_wp2_with fail
 go_loopg [14, 15] (m - a) (fun kx si sj wr => ∃ (i j : Nat), si = int i64 i ∧ sj = int i64 j ∧ a ≤ i ∧ i ≤ j ∧ j ≤ m ∧ j - i ≤ kx ∧ Hid (i = a ∨ ¬ cf d[m]! d[i - 1]! < 0) ∧ Hid (j = m ∨ cf d[m]! d[j]! < 0) ∧ Aside (SWK enc 11 w0 blk off d wr))
 case atStart => exact ⟨a, m, rfl, rfl, by omega, by omega, by omega, by omega, hid (.inl rfl), hid (.inl rfl), S0⟩
 case round =>
  clear S0
  obtain ⟨i, j, rfl, rfl, hmi, hij, hjb, hkx, HI, HJ, S1⟩ := hrel
  by_cases hlt : i < j
  · have t1 : (i : Int) < (j : Int) := by omega
    obtain ⟨h, hh, hih, hhj⟩ : ∃ h : Nat, ((i : Int) + (j : Int)) / 2 = (h : Int) ∧ i ≤ h ∧ h < j := ⟨(i + j) / 2, by omega, by omega, by omega⟩
    have ea1 : ((h : Int)).toNat = h := by omega
    have pa1 : (0 : Int) ≤ (h : Int) := by omega
    have ba1 : (h : Int) < (d.size : Int) := by omega
    have ra1 : IntKind.i64.wrap ((h : Int)) = (h : Int) := by rw [IntKind.wrap_i64]; omega
    have ea2 : ((m : Int)).toNat = m := by omega
    have pa2 : (0 : Int) ≤ (m : Int) := by omega
    have ba2 : (m : Int) < (d.size : Int) := by omega
    have ra2 : IntKind.i64.wrap ((m : Int)) = (m : Int) := by rw [IntKind.wrap_i64]; omega
    by_cases hc : cf d[m]! d[h]! < 0
    · have HCD := hid hc
      have hcd : decide (cf d[m]! d[h]! < 0) = true := by simpa using hc
      clear hc
      have lA : ∀ n' os', (ldB ⟨blk, off + (m) * 11, none⟩).run prog (grow (wr.drewN n') os') = .ok (.agg (enc d[m]!).toArray) (grow (wr.drewN n') os') := fun n' os' => ldB_of (S1.out.ld R (by omega) prog (m) (by omega) n' os')
      have lB : ∀ n' os', (ldB ⟨blk, off + (h) * 11, none⟩).run prog (grow (wr.drewN n') os') = .ok (.agg (enc d[h]!).toArray) (grow (wr.drewN n') os') := fun n' os' => ldB_of (S1.out.ld R (by omega) prog (h) (by omega) n' os')
      have hcg := fun n' os' => S1.out.cmp HC (by omega) d[m]! d[h]! n' os'
      have GR : Hid (∀ n' os', SWK enc 11 w0 blk off d (grow (wr.drewN n') os')) := fun n' os' => S1.out.grown n' os'
      generalize hX : d[m]! = X at lA hcg hcd
      generalize hY : d[h]! = Y at lB hcg hcd
      have HX := hid hX
      have HY := hid hY
      clear hX hY S1
      go_wp2_with fail
      go_quiet_grown (first | (go_at_fn g; refine Calls.grown_of (hcg _ _)))
      go_wp2_with fail
      have S2 : Aside _ := GR.out nq osq
      clear lA lB hcg GR
      generalize grow (wr.drewN nq) osq = w2 at S2 ⊢
      go_roundg (h - i)
      case measure => omega
      case rel => exact ⟨i, h, rfl, rfl, hmi, hih, by omega, by omega, HI, hid (.inr HCD.out), S2⟩
    · have HCD := hid hc
      have hcd : decide (cf d[m]! d[h]! < 0) = false := by simpa using hc
      clear hc
      have lA : ∀ n' os', (ldB ⟨blk, off + (m) * 11, none⟩).run prog (grow (wr.drewN n') os') = .ok (.agg (enc d[m]!).toArray) (grow (wr.drewN n') os') := fun n' os' => ldB_of (S1.out.ld R (by omega) prog (m) (by omega) n' os')
      have lB : ∀ n' os', (ldB ⟨blk, off + (h) * 11, none⟩).run prog (grow (wr.drewN n') os') = .ok (.agg (enc d[h]!).toArray) (grow (wr.drewN n') os') := fun n' os' => ldB_of (S1.out.ld R (by omega) prog (h) (by omega) n' os')
      have hcg := fun n' os' => S1.out.cmp HC (by omega) d[m]! d[h]! n' os'
      have GR : Hid (∀ n' os', SWK enc 11 w0 blk off d (grow (wr.drewN n') os')) := fun n' os' => S1.out.grown n' os'
      generalize hX : d[m]! = X at lA hcg hcd
      generalize hY : d[h]! = Y at lB hcg hcd
      have HX := hid hX
      have HY := hid hY
      clear hX hY S1
      go_wp2_with fail
      go_quiet_grown (first | (go_at_fn g; refine Calls.grown_of (hcg _ _)))
      go_wp2_with fail
      have S2 : Aside _ := GR.out nq osq
      clear lA lB hcg GR
      generalize grow (wr.drewN nq) osq = w2 at S2 ⊢
      go_roundg (j - (h + 1))
      case measure => omega
      case rel => exact ⟨h + 1, j, by go_num, rfl, by omega, by omega, hjb, by omega, hid (.inr (by rw [Nat.add_sub_cancel]; exact HCD.out)), HJ, S2⟩
  · obtain rfl : i = j := by omega
    go_wp2_with fail
    go_loopg [17] (m - i) (fun kx sk wr => ∃ (k : Nat) (dk : Array α), sk = int i64 k ∧ i ≤ k ∧ k ≤ m ∧ k - i ≤ kx ∧ dk.size = d.size ∧ Hid (∀ t, dk[t]! = rotG d k m (m + 1) t) ∧ Aside (SWK enc 11 w0 blk off dk wr))
    case atStart => exact ⟨m, d, rfl, by omega, by omega, by omega, rfl, hid (fun t => (rot_none' d m t).symm), S1⟩
    case round =>
     clear S1
     obtain ⟨k1, dk, rfl, hak, hki, hkx2, hds, HR, S1⟩ := hrel
     by_cases hlt2 : i < k1
     · obtain ⟨k, rfl⟩ : ∃ k, k1 = k + 1 := ⟨k1 - 1, by omega⟩
       have t2 : (i : Int) < (k : Int) + 1 := by omega
       have hwp : IntKind.i64.wrap (k : Int) = (k : Int) := by rw [IntKind.wrap_i64]; omega
       have ea1 : ((k : Int)).toNat = k := by omega
       have pa1 : (0 : Int) ≤ (k : Int) := by omega
       have ba1 : (k : Int) < (d.size : Int) := by omega
       have ra1 : IntKind.i64.wrap ((k : Int)) = (k : Int) := by rw [IntKind.wrap_i64]; omega
       have ea2 : ((k : Int) + 1).toNat = k + 1 := by omega
       have pa2 : (0 : Int) ≤ (k : Int) + 1 := by omega
       have ba2 : (k : Int) + 1 < (d.size : Int) := by omega
       have ra2 : IntKind.i64.wrap ((k : Int) + 1) = (k : Int) + 1 := by rw [IntKind.wrap_i64]; omega
       have S2 : Aside (SWK enc 11 w0 blk off (swp dk (k + 1) (k)) ((wr.drew.setCells blk (off + (k + 1) * 11) (enc dk[k]!)).setCells blk (off + (k) * 11) (enc dk[k + 1]!))) := S1.out.swapped R (k + 1) (k) (by omega) (by omega)
       have l44a := ldB_of (S1.out.ld1 R (by omega) prog (k + 1) (by omega))
       have l44b := ldB_of (S1.out.ld1 R (by omega) prog (k) (by omega))
       have s44a := stB_of (R.hk _) (S1.out.st1 R (by omega) prog (k + 1) (by omega) dk[k]!)
       have s44b := stB_of (R.hk _) (S1.out.st2 R (by omega) prog (k + 1) (k) (by omega) (by omega) dk[k]! dk[k + 1]!)
       generalize enc dk[k + 1]! = cI44 at S2 l44a s44b
       generalize enc dk[k]! = cJ44 at S2 l44b s44a s44b
       clear S1
       go_wp2_with fail
       go_big_region_o
       clear l44a l44b s44a s44b
       generalize (wr.drew.setCells blk (off + (k + 1) * 11) cJ44).setCells blk (off + (k) * 11) cI44 = w2 at S2 ⊢
       go_wp2
       go_roundg (k - i)
       case measure => omega
       case rel => exact ⟨k, swp dk (k + 1) k, by first | rfl | go_num | (congr 1; omega), by omega, by omega, by omega, by rw [size_swp]; exact hds, hid (fun t => rot_down d dk m k hki (by omega) HR.out t), S2⟩
     · obtain rfl : k1 = i := by omega
       go_wp2_with fail
       go_returns
       obtain rfl : b = m + 1 := by omega
       exact ⟨rfl, dk, hds, merge_one_right HSO.out HM.out (by omega) (by omega) (by rcases HI.out with h | h; exact .inl h; exact .inr (by omega)) (by rcases HJ.out with h | h; exact .inl h; exact .inr (by omega)) hds HR.out, S1.out⟩
end
section
open Go.Shelf Go.Lib Go.Sort Go.Proofs
attribute [local go_sem ↓] loadVar_ldB storeVar_stB
variable {α : Type} [Inhabited α]
structure Cmpr (enc : α → List Value) (cf : α → α → Int) (lt : α → α → Bool) (g : Nat) (cb : Array Value) (blk off : Nat) (d0 : Array α) (w0 : World) : Prop where
 eg : ∀ args w, (callFunc g args).run prog w = .ok (.enter g args) w
 hS : SWO lt
 hc : CmpLays prog g cb enc 11 cf blk off d0.size w0
 R : RowK enc 11 w0 blk off d0
 sz : d0.size < 4611686018427387904
def Tst (t : Value) (P : Prop) : Prop := (t = .bool true ∧ P) ∨ (t = .bool false ∧ ¬ P)
theorem sym_step (enc : α → List Value) (cf : α → α → Int) (lt : α → α → Bool) (g : Nat) (cb : Array Value) (blk off cap a m b : Nat) (d0 d : Array α) (w0 w : World)
 (X : Cmpr enc cf lt g cb blk off d0 w0) (hs : d0.size = d.size) (S : SWK enc 11 w0 blk off d w) (hM : MPre cf lt d a m b) (ham : a + 2 ≤ m) (hmb : m + 2 ≤ b)
 (IH : ∀ (a' m' b' : Nat) (d : Array α) (w : World), b' - a' < b - a → d0.size = d.size → SWK enc 11 w0 blk off d w → MPre cf lt d a' m' b' → a' < m' → m' < b' →
   Calls prog 174 #[.slice (some ⟨blk, off, none⟩) d.size cap, int i64 a', int i64 m', int i64 b', .func (.func g) #[] cb] w fun e w' => e = .returned (.tuple #[]) ∧ Mrgd enc w0 blk off lt d a' b' w') :
 Calls prog 174 #[.slice (some ⟨blk, off, none⟩) d.size cap, int i64 a, int i64 m, int i64 b, .func (.func g) #[] cb] w fun e w' => e = .returned (.tuple #[]) ∧ Mrgd enc w0 blk off lt d a b w' := by
 have mixed : prog.follows .mixedOrders = true := by kernel_rfl
 obtain ⟨eg, hS, hcmp, R, hsz⟩ := X
 have S0 : Aside (SWK enc 11 w0 blk off d w) := S
 have HM := hid hM
 have HSO := hid hS
 have HC : Aside _ := hcmp
 have HIH := hid IH
 have bs := hM.bs
 clear S hM hS hcmp IH
 rw [hs] at hsz
 have t0 : ((m : Int) - (a : Int) == 1) = false := by simp; omega
 have t00 : ((b : Int) - (m : Int) == 1) = false := by simp; omega
 obtain ⟨mid, hmid, hmz, hm1, hm2⟩ : ∃ mid : Nat, Hid (mid = (a + b) / 2) ∧ ((a : Int) + (b : Int)) / 2 = (mid : Int) ∧ 2 * mid ≤ a + b ∧ a + b ≤ 2 * mid + 1 := ⟨(a + b) / 2, hid rfl, by omega, by omega, by omega⟩
 obtain ⟨s0, hs0⟩ : ∃ s0 : Nat, Hid (s0 = if mid < m then mid + m - b else a) := ⟨_, hid rfl⟩
 obtain ⟨r0, hr0⟩ : ∃ r0 : Nat, Hid (r0 = if mid < m then mid else m) := ⟨_, hid rfl⟩
 have z0 : a ≤ s0 ∧ s0 ≤ r0 ∧ r0 ≤ m ∧ r0 ≤ mid ∧ mid + m ≤ b + s0 := by
  have h1 := hs0.out
  have h2 := hr0.out
  by_cases hc : mid < m
  · rw [if_pos hc] at h1 h2; omega
  · rw [if_neg hc] at h1 h2; omega
 obtain ⟨z1, z2, z3, z4, z5⟩ := z0
 go_enter Tryz.func174, Tryz.ntmps174
 go_upto_if 140 with fail
 go_cut [20, 21] (fun x y wx => x = int i64 s0 ∧ y = int i64 r0 ∧ wx = w)
 case first => as_aux_lemma =>
  have h1 := hs0.out
  have h2 := hr0.out
  by_cases hc : mid < m
  · rw [if_pos hc] at h1 h2
    have hcz : (mid : Int) < (m : Int) := by omega
    have H1 := hid h1
    have H2 := hid h2
    clear h1 h2
    go_wp2_with fail
    go_meet
    exact ⟨by congr 1; have := H1.out; omega, by rw [H2.out], rfl⟩
  · rw [if_neg hc] at h1 h2
    have hcz : ¬ (mid : Int) < (m : Int) := by omega
    have H1 := hid h1
    have H2 := hid h2
    clear h1 h2
    go_wp2_with fail
    go_meet
    exact ⟨by rw [H1.out], by rw [H2.out], rfl⟩
 obtain ⟨rfl, rfl, rfl⟩ := hcut
 go_wp2_with fail
 go_loopg [20, 21] (r0 - s0) (fun kx x y wr => ∃ (s r : Nat), x = int i64 s ∧ y = int i64 r ∧ s0 ≤ s ∧ s ≤ r ∧ r ≤ r0 ∧ r - s ≤ kx ∧ Hid (s = s0 ∨ ¬ cf d[mid + m - s]! d[s - 1]! < 0) ∧ Hid (r = r0 ∨ cf d[mid + m - 1 - r]! d[r]! < 0) ∧ Aside (SWK enc 11 w0 blk off d wr))
 case atStart => exact ⟨s0, r0, rfl, rfl, by omega, by omega, by omega, by omega, hid (.inl rfl), hid (.inl rfl), S0⟩
 case round =>
  clear S0
  obtain ⟨s, r, rfl, rfl, hss, hsr, hrr, hkx, HI, HJ, S1⟩ := hrel
  by_cases hlt : s < r
  · have t1 : (s : Int) < (r : Int) := by omega
    obtain ⟨h, hh, hih, hhj⟩ : ∃ h : Nat, ((s : Int) + (r : Int)) / 2 = (h : Int) ∧ s ≤ h ∧ h < r := ⟨(s + r) / 2, by omega, by omega, by omega⟩
    have ea1 : ((h : Int)).toNat = h := by omega
    have pa1 : (0 : Int) ≤ (h : Int) := by omega
    have ba1 : (h : Int) < (d.size : Int) := by omega
    have ra1 : IntKind.i64.wrap ((h : Int)) = (h : Int) := by rw [IntKind.wrap_i64]; omega
    obtain ⟨q, hq⟩ : ∃ q : Nat, q = mid + m - 1 - h := ⟨_, rfl⟩
    have hqz : (mid : Int) + (m : Int) - 1 - (h : Int) = (q : Int) := by omega
    have HQ := hid hq
    have hqs : q < d.size := by omega
    clear hq
    have ea2 : ((q : Int)).toNat = q := by omega
    have pa2 : (0 : Int) ≤ (q : Int) := by omega
    have ba2 : (q : Int) < (d.size : Int) := by omega
    have ra2 : IntKind.i64.wrap ((q : Int)) = (q : Int) := by rw [IntKind.wrap_i64]; omega
    by_cases hc : cf d[q]! d[h]! < 0
    · as_aux_lemma =>
      have HCD := hid hc
      have hcd : decide (cf d[q]! d[h]! < 0) = true := by simpa using hc
      clear hc
      have lA : ∀ n' os', (ldB ⟨blk, off + (q) * 11, none⟩).run prog (grow (wr.drewN n') os') = .ok (.agg (enc d[q]!).toArray) (grow (wr.drewN n') os') := fun n' os' => ldB_of (S1.out.ld R (by omega) prog (q) (by omega) n' os')
      have lB : ∀ n' os', (ldB ⟨blk, off + (h) * 11, none⟩).run prog (grow (wr.drewN n') os') = .ok (.agg (enc d[h]!).toArray) (grow (wr.drewN n') os') := fun n' os' => ldB_of (S1.out.ld R (by omega) prog (h) (by omega) n' os')
      have hcg := fun n' os' => S1.out.cmp HC (by omega) d[q]! d[h]! n' os'
      have GR : Hid (∀ n' os', SWK enc 11 w0 blk off d (grow (wr.drewN n') os')) := fun n' os' => S1.out.grown n' os'
      generalize hX : d[q]! = X at lA hcg hcd
      generalize hY : d[h]! = Y at lB hcg hcd
      have HX := hid hX
      have HY := hid hY
      clear hX hY S1
      go_wp2_with fail
      go_quiet_grown (first | (go_at_fn g; refine Calls.grown_of (hcg _ _)))
      go_wp2_with fail
      have S2 : Aside _ := GR.out nq osq
      clear lA lB hcg GR
      generalize grow (wr.drewN nq) osq = w2 at S2 ⊢
      go_roundg (h - s)
      case measure => omega
      case rel => exact ⟨s, h, rfl, rfl, hss, hih, by omega, by omega, HI, hid (.inr (by rw [← HQ.out]; exact HCD.out)), S2⟩
    · as_aux_lemma =>
      have HCD := hid hc
      have hcd : decide (cf d[q]! d[h]! < 0) = false := by simpa using hc
      clear hc
      have lA : ∀ n' os', (ldB ⟨blk, off + (q) * 11, none⟩).run prog (grow (wr.drewN n') os') = .ok (.agg (enc d[q]!).toArray) (grow (wr.drewN n') os') := fun n' os' => ldB_of (S1.out.ld R (by omega) prog (q) (by omega) n' os')
      have lB : ∀ n' os', (ldB ⟨blk, off + (h) * 11, none⟩).run prog (grow (wr.drewN n') os') = .ok (.agg (enc d[h]!).toArray) (grow (wr.drewN n') os') := fun n' os' => ldB_of (S1.out.ld R (by omega) prog (h) (by omega) n' os')
      have hcg := fun n' os' => S1.out.cmp HC (by omega) d[q]! d[h]! n' os'
      have GR : Hid (∀ n' os', SWK enc 11 w0 blk off d (grow (wr.drewN n') os')) := fun n' os' => S1.out.grown n' os'
      generalize hX : d[q]! = X at lA hcg hcd
      generalize hY : d[h]! = Y at lB hcg hcd
      have HX := hid hX
      have HY := hid hY
      clear hX hY S1
      go_wp2_with fail
      go_quiet_grown (first | (go_at_fn g; refine Calls.grown_of (hcg _ _)))
      go_wp2_with fail
      have S2 : Aside _ := GR.out nq osq
      clear lA lB hcg GR
      generalize grow (wr.drewN nq) osq = w2 at S2 ⊢
      go_roundg (r - (h + 1))
      case measure => omega
      case rel => exact ⟨h + 1, r, by go_num, rfl, by omega, by omega, hrr, by omega, hid (.inr (by rw [Nat.add_sub_cancel, show mid + m - (h + 1) = mid + m - 1 - h by omega, ← HQ.out]; exact HCD.out)), HJ, S2⟩
  · obtain rfl : s = r := by omega
    obtain ⟨e, he⟩ : ∃ e : Nat, e = mid + m - s := ⟨_, rfl⟩
    have hez : (mid : Int) + (m : Int) - (s : Int) = (e : Int) := by omega
    have q1 : s = s0 ∨ ¬ cf d[mid + m - s]! d[s - 1]! < 0 := by rcases HI.out with h | h; exact .inl h; exact .inr (by omega)
    have q2 : s = r0 ∨ cf d[mid + m - 1 - s]! d[s]! < 0 := HJ.out
    have HSP := hid (fun (d' : Array α) hs' hr' => merge_split (d' := d') HSO.out HM.out hmid.out ham hmb he hs0.out hr0.out hss hrr q1 q2 hs' hr')
    have g1 : s ≤ m ∧ m ≤ e ∧ e ≤ b ∧ a ≤ s ∧ s ≤ mid ∧ mid ≤ e := by
     have h1 := hs0.out
     have h2 := hr0.out
     by_cases hc : mid < m
     · rw [if_pos hc] at h1 h2; refine ⟨?_, ?_, ?_, ?_, ?_, ?_⟩ <;> omega
     · rw [if_neg hc] at h1 h2; refine ⟨?_, ?_, ?_, ?_, ?_, ?_⟩ <;> omega
    obtain ⟨y1, y2, y3, y4, y5, y6⟩ := g1
    clear q1 q2 HI HJ he
    have W1 := hid S1.out
    clear S1
    go_upto_region 39 with fail
    go_cut [185] (fun t wx => Tst t (s < m ∧ m < e) ∧ wx = wr)
    case first => as_aux_lemma =>
     by_cases h1 : s < m
     · have h1z : (s : Int) < (m : Int) := by omega
       by_cases h2 : m < e
       · have h2z : (m : Int) < (e : Int) := by omega
         have h3 := hid (And.intro h1 h2)
         clear h1 h2
         go_wp2_with fail
         go_meet
         exact ⟨.inl ⟨rfl, h3.out⟩, rfl⟩
       · have h2z : ¬ (m : Int) < (e : Int) := by omega
         have h3 := hid h2
         clear h1 h2
         go_wp2_with fail
         go_meet
         exact ⟨.inr ⟨rfl, fun h => by have := h3.out; omega⟩, rfl⟩
     · have h1z : ¬ (s : Int) < (m : Int) := by omega
       have h3 := hid h1
       clear h1
       go_wp2_with fail
       go_meet
       exact ⟨.inr ⟨rfl, fun h => by have := h3.out; omega⟩, rfl⟩
    obtain ⟨htst, rfl⟩ := hcut
    go_upto_if 185 with fail
    go_cut [24] (fun x wx => x = int i64 e ∧ Rotd enc w0 blk off d s m e wx)
    case first => as_aux_lemma =>
     rcases htst with ⟨rfl, hc⟩ | ⟨rfl, hc⟩
     · have q3 := hid (rotate_any enc (.func (.func g) #[] cb) blk off cap s m e d0 d w0 _ R hs W1.out hc.1 hc.2 (by omega) hsz)
       clear hc
       go_wp2_with fail
       refine q3.out.mono ?_
       rintro e w1 ⟨rfl, S2⟩
       have S3 := hid S2
       clear S2
       go_wp2_with fail
       go_meet
       exact ⟨rfl, S3.out⟩
     · have HCN := hid hc
       clear hc
       go_wp2_with fail
       go_meet
       exact ⟨rfl, d, rfl, (fun t => by rcases (show s = m ∨ m = e by have := HCN.out; omega) with rfl | rfl; exact (rot_skip d s e t).symm; exact (rot_skip' d s m t).symm), W1.out⟩
    clear htst
    obtain ⟨rfl, HCUT⟩ := hcut
    obtain ⟨d1, hd1, hr1, S2⟩ := HCUT
    obtain ⟨_, _, _, _, _, _, hp, m1, m2, hx⟩ := HSP.out d1 hd1 hr1
    have hs1 : d0.size = d1.size := by omega
    have W2 := hid S2
    have M1 := hid m1
    have M2 := hid m2
    have HX := hid hx
    have HP := hid hp
    clear S2 m1 m2 hx hp hr1 HSP W1
    have ih1 := fun h1 h2 => HIH.out a s mid d1 wc (by omega) hs1 W2.out M1.out h1 h2
    rw [hd1] at ih1
    have IH1 := hid ih1
    clear ih1
    go_upto_region 41 with fail
    go_cut [199] (fun t wx => Tst t (a < s ∧ s < mid) ∧ wx = wc)
    case first => as_aux_lemma =>
     by_cases h1 : a < s
     · have h1z : (a : Int) < (s : Int) := by omega
       by_cases h2 : s < mid
       · have h2z : (s : Int) < (mid : Int) := by omega
         have h3 := hid (And.intro h1 h2)
         clear h1 h2
         go_wp2_with fail
         go_meet
         exact ⟨.inl ⟨rfl, h3.out⟩, rfl⟩
       · have h2z : ¬ (s : Int) < (mid : Int) := by omega
         have h3 := hid h2
         clear h1 h2
         go_wp2_with fail
         go_meet
         exact ⟨.inr ⟨rfl, fun h => by have := h3.out; omega⟩, rfl⟩
     · have h1z : ¬ (a : Int) < (s : Int) := by omega
       have h3 := hid h1
       clear h1
       go_wp2_with fail
       go_meet
       exact ⟨.inr ⟨rfl, fun h => by have := h3.out; omega⟩, rfl⟩
    obtain ⟨htst, rfl⟩ := hcut
    go_upto_if 199 with fail
    go_cut [24] (fun x wx => x = int i64 e ∧ Mrgd enc w0 blk off lt d1 a mid wx)
    case first => as_aux_lemma =>
     rcases htst with ⟨rfl, hc⟩ | ⟨rfl, hc⟩
     · have q3 := hid (IH1.out hc.1 hc.2)
       clear hc
       go_wp2_with fail
       refine q3.out.mono ?_
       rintro e w1 ⟨rfl, S2⟩
       have S3 := hid S2
       clear S2
       go_wp2_with fail
       go_meet
       exact ⟨rfl, S3.out⟩
     · have HCN := hid hc
       clear hc
       go_wp2_with fail
       go_meet
       exact ⟨rfl, d1, rfl, (by rcases (show s = a ∨ s = mid by have := HCN.out; omega) with rfl | rfl; exact M1.out.nil_left; exact M1.out.nil_right), W2.out⟩
    clear htst
    obtain ⟨rfl, HCUT⟩ := hcut
    obtain ⟨d2, hd2, hp2, S2⟩ := HCUT
    have hs2 : d0.size = d2.size := by omega
    have M3 := hid (M2.out.elsewhere hd2 (fun t t1 t2 => hp2.1.2.1 t (.inr t1)))
    have W3 := hid S2
    have HP2 := hid hp2
    clear S2 hp2 W2 IH1
    have ih2 := fun h1 h2 => HIH.out mid e b d2 wc (by omega) hs2 W3.out M3.out h1 h2
    rw [show d2.size = d.size by omega] at ih2
    have IH2 := hid ih2
    clear ih2
    go_upto_region 43 with fail
    go_cut [213] (fun t wx => Tst t (mid < e ∧ e < b) ∧ wx = wc)
    case first => as_aux_lemma =>
     by_cases h1 : mid < e
     · have h1z : (mid : Int) < (e : Int) := by omega
       by_cases h2 : e < b
       · have h2z : (e : Int) < (b : Int) := by omega
         have h3 := hid (And.intro h1 h2)
         clear h1 h2
         go_wp2_with fail
         go_meet
         exact ⟨.inl ⟨rfl, h3.out⟩, rfl⟩
       · have h2z : ¬ (e : Int) < (b : Int) := by omega
         have h3 := hid h2
         clear h1 h2
         go_wp2_with fail
         go_meet
         exact ⟨.inr ⟨rfl, fun h => by have := h3.out; omega⟩, rfl⟩
     · have h1z : ¬ (mid : Int) < (e : Int) := by omega
       have h3 := hid h1
       clear h1
       go_wp2_with fail
       go_meet
       exact ⟨.inr ⟨rfl, fun h => by have := h3.out; omega⟩, rfl⟩
    obtain ⟨htst, rfl⟩ := hcut
    have fin : ∀ d3 : Array α, ∀ w' : World, d3.size = d2.size → MPost lt d2 mid b d3 → SWK enc 11 w0 blk off d3 w' → Mrgd enc w0 blk off lt d a b w' := fun d3 w' e1 p3 S4 => by
     have hj := asc_join (lt := lt) (d := d1) (show a ≤ mid by omega) (show mid ≤ b by omega) (by omega) HX.out HP2.out.1 p3.1 HP2.out.2 p3.2
     exact ⟨d3, by omega, ⟨permIn_trans _ _ _ _ _ HP.out hj.1, hj.2⟩, S4⟩
    have FIN := hid fin
    clear fin
    rcases htst with ⟨rfl, hc⟩ | ⟨rfl, hc⟩
    · have q3 := hid (IH2.out hc.1 hc.2)
      clear hc
      go_wp2_with fail
      refine q3.out.mono ?_
      rintro e w1 ⟨rfl, S2⟩
      have S3 := hid S2
      clear S2
      go_wp2_with fail
      go_returns
      obtain ⟨d3, e3, p3, S4⟩ := S3.out
      exact ⟨rfl, FIN.out d3 _ e3 p3 S4⟩
    · have HCN := hid hc
      clear hc
      go_wp2_with fail
      go_returns
      exact ⟨rfl, FIN.out d2 _ rfl (by rcases (show e = mid ∨ e = b by have := HCN.out; omega) with rfl | rfl; exact M3.out.nil_left; exact M3.out.nil_right) W3.out⟩
theorem sym_any (enc : α → List Value) (cf : α → α → Int) (lt : α → α → Bool) (g : Nat) (cb : Array Value) (blk off cap : Nat) (d0 : Array α) (w0 : World) (X : Cmpr enc cf lt g cb blk off d0 w0) :
 ∀ (N a m b : Nat) (d : Array α) (w : World), b - a < N → d0.size = d.size → SWK enc 11 w0 blk off d w → MPre cf lt d a m b → a < m → m < b →
   Calls prog 174 #[.slice (some ⟨blk, off, none⟩) d.size cap, int i64 a, int i64 m, int i64 b, .func (.func g) #[] cb] w fun e w' => e = .returned (.tuple #[]) ∧ Mrgd enc w0 blk off lt d a b w'
 | 0, _, _, _, _, _, h, _, _, _, _, _ => absurd h (Nat.not_lt_zero _)
 | N + 1, a, m, b, d, w, hN, hs, S, hM, ham, hmb => by
   have hsz := X.sz
   rw [hs] at hsz
   by_cases h1 : m = a + 1
   · exact sym_left enc cf lt X.hS g cb blk off cap a m b d0 d w0 w X.eg X.hc X.R hs S hM h1 hmb hsz
   · by_cases h2 : b = m + 1
     · exact sym_right enc cf lt X.hS g cb blk off cap a m b d0 d w0 w X.eg X.hc X.R hs S hM (by omega) h2 hsz
     · exact sym_step enc cf lt g cb blk off cap a m b d0 d w0 w X hs S hM (by omega) (by omega) fun a' m' b' d' w' q1 q2 q3 q4 q5 q6 => by
        have := sym_any enc cf lt g cb blk off cap d0 w0 X N a' m' b' d' w' (by omega) q2 q3 q4 q5 q6
        exact this
end
section
open Go.Sort Go.Proofs
variable {β : Type}
def ltT (cf : β → β → Int) (x y : β × Nat) : Bool := decide (cf x.1 y.1 < 0) || (decide (cf x.1 y.1 = 0) && decide (x.2 < y.2))
def cfT (cf : β → β → Int) (x y : β × Nat) : Int := cf x.1 y.1
structure CmpOk (cf : β → β → Int) : Prop where
 neg : ∀ x y, cf x y < 0 ↔ 0 < cf y x
 zero : ∀ x y, cf x y = 0 ↔ cf y x = 0
 trans : ∀ x y z, cf x y ≤ 0 → cf y z ≤ 0 → cf x z ≤ 0
 transl : ∀ x y z, cf x y < 0 → cf y z ≤ 0 → cf x z < 0
 transr : ∀ x y z, cf x y ≤ 0 → cf y z < 0 → cf x z < 0
theorem CmpOk.self {cf : β → β → Int} (h : CmpOk cf) (x : β) : cf x x = 0 := by
 have := h.neg x x
 omega
theorem ltT_iff {cf : β → β → Int} (x y : β × Nat) : ltT cf x y = true ↔ cf x.1 y.1 < 0 ∨ (cf x.1 y.1 = 0 ∧ x.2 < y.2) := by
 unfold ltT; simp
theorem ltT_swo {cf : β → β → Int} (h : CmpOk cf) : SWO (ltT cf) where
 irrefl x := by
  have := h.self x.1
  rw [Bool.eq_false_iff]; intro e; rw [ltT_iff] at e; omega
 trans x y z h1 h2 := by
  rw [ltT_iff] at *
  have t1 := h.trans x.1 y.1 z.1
  have t2 := h.transl x.1 y.1 z.1
  have t3 := h.transr x.1 y.1 z.1
  omega
 ntrans x y z h1 h2 := by
  rw [Bool.eq_false_iff] at *
  intro e
  rw [ne_eq, ltT_iff] at h1 h2
  rw [ltT_iff] at e
  have n1 := h.neg x.1 y.1
  have n2 := h.neg y.1 z.1
  have n3 := h.neg x.1 z.1
  have n1' := h.neg y.1 x.1
  have n2' := h.neg z.1 y.1
  have n3' := h.neg z.1 x.1
  have t1 := h.trans z.1 y.1 x.1
  have t2 := h.transl z.1 y.1 x.1
  have t3 := h.transr z.1 y.1 x.1
  have z1 := h.zero x.1 y.1
  have z2 := h.zero y.1 z.1
  have z3 := h.zero x.1 z.1
  omega
theorem ltT_total {cf : β → β → Int} (h : CmpOk cf) {x y : β × Nat} (hn : x.2 < y.2) : ltT cf y x = decide (cf y.1 x.1 < 0) ∧ ltT cf x y = !decide (cf y.1 x.1 < 0) := by
 have n1 := h.neg x.1 y.1
 have n2 := h.neg y.1 x.1
 have z1 := h.zero x.1 y.1
 constructor
 · rw [Bool.eq_iff_iff, ltT_iff, decide_eq_true_iff]; omega
 · rw [Bool.eq_iff_iff, ltT_iff, Bool.not_eq_true', decide_eq_false_iff_not]; omega
variable [Inhabited β]
section
variable {cf : β → β → Int} {a b : Nat}
theorem insInner_tag (h : CmpOk cf) (a : Nat) : ∀ (j : Nat) (d : Array (β × Nat)), j < d.size → (∀ t, a ≤ t → t < j → d[t]!.2 < d[j]!.2) → insInner (ltOf (cfT cf)) a j d = insInner (ltT cf) a j d
 | 0, d, _, _ => by rw [insInner_stop _ _ _ _ (.inl (Nat.zero_le _)), insInner_stop _ _ _ _ (.inl (Nat.zero_le _))]
 | j + 1, d, hj, ht => by
   by_cases hja : j + 1 ≤ a
   · rw [insInner_stop _ _ _ _ (.inl hja), insInner_stop _ _ _ _ (.inl hja)]
   · have e0 : ltOf (cfT cf) d[j + 1]! d[j]! = ltT cf d[j + 1]! d[j]! := ((ltT_total h (ht j (by omega) (by omega))).1).symm
     cases hv : ltT cf d[j + 1]! d[j]! with
     | false =>
       rw [insInner_stop _ _ _ _ (.inr (by rw [Nat.add_sub_cancel, e0, hv])), insInner_stop _ _ _ _ (.inr (by rw [Nat.add_sub_cancel, hv]))]
     | true =>
       have g1 := insInner_go (ltOf (cfT cf)) a (j + 1) d (by omega) (by rw [Nat.add_sub_cancel, e0, hv])
       have g2 := insInner_go (ltT cf) a (j + 1) d (by omega) (by rw [Nat.add_sub_cancel, hv])
       rw [Nat.add_sub_cancel] at g1 g2
       rw [g1, g2]
       refine insInner_tag h a j _ (by rw [size_swp]; omega) fun t h1 h2 => ?_
       rw [swp_other _ _ _ _ (by omega) (by omega), swp_right d (j + 1) j (by omega)]
       exact ht t h1 (by omega)
theorem insOuter_tag (h : CmpOk cf) (a b : Nat) : ∀ (n i : Nat) (d : Array (β × Nat)), b - i = n → a < i → b ≤ d.size → (∀ t u, a ≤ t → t < u → i ≤ u → u < b → d[t]!.2 < d[u]!.2) → SortedIn (ltT cf) a i d →
 insOuter (ltOf (cfT cf)) a b i d = insOuter (ltT cf) a b i d
 | n, i, d, hn, hai, hb, ht, hso => by
   by_cases hib : i < b
   · rw [insOuter_go _ _ _ _ _ hib, insOuter_go _ _ _ _ _ hib, insInner_tag h a i d (by omega) (fun t h1 h2 => ht t i h1 h2 (Nat.le_refl i) hib)]
     have hsw := ltT_swo h
     have hp := insInner_spec hsw swp_permIn permIn_refl permIn_trans a (i + 1) i (Nat.lt_succ_self i) i d (by omega) (Nat.le_refl i) (by omega) ⟨fun p q h1 h2 h3 h4 h5 => hso p q h1 h2 (by omega), fun p h1 h2 => by omega⟩
     have hp1 := hp.1
     have hs1 := hp1.1
     match n, hn with
     | 0, hn => omega
     | n + 1, hn =>
       refine insOuter_tag h a b n (i + 1) _ (by omega) (by omega) (by omega) (fun t u h1 h2 h3 h4 => ?_) hp.2
       rw [hp1.2.1 u (.inr (by omega))]
       by_cases hti : t < i + 1
       · refine permIn_all _ _ a (i + 1) (fun y => y.2 < d[u]!.2) (by omega) hp1 (fun v v1 v2 => ht v u v1 (by omega) (by omega) h4) t h1 hti
       · rw [hp1.2.1 t (.inr (by omega))]
         exact ht t u h1 h2 (by omega) h4
   · rw [insOuter_stop _ _ _ _ _ hib, insOuter_stop _ _ _ _ _ hib]
theorem ins_block (h : CmpOk cf) (d : Array (β × Nat)) (hab : a ≤ b) (hb : b ≤ d.size) (ht : ∀ t u, a ≤ t → t < u → u < b → d[t]!.2 < d[u]!.2) :
 PermIn a b d (insertionSort (ltOf (cfT cf)) d a b) ∧ SortedIn (ltT cf) a b (insertionSort (ltOf (cfT cf)) d a b) := by
 have e : insertionSort (ltOf (cfT cf)) d a b = insertionSort (ltT cf) d a b := by
  unfold insertionSort
  exact insOuter_tag h a b _ (a + 1) d rfl (by omega) hb (fun t u h1 h2 _ h4 => ht t u h1 h2 h4) fun p q h1 h2 h3 => by omega
 rw [e]
 exact insertionSort_holds (ltT_swo h) d a b hab hb
def Blk (cf : β → β → Int) (lo hi : Nat) (d : Array (β × Nat)) : Prop := (∀ p, lo ≤ p → p < hi → lo ≤ d[p]!.2 ∧ d[p]!.2 < hi) ∧ Asc (ltT cf) lo hi d
theorem asc_of (h : CmpOk cf) {d : Array (β × Nat)} (hs : SortedIn (ltT cf) a b d) (hn : ∀ i j, a ≤ i → i < j → j < b → d[i]!.2 ≠ d[j]!.2) : Asc (ltT cf) a b d := by
 intro i j h1 h2 h3
 have h4 := hs i j h1 h2 h3
 rcases Nat.lt_or_gt_of_ne (hn i j h1 h2 h3) with hlt | hgt
 · have t := ltT_total h (x := d[i]!) (y := d[j]!) hlt
   rw [t.2, ← t.1, h4]; rfl
 · have t := ltT_total h (x := d[j]!) (y := d[i]!) hgt
   rw [t.2] at h4
   rw [t.1]
   simpa using h4
def Blks (cf : β → β → Int) (bs n a : Nat) (d : Array (β × Nat)) : Prop := ∀ i, a ≤ i * bs → i * bs < n → Blk cf (i * bs) (min (i * bs + bs) n) d
def Blks2 (cf : β → β → Int) (bs n b : Nat) (d : Array (β × Nat)) : Prop := ∀ i, i * bs < b → i * bs < n → Blk cf (i * bs) (min (i * bs + bs) n) d
theorem Blk.keep {lo hi : Nat} {d d' : Array (β × Nat)} (h : Blk cf lo hi d) (he : ∀ t, lo ≤ t → t < hi → d'[t]! = d[t]!) : Blk cf lo hi d' := by
 refine ⟨fun p h1 h2 => by rw [he p h1 h2]; exact h.1 p h1 h2, fun i j h1 h2 h3 => ?_⟩
 rw [he i h1 (by omega), he j (by omega) h3]
 exact h.2 i j h1 h2 h3
theorem blk_pre (h : CmpOk cf) {m : Nat} {d : Array (β × Nat)} (h1 : a ≤ m) (h2 : m ≤ b) (hb : b ≤ d.size) (k1 : Blk cf a m d) (k2 : Blk cf m b d) : MPre (cfT cf) (ltT cf) d a m b := by
 refine ⟨h1, h2, hb, k1.2, k2.2, fun i j q1 q2 q3 q4 => ?_, fun i j q1 q2 q3 q4 => ?_⟩
 · exact (ltT_total h (x := d[i]!) (y := d[j]!) (by have := (k1.1 i q1 q2).2; have := (k2.1 j q3 q4).1; omega)).1
 · exact (ltT_total h (x := d[i]!) (y := d[j]!) (by have := (k1.1 i q1 q2).2; have := (k2.1 j q3 q4).1; omega)).2
theorem blk_post {m : Nat} {d d' : Array (β × Nat)} (h1 : a ≤ m) (h2 : m ≤ b) (hb : b ≤ d.size) (k1 : Blk cf a m d) (k2 : Blk cf m b d) (hp : MPost (ltT cf) d a b d') : Blk cf a b d' := by
 refine ⟨permIn_all d d' a b (fun y => a ≤ y.2 ∧ y.2 < b) hb hp.1 fun i q1 q2 => ?_, hp.2⟩
 by_cases hi : i < m
 · have := k1.1 i q1 hi; omega
 · have := k2.1 i (by omega) q2; omega
end
def tagd (l : List β) : Array (β × Nat) := l.zipIdx.toArray
omit [Inhabited β] in
theorem size_tagd (l : List β) : (tagd l).size = l.length := by simp [tagd]
theorem tagd_get (l : List β) {t : Nat} (h : t < l.length) : (tagd l)[t]! = (l[t], t) := by
 rw [getElem!_pos (tagd l) t (by rw [size_tagd]; exact h)]
 simp [tagd]
def stableF (cf : β → β → Int) (l : List β) : List β := (l.zipIdx.mergeSort fun x y => !ltT cf y x).map fun x => x.1
theorem stable_of {cf : β → β → Int} (h : CmpOk cf) {l : List β} {d : Array (β × Nat)} (hp : PermIn 0 l.length (tagd l) d) (hb : Asc (ltT cf) 0 l.length d) : d.toList.map (fun x => x.1) = stableF cf l := by
 have hs := hp.1
 rw [size_tagd] at hs
 unfold stableF
 have hsz : l.length = (tagd l).size := (size_tagd l).symm
 have hS := ltT_swo h
 congr 1
 have e1 : d.extract 0 l.length = d := by rw [← hs]; exact Array.extract_size
 have e2 : (tagd l).extract 0 l.length = tagd l := by rw [hsz]; exact Array.extract_size
 have hperm := hp.2.2
 rw [e1, e2] at hperm
 refine List.Perm.eq_of_pairwise (le := fun x y => (!ltT cf y x) = true) ?_ ?_ ?_ ((hperm.trans (List.Perm.of_eq (by simp [tagd]))).trans (List.mergeSort_perm _ _).symm)
 · intro x y hx hy h1 h2
   simp only [Bool.not_eq_true'] at h1 h2
   have mx : x ∈ l.zipIdx := by have := hperm.mem_iff.1 hx; simpa [tagd] using this
   have my : y ∈ l.zipIdx := (List.mergeSort_perm _ _).mem_iff.1 hy
   by_cases hxy : x.2 = y.2
   · have q1 := List.mem_zipIdx_iff_getElem?.1 mx
     have q2 := List.mem_zipIdx_iff_getElem?.1 my
     rw [hxy] at q1
     have q3 := q1.symm.trans q2
     exact Prod.ext (Option.some.inj q3) hxy
   · rcases Nat.lt_or_gt_of_ne hxy with hlt | hgt
     · have t := ltT_total h hlt
       rw [t.1] at h1; rw [t.2] at h2; simp at h1 h2; omega
     · have t := ltT_total h hgt
       rw [t.1] at h2; rw [t.2] at h1; simp at h1 h2; omega
 · rw [List.pairwise_iff_getElem]
   intro i j hi hj hij
   have hi' : i < d.size := by simpa using hi
   have hj' : j < d.size := by simpa using hj
   have := hS.asymmA (hb i j (Nat.zero_le _) hij (by omega))
   rw [getElem!_pos d j hj', getElem!_pos d i hi'] at this
   simpa using this
 · refine List.pairwise_mergeSort ?_ ?_ _
   · intro x y z h1 h2
     simp only [Bool.not_eq_true'] at h1 h2 ⊢
     exact hS.ntrans z y x h2 h1
   · intro x y
     cases hh : ltT cf y x with
     | false => simp
     | true => simp [hS.asymmA hh]
end
section
open Go.Sort Go.Proofs
variable {β : Type} [Inhabited β] {cf : β → β → Int} {d d' : Array (β × Nat)}
theorem tags_ne {a b : Nat} (hp : PermIn a b d d') (hb : b ≤ d.size) (h : ∀ i j, a ≤ i → i < j → j < b → d[i]!.2 ≠ d[j]!.2) : ∀ i j, a ≤ i → i < j → j < b → d'[i]!.2 ≠ d'[j]!.2 := by
 have e1 := extract_toList d a b hb
 have e2 := extract_toList d' a b (by rw [hp.1]; exact hb)
 have p1 : List.Pairwise (fun x y : β × Nat => x.2 ≠ y.2) (d.extract a b).toList := by
  rw [e1, List.pairwise_iff_getElem]
  intro i j hi hj hij
  simp at hi hj
  simp
  exact h _ _ (by omega) (by omega) (by omega)
 have p2 := (hp.2.2.symm.pairwise_iff (R := fun x y : β × Nat => x.2 ≠ y.2) (fun h => Ne.symm h)).1 p1
 rw [e2, List.pairwise_iff_getElem] at p2
 intro i j h1 h2 h3
 have := p2 (i - a) (j - a) (by simp; omega) (by simp; omega) (by omega)
 simp at this
 rwa [show a + (i - a) = i by omega, show a + (j - a) = j by omega] at this
theorem blk_ins (h : CmpOk cf) {a b : Nat} (hab : a ≤ b) (hb : b ≤ d.size) (ht : ∀ t, a ≤ t → t < b → d[t]!.2 = t) :
 PermIn a b d (insertionSort (ltOf (cfT cf)) d a b) ∧ Blk cf a b (insertionSort (ltOf (cfT cf)) d a b) := by
 obtain ⟨p, s⟩ := ins_block h d hab hb (fun t u h1 h2 h3 => by rw [ht t h1 (by omega), ht u (by omega) h3]; exact h2)
 refine ⟨p, permIn_all d _ a b (fun y => a ≤ y.2 ∧ y.2 < b) hb p (fun i h1 h2 => by rw [ht i h1 h2]; exact ⟨h1, h2⟩), asc_of h s (tags_ne p hb fun i j h1 h2 h3 => ?_)⟩
 rw [ht i h1 (by omega), ht j (by omega) h3]
 omega
theorem blks2_step {B n A j : Nat} (hA : A = j * B) (h : Blks2 cf B n A d) (he : ∀ t, t < A → d'[t]! = d[t]!) (hn : Blk cf A (min (A + B) n) d') : Blks2 cf B n (A + B) d' := by
 intro i h1 h2
 by_cases hij : i < j
 · have h3 : (i + 1) * B ≤ j * B := Nat.mul_le_mul_right B hij
   rw [Nat.add_mul, Nat.one_mul, ← hA] at h3
   by_cases hB : B = 0
   · subst hB; simp at hA; subst hA; exact (h i (by omega) h2).keep fun t _ t2 => he t (by omega)
   · exact (h i (by omega) h2).keep fun t _ t2 => he t (by omega)
 · by_cases hji : i = j
   · subst hji; rw [← hA]; exact hn
   · have h3 : (j + 1) * B ≤ i * B := Nat.mul_le_mul_right B (by omega)
     rw [Nat.add_mul, Nat.one_mul, ← hA] at h3
     omega
theorem blks2_nil (B n : Nat) : Blks2 cf B n 0 d := fun _ h1 => absurd h1 (Nat.not_lt_zero _)
theorem blks2_all {B n A : Nat} (h : Blks2 cf B n A d) (hA : n ≤ A) : Blks cf B n 0 d := fun i _ h2 => h i (by omega) h2
theorem blks_mono {B n A A' : Nat} (h : Blks cf B n A d) (hA : A ≤ A') (he : ∀ t, A' ≤ t → d'[t]! = d[t]!) : Blks cf B n A' d' := fun i h1 h2 => (h i (by omega) h2).keep fun t t1 _ => he t (by omega)
theorem blks_two {B n A j : Nat} (hA : A = j * (2 * B)) (h : Blks cf B n A d) (hn : A + B < n) : Blk cf A (A + B) d ∧ Blk cf (A + B) (min (A + 2 * B) n) d := by
 have e1 : A = (2 * j) * B := by rw [hA, Nat.mul_left_comm, Nat.mul_assoc]
 have e2 : A + B = (2 * j + 1) * B := by rw [Nat.add_mul, Nat.one_mul, ← e1]
 have h1 := h (2 * j) (by omega) (by omega)
 have h2 := h (2 * j + 1) (by omega) (by omega)
 rw [← e1, Nat.min_eq_left (by omega)] at h1
 rw [← e2, show A + B + B = A + 2 * B by omega] at h2
 exact ⟨h1, h2⟩
theorem blks_one {B n A j : Nat} (hA : A = j * (2 * B)) (h : Blks cf B n A d) (h1 : A < n) (h2 : n ≤ A + B) : Blk cf A (min (A + 2 * B) n) d := by
 have e1 : A = (2 * j) * B := by rw [hA, Nat.mul_left_comm, Nat.mul_assoc]
 have h3 := h (2 * j) (by omega) (by omega)
 rw [← e1, Nat.min_eq_right (by omega)] at h3
 rw [Nat.min_eq_right (by omega)]
 exact h3
theorem blks_whole {B n : Nat} (h : Blks cf B n 0 d) (hB : n ≤ B) : Asc (ltT cf) 0 n d := by
 intro i j h1 h2 h3
 have h4 := h 0 (by omega) (by omega)
 rw [Nat.zero_mul, Nat.zero_add, Nat.min_eq_right hB] at h4
 exact h4.2 i j h1 h2 h3
end
end Go.Proofs.YtoimjjhopljdmaaGreat

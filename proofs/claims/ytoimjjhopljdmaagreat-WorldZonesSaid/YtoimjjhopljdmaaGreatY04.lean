/-
  Chapter texts SoD: what the claim reaches of them. Conditions stand at each theorem.
-/
import Derived.Test.YtoimjjhopljdmaaGreatY03
namespace Go.Proofs.YtoimjjhopljdmaaGreat
open Go.Shelf Go.RowKit Go.Lib Go.Sort Go.Proofs

attribute [local go_sem ↓] loadVar_ldB storeVar_stB
variable {α : Type} [Inhabited α]

def Mrgd (enc : α → List Value) (w0 : World) (blk off : Nat) (lt : α → α → Bool) (d : Array α) (a b : Nat) (w' : World) : Prop :=
  ∃ d' : Array α, d'.size = d.size ∧ MPost lt d a b d' ∧ SWK enc 11 w0 blk off d' w'

set_option maxHeartbeats 4000000 in
set_option maxRecDepth 1000000 in
theorem sym_left (enc : α → List Value) (cf : α → α → Int) (lt : α → α → Bool) (hS : SWO lt) (g : Nat) (cb : Array Value) (blk off cap a m b : Nat) (d0 d : Array α) (w0 w : World)
    (eg : ∀ args w, (callFunc g args).run Tryz.prog w = .ok (.enter g args) w) (hcmp : CmpLays Tryz.prog g cb enc 11 cf blk off d0.size w0)
    (R : RowK enc 11 w0 blk off d0) (hs : d0.size = d.size) (S : SWK enc 11 w0 blk off d w) (hM : MPre cf lt d a m b) (ham : m = a + 1) (hmb : m < b) (hsz : d.size < 4611686018427387904) :
    Calls Tryz.prog 174 #[.slice (some ⟨blk, off, none⟩) d.size cap, .int .i64 a, .int .i64 m, .int .i64 b, .func (.func g) #[] cb] w fun e w' => e = .returned (.tuple #[]) ∧ Mrgd enc w0 blk off lt d a b w' := by
  have mixed : Tryz.prog.follows .mixedOrders = true := by kernel_rfl
  have S0 : Aside (SWK enc 11 w0 blk off d w) := S
  have HM := Lib.hid hM
  have HSO := Lib.hid hS
  have HC : Aside _ := hcmp
  have bs := hM.bs
  clear S hM hS hcmp
  have t0 : ((m : Int) - (a : Int) == 1) = true := by simp; omega
  have am1 : m ≤ a + 1 := by omega
  have am2 : a + 1 ≤ m := by omega
  clear ham
  go_enter Tryz.func174, Tryz.ntmps174
  go_wp2_with fail
  go_loopg [10, 11] (b - m) (fun kx si sj wr => ∃ (i j : Nat), si = .int .i64 i ∧ sj = .int .i64 j ∧ m ≤ i ∧ i ≤ j ∧ j ≤ b ∧ j - i ≤ kx ∧ Hid (i = m ∨ cf d[i - 1]! d[a]! < 0) ∧ Hid (j = b ∨ ¬ cf d[j]! d[a]! < 0) ∧ Aside (SWK enc 11 w0 blk off d wr))
  case atStart => exact ⟨m, b, rfl, rfl, by omega, by omega, by omega, by omega, Lib.hid (.inl rfl), Lib.hid (.inl rfl), S0⟩
  case round =>
    clear S0
    obtain ⟨i, j, rfl, rfl, hmi, hij, hjb, hkx, HI, HJ, S1⟩ := hrel
    by_cases hlt : i < j
    · have t1 : (i : Int) < (j : Int) := by omega
      obtain ⟨h, hh, hih, hhj⟩ : ∃ h : Nat, ((i : Int) + (j : Int)) / 2 = (h : Int) ∧ i ≤ h ∧ h < j := ⟨(i + j) / 2, by omega, by omega, by omega⟩
      have ea1 : ((h : Int)).toNat = h := by omega
      have pa1 : (0 : Int) ≤ (h : Int) := by omega
      have ba1 : (h : Int) < (d.size : Int) := by omega
      have ra1 : IntKind.i64.wrap ((h : Int)) = (h : Int) := by rw [IntKind.wrap_i64]; omega
      have ea2 : ((a : Int)).toNat = a := by omega
      have pa2 : (0 : Int) ≤ (a : Int) := by omega
      have ba2 : (a : Int) < (d.size : Int) := by omega
      have ra2 : IntKind.i64.wrap ((a : Int)) = (a : Int) := by rw [IntKind.wrap_i64]; omega
      by_cases hc : cf d[h]! d[a]! < 0
      · have HCD := Lib.hid hc
        have hcd : decide (cf d[h]! d[a]! < 0) = true := by simpa using hc
        clear hc
        have lA : ∀ n' os', (ldB ⟨blk, off + (h) * 11, none⟩).run Tryz.prog (grow (wr.drewN n') os') = .ok (.agg (enc d[h]!).toArray) (grow (wr.drewN n') os') := fun n' os' => ldB_of (S1.out.ld R (by omega) Tryz.prog (h) (by omega) n' os')
        have lB : ∀ n' os', (ldB ⟨blk, off + (a) * 11, none⟩).run Tryz.prog (grow (wr.drewN n') os') = .ok (.agg (enc d[a]!).toArray) (grow (wr.drewN n') os') := fun n' os' => ldB_of (S1.out.ld R (by omega) Tryz.prog (a) (by omega) n' os')
        have hcg := fun n' os' => S1.out.cmp HC (by omega) d[h]! d[a]! n' os'
        have GR : Hid (∀ n' os', SWK enc 11 w0 blk off d (grow (wr.drewN n') os')) := fun n' os' => S1.out.grown n' os'
        generalize hX : d[h]! = X at lA hcg hcd
        generalize hY : d[a]! = Y at lB hcg hcd
        have HX := Lib.hid hX
        have HY := Lib.hid hY
        clear hX hY S1
        go_wp2_with fail
        go_quiet_grown (first | (go_at_fn g; refine Calls.grown_of (hcg _ _)))
        go_wp2_with fail
        have S2 : Aside _ := GR.out nq osq
        clear lA lB hcg GR
        generalize grow (wr.drewN nq) osq = w2 at S2 ⊢
        go_roundg (j - (h + 1))
        case measure => omega
        case rel => exact ⟨h + 1, j, by go_num, rfl, by omega, by omega, hjb, by omega, Lib.hid (.inr (by rw [Nat.add_sub_cancel]; exact HCD.out)), HJ, S2⟩
      · have HCD := Lib.hid hc
        have hcd : decide (cf d[h]! d[a]! < 0) = false := by simpa using hc
        clear hc
        have lA : ∀ n' os', (ldB ⟨blk, off + (h) * 11, none⟩).run Tryz.prog (grow (wr.drewN n') os') = .ok (.agg (enc d[h]!).toArray) (grow (wr.drewN n') os') := fun n' os' => ldB_of (S1.out.ld R (by omega) Tryz.prog (h) (by omega) n' os')
        have lB : ∀ n' os', (ldB ⟨blk, off + (a) * 11, none⟩).run Tryz.prog (grow (wr.drewN n') os') = .ok (.agg (enc d[a]!).toArray) (grow (wr.drewN n') os') := fun n' os' => ldB_of (S1.out.ld R (by omega) Tryz.prog (a) (by omega) n' os')
        have hcg := fun n' os' => S1.out.cmp HC (by omega) d[h]! d[a]! n' os'
        have GR : Hid (∀ n' os', SWK enc 11 w0 blk off d (grow (wr.drewN n') os')) := fun n' os' => S1.out.grown n' os'
        generalize hX : d[h]! = X at lA hcg hcd
        generalize hY : d[a]! = Y at lB hcg hcd
        have HX := Lib.hid hX
        have HY := Lib.hid hY
        clear hX hY S1
        go_wp2_with fail
        go_quiet_grown (first | (go_at_fn g; refine Calls.grown_of (hcg _ _)))
        go_wp2_with fail
        have S2 : Aside _ := GR.out nq osq
        clear lA lB hcg GR
        generalize grow (wr.drewN nq) osq = w2 at S2 ⊢
        go_roundg (h - i)
        case measure => omega
        case rel => exact ⟨i, h, rfl, rfl, hmi, hih, by omega, by omega, HI, Lib.hid (.inr HCD.out), S2⟩
    · obtain rfl : i = j := by omega
      go_wp2_with fail
      go_loopg [13] (i - 1 - a) (fun kx sk wr => ∃ (k : Nat) (dk : Array α), sk = .int .i64 k ∧ a ≤ k ∧ k + 1 ≤ i ∧ i - 1 - k ≤ kx ∧ dk.size = d.size ∧ Hid (∀ t, dk[t]! = rotG d a (a + 1) (k + 1) t) ∧ Aside (SWK enc 11 w0 blk off dk wr))
      case atStart => exact ⟨a, d, rfl, by omega, by omega, by omega, rfl, Lib.hid (fun t => (rot_none d a t).symm), S1⟩
      case round =>
        clear S1
        obtain ⟨k, dk, rfl, hak, hki, hkx2, hds, HR, S1⟩ := hrel
        by_cases hlt2 : k + 1 < i
        · have t2 : (k : Int) < (i : Int) - 1 := by omega
          have ea1 : ((k : Int)).toNat = k := by omega
          have pa1 : (0 : Int) ≤ (k : Int) := by omega
          have ba1 : (k : Int) < (d.size : Int) := by omega
          have ra1 : IntKind.i64.wrap ((k : Int)) = (k : Int) := by rw [IntKind.wrap_i64]; omega
          have ea2 : ((k : Int) + 1).toNat = k + 1 := by omega
          have pa2 : (0 : Int) ≤ (k : Int) + 1 := by omega
          have ba2 : (k : Int) + 1 < (d.size : Int) := by omega
          have ra2 : IntKind.i64.wrap ((k : Int) + 1) = (k : Int) + 1 := by rw [IntKind.wrap_i64]; omega
          have S2 : Aside (SWK enc 11 w0 blk off (swp dk (k) (k + 1)) ((wr.drew.setCells blk (off + (k) * 11) (enc dk[k + 1]!)).setCells blk (off + (k + 1) * 11) (enc dk[k]!))) := S1.out.swapped R (k) (k + 1) (by omega) (by omega)
          have l44a := ldB_of (S1.out.ld1 R (by omega) Tryz.prog (k) (by omega))
          have l44b := ldB_of (S1.out.ld1 R (by omega) Tryz.prog (k + 1) (by omega))
          have s44a := stB_of (R.hk _) (S1.out.st1 R (by omega) Tryz.prog (k) (by omega) dk[k + 1]!)
          have s44b := stB_of (R.hk _) (S1.out.st2 R (by omega) Tryz.prog (k) (k + 1) (by omega) (by omega) dk[k + 1]! dk[k]!)
          generalize enc dk[k]! = cI44 at S2 l44a s44b
          generalize enc dk[k + 1]! = cJ44 at S2 l44b s44a s44b
          clear S1
          go_wp2_with fail
          go_big_region_o
          clear l44a l44b s44a s44b
          generalize (wr.drew.setCells blk (off + (k) * 11) cJ44).setCells blk (off + (k + 1) * 11) cI44 = w2 at S2 ⊢
          go_wp2
          go_roundg (i - 1 - (k + 1))
          case measure => omega
          case rel => exact ⟨k + 1, swp dk k (k + 1), by go_num, by omega, by omega, by omega, by rw [size_swp]; exact hds, Lib.hid (fun t => rot_up d dk a k hak (by omega) HR.out t), S2⟩
        · obtain rfl : i = k + 1 := by omega
          have t2 : ¬ (k : Int) < (k : Int) + 1 - 1 := by omega
          go_wp2_with fail
          go_returns
          obtain rfl : m = a + 1 := by omega
          exact ⟨rfl, dk, hds, merge_one_left HSO.out HM.out (by omega) (by omega) (by rcases HI.out with h | h; exact .inl h; exact .inr (by omega)) (by rcases HJ.out with h | h; exact .inl h; exact .inr (by omega)) hds HR.out, S1.out⟩

set_option maxHeartbeats 4000000 in
set_option maxRecDepth 1000000 in
theorem sym_right (enc : α → List Value) (cf : α → α → Int) (lt : α → α → Bool) (hS : SWO lt) (g : Nat) (cb : Array Value) (blk off cap a m b : Nat) (d0 d : Array α) (w0 w : World)
    (eg : ∀ args w, (callFunc g args).run Tryz.prog w = .ok (.enter g args) w) (hcmp : CmpLays Tryz.prog g cb enc 11 cf blk off d0.size w0)
    (R : RowK enc 11 w0 blk off d0) (hs : d0.size = d.size) (S : SWK enc 11 w0 blk off d w) (hM : MPre cf lt d a m b) (ham : a + 2 ≤ m) (hmb : b = m + 1) (hsz : d.size < 4611686018427387904) :
    Calls Tryz.prog 174 #[.slice (some ⟨blk, off, none⟩) d.size cap, .int .i64 a, .int .i64 m, .int .i64 b, .func (.func g) #[] cb] w fun e w' => e = .returned (.tuple #[]) ∧ Mrgd enc w0 blk off lt d a b w' := by
  have mixed : Tryz.prog.follows .mixedOrders = true := by kernel_rfl
  have S0 : Aside (SWK enc 11 w0 blk off d w) := S
  have HM := Lib.hid hM
  have HSO := Lib.hid hS
  have HC : Aside _ := hcmp
  have bs := hM.bs
  clear S hM hS hcmp
  have t0 : ((m : Int) - (a : Int) == 1) = false := by simp; omega
  have t00 : ((b : Int) - (m : Int) == 1) = true := by simp; omega
  have am1 : b ≤ m + 1 := by omega
  have am2 : m + 1 ≤ b := by omega
  clear hmb
  go_enter Tryz.func174, Tryz.ntmps174
  go_wp2_with fail
  go_loopg [14, 15] (m - a) (fun kx si sj wr => ∃ (i j : Nat), si = .int .i64 i ∧ sj = .int .i64 j ∧ a ≤ i ∧ i ≤ j ∧ j ≤ m ∧ j - i ≤ kx ∧ Hid (i = a ∨ ¬ cf d[m]! d[i - 1]! < 0) ∧ Hid (j = m ∨ cf d[m]! d[j]! < 0) ∧ Aside (SWK enc 11 w0 blk off d wr))
  case atStart => exact ⟨a, m, rfl, rfl, by omega, by omega, by omega, by omega, Lib.hid (.inl rfl), Lib.hid (.inl rfl), S0⟩
  case round =>
    clear S0
    obtain ⟨i, j, rfl, rfl, hmi, hij, hjb, hkx, HI, HJ, S1⟩ := hrel
    by_cases hlt : i < j
    · have t1 : (i : Int) < (j : Int) := by omega
      obtain ⟨h, hh, hih, hhj⟩ : ∃ h : Nat, ((i : Int) + (j : Int)) / 2 = (h : Int) ∧ i ≤ h ∧ h < j := ⟨(i + j) / 2, by omega, by omega, by omega⟩
      have ea1 : ((h : Int)).toNat = h := by omega
      have pa1 : (0 : Int) ≤ (h : Int) := by omega
      have ba1 : (h : Int) < (d.size : Int) := by omega
      have ra1 : IntKind.i64.wrap ((h : Int)) = (h : Int) := by rw [IntKind.wrap_i64]; omega
      have ea2 : ((m : Int)).toNat = m := by omega
      have pa2 : (0 : Int) ≤ (m : Int) := by omega
      have ba2 : (m : Int) < (d.size : Int) := by omega
      have ra2 : IntKind.i64.wrap ((m : Int)) = (m : Int) := by rw [IntKind.wrap_i64]; omega
      by_cases hc : cf d[m]! d[h]! < 0
      · have HCD := Lib.hid hc
        have hcd : decide (cf d[m]! d[h]! < 0) = true := by simpa using hc
        clear hc
        have lA : ∀ n' os', (ldB ⟨blk, off + (m) * 11, none⟩).run Tryz.prog (grow (wr.drewN n') os') = .ok (.agg (enc d[m]!).toArray) (grow (wr.drewN n') os') := fun n' os' => ldB_of (S1.out.ld R (by omega) Tryz.prog (m) (by omega) n' os')
        have lB : ∀ n' os', (ldB ⟨blk, off + (h) * 11, none⟩).run Tryz.prog (grow (wr.drewN n') os') = .ok (.agg (enc d[h]!).toArray) (grow (wr.drewN n') os') := fun n' os' => ldB_of (S1.out.ld R (by omega) Tryz.prog (h) (by omega) n' os')
        have hcg := fun n' os' => S1.out.cmp HC (by omega) d[m]! d[h]! n' os'
        have GR : Hid (∀ n' os', SWK enc 11 w0 blk off d (grow (wr.drewN n') os')) := fun n' os' => S1.out.grown n' os'
        generalize hX : d[m]! = X at lA hcg hcd
        generalize hY : d[h]! = Y at lB hcg hcd
        have HX := Lib.hid hX
        have HY := Lib.hid hY
        clear hX hY S1
        go_wp2_with fail
        go_quiet_grown (first | (go_at_fn g; refine Calls.grown_of (hcg _ _)))
        go_wp2_with fail
        have S2 : Aside _ := GR.out nq osq
        clear lA lB hcg GR
        generalize grow (wr.drewN nq) osq = w2 at S2 ⊢
        go_roundg (h - i)
        case measure => omega
        case rel => exact ⟨i, h, rfl, rfl, hmi, hih, by omega, by omega, HI, Lib.hid (.inr HCD.out), S2⟩
      · have HCD := Lib.hid hc
        have hcd : decide (cf d[m]! d[h]! < 0) = false := by simpa using hc
        clear hc
        have lA : ∀ n' os', (ldB ⟨blk, off + (m) * 11, none⟩).run Tryz.prog (grow (wr.drewN n') os') = .ok (.agg (enc d[m]!).toArray) (grow (wr.drewN n') os') := fun n' os' => ldB_of (S1.out.ld R (by omega) Tryz.prog (m) (by omega) n' os')
        have lB : ∀ n' os', (ldB ⟨blk, off + (h) * 11, none⟩).run Tryz.prog (grow (wr.drewN n') os') = .ok (.agg (enc d[h]!).toArray) (grow (wr.drewN n') os') := fun n' os' => ldB_of (S1.out.ld R (by omega) Tryz.prog (h) (by omega) n' os')
        have hcg := fun n' os' => S1.out.cmp HC (by omega) d[m]! d[h]! n' os'
        have GR : Hid (∀ n' os', SWK enc 11 w0 blk off d (grow (wr.drewN n') os')) := fun n' os' => S1.out.grown n' os'
        generalize hX : d[m]! = X at lA hcg hcd
        generalize hY : d[h]! = Y at lB hcg hcd
        have HX := Lib.hid hX
        have HY := Lib.hid hY
        clear hX hY S1
        go_wp2_with fail
        go_quiet_grown (first | (go_at_fn g; refine Calls.grown_of (hcg _ _)))
        go_wp2_with fail
        have S2 : Aside _ := GR.out nq osq
        clear lA lB hcg GR
        generalize grow (wr.drewN nq) osq = w2 at S2 ⊢
        go_roundg (j - (h + 1))
        case measure => omega
        case rel => exact ⟨h + 1, j, by go_num, rfl, by omega, by omega, hjb, by omega, Lib.hid (.inr (by rw [Nat.add_sub_cancel]; exact HCD.out)), HJ, S2⟩
    · obtain rfl : i = j := by omega
      go_wp2_with fail
      go_loopg [17] (m - i) (fun kx sk wr => ∃ (k : Nat) (dk : Array α), sk = .int .i64 k ∧ i ≤ k ∧ k ≤ m ∧ k - i ≤ kx ∧ dk.size = d.size ∧ Hid (∀ t, dk[t]! = rotG d k m (m + 1) t) ∧ Aside (SWK enc 11 w0 blk off dk wr))
      case atStart => exact ⟨m, d, rfl, by omega, by omega, by omega, rfl, Lib.hid (fun t => (rot_none' d m t).symm), S1⟩
      case round =>
        clear S1
        obtain ⟨k1, dk, rfl, hak, hki, hkx2, hds, HR, S1⟩ := hrel
        by_cases hlt2 : i < k1
        · obtain ⟨k, rfl⟩ : ∃ k, k1 = k + 1 := ⟨k1 - 1, by omega⟩
          have t2 : (i : Int) < (k : Int) + 1 := by omega
          have hwp : IntKind.i64.wrap (k : Int) = (k : Int) := by rw [IntKind.wrap_i64]; omega
          have ea1 : ((k : Int)).toNat = k := by omega
          have pa1 : (0 : Int) ≤ (k : Int) := by omega
          have ba1 : (k : Int) < (d.size : Int) := by omega
          have ra1 : IntKind.i64.wrap ((k : Int)) = (k : Int) := by rw [IntKind.wrap_i64]; omega
          have ea2 : ((k : Int) + 1).toNat = k + 1 := by omega
          have pa2 : (0 : Int) ≤ (k : Int) + 1 := by omega
          have ba2 : (k : Int) + 1 < (d.size : Int) := by omega
          have ra2 : IntKind.i64.wrap ((k : Int) + 1) = (k : Int) + 1 := by rw [IntKind.wrap_i64]; omega
          have S2 : Aside (SWK enc 11 w0 blk off (swp dk (k + 1) (k)) ((wr.drew.setCells blk (off + (k + 1) * 11) (enc dk[k]!)).setCells blk (off + (k) * 11) (enc dk[k + 1]!))) := S1.out.swapped R (k + 1) (k) (by omega) (by omega)
          have l44a := ldB_of (S1.out.ld1 R (by omega) Tryz.prog (k + 1) (by omega))
          have l44b := ldB_of (S1.out.ld1 R (by omega) Tryz.prog (k) (by omega))
          have s44a := stB_of (R.hk _) (S1.out.st1 R (by omega) Tryz.prog (k + 1) (by omega) dk[k]!)
          have s44b := stB_of (R.hk _) (S1.out.st2 R (by omega) Tryz.prog (k + 1) (k) (by omega) (by omega) dk[k]! dk[k + 1]!)
          generalize enc dk[k + 1]! = cI44 at S2 l44a s44b
          generalize enc dk[k]! = cJ44 at S2 l44b s44a s44b
          clear S1
          go_wp2_with fail
          go_big_region_o
          clear l44a l44b s44a s44b
          generalize (wr.drew.setCells blk (off + (k + 1) * 11) cJ44).setCells blk (off + (k) * 11) cI44 = w2 at S2 ⊢
          go_wp2
          go_roundg (k - i)
          case measure => omega
          case rel => exact ⟨k, swp dk (k + 1) k, by first | rfl | go_num | (congr 1; omega), by omega, by omega, by omega, by rw [size_swp]; exact hds, Lib.hid (fun t => rot_down d dk m k hki (by omega) HR.out t), S2⟩
        · obtain rfl : k1 = i := by omega
          go_wp2_with fail
          go_returns
          obtain rfl : b = m + 1 := by omega
          exact ⟨rfl, dk, hds, merge_one_right HSO.out HM.out (by omega) (by omega) (by rcases HI.out with h | h; exact .inl h; exact .inr (by omega)) (by rcases HJ.out with h | h; exact .inl h; exact .inr (by omega)) hds HR.out, S1.out⟩
end Go.Proofs.YtoimjjhopljdmaaGreat

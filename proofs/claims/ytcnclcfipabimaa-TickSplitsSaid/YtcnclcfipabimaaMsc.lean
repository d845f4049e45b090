/-
  slices.SortStableFunc's helpers over entities: rotate. Condition: how the row lies.
  slices.SortStableFunc's helpers over entities: symMerge, its two small cases. Condition: how the row lies, what the comparison is.
  slices.SortStableFunc's helpers over entities: symMerge. Condition: how the row lies, what the comparison is.
-/
import Derived.Test.YtcnclcfipabimaaMso
namespace Go.Proofs.Ytcnclcfipabimaa
open Go.Shelf Go.RowKit Go.Lib Go.Sort Go.Proofs

variable {α : Type} [Inhabited α]

/-- Behind a rotation. -/
def Rotd (enc : α → List Value) (w0 : World) (blk off : Nat) (d : Array α) (a m b : Nat) (w' : World) : Prop :=
  ∃ d' : Array α, d'.size = d.size ∧ (∀ t, d'[t]! = rotG d a m b t) ∧ SWK enc 11 w0 blk off d' w'


set_option maxHeartbeats 4000000 in
set_option maxRecDepth 1000000 in
theorem rotate_any (enc : α → List Value) (f : Value) (blk off cap a m b : Nat) (d0 d : Array α) (w0 w : World)
    (R : RowK enc 11 w0 blk off d0) (hs : d0.size = d.size) (S : SWK enc 11 w0 blk off d w) (ham : a < m) (hmb : m < b) (hb : b ≤ d.size) (hsz : d.size < 4611686018427387904) :
    Calls Try.prog 159 #[.slice (some ⟨blk, off, none⟩) d.size cap, .int .i64 a, .int .i64 m, .int .i64 b, f] w fun e w' => e = .returned (.tuple #[]) ∧ Rotd enc w0 blk off d a m b w' := by
  have S0 : Aside (SWK enc 11 w0 blk off d w) := S
  clear S
  have b1 : (b : Int) ≤ (d.size : Int) := by omega
  have b2 : (a : Int) < (m : Int) := by omega
  have b3 : (m : Int) < (b : Int) := by omega
  go_enter Try.func159, Try.ntmps159
  go_wp2_with fail
  go_loopg [10, 11] (b - a) (fun kx si sj wr => ∃ (i j : Nat) (dk : Array α), si = .int .i64 i ∧ sj = .int .i64 j ∧ 0 < i ∧ 0 < j ∧ i ≤ m ∧ m + j ≤ d.size ∧ i + j ≤ kx ∧ dk.size = d.size ∧ Hid (∀ t, rotG dk (m - i) m (m + j) t = rotG d a m b t) ∧ Aside (SWK enc 11 w0 blk off dk wr))
  case atStart => exact ⟨m - a, b - m, d, by congr 1; omega, by congr 1; omega, by omega, by omega, by omega, by omega, by omega, rfl, Lib.hid (fun t => by rw [show m - (m - a) = a by omega, show m + (b - m) = b by omega]), S0⟩
  case round =>
    clear S0
    obtain ⟨i, j, dk, rfl, rfl, hi0, hj0, him, hjs, hkx, hds, HE, S1⟩ := hrel
    have c1 : (i : Int) ≤ (m : Int) := by omega
    have c2 : (m : Int) + (j : Int) ≤ (d.size : Int) := by omega
    have c3 : 0 < (i : Int) := by omega
    have c4 : 0 < (j : Int) := by omega
    by_cases hij : j < i
    · have t1 : (j : Int) < (i : Int) := by omega
      have t2 : ((i : Int) != (j : Int)) = true := by simp; omega
      have q1 := swapRange enc f blk off cap (m - i) (m) j d0 dk w0 wr R (by omega) S1.out (by omega) (by omega) (by omega)
      rw [hds, show ((m - i : Nat) : Int) = (m : Int) - (i : Int) by omega, show ((m : Nat) : Int) = (m : Int) by omega] at q1
      have Q1 := Lib.hid q1
      clear q1
      go_wp2_with fail
      refine Q1.out.mono ?_
      rintro e w1 ⟨rfl, S2⟩
      have S3 : Aside _ := S2
      clear S2
      go_wp2_with fail
      go_roundg (i - j + j)
      case measure => omega
      case rel => exact ⟨i - j, j, swapN (m - i) m j dk, by congr 1; omega, rfl, by omega, hj0, by omega, hjs, by omega, by rw [size_swapN]; exact hds, Lib.hid (fun t => by rw [← HE.out t]; exact rot_left dk m i j him hij (by omega) t), S3⟩
    · by_cases hji : i < j
      · have t1 : ¬ (j : Int) < (i : Int) := by omega
        have t2 : ((i : Int) != (j : Int)) = true := by simp; omega
        have q1 := swapRange enc f blk off cap (m - i) (m + j - i) i d0 dk w0 wr R (by omega) S1.out (by omega) (by omega) (by omega)
        rw [hds, show ((m - i : Nat) : Int) = (m : Int) - (i : Int) by omega, show ((m + j - i : Nat) : Int) = (m : Int) + (j : Int) - (i : Int) by omega] at q1
        have Q1 := Lib.hid q1
        clear q1
        go_wp2_with fail
        refine Q1.out.mono ?_
        rintro e w1 ⟨rfl, S2⟩
        have S3 : Aside _ := S2
        clear S2
        go_wp2_with fail
        go_roundg (i + (j - i))
        case measure => omega
        case rel => exact ⟨i, j - i, swapN (m - i) (m + j - i) i dk, rfl, by congr 1; omega, hi0, by omega, him, by omega, by omega, by rw [size_swapN]; exact hds, Lib.hid (fun t => by rw [← HE.out t]; exact rot_right dk m i j him hji (by omega) t), S3⟩
      · obtain rfl : i = j := by omega
        clear hij hji
        have q1 := swapRange enc f blk off cap (m - i) (m) i d0 dk w0 wr R (by omega) S1.out (by omega) (by omega) (by omega)
        rw [hds, show ((m - i : Nat) : Int) = (m : Int) - (i : Int) by omega, show ((m : Nat) : Int) = (m : Int) by omega] at q1
        have Q1 := Lib.hid q1
        clear q1
        go_wp2_with fail
        refine Q1.out.mono ?_
        rintro e w1 ⟨rfl, S2⟩
        have S3 : Aside _ := S2
        clear S2
        go_wp2_with fail
        go_returns
        exact ⟨rfl, swapN (m - i) m i dk, by rw [size_swapN]; exact hds, fun t => by rw [← HE.out t]; exact rot_end dk m i him (by omega) t, S3.out⟩
end Go.Proofs.Ytcnclcfipabimaa
namespace Go.Proofs.Ytcnclcfipabimaa
open Go.Shelf Go.RowKit Go.Lib Go.Sort Go.Proofs

attribute [local go_sem ↓] loadVar_ldB storeVar_stB
variable {α : Type} [Inhabited α]

/-- Behind a merge. -/
def Mrgd (enc : α → List Value) (w0 : World) (blk off : Nat) (lt : α → α → Bool) (d : Array α) (a b : Nat) (w' : World) : Prop :=
  ∃ d' : Array α, d'.size = d.size ∧ MPost lt d a b d' ∧ SWK enc 11 w0 blk off d' w'

set_option maxHeartbeats 4000000 in
set_option maxRecDepth 1000000 in
theorem sym_left (enc : α → List Value) (cf : α → α → Int) (lt : α → α → Bool) (hS : SWO lt) (g : Nat) (cb : Array Value) (blk off cap a m b : Nat) (d0 d : Array α) (w0 w : World)
    (eg : ∀ args w, (callFunc g args).run Try.prog w = .ok (.enter g args) w) (hcmp : CmpLays Try.prog g cb enc 11 cf blk off d0.size w0)
    (R : RowK enc 11 w0 blk off d0) (hs : d0.size = d.size) (S : SWK enc 11 w0 blk off d w) (hM : MPre cf lt d a m b) (ham : m = a + 1) (hmb : m < b) (hsz : d.size < 4611686018427387904) :
    Calls Try.prog 152 #[.slice (some ⟨blk, off, none⟩) d.size cap, .int .i64 a, .int .i64 m, .int .i64 b, .func (.func g) #[] cb] w fun e w' => e = .returned (.tuple #[]) ∧ Mrgd enc w0 blk off lt d a b w' := by
  have mixed : Try.prog.follows .mixedOrders = true := by kernel_rfl
  have S0 : Aside (SWK enc 11 w0 blk off d w) := S
  have HM := Lib.hid hM
  have HSO := Lib.hid hS
  have HC : Aside _ := hcmp
  have bs := hM.bs
  clear S hM hS hcmp
  have t0 : ((m : Int) - (a : Int) == 1) = true := by simp; omega
  have am1 : m ≤ a + 1 := by omega
  have am2 : a + 1 ≤ m := by omega
  clear ham
  go_enter Try.func152, Try.ntmps152
  go_wp2_with fail
  go_loopg [10, 11] (b - m) (fun kx si sj wr => ∃ (i j : Nat), si = .int .i64 i ∧ sj = .int .i64 j ∧ m ≤ i ∧ i ≤ j ∧ j ≤ b ∧ j - i ≤ kx ∧ Hid (i = m ∨ cf d[i - 1]! d[a]! < 0) ∧ Hid (j = b ∨ ¬ cf d[j]! d[a]! < 0) ∧ Aside (SWK enc 11 w0 blk off d wr))
  case atStart => exact ⟨m, b, rfl, rfl, by omega, by omega, by omega, by omega, Lib.hid (.inl rfl), Lib.hid (.inl rfl), S0⟩
  case round =>
    clear S0
    obtain ⟨i, j, rfl, rfl, hmi, hij, hjb, hkx, HI, HJ, S1⟩ := hrel
    by_cases hlt : i < j
    · have t1 : (i : Int) < (j : Int) := by omega
      obtain ⟨h, hh, hih, hhj⟩ : ∃ h : Nat, ((i : Int) + (j : Int)) / 2 = (h : Int) ∧ i ≤ h ∧ h < j := ⟨(i + j) / 2, by omega, by omega, by omega⟩
      have ea1 : ((h : Int)).toNat = h := by omega
      have pa1 : (0 : Int) ≤ (h : Int) := by omega
      have ba1 : (h : Int) < (d.size : Int) := by omega
      have ra1 : IntKind.i64.wrap ((h : Int)) = (h : Int) := by rw [IntKind.wrap_i64]; omega
      have ea2 : ((a : Int)).toNat = a := by omega
      have pa2 : (0 : Int) ≤ (a : Int) := by omega
      have ba2 : (a : Int) < (d.size : Int) := by omega
      have ra2 : IntKind.i64.wrap ((a : Int)) = (a : Int) := by rw [IntKind.wrap_i64]; omega
      by_cases hc : cf d[h]! d[a]! < 0
      · have HCD := Lib.hid hc
        have hcd : decide (cf d[h]! d[a]! < 0) = true := by simpa using hc
        clear hc
        have lA : ∀ n' os', (ldB ⟨blk, off + (h) * 11, none⟩).run Try.prog (grow (wr.drewN n') os') = .ok (.agg (enc d[h]!).toArray) (grow (wr.drewN n') os') := fun n' os' => ldB_of (S1.out.ld R (by omega) Try.prog (h) (by omega) n' os')
        have lB : ∀ n' os', (ldB ⟨blk, off + (a) * 11, none⟩).run Try.prog (grow (wr.drewN n') os') = .ok (.agg (enc d[a]!).toArray) (grow (wr.drewN n') os') := fun n' os' => ldB_of (S1.out.ld R (by omega) Try.prog (a) (by omega) n' os')
        have hcg := fun n' os' => S1.out.cmp HC (by omega) d[h]! d[a]! n' os'
        have GR : Hid (∀ n' os', SWK enc 11 w0 blk off d (grow (wr.drewN n') os')) := fun n' os' => S1.out.grown n' os'
        generalize hX : d[h]! = X at lA hcg hcd
        generalize hY : d[a]! = Y at lB hcg hcd
        have HX := Lib.hid hX
        have HY := Lib.hid hY
        clear hX hY S1
        go_wp2_with fail
        go_quiet_grown (first | (go_at_fn g; refine Calls.grown_of (hcg _ _)))
        go_wp2_with fail
        have S2 : Aside _ := GR.out nq osq
        clear lA lB hcg GR
        generalize grow (wr.drewN nq) osq = w2 at S2 ⊢
        go_roundg (j - (h + 1))
        case measure => omega
        case rel => exact ⟨h + 1, j, by go_num, rfl, by omega, by omega, hjb, by omega, Lib.hid (.inr (by rw [Nat.add_sub_cancel]; exact HCD.out)), HJ, S2⟩
      · have HCD := Lib.hid hc
        have hcd : decide (cf d[h]! d[a]! < 0) = false := by simpa using hc
        clear hc
        have lA : ∀ n' os', (ldB ⟨blk, off + (h) * 11, none⟩).run Try.prog (grow (wr.drewN n') os') = .ok (.agg (enc d[h]!).toArray) (grow (wr.drewN n') os') := fun n' os' => ldB_of (S1.out.ld R (by omega) Try.prog (h) (by omega) n' os')
        have lB : ∀ n' os', (ldB ⟨blk, off + (a) * 11, none⟩).run Try.prog (grow (wr.drewN n') os') = .ok (.agg (enc d[a]!).toArray) (grow (wr.drewN n') os') := fun n' os' => ldB_of (S1.out.ld R (by omega) Try.prog (a) (by omega) n' os')
        have hcg := fun n' os' => S1.out.cmp HC (by omega) d[h]! d[a]! n' os'
        have GR : Hid (∀ n' os', SWK enc 11 w0 blk off d (grow (wr.drewN n') os')) := fun n' os' => S1.out.grown n' os'
        generalize hX : d[h]! = X at lA hcg hcd
        generalize hY : d[a]! = Y at lB hcg hcd
        have HX := Lib.hid hX
        have HY := Lib.hid hY
        clear hX hY S1
        go_wp2_with fail
        go_quiet_grown (first | (go_at_fn g; refine Calls.grown_of (hcg _ _)))
        go_wp2_with fail
        have S2 : Aside _ := GR.out nq osq
        clear lA lB hcg GR
        generalize grow (wr.drewN nq) osq = w2 at S2 ⊢
        go_roundg (h - i)
        case measure => omega
        case rel => exact ⟨i, h, rfl, rfl, hmi, hih, by omega, by omega, HI, Lib.hid (.inr HCD.out), S2⟩
    · obtain rfl : i = j := by omega
      go_wp2_with fail
      go_loopg [13] (i - 1 - a) (fun kx sk wr => ∃ (k : Nat) (dk : Array α), sk = .int .i64 k ∧ a ≤ k ∧ k + 1 ≤ i ∧ i - 1 - k ≤ kx ∧ dk.size = d.size ∧ Hid (∀ t, dk[t]! = rotG d a (a + 1) (k + 1) t) ∧ Aside (SWK enc 11 w0 blk off dk wr))
      case atStart => exact ⟨a, d, rfl, by omega, by omega, by omega, rfl, Lib.hid (fun t => (rot_none d a t).symm), S1⟩
      case round =>
        clear S1
        obtain ⟨k, dk, rfl, hak, hki, hkx2, hds, HR, S1⟩ := hrel
        by_cases hlt2 : k + 1 < i
        · have t2 : (k : Int) < (i : Int) - 1 := by omega
          have ea1 : ((k : Int)).toNat = k := by omega
          have pa1 : (0 : Int) ≤ (k : Int) := by omega
          have ba1 : (k : Int) < (d.size : Int) := by omega
          have ra1 : IntKind.i64.wrap ((k : Int)) = (k : Int) := by rw [IntKind.wrap_i64]; omega
          have ea2 : ((k : Int) + 1).toNat = k + 1 := by omega
          have pa2 : (0 : Int) ≤ (k : Int) + 1 := by omega
          have ba2 : (k : Int) + 1 < (d.size : Int) := by omega
          have ra2 : IntKind.i64.wrap ((k : Int) + 1) = (k : Int) + 1 := by rw [IntKind.wrap_i64]; omega
          have S2 : Aside (SWK enc 11 w0 blk off (swp dk (k) (k + 1)) ((wr.drew.setCells blk (off + (k) * 11) (enc dk[k + 1]!)).setCells blk (off + (k + 1) * 11) (enc dk[k]!))) := S1.out.swapped R (k) (k + 1) (by omega) (by omega)
          have l44a := ldB_of (S1.out.ld1 R (by omega) Try.prog (k) (by omega))
          have l44b := ldB_of (S1.out.ld1 R (by omega) Try.prog (k + 1) (by omega))
          have s44a := stB_of (R.hk _) (S1.out.st1 R (by omega) Try.prog (k) (by omega) dk[k + 1]!)
          have s44b := stB_of (R.hk _) (S1.out.st2 R (by omega) Try.prog (k) (k + 1) (by omega) (by omega) dk[k + 1]! dk[k]!)
          generalize enc dk[k]! = cI44 at S2 l44a s44b
          generalize enc dk[k + 1]! = cJ44 at S2 l44b s44a s44b
          clear S1
          go_wp2_with fail
          go_big_region_o
          clear l44a l44b s44a s44b
          generalize (wr.drew.setCells blk (off + (k) * 11) cJ44).setCells blk (off + (k + 1) * 11) cI44 = w2 at S2 ⊢
          go_wp2
          go_roundg (i - 1 - (k + 1))
          case measure => omega
          case rel => exact ⟨k + 1, swp dk k (k + 1), by go_num, by omega, by omega, by omega, by rw [size_swp]; exact hds, Lib.hid (fun t => rot_up d dk a k hak (by omega) HR.out t), S2⟩
        · obtain rfl : i = k + 1 := by omega
          have t2 : ¬ (k : Int) < (k : Int) + 1 - 1 := by omega
          go_wp2_with fail
          go_returns
          obtain rfl : m = a + 1 := by omega
          exact ⟨rfl, dk, hds, merge_one_left HSO.out HM.out (by omega) (by omega) (by rcases HI.out with h | h; exact .inl h; exact .inr (by omega)) (by rcases HJ.out with h | h; exact .inl h; exact .inr (by omega)) hds HR.out, S1.out⟩

set_option maxHeartbeats 4000000 in
set_option maxRecDepth 1000000 in
theorem sym_right (enc : α → List Value) (cf : α → α → Int) (lt : α → α → Bool) (hS : SWO lt) (g : Nat) (cb : Array Value) (blk off cap a m b : Nat) (d0 d : Array α) (w0 w : World)
    (eg : ∀ args w, (callFunc g args).run Try.prog w = .ok (.enter g args) w) (hcmp : CmpLays Try.prog g cb enc 11 cf blk off d0.size w0)
    (R : RowK enc 11 w0 blk off d0) (hs : d0.size = d.size) (S : SWK enc 11 w0 blk off d w) (hM : MPre cf lt d a m b) (ham : a + 2 ≤ m) (hmb : b = m + 1) (hsz : d.size < 4611686018427387904) :
    Calls Try.prog 152 #[.slice (some ⟨blk, off, none⟩) d.size cap, .int .i64 a, .int .i64 m, .int .i64 b, .func (.func g) #[] cb] w fun e w' => e = .returned (.tuple #[]) ∧ Mrgd enc w0 blk off lt d a b w' := by
  have mixed : Try.prog.follows .mixedOrders = true := by kernel_rfl
  have S0 : Aside (SWK enc 11 w0 blk off d w) := S
  have HM := Lib.hid hM
  have HSO := Lib.hid hS
  have HC : Aside _ := hcmp
  have bs := hM.bs
  clear S hM hS hcmp
  have t0 : ((m : Int) - (a : Int) == 1) = false := by simp; omega
  have t00 : ((b : Int) - (m : Int) == 1) = true := by simp; omega
  have am1 : b ≤ m + 1 := by omega
  have am2 : m + 1 ≤ b := by omega
  clear hmb
  go_enter Try.func152, Try.ntmps152
  go_wp2_with fail
  go_loopg [14, 15] (m - a) (fun kx si sj wr => ∃ (i j : Nat), si = .int .i64 i ∧ sj = .int .i64 j ∧ a ≤ i ∧ i ≤ j ∧ j ≤ m ∧ j - i ≤ kx ∧ Hid (i = a ∨ ¬ cf d[m]! d[i - 1]! < 0) ∧ Hid (j = m ∨ cf d[m]! d[j]! < 0) ∧ Aside (SWK enc 11 w0 blk off d wr))
  case atStart => exact ⟨a, m, rfl, rfl, by omega, by omega, by omega, by omega, Lib.hid (.inl rfl), Lib.hid (.inl rfl), S0⟩
  case round =>
    clear S0
    obtain ⟨i, j, rfl, rfl, hmi, hij, hjb, hkx, HI, HJ, S1⟩ := hrel
    by_cases hlt : i < j
    · have t1 : (i : Int) < (j : Int) := by omega
      obtain ⟨h, hh, hih, hhj⟩ : ∃ h : Nat, ((i : Int) + (j : Int)) / 2 = (h : Int) ∧ i ≤ h ∧ h < j := ⟨(i + j) / 2, by omega, by omega, by omega⟩
      have ea1 : ((h : Int)).toNat = h := by omega
      have pa1 : (0 : Int) ≤ (h : Int) := by omega
      have ba1 : (h : Int) < (d.size : Int) := by omega
      have ra1 : IntKind.i64.wrap ((h : Int)) = (h : Int) := by rw [IntKind.wrap_i64]; omega
      have ea2 : ((m : Int)).toNat = m := by omega
      have pa2 : (0 : Int) ≤ (m : Int) := by omega
      have ba2 : (m : Int) < (d.size : Int) := by omega
      have ra2 : IntKind.i64.wrap ((m : Int)) = (m : Int) := by rw [IntKind.wrap_i64]; omega
      by_cases hc : cf d[m]! d[h]! < 0
      · have HCD := Lib.hid hc
        have hcd : decide (cf d[m]! d[h]! < 0) = true := by simpa using hc
        clear hc
        have lA : ∀ n' os', (ldB ⟨blk, off + (m) * 11, none⟩).run Try.prog (grow (wr.drewN n') os') = .ok (.agg (enc d[m]!).toArray) (grow (wr.drewN n') os') := fun n' os' => ldB_of (S1.out.ld R (by omega) Try.prog (m) (by omega) n' os')
        have lB : ∀ n' os', (ldB ⟨blk, off + (h) * 11, none⟩).run Try.prog (grow (wr.drewN n') os') = .ok (.agg (enc d[h]!).toArray) (grow (wr.drewN n') os') := fun n' os' => ldB_of (S1.out.ld R (by omega) Try.prog (h) (by omega) n' os')
        have hcg := fun n' os' => S1.out.cmp HC (by omega) d[m]! d[h]! n' os'
        have GR : Hid (∀ n' os', SWK enc 11 w0 blk off d (grow (wr.drewN n') os')) := fun n' os' => S1.out.grown n' os'
        generalize hX : d[m]! = X at lA hcg hcd
        generalize hY : d[h]! = Y at lB hcg hcd
        have HX := Lib.hid hX
        have HY := Lib.hid hY
        clear hX hY S1
        go_wp2_with fail
        go_quiet_grown (first | (go_at_fn g; refine Calls.grown_of (hcg _ _)))
        go_wp2_with fail
        have S2 : Aside _ := GR.out nq osq
        clear lA lB hcg GR
        generalize grow (wr.drewN nq) osq = w2 at S2 ⊢
        go_roundg (h - i)
        case measure => omega
        case rel => exact ⟨i, h, rfl, rfl, hmi, hih, by omega, by omega, HI, Lib.hid (.inr HCD.out), S2⟩
      · have HCD := Lib.hid hc
        have hcd : decide (cf d[m]! d[h]! < 0) = false := by simpa using hc
        clear hc
        have lA : ∀ n' os', (ldB ⟨blk, off + (m) * 11, none⟩).run Try.prog (grow (wr.drewN n') os') = .ok (.agg (enc d[m]!).toArray) (grow (wr.drewN n') os') := fun n' os' => ldB_of (S1.out.ld R (by omega) Try.prog (m) (by omega) n' os')
        have lB : ∀ n' os', (ldB ⟨blk, off + (h) * 11, none⟩).run Try.prog (grow (wr.drewN n') os') = .ok (.agg (enc d[h]!).toArray) (grow (wr.drewN n') os') := fun n' os' => ldB_of (S1.out.ld R (by omega) Try.prog (h) (by omega) n' os')
        have hcg := fun n' os' => S1.out.cmp HC (by omega) d[m]! d[h]! n' os'
        have GR : Hid (∀ n' os', SWK enc 11 w0 blk off d (grow (wr.drewN n') os')) := fun n' os' => S1.out.grown n' os'
        generalize hX : d[m]! = X at lA hcg hcd
        generalize hY : d[h]! = Y at lB hcg hcd
        have HX := Lib.hid hX
        have HY := Lib.hid hY
        clear hX hY S1
        go_wp2_with fail
        go_quiet_grown (first | (go_at_fn g; refine Calls.grown_of (hcg _ _)))
        go_wp2_with fail
        have S2 : Aside _ := GR.out nq osq
        clear lA lB hcg GR
        generalize grow (wr.drewN nq) osq = w2 at S2 ⊢
        go_roundg (j - (h + 1))
        case measure => omega
        case rel => exact ⟨h + 1, j, by go_num, rfl, by omega, by omega, hjb, by omega, Lib.hid (.inr (by rw [Nat.add_sub_cancel]; exact HCD.out)), HJ, S2⟩
    · obtain rfl : i = j := by omega
      go_wp2_with fail
      go_loopg [17] (m - i) (fun kx sk wr => ∃ (k : Nat) (dk : Array α), sk = .int .i64 k ∧ i ≤ k ∧ k ≤ m ∧ k - i ≤ kx ∧ dk.size = d.size ∧ Hid (∀ t, dk[t]! = rotG d k m (m + 1) t) ∧ Aside (SWK enc 11 w0 blk off dk wr))
      case atStart => exact ⟨m, d, rfl, by omega, by omega, by omega, rfl, Lib.hid (fun t => (rot_none' d m t).symm), S1⟩
      case round =>
        clear S1
        obtain ⟨k1, dk, rfl, hak, hki, hkx2, hds, HR, S1⟩ := hrel
        by_cases hlt2 : i < k1
        · obtain ⟨k, rfl⟩ : ∃ k, k1 = k + 1 := ⟨k1 - 1, by omega⟩
          have t2 : (i : Int) < (k : Int) + 1 := by omega
          have hwp : IntKind.i64.wrap (k : Int) = (k : Int) := by rw [IntKind.wrap_i64]; omega
          have ea1 : ((k : Int)).toNat = k := by omega
          have pa1 : (0 : Int) ≤ (k : Int) := by omega
          have ba1 : (k : Int) < (d.size : Int) := by omega
          have ra1 : IntKind.i64.wrap ((k : Int)) = (k : Int) := by rw [IntKind.wrap_i64]; omega
          have ea2 : ((k : Int) + 1).toNat = k + 1 := by omega
          have pa2 : (0 : Int) ≤ (k : Int) + 1 := by omega
          have ba2 : (k : Int) + 1 < (d.size : Int) := by omega
          have ra2 : IntKind.i64.wrap ((k : Int) + 1) = (k : Int) + 1 := by rw [IntKind.wrap_i64]; omega
          have S2 : Aside (SWK enc 11 w0 blk off (swp dk (k + 1) (k)) ((wr.drew.setCells blk (off + (k + 1) * 11) (enc dk[k]!)).setCells blk (off + (k) * 11) (enc dk[k + 1]!))) := S1.out.swapped R (k + 1) (k) (by omega) (by omega)
          have l44a := ldB_of (S1.out.ld1 R (by omega) Try.prog (k + 1) (by omega))
          have l44b := ldB_of (S1.out.ld1 R (by omega) Try.prog (k) (by omega))
          have s44a := stB_of (R.hk _) (S1.out.st1 R (by omega) Try.prog (k + 1) (by omega) dk[k]!)
          have s44b := stB_of (R.hk _) (S1.out.st2 R (by omega) Try.prog (k + 1) (k) (by omega) (by omega) dk[k]! dk[k + 1]!)
          generalize enc dk[k + 1]! = cI44 at S2 l44a s44b
          generalize enc dk[k]! = cJ44 at S2 l44b s44a s44b
          clear S1
          go_wp2_with fail
          go_big_region_o
          clear l44a l44b s44a s44b
          generalize (wr.drew.setCells blk (off + (k + 1) * 11) cJ44).setCells blk (off + (k) * 11) cI44 = w2 at S2 ⊢
          go_wp2
          go_roundg (k - i)
          case measure => omega
          case rel => exact ⟨k, swp dk (k + 1) k, by first | rfl | go_num | (congr 1; omega), by omega, by omega, by omega, by rw [size_swp]; exact hds, Lib.hid (fun t => rot_down d dk m k hki (by omega) HR.out t), S2⟩
        · obtain rfl : k1 = i := by omega
          go_wp2_with fail
          go_returns
          obtain rfl : b = m + 1 := by omega
          exact ⟨rfl, dk, hds, merge_one_right HSO.out HM.out (by omega) (by omega) (by rcases HI.out with h | h; exact .inl h; exact .inr (by omega)) (by rcases HJ.out with h | h; exact .inl h; exact .inr (by omega)) hds HR.out, S1.out⟩
end Go.Proofs.Ytcnclcfipabimaa
namespace Go.Proofs.Ytcnclcfipabimaa
open Go.Shelf Go.RowKit Go.Lib Go.Sort Go.Proofs

attribute [local go_sem ↓] loadVar_ldB storeVar_stB
variable {α : Type} [Inhabited α]

/-- What is asked of the row and of the comparison. -/
structure Cmpr (enc : α → List Value) (cf : α → α → Int) (lt : α → α → Bool) (g : Nat) (cb : Array Value) (blk off : Nat) (d0 : Array α) (w0 : World) : Prop where
  eg : ∀ args w, (callFunc g args).run Try.prog w = .ok (.enter g args) w
  hS : SWO lt
  hc : CmpLays Try.prog g cb enc 11 cf blk off d0.size w0
  R : RowK enc 11 w0 blk off d0
  sz : d0.size < 4611686018427387904

/-- A test's slot. -/
def Tst (t : Value) (P : Prop) : Prop := (t = .bool true ∧ P) ∨ (t = .bool false ∧ ¬ P)

set_option maxHeartbeats 4000000 in
set_option maxRecDepth 1000000 in
theorem sym_step (enc : α → List Value) (cf : α → α → Int) (lt : α → α → Bool) (g : Nat) (cb : Array Value) (blk off cap a m b : Nat) (d0 d : Array α) (w0 w : World)
    (X : Cmpr enc cf lt g cb blk off d0 w0) (hs : d0.size = d.size) (S : SWK enc 11 w0 blk off d w) (hM : MPre cf lt d a m b) (ham : a + 2 ≤ m) (hmb : m + 2 ≤ b)
    (IH : ∀ (a' m' b' : Nat) (d : Array α) (w : World), b' - a' < b - a → d0.size = d.size → SWK enc 11 w0 blk off d w → MPre cf lt d a' m' b' → a' < m' → m' < b' →
      Calls Try.prog 152 #[.slice (some ⟨blk, off, none⟩) d.size cap, .int .i64 a', .int .i64 m', .int .i64 b', .func (.func g) #[] cb] w fun e w' => e = .returned (.tuple #[]) ∧ Mrgd enc w0 blk off lt d a' b' w') :
    Calls Try.prog 152 #[.slice (some ⟨blk, off, none⟩) d.size cap, .int .i64 a, .int .i64 m, .int .i64 b, .func (.func g) #[] cb] w fun e w' => e = .returned (.tuple #[]) ∧ Mrgd enc w0 blk off lt d a b w' := by
  have mixed : Try.prog.follows .mixedOrders = true := by kernel_rfl
  obtain ⟨eg, hS, hcmp, R, hsz⟩ := X
  have S0 : Aside (SWK enc 11 w0 blk off d w) := S
  have HM := Lib.hid hM
  have HSO := Lib.hid hS
  have HC : Aside _ := hcmp
  have HIH := Lib.hid IH
  have bs := hM.bs
  clear S hM hS hcmp IH
  rw [hs] at hsz
  have t0 : ((m : Int) - (a : Int) == 1) = false := by simp; omega
  have t00 : ((b : Int) - (m : Int) == 1) = false := by simp; omega
  obtain ⟨mid, hmid, hmz, hm1, hm2⟩ : ∃ mid : Nat, Hid (mid = (a + b) / 2) ∧ ((a : Int) + (b : Int)) / 2 = (mid : Int) ∧ 2 * mid ≤ a + b ∧ a + b ≤ 2 * mid + 1 := ⟨(a + b) / 2, Lib.hid rfl, by omega, by omega, by omega⟩
  obtain ⟨s0, hs0⟩ : ∃ s0 : Nat, Hid (s0 = if mid < m then mid + m - b else a) := ⟨_, Lib.hid rfl⟩
  obtain ⟨r0, hr0⟩ : ∃ r0 : Nat, Hid (r0 = if mid < m then mid else m) := ⟨_, Lib.hid rfl⟩
  have z0 : a ≤ s0 ∧ s0 ≤ r0 ∧ r0 ≤ m ∧ r0 ≤ mid ∧ mid + m ≤ b + s0 := by
    have h1 := hs0.out
    have h2 := hr0.out
    by_cases hc : mid < m
    · rw [if_pos hc] at h1 h2; omega
    · rw [if_neg hc] at h1 h2; omega
  obtain ⟨z1, z2, z3, z4, z5⟩ := z0
  go_enter Try.func152, Try.ntmps152
  go_upto_if 140 with fail
  go_cut [20, 21] (fun x y wx => x = .int .i64 s0 ∧ y = .int .i64 r0 ∧ wx = w)
  case first => as_aux_lemma =>
    have h1 := hs0.out
    have h2 := hr0.out
    by_cases hc : mid < m
    · rw [if_pos hc] at h1 h2
      have hcz : (mid : Int) < (m : Int) := by omega
      have H1 := Lib.hid h1
      have H2 := Lib.hid h2
      clear h1 h2
      go_wp2_with fail
      go_meet
      exact ⟨by congr 1; have := H1.out; omega, by rw [H2.out], rfl⟩
    · rw [if_neg hc] at h1 h2
      have hcz : ¬ (mid : Int) < (m : Int) := by omega
      have H1 := Lib.hid h1
      have H2 := Lib.hid h2
      clear h1 h2
      go_wp2_with fail
      go_meet
      exact ⟨by rw [H1.out], by rw [H2.out], rfl⟩
  obtain ⟨rfl, rfl, rfl⟩ := hcut
  go_wp2_with fail
  go_loopg [20, 21] (r0 - s0) (fun kx x y wr => ∃ (s r : Nat), x = .int .i64 s ∧ y = .int .i64 r ∧ s0 ≤ s ∧ s ≤ r ∧ r ≤ r0 ∧ r - s ≤ kx ∧ Hid (s = s0 ∨ ¬ cf d[mid + m - s]! d[s - 1]! < 0) ∧ Hid (r = r0 ∨ cf d[mid + m - 1 - r]! d[r]! < 0) ∧ Aside (SWK enc 11 w0 blk off d wr))
  case atStart => exact ⟨s0, r0, rfl, rfl, by omega, by omega, by omega, by omega, Lib.hid (.inl rfl), Lib.hid (.inl rfl), S0⟩
  case round =>
    clear S0
    obtain ⟨s, r, rfl, rfl, hss, hsr, hrr, hkx, HI, HJ, S1⟩ := hrel
    by_cases hlt : s < r
    · have t1 : (s : Int) < (r : Int) := by omega
      obtain ⟨h, hh, hih, hhj⟩ : ∃ h : Nat, ((s : Int) + (r : Int)) / 2 = (h : Int) ∧ s ≤ h ∧ h < r := ⟨(s + r) / 2, by omega, by omega, by omega⟩
      have ea1 : ((h : Int)).toNat = h := by omega
      have pa1 : (0 : Int) ≤ (h : Int) := by omega
      have ba1 : (h : Int) < (d.size : Int) := by omega
      have ra1 : IntKind.i64.wrap ((h : Int)) = (h : Int) := by rw [IntKind.wrap_i64]; omega
      obtain ⟨q, hq⟩ : ∃ q : Nat, q = mid + m - 1 - h := ⟨_, rfl⟩
      have hqz : (mid : Int) + (m : Int) - 1 - (h : Int) = (q : Int) := by omega
      have HQ := Lib.hid hq
      have hqs : q < d.size := by omega
      clear hq
      have ea2 : ((q : Int)).toNat = q := by omega
      have pa2 : (0 : Int) ≤ (q : Int) := by omega
      have ba2 : (q : Int) < (d.size : Int) := by omega
      have ra2 : IntKind.i64.wrap ((q : Int)) = (q : Int) := by rw [IntKind.wrap_i64]; omega
      by_cases hc : cf d[q]! d[h]! < 0
      · as_aux_lemma =>
        have HCD := Lib.hid hc
        have hcd : decide (cf d[q]! d[h]! < 0) = true := by simpa using hc
        clear hc
        have lA : ∀ n' os', (ldB ⟨blk, off + (q) * 11, none⟩).run Try.prog (grow (wr.drewN n') os') = .ok (.agg (enc d[q]!).toArray) (grow (wr.drewN n') os') := fun n' os' => ldB_of (S1.out.ld R (by omega) Try.prog (q) (by omega) n' os')
        have lB : ∀ n' os', (ldB ⟨blk, off + (h) * 11, none⟩).run Try.prog (grow (wr.drewN n') os') = .ok (.agg (enc d[h]!).toArray) (grow (wr.drewN n') os') := fun n' os' => ldB_of (S1.out.ld R (by omega) Try.prog (h) (by omega) n' os')
        have hcg := fun n' os' => S1.out.cmp HC (by omega) d[q]! d[h]! n' os'
        have GR : Hid (∀ n' os', SWK enc 11 w0 blk off d (grow (wr.drewN n') os')) := fun n' os' => S1.out.grown n' os'
        generalize hX : d[q]! = X at lA hcg hcd
        generalize hY : d[h]! = Y at lB hcg hcd
        have HX := Lib.hid hX
        have HY := Lib.hid hY
        clear hX hY S1
        go_wp2_with fail
        go_quiet_grown (first | (go_at_fn g; refine Calls.grown_of (hcg _ _)))
        go_wp2_with fail
        have S2 : Aside _ := GR.out nq osq
        clear lA lB hcg GR
        generalize grow (wr.drewN nq) osq = w2 at S2 ⊢
        go_roundg (h - s)
        case measure => omega
        case rel => exact ⟨s, h, rfl, rfl, hss, hih, by omega, by omega, HI, Lib.hid (.inr (by rw [← HQ.out]; exact HCD.out)), S2⟩
      · as_aux_lemma =>
        have HCD := Lib.hid hc
        have hcd : decide (cf d[q]! d[h]! < 0) = false := by simpa using hc
        clear hc
        have lA : ∀ n' os', (ldB ⟨blk, off + (q) * 11, none⟩).run Try.prog (grow (wr.drewN n') os') = .ok (.agg (enc d[q]!).toArray) (grow (wr.drewN n') os') := fun n' os' => ldB_of (S1.out.ld R (by omega) Try.prog (q) (by omega) n' os')
        have lB : ∀ n' os', (ldB ⟨blk, off + (h) * 11, none⟩).run Try.prog (grow (wr.drewN n') os') = .ok (.agg (enc d[h]!).toArray) (grow (wr.drewN n') os') := fun n' os' => ldB_of (S1.out.ld R (by omega) Try.prog (h) (by omega) n' os')
        have hcg := fun n' os' => S1.out.cmp HC (by omega) d[q]! d[h]! n' os'
        have GR : Hid (∀ n' os', SWK enc 11 w0 blk off d (grow (wr.drewN n') os')) := fun n' os' => S1.out.grown n' os'
        generalize hX : d[q]! = X at lA hcg hcd
        generalize hY : d[h]! = Y at lB hcg hcd
        have HX := Lib.hid hX
        have HY := Lib.hid hY
        clear hX hY S1
        go_wp2_with fail
        go_quiet_grown (first | (go_at_fn g; refine Calls.grown_of (hcg _ _)))
        go_wp2_with fail
        have S2 : Aside _ := GR.out nq osq
        clear lA lB hcg GR
        generalize grow (wr.drewN nq) osq = w2 at S2 ⊢
        go_roundg (r - (h + 1))
        case measure => omega
        case rel => exact ⟨h + 1, r, by go_num, rfl, by omega, by omega, hrr, by omega, Lib.hid (.inr (by rw [Nat.add_sub_cancel, show mid + m - (h + 1) = mid + m - 1 - h by omega, ← HQ.out]; exact HCD.out)), HJ, S2⟩
    · obtain rfl : s = r := by omega
      obtain ⟨e, he⟩ : ∃ e : Nat, e = mid + m - s := ⟨_, rfl⟩
      have hez : (mid : Int) + (m : Int) - (s : Int) = (e : Int) := by omega
      have q1 : s = s0 ∨ ¬ cf d[mid + m - s]! d[s - 1]! < 0 := by rcases HI.out with h | h; exact .inl h; exact .inr (by omega)
      have q2 : s = r0 ∨ cf d[mid + m - 1 - s]! d[s]! < 0 := HJ.out
      have HSP := Lib.hid (fun (d' : Array α) hs' hr' => merge_split (d' := d') HSO.out HM.out hmid.out ham hmb he hs0.out hr0.out hss hrr q1 q2 hs' hr')
      have g1 : s ≤ m ∧ m ≤ e ∧ e ≤ b ∧ a ≤ s ∧ s ≤ mid ∧ mid ≤ e := by
        have h1 := hs0.out
        have h2 := hr0.out
        by_cases hc : mid < m
        · rw [if_pos hc] at h1 h2; refine ⟨?_, ?_, ?_, ?_, ?_, ?_⟩ <;> omega
        · rw [if_neg hc] at h1 h2; refine ⟨?_, ?_, ?_, ?_, ?_, ?_⟩ <;> omega
      obtain ⟨y1, y2, y3, y4, y5, y6⟩ := g1
      clear q1 q2 HI HJ he
      have W1 := Lib.hid S1.out
      clear S1
      go_upto_region 39 with fail
      go_cut [185] (fun t wx => Tst t (s < m ∧ m < e) ∧ wx = wr)
      case first => as_aux_lemma =>
        by_cases h1 : s < m
        · have h1z : (s : Int) < (m : Int) := by omega
          by_cases h2 : m < e
          · have h2z : (m : Int) < (e : Int) := by omega
            have h3 := Lib.hid (And.intro h1 h2)
            clear h1 h2
            go_wp2_with fail
            go_meet
            exact ⟨.inl ⟨rfl, h3.out⟩, rfl⟩
          · have h2z : ¬ (m : Int) < (e : Int) := by omega
            have h3 := Lib.hid h2
            clear h1 h2
            go_wp2_with fail
            go_meet
            exact ⟨.inr ⟨rfl, fun h => by have := h3.out; omega⟩, rfl⟩
        · have h1z : ¬ (s : Int) < (m : Int) := by omega
          have h3 := Lib.hid h1
          clear h1
          go_wp2_with fail
          go_meet
          exact ⟨.inr ⟨rfl, fun h => by have := h3.out; omega⟩, rfl⟩
      obtain ⟨htst, rfl⟩ := hcut
      go_upto_if 185 with fail
      go_cut [24] (fun x wx => x = .int .i64 e ∧ Rotd enc w0 blk off d s m e wx)
      case first => as_aux_lemma =>
        rcases htst with ⟨rfl, hc⟩ | ⟨rfl, hc⟩
        · have q3 := Lib.hid (rotate_any enc (.func (.func g) #[] cb) blk off cap s m e d0 d w0 _ R hs W1.out hc.1 hc.2 (by omega) hsz)
          clear hc
          go_wp2_with fail
          refine q3.out.mono ?_
          rintro e w1 ⟨rfl, S2⟩
          have S3 := Lib.hid S2
          clear S2
          go_wp2_with fail
          go_meet
          exact ⟨rfl, S3.out⟩
        · have HCN := Lib.hid hc
          clear hc
          go_wp2_with fail
          go_meet
          exact ⟨rfl, d, rfl, (fun t => by rcases (show s = m ∨ m = e by have := HCN.out; omega) with rfl | rfl; exact (rot_skip d s e t).symm; exact (rot_skip' d s m t).symm), W1.out⟩
      clear htst
      obtain ⟨rfl, HCUT⟩ := hcut
      obtain ⟨d1, hd1, hr1, S2⟩ := HCUT
      obtain ⟨_, _, _, _, _, _, hp, m1, m2, hx⟩ := HSP.out d1 hd1 hr1
      have hs1 : d0.size = d1.size := by omega
      have W2 := Lib.hid S2
      have M1 := Lib.hid m1
      have M2 := Lib.hid m2
      have HX := Lib.hid hx
      have HP := Lib.hid hp
      clear S2 m1 m2 hx hp hr1 HSP W1
      have ih1 := fun h1 h2 => HIH.out a s mid d1 wc (by omega) hs1 W2.out M1.out h1 h2
      rw [hd1] at ih1
      have IH1 := Lib.hid ih1
      clear ih1
      go_upto_region 41 with fail
      go_cut [199] (fun t wx => Tst t (a < s ∧ s < mid) ∧ wx = wc)
      case first => as_aux_lemma =>
        by_cases h1 : a < s
        · have h1z : (a : Int) < (s : Int) := by omega
          by_cases h2 : s < mid
          · have h2z : (s : Int) < (mid : Int) := by omega
            have h3 := Lib.hid (And.intro h1 h2)
            clear h1 h2
            go_wp2_with fail
            go_meet
            exact ⟨.inl ⟨rfl, h3.out⟩, rfl⟩
          · have h2z : ¬ (s : Int) < (mid : Int) := by omega
            have h3 := Lib.hid h2
            clear h1 h2
            go_wp2_with fail
            go_meet
            exact ⟨.inr ⟨rfl, fun h => by have := h3.out; omega⟩, rfl⟩
        · have h1z : ¬ (a : Int) < (s : Int) := by omega
          have h3 := Lib.hid h1
          clear h1
          go_wp2_with fail
          go_meet
          exact ⟨.inr ⟨rfl, fun h => by have := h3.out; omega⟩, rfl⟩
      obtain ⟨htst, rfl⟩ := hcut
      go_upto_if 199 with fail
      go_cut [24] (fun x wx => x = .int .i64 e ∧ Mrgd enc w0 blk off lt d1 a mid wx)
      case first => as_aux_lemma =>
        rcases htst with ⟨rfl, hc⟩ | ⟨rfl, hc⟩
        · have q3 := Lib.hid (IH1.out hc.1 hc.2)
          clear hc
          go_wp2_with fail
          refine q3.out.mono ?_
          rintro e w1 ⟨rfl, S2⟩
          have S3 := Lib.hid S2
          clear S2
          go_wp2_with fail
          go_meet
          exact ⟨rfl, S3.out⟩
        · have HCN := Lib.hid hc
          clear hc
          go_wp2_with fail
          go_meet
          exact ⟨rfl, d1, rfl, (by rcases (show s = a ∨ s = mid by have := HCN.out; omega) with rfl | rfl; exact M1.out.nil_left; exact M1.out.nil_right), W2.out⟩
      clear htst
      obtain ⟨rfl, HCUT⟩ := hcut
      obtain ⟨d2, hd2, hp2, S2⟩ := HCUT
      have hs2 : d0.size = d2.size := by omega
      have M3 := Lib.hid (M2.out.elsewhere hd2 (fun t t1 t2 => hp2.1.2.1 t (.inr t1)))
      have W3 := Lib.hid S2
      have HP2 := Lib.hid hp2
      clear S2 hp2 W2 IH1
      have ih2 := fun h1 h2 => HIH.out mid e b d2 wc (by omega) hs2 W3.out M3.out h1 h2
      rw [show d2.size = d.size by omega] at ih2
      have IH2 := Lib.hid ih2
      clear ih2
      go_upto_region 43 with fail
      go_cut [213] (fun t wx => Tst t (mid < e ∧ e < b) ∧ wx = wc)
      case first => as_aux_lemma =>
        by_cases h1 : mid < e
        · have h1z : (mid : Int) < (e : Int) := by omega
          by_cases h2 : e < b
          · have h2z : (e : Int) < (b : Int) := by omega
            have h3 := Lib.hid (And.intro h1 h2)
            clear h1 h2
            go_wp2_with fail
            go_meet
            exact ⟨.inl ⟨rfl, h3.out⟩, rfl⟩
          · have h2z : ¬ (e : Int) < (b : Int) := by omega
            have h3 := Lib.hid h2
            clear h1 h2
            go_wp2_with fail
            go_meet
            exact ⟨.inr ⟨rfl, fun h => by have := h3.out; omega⟩, rfl⟩
        · have h1z : ¬ (mid : Int) < (e : Int) := by omega
          have h3 := Lib.hid h1
          clear h1
          go_wp2_with fail
          go_meet
          exact ⟨.inr ⟨rfl, fun h => by have := h3.out; omega⟩, rfl⟩
      obtain ⟨htst, rfl⟩ := hcut
      have fin : ∀ d3 : Array α, ∀ w' : World, d3.size = d2.size → MPost lt d2 mid b d3 → SWK enc 11 w0 blk off d3 w' → Mrgd enc w0 blk off lt d a b w' := fun d3 w' e1 p3 S4 => by
        have hj := asc_join (lt := lt) (d := d1) (show a ≤ mid by omega) (show mid ≤ b by omega) (by omega) HX.out HP2.out.1 p3.1 HP2.out.2 p3.2
        exact ⟨d3, by omega, ⟨permIn_trans _ _ _ _ _ HP.out hj.1, hj.2⟩, S4⟩
      have FIN := Lib.hid fin
      clear fin
      rcases htst with ⟨rfl, hc⟩ | ⟨rfl, hc⟩
      · have q3 := Lib.hid (IH2.out hc.1 hc.2)
        clear hc
        go_wp2_with fail
        refine q3.out.mono ?_
        rintro e w1 ⟨rfl, S2⟩
        have S3 := Lib.hid S2
        clear S2
        go_wp2_with fail
        go_returns
        obtain ⟨d3, e3, p3, S4⟩ := S3.out
        exact ⟨rfl, FIN.out d3 _ e3 p3 S4⟩
      · have HCN := Lib.hid hc
        clear hc
        go_wp2_with fail
        go_returns
        exact ⟨rfl, FIN.out d2 _ rfl (by rcases (show e = mid ∨ e = b by have := HCN.out; omega) with rfl | rfl; exact M3.out.nil_left; exact M3.out.nil_right) W3.out⟩

/-- symMerge: two neighbouring runs become one. -/
theorem sym_any (enc : α → List Value) (cf : α → α → Int) (lt : α → α → Bool) (g : Nat) (cb : Array Value) (blk off cap : Nat) (d0 : Array α) (w0 : World) (X : Cmpr enc cf lt g cb blk off d0 w0) :
    ∀ (N a m b : Nat) (d : Array α) (w : World), b - a < N → d0.size = d.size → SWK enc 11 w0 blk off d w → MPre cf lt d a m b → a < m → m < b →
      Calls Try.prog 152 #[.slice (some ⟨blk, off, none⟩) d.size cap, .int .i64 a, .int .i64 m, .int .i64 b, .func (.func g) #[] cb] w fun e w' => e = .returned (.tuple #[]) ∧ Mrgd enc w0 blk off lt d a b w'
  | 0, _, _, _, _, _, h, _, _, _, _, _ => absurd h (Nat.not_lt_zero _)
  | N + 1, a, m, b, d, w, hN, hs, S, hM, ham, hmb => by
    have hsz := X.sz
    rw [hs] at hsz
    by_cases h1 : m = a + 1
    · exact sym_left enc cf lt X.hS g cb blk off cap a m b d0 d w0 w X.eg X.hc X.R hs S hM h1 hmb hsz
    · by_cases h2 : b = m + 1
      · exact sym_right enc cf lt X.hS g cb blk off cap a m b d0 d w0 w X.eg X.hc X.R hs S hM (by omega) h2 hsz
      · exact sym_step enc cf lt g cb blk off cap a m b d0 d w0 w X hs S hM (by omega) (by omega) fun a' m' b' d' w' q1 q2 q3 q4 q5 q6 => by
          have := sym_any enc cf lt g cb blk off cap d0 w0 X N a' m' b' d' w' (by omega) q2 q3 q4 q5 q6
          exact this
end Go.Proofs.Ytcnclcfipabimaa

/-
  Chapter texts SoE: what the claim reaches of them. Conditions stand at each theorem.
-/
import Derived.Test.YtmkfjelpekkmmaaQ15
namespace Go.Proofs.Ytmkfjelpekkmmaa
open Go.Shelf Go.RowKit Go.Lib Go.Sort Go.Proofs

attribute [local go_sem ↓] loadVar_ldB storeVar_stB
variable {α : Type} [Inhabited α]

structure Cmpr (enc : α → List Value) (cf : α → α → Int) (lt : α → α → Bool) (g : Nat) (cb : Array Value) (blk off : Nat) (d0 : Array α) (w0 : World) : Prop where
  eg : ∀ args w, (callFunc g args).run Try.prog w = .ok (.enter g args) w
  hS : SWO lt
  hc : CmpLays Try.prog g cb enc 11 cf blk off d0.size w0
  R : RowK enc 11 w0 blk off d0
  sz : d0.size < 4611686018427387904

def Tst (t : Value) (P : Prop) : Prop := (t = .bool true ∧ P) ∨ (t = .bool false ∧ ¬ P)

set_option maxHeartbeats 4000000 in
set_option maxRecDepth 1000000 in
theorem sym_step (enc : α → List Value) (cf : α → α → Int) (lt : α → α → Bool) (g : Nat) (cb : Array Value) (blk off cap a m b : Nat) (d0 d : Array α) (w0 w : World)
    (X : Cmpr enc cf lt g cb blk off d0 w0) (hs : d0.size = d.size) (S : SWK enc 11 w0 blk off d w) (hM : MPre cf lt d a m b) (ham : a + 2 ≤ m) (hmb : m + 2 ≤ b)
    (IH : ∀ (a' m' b' : Nat) (d : Array α) (w : World), b' - a' < b - a → d0.size = d.size → SWK enc 11 w0 blk off d w → MPre cf lt d a' m' b' → a' < m' → m' < b' →
      Calls Try.prog 78 #[.slice (some ⟨blk, off, none⟩) d.size cap, .int .i64 a', .int .i64 m', .int .i64 b', .func (.func g) #[] cb] w fun e w' => e = .returned (.tuple #[]) ∧ Mrgd enc w0 blk off lt d a' b' w') :
    Calls Try.prog 78 #[.slice (some ⟨blk, off, none⟩) d.size cap, .int .i64 a, .int .i64 m, .int .i64 b, .func (.func g) #[] cb] w fun e w' => e = .returned (.tuple #[]) ∧ Mrgd enc w0 blk off lt d a b w' := by
  have mixed : Try.prog.follows .mixedOrders = true := by kernel_rfl
  obtain ⟨eg, hS, hcmp, R, hsz⟩ := X
  have S0 : Aside (SWK enc 11 w0 blk off d w) := S
  have HM := Lib.hid hM
  have HSO := Lib.hid hS
  have HC : Aside _ := hcmp
  have HIH := Lib.hid IH
  have bs := hM.bs
  clear S hM hS hcmp IH
  rw [hs] at hsz
  have t0 : ((m : Int) - (a : Int) == 1) = false := by simp; omega
  have t00 : ((b : Int) - (m : Int) == 1) = false := by simp; omega
  obtain ⟨mid, hmid, hmz, hm1, hm2⟩ : ∃ mid : Nat, Hid (mid = (a + b) / 2) ∧ ((a : Int) + (b : Int)) / 2 = (mid : Int) ∧ 2 * mid ≤ a + b ∧ a + b ≤ 2 * mid + 1 := ⟨(a + b) / 2, Lib.hid rfl, by omega, by omega, by omega⟩
  obtain ⟨s0, hs0⟩ : ∃ s0 : Nat, Hid (s0 = if mid < m then mid + m - b else a) := ⟨_, Lib.hid rfl⟩
  obtain ⟨r0, hr0⟩ : ∃ r0 : Nat, Hid (r0 = if mid < m then mid else m) := ⟨_, Lib.hid rfl⟩
  have z0 : a ≤ s0 ∧ s0 ≤ r0 ∧ r0 ≤ m ∧ r0 ≤ mid ∧ mid + m ≤ b + s0 := by
    have h1 := hs0.out
    have h2 := hr0.out
    by_cases hc : mid < m
    · rw [if_pos hc] at h1 h2; omega
    · rw [if_neg hc] at h1 h2; omega
  obtain ⟨z1, z2, z3, z4, z5⟩ := z0
  go_enter Try.func78, Try.ntmps78
  go_upto_if 140 with fail
  go_cut [20, 21] (fun x y wx => x = .int .i64 s0 ∧ y = .int .i64 r0 ∧ wx = w)
  case first => as_aux_lemma =>
    have h1 := hs0.out
    have h2 := hr0.out
    by_cases hc : mid < m
    · rw [if_pos hc] at h1 h2
      have hcz : (mid : Int) < (m : Int) := by omega
      have H1 := Lib.hid h1
      have H2 := Lib.hid h2
      clear h1 h2
      go_wp2_with fail
      go_meet
      exact ⟨by congr 1; have := H1.out; omega, by rw [H2.out], rfl⟩
    · rw [if_neg hc] at h1 h2
      have hcz : ¬ (mid : Int) < (m : Int) := by omega
      have H1 := Lib.hid h1
      have H2 := Lib.hid h2
      clear h1 h2
      go_wp2_with fail
      go_meet
      exact ⟨by rw [H1.out], by rw [H2.out], rfl⟩
  obtain ⟨rfl, rfl, rfl⟩ := hcut
  go_wp2_with fail
  go_loopg [20, 21] (r0 - s0) (fun kx x y wr => ∃ (s r : Nat), x = .int .i64 s ∧ y = .int .i64 r ∧ s0 ≤ s ∧ s ≤ r ∧ r ≤ r0 ∧ r - s ≤ kx ∧ Hid (s = s0 ∨ ¬ cf d[mid + m - s]! d[s - 1]! < 0) ∧ Hid (r = r0 ∨ cf d[mid + m - 1 - r]! d[r]! < 0) ∧ Aside (SWK enc 11 w0 blk off d wr))
  case atStart => exact ⟨s0, r0, rfl, rfl, by omega, by omega, by omega, by omega, Lib.hid (.inl rfl), Lib.hid (.inl rfl), S0⟩
  case round =>
    clear S0
    obtain ⟨s, r, rfl, rfl, hss, hsr, hrr, hkx, HI, HJ, S1⟩ := hrel
    by_cases hlt : s < r
    · have t1 : (s : Int) < (r : Int) := by omega
      obtain ⟨h, hh, hih, hhj⟩ : ∃ h : Nat, ((s : Int) + (r : Int)) / 2 = (h : Int) ∧ s ≤ h ∧ h < r := ⟨(s + r) / 2, by omega, by omega, by omega⟩
      have ea1 : ((h : Int)).toNat = h := by omega
      have pa1 : (0 : Int) ≤ (h : Int) := by omega
      have ba1 : (h : Int) < (d.size : Int) := by omega
      have ra1 : IntKind.i64.wrap ((h : Int)) = (h : Int) := by rw [IntKind.wrap_i64]; omega
      obtain ⟨q, hq⟩ : ∃ q : Nat, q = mid + m - 1 - h := ⟨_, rfl⟩
      have hqz : (mid : Int) + (m : Int) - 1 - (h : Int) = (q : Int) := by omega
      have HQ := Lib.hid hq
      have hqs : q < d.size := by omega
      clear hq
      have ea2 : ((q : Int)).toNat = q := by omega
      have pa2 : (0 : Int) ≤ (q : Int) := by omega
      have ba2 : (q : Int) < (d.size : Int) := by omega
      have ra2 : IntKind.i64.wrap ((q : Int)) = (q : Int) := by rw [IntKind.wrap_i64]; omega
      by_cases hc : cf d[q]! d[h]! < 0
      · as_aux_lemma =>
        have HCD := Lib.hid hc
        have hcd : decide (cf d[q]! d[h]! < 0) = true := by simpa using hc
        clear hc
        have lA : ∀ n' os', (ldB ⟨blk, off + (q) * 11, none⟩).run Try.prog (grow (wr.drewN n') os') = .ok (.agg (enc d[q]!).toArray) (grow (wr.drewN n') os') := fun n' os' => ldB_of (S1.out.ld R (by omega) Try.prog (q) (by omega) n' os')
        have lB : ∀ n' os', (ldB ⟨blk, off + (h) * 11, none⟩).run Try.prog (grow (wr.drewN n') os') = .ok (.agg (enc d[h]!).toArray) (grow (wr.drewN n') os') := fun n' os' => ldB_of (S1.out.ld R (by omega) Try.prog (h) (by omega) n' os')
        have hcg := fun n' os' => S1.out.cmp HC (by omega) d[q]! d[h]! n' os'
        have GR : Hid (∀ n' os', SWK enc 11 w0 blk off d (grow (wr.drewN n') os')) := fun n' os' => S1.out.grown n' os'
        generalize hX : d[q]! = X at lA hcg hcd
        generalize hY : d[h]! = Y at lB hcg hcd
        have HX := Lib.hid hX
        have HY := Lib.hid hY
        clear hX hY S1
        go_wp2_with fail
        go_quiet_grown (first | (go_at_fn g; refine Calls.grown_of (hcg _ _)))
        go_wp2_with fail
        have S2 : Aside _ := GR.out nq osq
        clear lA lB hcg GR
        generalize grow (wr.drewN nq) osq = w2 at S2 ⊢
        go_roundg (h - s)
        case measure => omega
        case rel => exact ⟨s, h, rfl, rfl, hss, hih, by omega, by omega, HI, Lib.hid (.inr (by rw [← HQ.out]; exact HCD.out)), S2⟩
      · as_aux_lemma =>
        have HCD := Lib.hid hc
        have hcd : decide (cf d[q]! d[h]! < 0) = false := by simpa using hc
        clear hc
        have lA : ∀ n' os', (ldB ⟨blk, off + (q) * 11, none⟩).run Try.prog (grow (wr.drewN n') os') = .ok (.agg (enc d[q]!).toArray) (grow (wr.drewN n') os') := fun n' os' => ldB_of (S1.out.ld R (by omega) Try.prog (q) (by omega) n' os')
        have lB : ∀ n' os', (ldB ⟨blk, off + (h) * 11, none⟩).run Try.prog (grow (wr.drewN n') os') = .ok (.agg (enc d[h]!).toArray) (grow (wr.drewN n') os') := fun n' os' => ldB_of (S1.out.ld R (by omega) Try.prog (h) (by omega) n' os')
        have hcg := fun n' os' => S1.out.cmp HC (by omega) d[q]! d[h]! n' os'
        have GR : Hid (∀ n' os', SWK enc 11 w0 blk off d (grow (wr.drewN n') os')) := fun n' os' => S1.out.grown n' os'
        generalize hX : d[q]! = X at lA hcg hcd
        generalize hY : d[h]! = Y at lB hcg hcd
        have HX := Lib.hid hX
        have HY := Lib.hid hY
        clear hX hY S1
        go_wp2_with fail
        go_quiet_grown (first | (go_at_fn g; refine Calls.grown_of (hcg _ _)))
        go_wp2_with fail
        have S2 : Aside _ := GR.out nq osq
        clear lA lB hcg GR
        generalize grow (wr.drewN nq) osq = w2 at S2 ⊢
        go_roundg (r - (h + 1))
        case measure => omega
        case rel => exact ⟨h + 1, r, by go_num, rfl, by omega, by omega, hrr, by omega, Lib.hid (.inr (by rw [Nat.add_sub_cancel, show mid + m - (h + 1) = mid + m - 1 - h by omega, ← HQ.out]; exact HCD.out)), HJ, S2⟩
    · obtain rfl : s = r := by omega
      obtain ⟨e, he⟩ : ∃ e : Nat, e = mid + m - s := ⟨_, rfl⟩
      have hez : (mid : Int) + (m : Int) - (s : Int) = (e : Int) := by omega
      have q1 : s = s0 ∨ ¬ cf d[mid + m - s]! d[s - 1]! < 0 := by rcases HI.out with h | h; exact .inl h; exact .inr (by omega)
      have q2 : s = r0 ∨ cf d[mid + m - 1 - s]! d[s]! < 0 := HJ.out
      have HSP := Lib.hid (fun (d' : Array α) hs' hr' => merge_split (d' := d') HSO.out HM.out hmid.out ham hmb he hs0.out hr0.out hss hrr q1 q2 hs' hr')
      have g1 : s ≤ m ∧ m ≤ e ∧ e ≤ b ∧ a ≤ s ∧ s ≤ mid ∧ mid ≤ e := by
        have h1 := hs0.out
        have h2 := hr0.out
        by_cases hc : mid < m
        · rw [if_pos hc] at h1 h2; refine ⟨?_, ?_, ?_, ?_, ?_, ?_⟩ <;> omega
        · rw [if_neg hc] at h1 h2; refine ⟨?_, ?_, ?_, ?_, ?_, ?_⟩ <;> omega
      obtain ⟨y1, y2, y3, y4, y5, y6⟩ := g1
      clear q1 q2 HI HJ he
      have W1 := Lib.hid S1.out
      clear S1
      go_upto_region 39 with fail
      go_cut [185] (fun t wx => Tst t (s < m ∧ m < e) ∧ wx = wr)
      case first => as_aux_lemma =>
        by_cases h1 : s < m
        · have h1z : (s : Int) < (m : Int) := by omega
          by_cases h2 : m < e
          · have h2z : (m : Int) < (e : Int) := by omega
            have h3 := Lib.hid (And.intro h1 h2)
            clear h1 h2
            go_wp2_with fail
            go_meet
            exact ⟨.inl ⟨rfl, h3.out⟩, rfl⟩
          · have h2z : ¬ (m : Int) < (e : Int) := by omega
            have h3 := Lib.hid h2
            clear h1 h2
            go_wp2_with fail
            go_meet
            exact ⟨.inr ⟨rfl, fun h => by have := h3.out; omega⟩, rfl⟩
        · have h1z : ¬ (s : Int) < (m : Int) := by omega
          have h3 := Lib.hid h1
          clear h1
          go_wp2_with fail
          go_meet
          exact ⟨.inr ⟨rfl, fun h => by have := h3.out; omega⟩, rfl⟩
      obtain ⟨htst, rfl⟩ := hcut
      go_upto_if 185 with fail
      go_cut [24] (fun x wx => x = .int .i64 e ∧ Rotd enc w0 blk off d s m e wx)
      case first => as_aux_lemma =>
        rcases htst with ⟨rfl, hc⟩ | ⟨rfl, hc⟩
        · have q3 := Lib.hid (rotate_any enc (.func (.func g) #[] cb) blk off cap s m e d0 d w0 _ R hs W1.out hc.1 hc.2 (by omega) hsz)
          clear hc
          go_wp2_with fail
          refine q3.out.mono ?_
          rintro e w1 ⟨rfl, S2⟩
          have S3 := Lib.hid S2
          clear S2
          go_wp2_with fail
          go_meet
          exact ⟨rfl, S3.out⟩
        · have HCN := Lib.hid hc
          clear hc
          go_wp2_with fail
          go_meet
          exact ⟨rfl, d, rfl, (fun t => by rcases (show s = m ∨ m = e by have := HCN.out; omega) with rfl | rfl; exact (rot_skip d s e t).symm; exact (rot_skip' d s m t).symm), W1.out⟩
      clear htst
      obtain ⟨rfl, HCUT⟩ := hcut
      obtain ⟨d1, hd1, hr1, S2⟩ := HCUT
      obtain ⟨_, _, _, _, _, _, hp, m1, m2, hx⟩ := HSP.out d1 hd1 hr1
      have hs1 : d0.size = d1.size := by omega
      have W2 := Lib.hid S2
      have M1 := Lib.hid m1
      have M2 := Lib.hid m2
      have HX := Lib.hid hx
      have HP := Lib.hid hp
      clear S2 m1 m2 hx hp hr1 HSP W1
      have ih1 := fun h1 h2 => HIH.out a s mid d1 wc (by omega) hs1 W2.out M1.out h1 h2
      rw [hd1] at ih1
      have IH1 := Lib.hid ih1
      clear ih1
      go_upto_region 41 with fail
      go_cut [199] (fun t wx => Tst t (a < s ∧ s < mid) ∧ wx = wc)
      case first => as_aux_lemma =>
        by_cases h1 : a < s
        · have h1z : (a : Int) < (s : Int) := by omega
          by_cases h2 : s < mid
          · have h2z : (s : Int) < (mid : Int) := by omega
            have h3 := Lib.hid (And.intro h1 h2)
            clear h1 h2
            go_wp2_with fail
            go_meet
            exact ⟨.inl ⟨rfl, h3.out⟩, rfl⟩
          · have h2z : ¬ (s : Int) < (mid : Int) := by omega
            have h3 := Lib.hid h2
            clear h1 h2
            go_wp2_with fail
            go_meet
            exact ⟨.inr ⟨rfl, fun h => by have := h3.out; omega⟩, rfl⟩
        · have h1z : ¬ (a : Int) < (s : Int) := by omega
          have h3 := Lib.hid h1
          clear h1
          go_wp2_with fail
          go_meet
          exact ⟨.inr ⟨rfl, fun h => by have := h3.out; omega⟩, rfl⟩
      obtain ⟨htst, rfl⟩ := hcut
      go_upto_if 199 with fail
      go_cut [24] (fun x wx => x = .int .i64 e ∧ Mrgd enc w0 blk off lt d1 a mid wx)
      case first => as_aux_lemma =>
        rcases htst with ⟨rfl, hc⟩ | ⟨rfl, hc⟩
        · have q3 := Lib.hid (IH1.out hc.1 hc.2)
          clear hc
          go_wp2_with fail
          refine q3.out.mono ?_
          rintro e w1 ⟨rfl, S2⟩
          have S3 := Lib.hid S2
          clear S2
          go_wp2_with fail
          go_meet
          exact ⟨rfl, S3.out⟩
        · have HCN := Lib.hid hc
          clear hc
          go_wp2_with fail
          go_meet
          exact ⟨rfl, d1, rfl, (by rcases (show s = a ∨ s = mid by have := HCN.out; omega) with rfl | rfl; exact M1.out.nil_left; exact M1.out.nil_right), W2.out⟩
      clear htst
      obtain ⟨rfl, HCUT⟩ := hcut
      obtain ⟨d2, hd2, hp2, S2⟩ := HCUT
      have hs2 : d0.size = d2.size := by omega
      have M3 := Lib.hid (M2.out.elsewhere hd2 (fun t t1 t2 => hp2.1.2.1 t (.inr t1)))
      have W3 := Lib.hid S2
      have HP2 := Lib.hid hp2
      clear S2 hp2 W2 IH1
      have ih2 := fun h1 h2 => HIH.out mid e b d2 wc (by omega) hs2 W3.out M3.out h1 h2
      rw [show d2.size = d.size by omega] at ih2
      have IH2 := Lib.hid ih2
      clear ih2
      go_upto_region 43 with fail
      go_cut [213] (fun t wx => Tst t (mid < e ∧ e < b) ∧ wx = wc)
      case first => as_aux_lemma =>
        by_cases h1 : mid < e
        · have h1z : (mid : Int) < (e : Int) := by omega
          by_cases h2 : e < b
          · have h2z : (e : Int) < (b : Int) := by omega
            have h3 := Lib.hid (And.intro h1 h2)
            clear h1 h2
            go_wp2_with fail
            go_meet
            exact ⟨.inl ⟨rfl, h3.out⟩, rfl⟩
          · have h2z : ¬ (e : Int) < (b : Int) := by omega
            have h3 := Lib.hid h2
            clear h1 h2
            go_wp2_with fail
            go_meet
            exact ⟨.inr ⟨rfl, fun h => by have := h3.out; omega⟩, rfl⟩
        · have h1z : ¬ (mid : Int) < (e : Int) := by omega
          have h3 := Lib.hid h1
          clear h1
          go_wp2_with fail
          go_meet
          exact ⟨.inr ⟨rfl, fun h => by have := h3.out; omega⟩, rfl⟩
      obtain ⟨htst, rfl⟩ := hcut
      have fin : ∀ d3 : Array α, ∀ w' : World, d3.size = d2.size → MPost lt d2 mid b d3 → SWK enc 11 w0 blk off d3 w' → Mrgd enc w0 blk off lt d a b w' := fun d3 w' e1 p3 S4 => by
        have hj := asc_join (lt := lt) (d := d1) (show a ≤ mid by omega) (show mid ≤ b by omega) (by omega) HX.out HP2.out.1 p3.1 HP2.out.2 p3.2
        exact ⟨d3, by omega, ⟨permIn_trans _ _ _ _ _ HP.out hj.1, hj.2⟩, S4⟩
      have FIN := Lib.hid fin
      clear fin
      rcases htst with ⟨rfl, hc⟩ | ⟨rfl, hc⟩
      · have q3 := Lib.hid (IH2.out hc.1 hc.2)
        clear hc
        go_wp2_with fail
        refine q3.out.mono ?_
        rintro e w1 ⟨rfl, S2⟩
        have S3 := Lib.hid S2
        clear S2
        go_wp2_with fail
        go_returns
        obtain ⟨d3, e3, p3, S4⟩ := S3.out
        exact ⟨rfl, FIN.out d3 _ e3 p3 S4⟩
      · have HCN := Lib.hid hc
        clear hc
        go_wp2_with fail
        go_returns
        exact ⟨rfl, FIN.out d2 _ rfl (by rcases (show e = mid ∨ e = b by have := HCN.out; omega) with rfl | rfl; exact M3.out.nil_left; exact M3.out.nil_right) W3.out⟩

theorem sym_any (enc : α → List Value) (cf : α → α → Int) (lt : α → α → Bool) (g : Nat) (cb : Array Value) (blk off cap : Nat) (d0 : Array α) (w0 : World) (X : Cmpr enc cf lt g cb blk off d0 w0) :
    ∀ (N a m b : Nat) (d : Array α) (w : World), b - a < N → d0.size = d.size → SWK enc 11 w0 blk off d w → MPre cf lt d a m b → a < m → m < b →
      Calls Try.prog 78 #[.slice (some ⟨blk, off, none⟩) d.size cap, .int .i64 a, .int .i64 m, .int .i64 b, .func (.func g) #[] cb] w fun e w' => e = .returned (.tuple #[]) ∧ Mrgd enc w0 blk off lt d a b w'
  | 0, _, _, _, _, _, h, _, _, _, _, _ => absurd h (Nat.not_lt_zero _)
  | N + 1, a, m, b, d, w, hN, hs, S, hM, ham, hmb => by
    have hsz := X.sz
    rw [hs] at hsz
    by_cases h1 : m = a + 1
    · exact sym_left enc cf lt X.hS g cb blk off cap a m b d0 d w0 w X.eg X.hc X.R hs S hM h1 hmb hsz
    · by_cases h2 : b = m + 1
      · exact sym_right enc cf lt X.hS g cb blk off cap a m b d0 d w0 w X.eg X.hc X.R hs S hM (by omega) h2 hsz
      · exact sym_step enc cf lt g cb blk off cap a m b d0 d w0 w X hs S hM (by omega) (by omega) fun a' m' b' d' w' q1 q2 q3 q4 q5 q6 => by
          have := sym_any enc cf lt g cb blk off cap d0 w0 X N a' m' b' d' w' (by omega) q2 q3 q4 q5 q6
          exact this
end Go.Proofs.Ytmkfjelpekkmmaa

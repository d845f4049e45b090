/-
  Chapter texts SoH SoI: what the claim reaches of them. Conditions stand at each theorem.
-/
import Derived.StillTailTactics
import Derived.Test.YtoimjjhopljdmaaGreatY05
import Derived.Test.YtoimjjhopljdmaaGreatY01
import Derived.Test.YtoimjjhopljdmaaGreatY02
namespace Go.Proofs.YtoimjjhopljdmaaGreat
open Go.Shelf Go.RowKit Go.Lib Go.Sort Go.Proofs

def ren20 : Ren := ⟨fun n => if n = 20 then 173 else 0, fun n => if n = 0 then 0 else if n = 3 then 3 else if n = 4 then 4 else if n = 22 then 37 else if n = 24 then 32 else if n = 25 then 194 else 0, fun _ => 0⟩

theorem lays20 : SlLaysF0.n20 Tryz.prog ren20 := {
  mixed := by kernel_rfl
  f20 := ⟨Tryz.f173.name, by decide, by kernel_rfl⟩
  t0 := by kernel_rfl
  a0 := fun _ => by kernel_rfl
  z0 := fun _ => by kernel_rfl
  v0 := fun _ => by kernel_rfl
  t3 := by kernel_rfl
  a3 := fun _ => by kernel_rfl
  z3 := fun _ => by kernel_rfl
  v3 := fun _ => by kernel_rfl
  t4 := by kernel_rfl
  a4 := fun _ => by kernel_rfl
  z4 := fun _ => by kernel_rfl
  v4 := fun _ => by kernel_rfl
  t22 := by kernel_rfl
  a22 := fun _ => by kernel_rfl
  z22 := fun _ => by kernel_rfl
  v22 := fun _ => by kernel_rfl
  t25 := by kernel_rfl
  a25 := fun _ => by kernel_rfl
  z25 := fun _ => by kernel_rfl
  v25 := fun _ => by kernel_rfl
}

variable {α : Type} [Inhabited α]

theorem cmpLays_at {P : Program} {g : Nat} {cb : Array Value} {enc : α → List Value} {k : Nat} {cf : α → α → Int} {blk off n : Nat} {w0 wr : World} {d : Array α} (S : SWK enc k w0 blk off d wr) (hblk : blk < w0.heap.size) (hn : d.size = n) (hc : CmpLays P g cb enc k cf blk off n w0) : CmpLays P g cb enc k cf blk off n wr := by
  obtain ⟨m0, os0, rfl⟩ := S
  intro m os dk hs x y
  rw [sortWorldK_on enc k w0 blk off m0 m d dk os0 os hblk (by omega)]
  exact hc _ _ dk hs x y

theorem size_insInner (lt : α → α → Bool) (a : Nat) : ∀ (j : Nat) (d : Array α), (insInner lt a j d).size = d.size
  | 0, d => by rw [insInner_stop _ _ _ _ (.inl (Nat.zero_le _))]
  | j + 1, d => by
    unfold insInner
    split
    · rw [size_insInner lt a j, size_swp]
    · rfl
theorem size_insOuter (lt : α → α → Bool) (a b : Nat) : ∀ (n i : Nat) (d : Array α), b - i = n → (insOuter lt a b i d).size = d.size
  | n, i, d, hn => by
    by_cases h : i < b
    · rw [insOuter_go _ _ _ _ _ h]
      match n, hn with
      | 0, hn => omega
      | n + 1, hn => rw [size_insOuter lt a b n (i + 1) _ (by omega), size_insInner]
    · rw [insOuter_stop _ _ _ _ _ h]

theorem ins_any (enc : α → List Value) (cf : α → α → Int) (lt : α → α → Bool) (g : Nat) (cb : Array Value) (blk off cap : Nat) (d0 : Array α) (w0 : World) (X : Cmpr enc cf lt g cb blk off d0 w0) (a b : Nat) (d : Array α) (w : World) (hs : d0.size = d.size) (S : SWK enc 11 w0 blk off d w) (hab : a ≤ b) (hb : b ≤ d.size) :
    Calls Tryz.prog 173 #[.slice (some ⟨blk, off, none⟩) d.size cap, .int .i64 a, .int .i64 b, .func (.func g) #[] cb] w fun e w' => e = .returned (.tuple #[]) ∧ SWK enc 11 w0 blk off (insertionSort (ltOf cf) d a b) w' := by
  have hc := cmpLays_at S X.R.hblk hs.symm X.hc
  rw [hs] at hc
  have h := AnyQ.insertionSortCmpFunc lays20 11 (fun _ => by kernel_rfl) (fun _ => by kernel_rfl) enc X.R.hk X.R.h1 cf g cb blk off cap a b d w X.eg hc (S.holds X.R.hblk X.R.hH hs.symm) (S.lt X.R.hblk) hab hb (by have := X.sz; omega)
  refine h.mono ?_
  rintro e w' ⟨rfl, n, os, rfl⟩
  refine ⟨rfl, S.on X.R.hblk n _ os ?_⟩
  exact size_insOuter _ _ _ _ _ _ rfl

structure SRow {β : Type} [Inhabited β] (enc : β → List Value) (cf : β → β → Int) (w0 : World) (blk off : Nat) (d0 d : Array (β × Nat)) (W : World) : Prop where
  sz : d.size = d0.size
  pm : PermIn 0 d0.size d0 d
  sw : SWK (fun x => enc x.1) 11 w0 blk off d W

theorem SRow.next {β : Type} [Inhabited β] {enc : β → List Value} {cf : β → β → Int} {w0 : World} {blk off : Nat} {d0 d d' : Array (β × Nat)} {W W' : World} {a b : Nat} (h : SRow enc cf w0 blk off d0 d W) (hp : PermIn a b d d') (hb : b ≤ d0.size) (hs : SWK (fun x => enc x.1) 11 w0 blk off d' W') : SRow enc cf w0 blk off d0 d' W' :=
  ⟨hp.1.trans h.sz, permIn_trans _ _ _ _ _ h.pm (permIn_mono _ _ _ _ _ _ (Nat.zero_le a) hb (by rw [h.sz]; exact Nat.le_refl _) hp), hs⟩

set_option maxHeartbeats 4000000 in
set_option maxRecDepth 1000000 in
theorem stc_any {β : Type} [Inhabited β] (enc : β → List Value) (cf : β → β → Int) (hcf : CmpOk cf) (g : Nat) (cb : Array Value) (blk off cap : Nat) (d0 : Array (β × Nat)) (w0 : World) (X : Cmpr (fun x : β × Nat => enc x.1) (cfT cf) (ltT cf) g cb blk off d0 w0) (ht : ∀ t, t < d0.size → d0[t]!.2 = t) :
    Calls Tryz.prog 154 #[.slice (some ⟨blk, off, none⟩) d0.size cap, .int .i64 d0.size, .func (.func g) #[] cb] w0 fun e w' => e = .returned (.tuple #[]) ∧ ∃ d', SRow enc cf w0 blk off d0 d' w' ∧ Asc (ltT cf) 0 d0.size d' := by
  have S0 : Aside (SRow enc cf w0 blk off d0 d0 w0) := ⟨rfl, permIn_refl _ _ _, SWK.start X.R.hH⟩
  have hsz := X.sz
  have HX := Lib.hid X
  have HT := Lib.hid ht
  have HCF := Lib.hid hcf
  clear X ht hcf
  generalize hn : d0.size = n at *
  have HN := Lib.hid hn
  clear hn
  go_enter Tryz.func154, Tryz.ntmps154
  go_wp2_with fail
  go_loopg [7, 8] n (fun kx x y wr => ∃ (i A : Nat) (dk : Array (β × Nat)), x = .int .i64 A ∧ y = .int .i64 ((A : Int) + 20) ∧ Hid (A = i * 20) ∧ A ≤ n ∧ n - A ≤ kx ∧ Hid (∀ t, A ≤ t → dk[t]! = d0[t]!) ∧ Hid (Blks2 cf 20 n A dk) ∧ Aside (SRow enc cf w0 blk off d0 dk wr))
  case atStart => exact ⟨0, 0, d0, by go_num, by go_num, Lib.hid rfl, by omega, by omega, Lib.hid (fun t _ => rfl), Lib.hid (blks2_nil _ _), S0⟩
  case round =>
    clear S0
    obtain ⟨i, A, dk, rfl, rfl, HA, hAn, hkx, HE, HB, S1⟩ := hrel
    have hdk : dk.size = n := by rw [S1.out.sz]; exact HN.out
    by_cases hlt : A + 20 ≤ n
    · have t1 : (A : Int) + 20 ≤ (n : Int) := by omega
      have q1 := ins_any (fun x : β × Nat => enc x.1) (cfT cf) (ltT cf) g cb blk off cap d0 w0 HX.out A (A + 20) dk wr (by have := HN.out; omega) S1.out.sw (by omega) (by omega)
      rw [hdk, show ((A + 20 : Nat) : Int) = (A : Int) + 20 by omega] at q1
      have Q1 := Lib.hid q1
      clear q1
      have hb := blk_ins HCF.out (d := dk) (a := A) (b := A + 20) (by omega) (by omega) (fun t t1 t2 => by rw [HE.out t t1]; exact HT.out t (by omega))
      have HBB := Lib.hid hb
      clear hb
      go_wp2_with fail
      refine Q1.out.mono ?_
      rintro e w1 ⟨rfl, S2⟩
      have S3 : Aside _ := S1.out.next HBB.out.1 (by have := HN.out; omega) S2
      clear S2 S1
      go_wp2_with fail
      go_roundg (n - (A + 20))
      case measure => omega
      case rel => exact ⟨i + 1, A + 20, _, by go_num, by congr 1 <;> omega, Lib.hid (by have := HA.out; omega), by omega, by omega, Lib.hid (fun t t1 => (HBB.out.1.2.1 t (.inr t1)).trans (HE.out t (by omega))), Lib.hid (blks2_step HA.out HB.out (fun t t1 => HBB.out.1.2.1 t (.inl t1)) (by rw [Nat.min_eq_left (by omega)]; exact HBB.out.2)), S3⟩
    · have t1 : ¬ (A : Int) + 20 ≤ (n : Int) := by omega
      have q1 := ins_any (fun x : β × Nat => enc x.1) (cfT cf) (ltT cf) g cb blk off cap d0 w0 HX.out A n dk wr (by have := HN.out; omega) S1.out.sw (by omega) (by omega)
      rw [hdk] at q1
      have Q1 := Lib.hid q1
      clear q1
      have hb := blk_ins HCF.out (d := dk) (a := A) (b := n) (by omega) (by omega) (fun t t1 t2 => by rw [HE.out t t1]; exact HT.out t t2)
      have HBB := Lib.hid hb
      clear hb
      go_wp2_with fail
      refine Q1.out.mono ?_
      rintro e w1 ⟨rfl, S2⟩
      have S3 : Aside _ := S1.out.next HBB.out.1 (by have := HN.out; omega) S2
      have hb2 : Blks cf 20 n 0 (insertionSort (ltOf (cfT cf)) dk A n) := by
        by_cases hAe : A < n
        · exact blks2_all (blks2_step HA.out HB.out (fun t t1 => HBB.out.1.2.1 t (.inl t1)) (by rw [Nat.min_eq_right (by omega)]; exact HBB.out.2)) (by omega)
        · exact blks2_all (fun i h1 h2 => (HB.out i h1 h2).keep fun t _ t2 => HBB.out.1.2.1 t (.inl (by omega))) (by omega)
      have HB2 := Lib.hid hb2
      clear S2 S1 hb2 HBB Q1
      generalize insertionSort (ltOf (cfT cf)) dk A n = d1 at S3 HB2
      go_wp2_with fail
      go_loopg [6] n (fun kx x wr => ∃ (bs : Nat) (dk : Array (β × Nat)), x = .int .i64 bs ∧ 20 ≤ bs ∧ bs ≤ 2 * n + 20 ∧ n - bs ≤ kx ∧ Hid (Blks cf bs n 0 dk) ∧ Aside (SRow enc cf w0 blk off d0 dk wr))
      case atStart => exact ⟨20, d1, by go_num, by omega, by omega, by omega, HB2, S3⟩
      case round =>
        clear S3 HB2 HB HE HA t1 hlt hAn hdk hkx
        obtain ⟨bs, dk, rfl, hb20, hbn, hkx, HB, S1⟩ := hrel
        by_cases hlt : bs < n
        · have t1 : (bs : Int) < (n : Int) := by omega
          go_wp2_with fail
          go_loopg [7, 8] n (fun kx x y wr => ∃ (j A : Nat) (dj : Array (β × Nat)), x = .int .i64 A ∧ y = .int .i64 ((A : Int) + 2 * (bs : Int)) ∧ Hid (A = j * (2 * bs)) ∧ A ≤ n ∧ n - A ≤ kx ∧ Hid (Blks cf bs n A dj) ∧ Hid (Blks2 cf (2 * bs) n A dj) ∧ Aside (SRow enc cf w0 blk off d0 dj wr))
          case atStart => exact ⟨0, 0, dk, by go_num, by congr 1; omega, Lib.hid (by omega), by omega, by omega, HB, Lib.hid (blks2_nil _ _), S1⟩
          case round =>
            clear S1 HB
            obtain ⟨j, A, dj, rfl, rfl, HA, hAn, hkx2, HB, HB2, S1⟩ := hrel
            have hdj : dj.size = n := by rw [S1.out.sz]; exact HN.out
            have symc := fun m b (k0 : b ≤ n) k1 k2 k3 k4 => sym_any (fun x : β × Nat => enc x.1) (cfT cf) (ltT cf) g cb blk off cap d0 w0 HX.out (b - A + 1) A m b dj wr (by omega) (by have := HN.out; omega) S1.out.sw (blk_pre HCF.out k1 k2 (by have := S1.out.sz; have := HN.out; omega) k3 k4)
            rw [hdj] at symc
            have SYC := Lib.hid symc
            clear symc
            by_cases hlt2 : A + 2 * bs ≤ n
            · have t2 : (A : Int) + 2 * (bs : Int) ≤ (n : Int) := by omega
              obtain ⟨k1, k2⟩ := blks_two HA.out HB.out (by omega : A + bs < n)
              rw [Nat.min_eq_left hlt2] at k2
              have q1 := SYC.out (A + bs) (A + 2 * bs) hlt2 (by omega) (by omega) k1 k2 (by omega) (by omega)
              rw [show ((A + bs : Nat) : Int) = (A : Int) + (bs : Int) by omega, show ((A + 2 * bs : Nat) : Int) = (A : Int) + 2 * (bs : Int) by omega] at q1
              have Q1 := Lib.hid q1
              have K1 := Lib.hid (And.intro k1 k2)
              clear q1 k1 k2 SYC
              go_wp2_with fail
              refine Q1.out.mono ?_
              rintro e w1 ⟨rfl, d2, hd2, hp2, S2⟩
              have S3 : Aside _ := S1.out.next hp2.1 (by have := HN.out; omega) S2
              have HP := Lib.hid hp2
              clear S2 S1 hp2 hd2
              go_wp2_with fail
              go_roundg (n - (A + 2 * bs))
              case measure => omega
              case rel => exact ⟨j + 1, A + 2 * bs, d2, by first | go_num | (congr 1; omega), by congr 1 <;> omega, Lib.hid (by rw [Nat.add_mul, Nat.one_mul, ← HA.out]), by omega, by omega, Lib.hid (blks_mono HB.out (by omega) (fun t t1 => HP.out.1.2.1 t (.inr t1))),
                Lib.hid (blks2_step HA.out HB2.out (fun t t1 => HP.out.1.2.1 t (.inl t1)) (by rw [Nat.min_eq_left hlt2]; exact blk_post (m := A + bs) (by omega) (by omega) (by omega) K1.out.1 K1.out.2 HP.out)), S3⟩
            · have t2 : ¬ (A : Int) + 2 * (bs : Int) ≤ (n : Int) := by omega
              by_cases hlt3 : A + bs < n
              · have t3 : (A : Int) + (bs : Int) < (n : Int) := by omega
                obtain ⟨k1, k2⟩ := blks_two HA.out HB.out hlt3
                rw [Nat.min_eq_right (by omega)] at k2
                have q1 := SYC.out (A + bs) n (Nat.le_refl n) (by omega) (by omega) k1 k2 (by omega) (by omega)
                rw [show ((A + bs : Nat) : Int) = (A : Int) + (bs : Int) by omega] at q1
                have Q1 := Lib.hid q1
                have K1 := Lib.hid (And.intro k1 k2)
                clear q1 k1 k2 SYC
                go_wp2_with fail
                refine Q1.out.mono ?_
                rintro e w1 ⟨rfl, d2, hd2, hp2, S2⟩
                have S3 : Aside _ := S1.out.next hp2.1 (by have := HN.out; omega) S2
                have HP := Lib.hid hp2
                clear S2 S1 hp2 hd2
                go_wp2_with fail
                go_roundg (n - bs * 2)
                case measure => omega
                case rel => exact ⟨bs * 2, d2, by first | go_num | (congr 1; omega), by omega, by omega, by omega, Lib.hid (by rw [Nat.mul_comm]; exact blks2_all (blks2_step HA.out HB2.out (fun t t1 => HP.out.1.2.1 t (.inl t1)) (by rw [Nat.min_eq_right (by omega)]; exact blk_post (m := A + bs) (by omega) (by omega) (by omega) K1.out.1 K1.out.2 HP.out)) (by omega)), S3⟩
              · have t3 : ¬ (A : Int) + (bs : Int) < (n : Int) := by omega
                clear SYC
                go_wp2_with fail
                go_roundg (n - bs * 2)
                case measure => omega
                case rel => exact ⟨bs * 2, dj, by first | go_num | (congr 1; omega), by omega, by omega, by omega, Lib.hid (by
                    rw [Nat.mul_comm]
                    by_cases hAe : A < n
                    · exact blks2_all (blks2_step HA.out HB2.out (fun t t1 => rfl) (blks_one HA.out HB.out hAe (by omega))) (by omega)
                    · exact blks2_all HB2.out (by omega)), S1⟩
        · have t1 : ¬ (bs : Int) < (n : Int) := by omega
          go_wp2_with fail
          go_returns
          exact ⟨rfl, dk, S1.out, blks_whole HB.out (by omega)⟩

theorem ssf_any {β : Type} [Inhabited β] (enc : β → List Value) (cf : β → β → Int) (hcf : CmpOk cf) (g : Nat) (cb : Array Value) (blk off cap : Nat) (l : List β) (w0 : World) (X : Cmpr (fun x : β × Nat => enc x.1) (cfT cf) (ltT cf) g cb blk off (tagd l) w0) :
    Calls Tryz.prog 134 #[.slice (some ⟨blk, off, none⟩) l.length cap, .func (.func g) #[] cb] w0 fun e w' => e = .returned (.tuple #[]) ∧ ∃ d' : Array (β × Nat), d'.toList.map (fun x => x.1) = stableF cf l ∧ d'.size = l.length ∧ SWK (fun x => enc x.1) 11 w0 blk off d' w' := by
  have h := stc_any enc cf hcf g cb blk off cap (tagd l) w0 X (fun t ht => by rw [tagd_get l (by rw [size_tagd] at ht; exact ht)])
  rw [size_tagd] at h
  have HQ := Lib.hid h
  have HCF := Lib.hid hcf
  clear h X hcf
  go_enter Tryz.func134, Tryz.ntmps134
  go_wp2_with fail
  refine HQ.out.mono ?_
  rintro e w1 ⟨rfl, d', hr, ha⟩
  have HR := Lib.hid hr
  have HA := Lib.hid ha
  clear hr ha
  go_wp2_with fail
  go_returns
  have hp := HR.out.pm
  rw [size_tagd] at hp
  exact ⟨rfl, d', stable_of HCF.out hp HA.out, by rw [HR.out.sz, size_tagd], HR.out.sw⟩
end Go.Proofs.YtoimjjhopljdmaaGreat
namespace Go.Proofs.YtoimjjhopljdmaaGreat
open Go.RowKit Go.Sort Go.Lib

theorem still_of' {P : Program} {f : FuncId} {args : Array Value} {w : World} {v : Value} (h : Calls P f args w fun e w' => e = .returned v ∧ w = w') : Calls P f args w fun e w'' => e = .returned v ∧ w'' = w := h.mono fun _ _ ⟨a, b⟩ => ⟨a, b.symm⟩

def Gw (w w' : World) : Prop := ∃ q os, w' = grow (w.drewN q) os
theorem Gw.refl (w : World) : Gw w w := ⟨0, #[], by rw [grow_empty]; rfl⟩
theorem Gw.alloc {w w' : World} (h : Gw w w') (o : Obj) : Gw w (w'.alloc o) := by
  obtain ⟨q, os, rfl⟩ := h
  exact ⟨q, os ++ #[o], by rw [alloc_eq_grow, grow_grow]⟩
theorem Gw.drewN {w w' : World} (h : Gw w w') (n : Nat) : Gw w (w'.drewN n) := by
  obtain ⟨q, os, rfl⟩ := h
  exact ⟨q + n, os, by rw [← World.drewN_drewN]; rfl⟩
theorem Gw.drew {w w' : World} (h : Gw w w') : Gw w w'.drew := h.drewN 1
theorem Gw.trans {w w' w'' : World} (h : Gw w w') (h2 : Gw w' w'') : Gw w w'' := by
  obtain ⟨q, os, rfl⟩ := h
  obtain ⟨q2, os2, rfl⟩ := h2
  exact ⟨q + q2, os ++ os2, by rw [← World.drewN_drewN, ← grow_grow]; rfl⟩
theorem two_grow (w : World) (a b : Obj) : (w.alloc a).alloc b = grow w #[a, b] := by rw [alloc_eq_grow, alloc_eq_grow, grow_grow]; rfl

set_option maxRecDepth 100000 in
set_option maxHeartbeats 1000000 in
theorem compare_grow (s i g s' i' g' : Int) (w : World) :
    Calls Tryz.prog 106 #[.agg #[.int .i64 s, .int .i64 i, .int .i64 g], .agg #[.int .i64 s', .int .i64 i', .int .i64 g']] w fun e w' => e = .returned (.int .i64 (cmpId s i g s' i' g')) ∧ ∃ q os, w' = grow (w.drewN q) os := by
  generalize hr : cmpId s i g s' i' g' = r
  have HR := Lib.hid hr
  clear hr
  go_enter Tryz.func106, Tryz.ntmps106
  go_wp2_with fail
  have hW := two_grow w (.cells #[.int .i64 s, .int .i64 i, .int .i64 g] 30) (.cells #[.int .i64 s', .int .i64 i', .int .i64 g'] 30)
  have c00 : ((w.alloc (.cells #[.int .i64 s, .int .i64 i, .int .i64 g] 30)).alloc (.cells #[.int .i64 s', .int .i64 i', .int .i64 g'] 30)).cell? ⟨w.heap.size, 0, none⟩ = some (.int .i64 s) := by simp
  have c01 : ((w.alloc (.cells #[.int .i64 s, .int .i64 i, .int .i64 g] 30)).alloc (.cells #[.int .i64 s', .int .i64 i', .int .i64 g'] 30)).cell? ⟨w.heap.size, 1, none⟩ = some (.int .i64 i) := by simp
  have c02 : ((w.alloc (.cells #[.int .i64 s, .int .i64 i, .int .i64 g] 30)).alloc (.cells #[.int .i64 s', .int .i64 i', .int .i64 g'] 30)).cell? ⟨w.heap.size, 2, none⟩ = some (.int .i64 g) := by simp
  have c10 : ((w.alloc (.cells #[.int .i64 s, .int .i64 i, .int .i64 g] 30)).alloc (.cells #[.int .i64 s', .int .i64 i', .int .i64 g'] 30)).cell? ⟨w.heap.size + 1, 0, none⟩ = some (.int .i64 s') := by simp
  have c11 : ((w.alloc (.cells #[.int .i64 s, .int .i64 i, .int .i64 g] 30)).alloc (.cells #[.int .i64 s', .int .i64 i', .int .i64 g'] 30)).cell? ⟨w.heap.size + 1, 1, none⟩ = some (.int .i64 i') := by simp
  have c12 : ((w.alloc (.cells #[.int .i64 s, .int .i64 i, .int .i64 g] 30)).alloc (.cells #[.int .i64 s', .int .i64 i', .int .i64 g'] 30)).cell? ⟨w.heap.size + 1, 2, none⟩ = some (.int .i64 g') := by simp
  have hs : ((w.alloc (.cells #[.int .i64 s, .int .i64 i, .int .i64 g] 30)).alloc (.cells #[.int .i64 s', .int .i64 i', .int .i64 g'] 30)).heap.size = w.heap.size + 1 + 1 := by simp
  have HW := Lib.hid hW
  clear hW
  generalize (w.alloc (.cells #[.int .i64 s, .int .i64 i, .int .i64 g] 30)).alloc (.cells #[.int .i64 s', .int .i64 i', .int .i64 g'] 30) = W1 at *
  refine wp_region_still_tail 15 (by kernel_rfl) (by kernel_rfl) ?_
  simp only [List.take_succ_cons, List.take_zero, List.drop_succ_cons, List.drop_zero]
  repeat (first | still_step | (still_call (still_of' (cmpC_any _ _ _))))
  refine wpStill_nil ?_
  go_wp2_with (go_at_call 145; refine (or_any _ (cmpI s s') (cmpI i i') (cmpI g g') _ (by simp [go_sem, hs]) (by simp [go_sem, hs]) (by simp [go_sem, hs])).mono ?_; rintro e w' ⟨rfl, rfl⟩)
  go_ret
  refine ⟨?_, ?_⟩
  · rw [← HR.out]; rfl
  · have h : Gw w W1 := by rw [HW.out, ← two_grow]; exact (Gw.refl w).alloc _ |>.alloc _
    exact (h.drewN 1).alloc _


set_option maxRecDepth 100000 in
set_option maxHeartbeats 1000000 in
theorem sorted1_grow (s i g m x y vx vy hp pw lf s' i' g' m' x' y' vx' vy' hp' pw' lf' : Int) (w : World) :
    Calls Tryz.prog 135 #[.agg #[.int .i64 s, .int .i64 i, .int .i64 g, .int .i64 m, .int .i64 x, .int .i64 y, .int .i64 vx, .int .i64 vy, .int .i64 hp, .int .i64 pw, .int .i64 lf], .agg #[.int .i64 s', .int .i64 i', .int .i64 g', .int .i64 m', .int .i64 x', .int .i64 y', .int .i64 vx', .int .i64 vy', .int .i64 hp', .int .i64 pw', .int .i64 lf']] w fun e w' => e = .returned (.int .i64 (cmpId s i g s' i' g')) ∧ ∃ q os, w' = grow (w.drewN q) os := by
  have HC := Lib.hid (fun W => compare_grow s i g s' i' g' W)
  go_enter Tryz.func135, Tryz.ntmps135
  go_wp2_with fail
  refine (HC.out _).mono ?_
  rintro e w1 ⟨rfl, h⟩
  have HG := Lib.hid (show Gw _ w1 from h)
  clear h
  go_wp2_with fail
  go_ret
  exact ⟨rfl, Gw.trans (((Gw.refl w).alloc _).alloc _) HG.out⟩

def cmpBun (a b : Bun) : Int := cmpId a.s a.i a.g b.s b.i b.g
theorem cmpBun_ok : CmpOk cmpBun where
  neg x y := by have := cmpId_neg x.s x.i x.g y.s y.i y.g; unfold cmpBun; omega
  zero x y := by have := cmpId_neg x.s x.i x.g y.s y.i y.g; unfold cmpBun; omega
  trans x y z h1 h2 := by have := cmpId_trans x.s x.i x.g y.s y.i y.g z.s z.i z.g h1 h2; unfold cmpBun at *; omega
  transl x y z h1 h2 := by have := cmpId_trans x.s x.i x.g y.s y.i y.g z.s z.i z.g (by unfold cmpBun at h1; omega) h2; unfold cmpBun at *; omega
  transr x y z h1 h2 := by have := cmpId_trans x.s x.i x.g y.s y.i y.g z.s z.i z.g h1 (by unfold cmpBun at h2; omega); unfold cmpBun at *; omega

instance : Inhabited Bun := ⟨⟨0, 0, 0, 0, 0, 0, 0, 0, 0, 0, 0⟩⟩

theorem enters_S1 : ∀ args w, (callFunc 135 args).run Tryz.prog w = .ok (.enter 135 args) w := fun _ _ => by kernel_rfl

theorem cmpr_bun (blk off : Nat) (l : List Bun) (w0 : World) (hl : l.length ≤ 1000000) (hb : blk < w0.heap.size) (hH : HoldsK (fun x : Bun × Nat => bunL x.1) 11 w0 blk off (tagd l)) :
    Cmpr (fun x : Bun × Nat => bunL x.1) (cfT cmpBun) (ltT cmpBun) 135 #[] blk off (tagd l) w0 where
  eg := enters_S1
  hS := ltT_swo cmpBun_ok
  hc := fun m os dk _ x y => by
    have h := sorted1_grow x.1.s x.1.i x.1.g x.1.m x.1.x x.1.y x.1.vx x.1.vy x.1.hp x.1.pw x.1.lf y.1.s y.1.i y.1.g y.1.m y.1.x y.1.y y.1.vx y.1.vy y.1.hp y.1.pw y.1.lf (sortWorldK (fun x : Bun × Nat => bunL x.1) 11 w0 blk off m dk os)
    exact h
  R := ⟨fun x => rfl, fun x v hv => by
    simp [bunL] at hv
    rcases hv with rfl | rfl | rfl | rfl | rfl | rfl | rfl | rfl | rfl | rfl | rfl <;> rfl, hH, hb⟩
  sz := by rw [size_tagd]; omega
end Go.Proofs.YtoimjjhopljdmaaGreat

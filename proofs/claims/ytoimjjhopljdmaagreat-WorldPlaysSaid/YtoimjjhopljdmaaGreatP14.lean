/- Texts SoH SoI SoJ SoK SoL SoM: what the claim reaches of them. Conditions stand at each theorem. -/
import Derived.Test.YtoimjjhopljdmaaGreatP13
set_option maxRecDepth 100000
set_option maxHeartbeats 8000000
namespace Go.Proofs.YtoimjjhopljdmaaGreat
open Go.RowKit
open Go.Proofs.Tryz (prog)
open Go.Value (int)
open Go.IntKind (i64)
open Go.Lib (hid)
section
open Go.Shelf Go.Lib Go.Sort Go.Proofs
def ren20 : Ren := ⟨fun n => if n = 20 then 173 else 0, fun n => if n = 0 then 0 else if n = 3 then 3 else if n = 4 then 4 else if n = 22 then 37 else if n = 24 then 32 else if n = 25 then 194 else 0, fun _ => 0⟩
theorem lays20 : SlLaysF0.n20 prog ren20 := {
 mixed := by kernel_rfl
 f20 := ⟨Tryz.f173.name, by decide, by kernel_rfl⟩
 t0 := by kernel_rfl
 a0 := fun _ => by kernel_rfl
 z0 := fun _ => by kernel_rfl
 v0 := fun _ => by kernel_rfl
 t3 := by kernel_rfl
 a3 := fun _ => by kernel_rfl
 z3 := fun _ => by kernel_rfl
 v3 := fun _ => by kernel_rfl
 t4 := by kernel_rfl
 a4 := fun _ => by kernel_rfl
 z4 := fun _ => by kernel_rfl
 v4 := fun _ => by kernel_rfl
 t22 := by kernel_rfl
 a22 := fun _ => by kernel_rfl
 z22 := fun _ => by kernel_rfl
 v22 := fun _ => by kernel_rfl
 t25 := by kernel_rfl
 a25 := fun _ => by kernel_rfl
 z25 := fun _ => by kernel_rfl
 v25 := fun _ => by kernel_rfl
}
variable {α : Type} [Inhabited α]
theorem cmpLays_at {P : Program} {g : Nat} {cb : Array Value} {enc : α → List Value} {k : Nat} {cf : α → α → Int} {blk off n : Nat} {w0 wr : World} {d : Array α} (S : SWK enc k w0 blk off d wr) (hblk : blk < w0.heap.size) (hn : d.size = n) (hc : CmpLays P g cb enc k cf blk off n w0) : CmpLays P g cb enc k cf blk off n wr := by
 obtain ⟨m0, os0, rfl⟩ := S
 intro m os dk hs x y
 rw [sortWorldK_on enc k w0 blk off m0 m d dk os0 os hblk (by omega)]
 exact hc _ _ dk hs x y
theorem size_insInner (lt : α → α → Bool) (a : Nat) : ∀ (j : Nat) (d : Array α), (insInner lt a j d).size = d.size
 | 0, d => by rw [insInner_stop _ _ _ _ (.inl (Nat.zero_le _))]
 | j + 1, d => by
   unfold insInner
   split
   · rw [size_insInner lt a j, size_swp]
   · rfl
theorem size_insOuter (lt : α → α → Bool) (a b : Nat) : ∀ (n i : Nat) (d : Array α), b - i = n → (insOuter lt a b i d).size = d.size
 | n, i, d, hn => by
   by_cases h : i < b
   · rw [insOuter_go _ _ _ _ _ h]
     match n, hn with
     | 0, hn => omega
     | n + 1, hn => rw [size_insOuter lt a b n (i + 1) _ (by omega), size_insInner]
   · rw [insOuter_stop _ _ _ _ _ h]
theorem ins_any (enc : α → List Value) (cf : α → α → Int) (lt : α → α → Bool) (g : Nat) (cb : Array Value) (blk off cap : Nat) (d0 : Array α) (w0 : World) (X : Cmpr enc cf lt g cb blk off d0 w0) (a b : Nat) (d : Array α) (w : World) (hs : d0.size = d.size) (S : SWK enc 11 w0 blk off d w) (hab : a ≤ b) (hb : b ≤ d.size) :
 Calls prog 173 #[.slice (some ⟨blk, off, none⟩) d.size cap, int i64 a, int i64 b, .func (.func g) #[] cb] w fun e w' => e = .returned (.tuple #[]) ∧ SWK enc 11 w0 blk off (insertionSort (ltOf cf) d a b) w' := by
 have hc := cmpLays_at S X.R.hblk hs.symm X.hc
 rw [hs] at hc
 have h := AnyQ.insertionSortCmpFunc lays20 11 (fun _ => by kernel_rfl) (fun _ => by kernel_rfl) enc X.R.hk X.R.h1 cf g cb blk off cap a b d w X.eg hc (S.holds X.R.hblk X.R.hH hs.symm) (S.lt X.R.hblk) hab hb (by have := X.sz; omega)
 refine h.mono ?_
 rintro e w' ⟨rfl, n, os, rfl⟩
 refine ⟨rfl, S.on X.R.hblk n _ os ?_⟩
 exact size_insOuter _ _ _ _ _ _ rfl
structure SRow {β : Type} [Inhabited β] (enc : β → List Value) (cf : β → β → Int) (w0 : World) (blk off : Nat) (d0 d : Array (β × Nat)) (W : World) : Prop where
 sz : d.size = d0.size
 pm : PermIn 0 d0.size d0 d
 sw : SWK (fun x => enc x.1) 11 w0 blk off d W
theorem SRow.next {β : Type} [Inhabited β] {enc : β → List Value} {cf : β → β → Int} {w0 : World} {blk off : Nat} {d0 d d' : Array (β × Nat)} {W W' : World} {a b : Nat} (h : SRow enc cf w0 blk off d0 d W) (hp : PermIn a b d d') (hb : b ≤ d0.size) (hs : SWK (fun x => enc x.1) 11 w0 blk off d' W') : SRow enc cf w0 blk off d0 d' W' :=
 ⟨hp.1.trans h.sz, permIn_trans _ _ _ _ _ h.pm (permIn_mono _ _ _ _ _ _ (Nat.zero_le a) hb (by rw [h.sz]; exact Nat.le_refl _) hp), hs⟩
theorem stc_any {β : Type} [Inhabited β] (enc : β → List Value) (cf : β → β → Int) (hcf : CmpOk cf) (g : Nat) (cb : Array Value) (blk off cap : Nat) (d0 : Array (β × Nat)) (w0 : World) (X : Cmpr (fun x : β × Nat => enc x.1) (cfT cf) (ltT cf) g cb blk off d0 w0) (ht : ∀ t, t < d0.size → d0[t]!.2 = t) :
 Calls prog 154 #[.slice (some ⟨blk, off, none⟩) d0.size cap, int i64 d0.size, .func (.func g) #[] cb] w0 fun e w' => e = .returned (.tuple #[]) ∧ ∃ d', SRow enc cf w0 blk off d0 d' w' ∧ Asc (ltT cf) 0 d0.size d' := by
 have S0 : Aside (SRow enc cf w0 blk off d0 d0 w0) := ⟨rfl, permIn_refl _ _ _, SWK.start X.R.hH⟩
 have hsz := X.sz
 have HX := hid X
 have HT := hid ht
 have HCF := hid hcf
 clear X ht hcf
 generalize hn : d0.size = n at *
 have HN := hid hn
 clear hn
 go_enter Tryz.func154, Tryz.ntmps154
 go_wp2_with fail
 go_loopg [7, 8] n (fun kx x y wr => ∃ (i A : Nat) (dk : Array (β × Nat)), x = int i64 A ∧ y = int i64 ((A : Int) + 20) ∧ Hid (A = i * 20) ∧ A ≤ n ∧ n - A ≤ kx ∧ Hid (∀ t, A ≤ t → dk[t]! = d0[t]!) ∧ Hid (Blks2 cf 20 n A dk) ∧ Aside (SRow enc cf w0 blk off d0 dk wr))
 case atStart => exact ⟨0, 0, d0, by go_num, by go_num, hid rfl, by omega, by omega, hid (fun t _ => rfl), hid (blks2_nil _ _), S0⟩
 case round =>
  clear S0
  obtain ⟨i, A, dk, rfl, rfl, HA, hAn, hkx, HE, HB, S1⟩ := hrel
  have hdk : dk.size = n := by rw [S1.out.sz]; exact HN.out
  by_cases hlt : A + 20 ≤ n
  · have t1 : (A : Int) + 20 ≤ (n : Int) := by omega
    have q1 := ins_any (fun x : β × Nat => enc x.1) (cfT cf) (ltT cf) g cb blk off cap d0 w0 HX.out A (A + 20) dk wr (by have := HN.out; omega) S1.out.sw (by omega) (by omega)
    rw [hdk, show ((A + 20 : Nat) : Int) = (A : Int) + 20 by omega] at q1
    have Q1 := hid q1
    clear q1
    have hb := blk_ins HCF.out (d := dk) (a := A) (b := A + 20) (by omega) (by omega) (fun t t1 t2 => by rw [HE.out t t1]; exact HT.out t (by omega))
    have HBB := hid hb
    clear hb
    go_wp2_with fail
    refine Q1.out.mono ?_
    rintro e w1 ⟨rfl, S2⟩
    have S3 : Aside _ := S1.out.next HBB.out.1 (by have := HN.out; omega) S2
    clear S2 S1
    go_wp2_with fail
    go_roundg (n - (A + 20))
    case measure => omega
    case rel => exact ⟨i + 1, A + 20, _, by go_num, by congr 1 <;> omega, hid (by have := HA.out; omega), by omega, by omega, hid (fun t t1 => (HBB.out.1.2.1 t (.inr t1)).trans (HE.out t (by omega))), hid (blks2_step HA.out HB.out (fun t t1 => HBB.out.1.2.1 t (.inl t1)) (by rw [Nat.min_eq_left (by omega)]; exact HBB.out.2)), S3⟩
  · have t1 : ¬ (A : Int) + 20 ≤ (n : Int) := by omega
    have q1 := ins_any (fun x : β × Nat => enc x.1) (cfT cf) (ltT cf) g cb blk off cap d0 w0 HX.out A n dk wr (by have := HN.out; omega) S1.out.sw (by omega) (by omega)
    rw [hdk] at q1
    have Q1 := hid q1
    clear q1
    have hb := blk_ins HCF.out (d := dk) (a := A) (b := n) (by omega) (by omega) (fun t t1 t2 => by rw [HE.out t t1]; exact HT.out t t2)
    have HBB := hid hb
    clear hb
    go_wp2_with fail
    refine Q1.out.mono ?_
    rintro e w1 ⟨rfl, S2⟩
    have S3 : Aside _ := S1.out.next HBB.out.1 (by have := HN.out; omega) S2
    have hb2 : Blks cf 20 n 0 (insertionSort (ltOf (cfT cf)) dk A n) := by
     by_cases hAe : A < n
     · exact blks2_all (blks2_step HA.out HB.out (fun t t1 => HBB.out.1.2.1 t (.inl t1)) (by rw [Nat.min_eq_right (by omega)]; exact HBB.out.2)) (by omega)
     · exact blks2_all (fun i h1 h2 => (HB.out i h1 h2).keep fun t _ t2 => HBB.out.1.2.1 t (.inl (by omega))) (by omega)
    have HB2 := hid hb2
    clear S2 S1 hb2 HBB Q1
    generalize insertionSort (ltOf (cfT cf)) dk A n = d1 at S3 HB2
    go_wp2_with fail
    go_loopg [6] n (fun kx x wr => ∃ (bs : Nat) (dk : Array (β × Nat)), x = int i64 bs ∧ 20 ≤ bs ∧ bs ≤ 2 * n + 20 ∧ n - bs ≤ kx ∧ Hid (Blks cf bs n 0 dk) ∧ Aside (SRow enc cf w0 blk off d0 dk wr))
    case atStart => exact ⟨20, d1, by go_num, by omega, by omega, by omega, HB2, S3⟩
    case round =>
     clear S3 HB2 HB HE HA t1 hlt hAn hdk hkx
     obtain ⟨bs, dk, rfl, hb20, hbn, hkx, HB, S1⟩ := hrel
     by_cases hlt : bs < n
     · have t1 : (bs : Int) < (n : Int) := by omega
       go_wp2_with fail
       go_loopg [7, 8] n (fun kx x y wr => ∃ (j A : Nat) (dj : Array (β × Nat)), x = int i64 A ∧ y = int i64 ((A : Int) + 2 * (bs : Int)) ∧ Hid (A = j * (2 * bs)) ∧ A ≤ n ∧ n - A ≤ kx ∧ Hid (Blks cf bs n A dj) ∧ Hid (Blks2 cf (2 * bs) n A dj) ∧ Aside (SRow enc cf w0 blk off d0 dj wr))
       case atStart => exact ⟨0, 0, dk, by go_num, by congr 1; omega, hid (by omega), by omega, by omega, HB, hid (blks2_nil _ _), S1⟩
       case round =>
        clear S1 HB
        obtain ⟨j, A, dj, rfl, rfl, HA, hAn, hkx2, HB, HB2, S1⟩ := hrel
        have hdj : dj.size = n := by rw [S1.out.sz]; exact HN.out
        have symc := fun m b (k0 : b ≤ n) k1 k2 k3 k4 => sym_any (fun x : β × Nat => enc x.1) (cfT cf) (ltT cf) g cb blk off cap d0 w0 HX.out (b - A + 1) A m b dj wr (by omega) (by have := HN.out; omega) S1.out.sw (blk_pre HCF.out k1 k2 (by have := S1.out.sz; have := HN.out; omega) k3 k4)
        rw [hdj] at symc
        have SYC := hid symc
        clear symc
        by_cases hlt2 : A + 2 * bs ≤ n
        · have t2 : (A : Int) + 2 * (bs : Int) ≤ (n : Int) := by omega
          obtain ⟨k1, k2⟩ := blks_two HA.out HB.out (by omega : A + bs < n)
          rw [Nat.min_eq_left hlt2] at k2
          have q1 := SYC.out (A + bs) (A + 2 * bs) hlt2 (by omega) (by omega) k1 k2 (by omega) (by omega)
          rw [show ((A + bs : Nat) : Int) = (A : Int) + (bs : Int) by omega, show ((A + 2 * bs : Nat) : Int) = (A : Int) + 2 * (bs : Int) by omega] at q1
          have Q1 := hid q1
          have K1 := hid (And.intro k1 k2)
          clear q1 k1 k2 SYC
          go_wp2_with fail
          refine Q1.out.mono ?_
          rintro e w1 ⟨rfl, d2, hd2, hp2, S2⟩
          have S3 : Aside _ := S1.out.next hp2.1 (by have := HN.out; omega) S2
          have HP := hid hp2
          clear S2 S1 hp2 hd2
          go_wp2_with fail
          go_roundg (n - (A + 2 * bs))
          case measure => omega
          case rel => exact ⟨j + 1, A + 2 * bs, d2, by first | go_num | (congr 1; omega), by congr 1 <;> omega, hid (by rw [Nat.add_mul, Nat.one_mul, ← HA.out]), by omega, by omega, hid (blks_mono HB.out (by omega) (fun t t1 => HP.out.1.2.1 t (.inr t1))),
           hid (blks2_step HA.out HB2.out (fun t t1 => HP.out.1.2.1 t (.inl t1)) (by rw [Nat.min_eq_left hlt2]; exact blk_post (m := A + bs) (by omega) (by omega) (by omega) K1.out.1 K1.out.2 HP.out)), S3⟩
        · have t2 : ¬ (A : Int) + 2 * (bs : Int) ≤ (n : Int) := by omega
          by_cases hlt3 : A + bs < n
          · have t3 : (A : Int) + (bs : Int) < (n : Int) := by omega
            obtain ⟨k1, k2⟩ := blks_two HA.out HB.out hlt3
            rw [Nat.min_eq_right (by omega)] at k2
            have q1 := SYC.out (A + bs) n (Nat.le_refl n) (by omega) (by omega) k1 k2 (by omega) (by omega)
            rw [show ((A + bs : Nat) : Int) = (A : Int) + (bs : Int) by omega] at q1
            have Q1 := hid q1
            have K1 := hid (And.intro k1 k2)
            clear q1 k1 k2 SYC
            go_wp2_with fail
            refine Q1.out.mono ?_
            rintro e w1 ⟨rfl, d2, hd2, hp2, S2⟩
            have S3 : Aside _ := S1.out.next hp2.1 (by have := HN.out; omega) S2
            have HP := hid hp2
            clear S2 S1 hp2 hd2
            go_wp2_with fail
            go_roundg (n - bs * 2)
            case measure => omega
            case rel => exact ⟨bs * 2, d2, by first | go_num | (congr 1; omega), by omega, by omega, by omega, hid (by rw [Nat.mul_comm]; exact blks2_all (blks2_step HA.out HB2.out (fun t t1 => HP.out.1.2.1 t (.inl t1)) (by rw [Nat.min_eq_right (by omega)]; exact blk_post (m := A + bs) (by omega) (by omega) (by omega) K1.out.1 K1.out.2 HP.out)) (by omega)), S3⟩
          · have t3 : ¬ (A : Int) + (bs : Int) < (n : Int) := by omega
            clear SYC
            go_wp2_with fail
            go_roundg (n - bs * 2)
            case measure => omega
            case rel => exact ⟨bs * 2, dj, by first | go_num | (congr 1; omega), by omega, by omega, by omega, hid (by
             rw [Nat.mul_comm]
             by_cases hAe : A < n
             · exact blks2_all (blks2_step HA.out HB2.out (fun t t1 => rfl) (blks_one HA.out HB.out hAe (by omega))) (by omega)
             · exact blks2_all HB2.out (by omega)), S1⟩
     · have t1 : ¬ (bs : Int) < (n : Int) := by omega
       go_wp2_with fail
       go_returns
       exact ⟨rfl, dk, S1.out, blks_whole HB.out (by omega)⟩
theorem ssf_any {β : Type} [Inhabited β] (enc : β → List Value) (cf : β → β → Int) (hcf : CmpOk cf) (g : Nat) (cb : Array Value) (blk off cap : Nat) (l : List β) (w0 : World) (X : Cmpr (fun x : β × Nat => enc x.1) (cfT cf) (ltT cf) g cb blk off (tagd l) w0) :
 Calls prog 134 #[.slice (some ⟨blk, off, none⟩) l.length cap, .func (.func g) #[] cb] w0 fun e w' => e = .returned (.tuple #[]) ∧ ∃ d' : Array (β × Nat), d'.toList.map (fun x => x.1) = stableF cf l ∧ d'.size = l.length ∧ SWK (fun x => enc x.1) 11 w0 blk off d' w' := by
 have h := stc_any enc cf hcf g cb blk off cap (tagd l) w0 X (fun t ht => by rw [tagd_get l (by rw [size_tagd] at ht; exact ht)])
 rw [size_tagd] at h
 have HQ := hid h
 have HCF := hid hcf
 clear h X hcf
 go_enter Tryz.func134, Tryz.ntmps134
 go_wp2_with fail
 refine HQ.out.mono ?_
 rintro e w1 ⟨rfl, d', hr, ha⟩
 have HR := hid hr
 have HA := hid ha
 clear hr ha
 go_wp2_with fail
 go_returns
 have hp := HR.out.pm
 rw [size_tagd] at hp
 exact ⟨rfl, d', stable_of HCF.out hp HA.out, by rw [HR.out.sz, size_tagd], HR.out.sw⟩
end
section
open Go.Sort Go.Lib
theorem still_of' {P : Program} {f : FuncId} {args : Array Value} {w : World} {v : Value} (h : Calls P f args w fun e w' => e = .returned v ∧ w = w') : Calls P f args w fun e w'' => e = .returned v ∧ w'' = w := h.mono fun _ _ ⟨a, b⟩ => ⟨a, b.symm⟩
def Gw (w w' : World) : Prop := ∃ q os, w' = grow (w.drewN q) os
theorem Gw.refl (w : World) : Gw w w := ⟨0, #[], by rw [grow_empty]; rfl⟩
theorem Gw.alloc {w w' : World} (h : Gw w w') (o : Obj) : Gw w (w'.alloc o) := by
 obtain ⟨q, os, rfl⟩ := h
 exact ⟨q, os ++ #[o], by rw [alloc_eq_grow, grow_grow]⟩
theorem Gw.drewN {w w' : World} (h : Gw w w') (n : Nat) : Gw w (w'.drewN n) := by
 obtain ⟨q, os, rfl⟩ := h
 exact ⟨q + n, os, by rw [← World.drewN_drewN]; rfl⟩
theorem Gw.drew {w w' : World} (h : Gw w w') : Gw w w'.drew := h.drewN 1
theorem Gw.trans {w w' w'' : World} (h : Gw w w') (h2 : Gw w' w'') : Gw w w'' := by
 obtain ⟨q, os, rfl⟩ := h
 obtain ⟨q2, os2, rfl⟩ := h2
 exact ⟨q + q2, os ++ os2, by rw [← World.drewN_drewN, ← grow_grow]; rfl⟩
theorem two_grow (w : World) (a b : Obj) : (w.alloc a).alloc b = grow w #[a, b] := by rw [alloc_eq_grow, alloc_eq_grow, grow_grow]; rfl
theorem compare_grow (s i g s' i' g' : Int) (w : World) :
 Calls prog 106 #[.agg #[int i64 s, int i64 i, int i64 g], .agg #[int i64 s', int i64 i', int i64 g']] w fun e w' => e = .returned (int i64 (cmpId s i g s' i' g')) ∧ ∃ q os, w' = grow (w.drewN q) os := by
 generalize hr : cmpId s i g s' i' g' = r
 have HR := hid hr
 clear hr
 go_enter Tryz.func106, Tryz.ntmps106
 go_wp2_with fail
 have hW := two_grow w (.cells #[int i64 s, int i64 i, int i64 g] 30) (.cells #[int i64 s', int i64 i', int i64 g'] 30)
 have c00 : ((w.alloc (.cells #[int i64 s, int i64 i, int i64 g] 30)).alloc (.cells #[int i64 s', int i64 i', int i64 g'] 30)).cell? ⟨w.heap.size, 0, none⟩ = some (int i64 s) := by simp
 have c01 : ((w.alloc (.cells #[int i64 s, int i64 i, int i64 g] 30)).alloc (.cells #[int i64 s', int i64 i', int i64 g'] 30)).cell? ⟨w.heap.size, 1, none⟩ = some (int i64 i) := by simp
 have c02 : ((w.alloc (.cells #[int i64 s, int i64 i, int i64 g] 30)).alloc (.cells #[int i64 s', int i64 i', int i64 g'] 30)).cell? ⟨w.heap.size, 2, none⟩ = some (int i64 g) := by simp
 have c10 : ((w.alloc (.cells #[int i64 s, int i64 i, int i64 g] 30)).alloc (.cells #[int i64 s', int i64 i', int i64 g'] 30)).cell? ⟨w.heap.size + 1, 0, none⟩ = some (int i64 s') := by simp
 have c11 : ((w.alloc (.cells #[int i64 s, int i64 i, int i64 g] 30)).alloc (.cells #[int i64 s', int i64 i', int i64 g'] 30)).cell? ⟨w.heap.size + 1, 1, none⟩ = some (int i64 i') := by simp
 have c12 : ((w.alloc (.cells #[int i64 s, int i64 i, int i64 g] 30)).alloc (.cells #[int i64 s', int i64 i', int i64 g'] 30)).cell? ⟨w.heap.size + 1, 2, none⟩ = some (int i64 g') := by simp
 have hs : ((w.alloc (.cells #[int i64 s, int i64 i, int i64 g] 30)).alloc (.cells #[int i64 s', int i64 i', int i64 g'] 30)).heap.size = w.heap.size + 1 + 1 := by simp
 have HW := hid hW
 clear hW
 generalize (w.alloc (.cells #[int i64 s, int i64 i, int i64 g] 30)).alloc (.cells #[int i64 s', int i64 i', int i64 g'] 30) = W1 at *
 refine wp_region_still_tail 15 (by kernel_rfl) (by kernel_rfl) ?_
 simp only [List.take_succ_cons, List.take_zero, List.drop_succ_cons, List.drop_zero]
 repeat (first | still_step | (still_call (still_of' (cmpC_any _ _ _))))
 refine wpStill_nil ?_
 go_wp2_with (go_at_call 145; refine eqA (or_any _ (cmpI s s') (cmpI i i') (cmpI g g') _ (by simp [go_sem, hs]) (by simp [go_sem, hs]) (by simp [go_sem, hs])) ?_)
 go_ret
 refine ⟨?_, ?_⟩
 · rw [← HR.out]; rfl
 · have h : Gw w W1 := by rw [HW.out, ← two_grow]; exact (Gw.refl w).alloc _ |>.alloc _
   exact (h.drewN 1).alloc _
theorem sorted1_grow (s i g m x y vx vy hp pw lf s' i' g' m' x' y' vx' vy' hp' pw' lf' : Int) (w : World) :
 Calls prog 135 #[.agg #[int i64 s, int i64 i, int i64 g, int i64 m, int i64 x, int i64 y, int i64 vx, int i64 vy, int i64 hp, int i64 pw, int i64 lf], .agg #[int i64 s', int i64 i', int i64 g', int i64 m', int i64 x', int i64 y', int i64 vx', int i64 vy', int i64 hp', int i64 pw', int i64 lf']] w fun e w' => e = .returned (int i64 (cmpId s i g s' i' g')) ∧ ∃ q os, w' = grow (w.drewN q) os := by
 have HC := hid (fun W => compare_grow s i g s' i' g' W)
 go_enter Tryz.func135, Tryz.ntmps135
 go_wp2_with fail
 refine (HC.out _).mono ?_
 rintro e w1 ⟨rfl, h⟩
 have HG := hid (show Gw _ w1 from h)
 clear h
 go_wp2_with fail
 go_ret
 exact ⟨rfl, Gw.trans (((Gw.refl w).alloc _).alloc _) HG.out⟩
def cmpBun (a b : Bun) : Int := cmpId a.s a.i a.g b.s b.i b.g
theorem cmpBun_ok : CmpOk cmpBun where
 neg x y := by have := cmpId_neg x.s x.i x.g y.s y.i y.g; unfold cmpBun; omega
 zero x y := by have := cmpId_neg x.s x.i x.g y.s y.i y.g; unfold cmpBun; omega
 trans x y z h1 h2 := by have := cmpId_trans x.s x.i x.g y.s y.i y.g z.s z.i z.g h1 h2; unfold cmpBun at *; omega
 transl x y z h1 h2 := by have := cmpId_trans x.s x.i x.g y.s y.i y.g z.s z.i z.g (by unfold cmpBun at h1; omega) h2; unfold cmpBun at *; omega
 transr x y z h1 h2 := by have := cmpId_trans x.s x.i x.g y.s y.i y.g z.s z.i z.g h1 (by unfold cmpBun at h2; omega); unfold cmpBun at *; omega
instance : Inhabited Bun := ⟨⟨0, 0, 0, 0, 0, 0, 0, 0, 0, 0, 0⟩⟩
theorem enters_S1 : ∀ args w, (callFunc 135 args).run prog w = .ok (.enter 135 args) w := fun _ _ => by kernel_rfl
theorem cmpr_bun (blk off : Nat) (l : List Bun) (w0 : World) (hl : l.length ≤ 1000000) (hb : blk < w0.heap.size) (hH : HoldsK (fun x : Bun × Nat => bunL x.1) 11 w0 blk off (tagd l)) :
 Cmpr (fun x : Bun × Nat => bunL x.1) (cfT cmpBun) (ltT cmpBun) 135 #[] blk off (tagd l) w0 where
 eg := enters_S1
 hS := ltT_swo cmpBun_ok
 hc := fun m os dk _ x y => by
  have h := sorted1_grow x.1.s x.1.i x.1.g x.1.m x.1.x x.1.y x.1.vx x.1.vy x.1.hp x.1.pw x.1.lf y.1.s y.1.i y.1.g y.1.m y.1.x y.1.y y.1.vx y.1.vy y.1.hp y.1.pw y.1.lf (sortWorldK (fun x : Bun × Nat => bunL x.1) 11 w0 blk off m dk os)
  exact h
 R := ⟨fun x => rfl, fun x v hv => by
   simp [bunL] at hv
   rcases hv with rfl | rfl | rfl | rfl | rfl | rfl | rfl | rfl | rfl | rfl | rfl <;> rfl, hH, hb⟩
 sz := by rw [size_tagd]; omega
end
section
open Go.Sort
def bunCells (l : List Bun) : List Value := l.flatMap bunL
theorem bunCells_len : ∀ l : List Bun, (bunCells l).length = l.length * 11
 | [] => rfl
 | b :: l => by
   have h := bunCells_len l
   simp only [bunCells, List.flatMap_cons, List.length_append, bunL_len, List.length_cons] at *
   omega
theorem bunCells_app (l l' : List Bun) : bunCells (l ++ l') = bunCells l ++ bunCells l' := by simp [bunCells]
theorem bunCells_get : ∀ (l : List Bun) (k j : Nat) (b : Bun), l[k]? = some b → j < 11 → (bunCells l)[k * 11 + j]? = (bunL b)[j]?
 | c :: l, 0, j, b, h, hj => by
   obtain rfl : c = b := by simpa using h
   simp only [bunCells, List.flatMap_cons, Nat.zero_mul, Nat.zero_add]
   rw [List.getElem?_append_left (by rw [bunL_len]; exact hj)]
 | c :: l, k + 1, j, b, h, hj => by
   have ih := bunCells_get l k j b (by simpa using h) hj
   simp only [bunCells, List.flatMap_cons] at *
   rw [List.getElem?_append_right (by rw [bunL_len]; omega), bunL_len, show (k + 1) * 11 + j - 11 = k * 11 + j by omega, ih]
theorem bunCells_one (l : List Bun) : ∀ u ∈ bunCells l, u.oneCell' = true := fun u hu => by
 obtain ⟨b, _, hb⟩ := List.mem_flatMap.1 hu
 exact bunL_one b u hb
def BIn (w : World) (v : Value) (l : List Bun) : Prop :=
 ∃ p cap, v = .slice p l.length cap ∧ l.length ≤ maxLen ∧ (p = none → cap = 0) ∧ l.length ≤ cap ∧ (l ≠ [] → ∃ blk off, p = some ⟨blk, off, none⟩ ∧ blk < w.heap.size ∧ ∀ t u, (bunCells l)[t]? = some u → w.cell? ⟨blk, off + t, none⟩ = some u)
theorem BIn.of_sl {w : World} {v : Value} {l : List Bun} (h : Sl w 32 11 v l.length (bunCells l)) : BIn w v l := by
 obtain ⟨_, ⟨rfl, h0⟩ | ⟨g, off, cap, cur, rfl, hb, hn, hc, hsz, hr⟩⟩ := h
 · obtain rfl := List.eq_nil_of_length_eq_zero h0
   exact ⟨none, 0, rfl, by simp [maxLen], fun _ => rfl, Nat.le_refl _, fun h => absurd rfl h⟩
 · exact ⟨_, cap, rfl, by omega, (fun h => by cases h), hn, fun _ => ⟨g, off, rfl, (Array.getElem?_eq_some_iff.1 hb).1, fun t u hu => by simp [World.cell?, hb, hr t u hu]⟩⟩
theorem BIn.keep {w w' : World} {v : Value} {l : List Bun} (h : BIn w v l) (hb : Below w.heap.size w w') : BIn w' v l := by
 obtain ⟨p, cap, rfl, h1, h2, h3, h4⟩ := h
 refine ⟨p, cap, rfl, h1, h2, h3, fun hn => ?_⟩
 obtain ⟨blk, off, rfl, h5, h6⟩ := h4 hn
 exact ⟨blk, off, rfl, Nat.lt_of_lt_of_le h5 hb.size, fun t u hu => (hb.cell (p := ⟨blk, off + t, none⟩) h5).trans (h6 t u hu)⟩
theorem run_append_zero {P : Program} {w : World} (t ty e : TypeId) (i : TypeInfo) (ht : P.underlying t = some (.slice e)) (hi : P.info? e = some i) (p q : Option Addr) (n cap c : Nat) (hn : n ≤ cap) :
 (Builtin.append_ #[t, t] ty #[.slice p n cap, .slice q 0 c]).run P w = .ok (.slice p n cap) w := by
 cases p <;> cases q <;> simp [Builtin.append_, run_underlying ht, sizeOf, typeInfo, hi, Builtin.lenOf, Builtin.firstCells, hn, storeCells, loadCells, loadCellsFrom]
theorem wpList_append_zero {P : Program} {w : World} {ops : Array Oper} {rest : List Oper} {o : Oper} {a : Act} {Q : Exit → Act → World → Prop} (hgd : o.guard = none) (s x : Operand) (t : TypeId)
 (ho : o.op = .call { callee := .builtin .append, args := #[s, x], argTypes := #[t, t] })
 (e : TypeId) (i : TypeInfo) (ht : P.underlying t = some (.slice e)) (hi : P.info? e = some i) (p q : Option Addr) (n cap c : Nat) (hs : a.eval s = .slice p n cap) (hx : a.eval x = .slice q 0 c) (hn : n ≤ cap)
 (h : wpList P ops Q rest (a.put o.dst (.slice p n cap)) w) : wpList P ops Q (o :: rest) a w := by
 refine wpList_plain hgd fun K hK => ?_
 have hrun := run_append_zero (P := P) (w := w) t o.type e i ht hi p q n cap c hn
 unfold Oper.wp
 simp [execOp, ho, resolve, invoke, builtin, hs, hx, hrun, Result.andThen]
 exact hK _ _ h
def BNew (w w' : World) (v : Value) (l : List Bun) : Prop := Sl w' 32 11 v l.length (bunCells l) ∧ Below w.heap.size w w' ∧ ∀ g, v.ownBlock = some g → w.heap.size ≤ g
theorem info_bunJ : (prog.info? 32).map (fun i => (i.zero, i.size, i.bytes)) = some (some (.agg #[int i64 0, int i64 0, int i64 0, int i64 0, int i64 0, int i64 0, int i64 0, int i64 0, int i64 0, int i64 0, int i64 0]), 11, 88) := by kernel_rfl
theorem bnew_of {w w1 : World} {l : List Bun} {v v' : Value} (o : Obj) (hv : v.ownBlock = some w.heap.size) (hs : Sl w1 32 11 v' (0 + l.length) ([] ++ bunCells l)) (ht : Turned (w.alloc o) w1 v.ownBlock)
 (ho : v'.ownBlock = v.ownBlock ∨ ∃ g, v'.ownBlock = some g ∧ (w.alloc o).heap.size ≤ g) : BNew w w1 v' l := by
 rw [Nat.zero_add, List.nil_append] at hs
 have hsz := ht.size
 rw [World.size_alloc] at hsz
 refine ⟨hs, ((Below.refl w.heap.size w).alloc (Nat.le_refl _) o).trans ⟨ht.os, ht.tape, ht.output, ht.size, fun k hk => ht.block k (by rw [World.size_alloc]; omega) (fun e => by rw [hv] at e; simp at e; omega)⟩, fun g hg => ?_⟩
 rcases ho with e | ⟨g', e, hg'⟩
 · rw [e, hv] at hg; simp at hg; omega
 · rw [e] at hg; simp at hg; rw [World.size_alloc] at hg'; omega
theorem sl_empty (W : World) : Sl (W.alloc (.cells #[] 32)) 32 11 (.slice (some ⟨W.heap.size, 0, none⟩) 0 0) 0 [] := ⟨rfl, .inr ⟨W.heap.size, 0, 0, #[], rfl, heap_alloc_new W _, Nat.le_refl _, by simp [maxLen], by simp, fun j u hj => by cases hj⟩⟩
theorem clone_bin (v : Value) (l : List Bun) (w : World) (h : BIn w v l) (hl : l.length ≤ 1000000) :
 Calls prog 37 #[v] w fun e w' => ∃ v', e = .returned v' ∧ BNew w w' v' l := by
 obtain ⟨i0, hi0, hz0, hz1, hz2⟩ := info_parts info_bunJ
 obtain ⟨p, cap, rfl, h1, h2, h3, h4⟩ := h
 have HS := hid sl_empty
 by_cases hn : l = []
 · subst hn
   clear h4 h1
   cases p with
   | none =>
     obtain rfl := h2 rfl
     clear h2 h3
     have hnil := fun W : World => Lib.run_eql_slice_nil (P := prog) W 37 32 none 0 0 0 0 Tryz.underlying37
     go_enter Tryz.func37, Tryz.ntmps37
     go_wp2_with fail
     go_ret
     exact ⟨_, rfl, ⟨rfl, .inl ⟨rfl, rfl⟩⟩, bg, fun g hg => by cases hg⟩
   | some a =>
     clear h2
     have hnil := fun W : World => Lib.run_eql_slice_nil (P := prog) W 37 32 (some a) 0 cap 0 0 Tryz.underlying37
     go_enter Tryz.func37, Tryz.ntmps37
     go_wp2_with (at_builtin; refine wpList_append_zero (by rfl) _ _ 37 (by rfl) 32 i0 Tryz.underlying37 hi0 _ _ 0 0 _ (by rfl) (by rfl) (Nat.le_refl _) ?_)
     go_ret
     exact ⟨_, rfl, HS.out w, bg, fun g hg => by simp [Value.ownBlock] at hg; omega⟩
 · obtain ⟨blk, off, rfl, h5, h6⟩ := h4 hn
   have hn0 : 0 < l.length := List.length_pos_iff.2 hn
   have hcw : ∀ j u, (bunCells l)[j]? = some u → (w.alloc (.cells #[] 32)).cell? (Addr.add ⟨blk, off, none⟩ j) = some u := fun j u hj => by
    have h := h6 j u hj
    rw [show Addr.add ⟨blk, off, none⟩ j = ⟨blk, off + j, none⟩ from by unfold Addr.add; split <;> simp_all]
    exact cell_keep ((Below.refl _ _).alloc (Nat.le_refl _) _) h
   have HW := hid hcw
   have H1 := hid (bunCells_one l)
   have HX := hid (bunCells_len l)
   clear hcw h4 h6 h2 hn h1
   have hnil := fun W : World => Lib.run_eql_slice_nil (P := prog) W 37 32 (some ⟨blk, off, none⟩) l.length cap 0 0 Tryz.underlying37
   go_enter Tryz.func37, Tryz.ntmps37
   go_wp2_with (at_builtin; refine wpList_append_sl _ (by rfl) _ _ 37 (by rfl) 32 i0 _ 11 88 Tryz.underlying37 hi0 hz0 hz1 hz2 rfl (by omega) _ 0 [] (by rfl) (HS.out _) ⟨blk, off, none⟩ l.length cap (bunCells l) (by rfl) HX.out HW.out H1.out hn0 (by unfold maxLen; omega) (by omega) ?_; intro v' w1 hs1 ht ho)
   go_ret
   exact ⟨_, rfl, bnew_of _ rfl hs1 ht ho⟩
theorem holds_of_sl {w : World} {l : List Bun} {blk off cap : Nat} (h : Sl w 32 11 (.slice (some ⟨blk, off, none⟩) l.length cap) l.length (bunCells l)) : blk < w.heap.size ∧ HoldsK (fun x : Bun × Nat => bunL x.1) 11 w blk off (tagd l) := by
 obtain ⟨_, ⟨h0, _⟩ | ⟨g, off', cap', cur, hv, hb, hn, hc, hsz, hr⟩⟩ := h
 · cases h0
 · simp only [Value.slice.injEq, Option.some.injEq, Addr.mk.injEq, and_true, true_and] at hv
   obtain ⟨⟨rfl, rfl⟩, rfl⟩ := hv
   refine ⟨(Array.getElem?_eq_some_iff.1 hb).1, fun t ht => ?_⟩
   rw [size_flatK, size_tagd] at ht
   rw [get_flatK _ _ _ _ (by rw [size_tagd]; exact ht), tagd_get l (by omega)]
   have hk : t / 11 < l.length := by omega
   have e1 := bunCells_get l (t / 11) (t % 11) l[t / 11] (List.getElem?_eq_getElem hk) (Nat.mod_lt _ (by omega))
   rw [show t / 11 * 11 + t % 11 = t by omega] at e1
   have e2 : (bunL l[t / 11])[t % 11]? = some ((bunL l[t / 11])[t % 11]!) := by
    rw [List.getElem!_eq_getElem?_getD]
    have : t % 11 < (bunL l[t / 11]).length := by rw [bunL_len]; exact Nat.mod_lt _ (by omega)
    rw [List.getElem?_eq_getElem this]; rfl
   have h3 := hr t _ (e1.trans e2)
   refine ⟨?_, by simp [World.frozen?, hb]⟩
   show w.cell? ⟨blk, off + t, none⟩ = some ((bunL l[t / 11])[t % 11]!)
   simp [World.cell?, hb, h3]
theorem sl_of_sorted {w w' : World} {l : List Bun} {blk off cap : Nat} {d' : Array (Bun × Nat)} (h : Sl w 32 11 (.slice (some ⟨blk, off, none⟩) l.length cap) l.length (bunCells l)) (hd : d'.size = l.length)
 (hw : SWK (fun x : Bun × Nat => bunL x.1) 11 w blk off d' w') : Sl w' 32 11 (.slice (some ⟨blk, off, none⟩) l.length cap) l.length (bunCells (d'.toList.map fun x => x.1)) ∧ Turned w w' (some blk) := by
 obtain ⟨_, hH⟩ := holds_of_sl h
 obtain ⟨_, ⟨h0, _⟩ | ⟨g, off', cap', cur, hv, hb, hn, hc, hsz, hr⟩⟩ := h
 · cases h0
 · simp only [Value.slice.injEq, Option.some.injEq, Addr.mk.injEq, and_true, true_and] at hv
   obtain ⟨⟨rfl, rfl⟩, rfl⟩ := hv
   have hlt := (Array.getElem?_eq_some_iff.1 hb).1
   obtain ⟨n, os, rfl⟩ := hw
   have hheap : (sortWorldK (fun x : Bun × Nat => bunL x.1) 11 w blk off n d' os).heap[blk]? = some (.cells (putCells id off (flatK (fun x : Bun × Nat => bunL x.1) 11 d') cur) 32 (0, 0)) := by
    unfold sortWorldK putRowK
    simp only [grow]
    rw [Array.getElem?_append_left (by simp [putRow, mapBlock, Sort.ahead]; exact hlt)]
    simp [putRow, mapBlock, Sort.ahead, Array.getElem?_modify, hb, onCells]
   have hF : ∀ j, j < l.length * 11 → (flatK (fun x : Bun × Nat => bunL x.1) 11 d')[j]! = (bunL (d'[j / 11]!).1)[j % 11]! := fun j hj => get_flatK _ _ _ _ (by rw [hd]; exact hj)
   have hlen : (d'.toList.map fun x => x.1).length = l.length := by simp [hd]
   refine ⟨⟨by rw [bunCells_len, hlen], .inr ⟨blk, off, cap, _, rfl, hheap, hn, hc, by simp [putCells]; omega, fun j u hj => ?_⟩⟩, ?_⟩
   · have hj' : j < l.length * 11 := by
      have := (List.getElem?_eq_some_iff.1 hj).1; rw [bunCells_len, hlen] at this; exact this
     have hk : j / 11 < d'.size := by omega
     have e1 := bunCells_get (d'.toList.map fun x => x.1) (j / 11) (j % 11) (d'[j / 11]!).1 (by
      rw [List.getElem?_map, List.getElem?_eq_getElem (by simpa using hk), getElem!_pos d' _ hk]; simp) (Nat.mod_lt _ (by omega))
     rw [show j / 11 * 11 + j % 11 = j by omega] at e1
     rw [e1] at hj
     have hcj : (cur[off + j]?).isSome = true := by
      have : l.length * 11 ≤ cap * 11 := Nat.mul_le_mul_right _ hn
      rw [Array.getElem?_eq_getElem (by omega)]; rfl
     obtain ⟨y, hy⟩ := Option.isSome_iff_exists.1 hcj
     simp only [putCells, Array.getElem?_mapIdx, hy, Option.map_some]
     rw [if_pos ⟨by omega, by rw [size_flatK, hd]; omega⟩, show off + j - off = j by omega]
     show some ((flatK (fun x : Bun × Nat => bunL x.1) 11 d')[j]!) = some u
     rw [hF j hj', List.getElem!_eq_getElem?_getD, hj]; rfl
   · unfold sortWorldK putRowK
     refine ⟨rfl, rfl, rfl, ?_, fun k hk hne => ?_⟩
     · simp [grow, Sort.ahead]
     · have hgk : blk ≠ k := fun e => hne (by rw [e])
       show ((putRow id (Sort.ahead w n) blk off (flatK (fun x : Bun × Nat => bunL x.1) 11 d')).heap ++ os)[k]? = _
       rw [Array.getElem?_append_left (by simpa [Sort.ahead] using hk)]
       simp [putRow, mapBlock, Array.getElem?_modify, Sort.ahead, hgk]
theorem stableF_len (l : List Bun) : (stableF cmpBun l).length = l.length := by simp [stableF]
theorem ssf_nil (f : Value) (p : Option Addr) (cap : Nat) (w : World) : Calls prog 134 #[.slice p 0 cap, f] w fun e w' => e = .returned (.tuple #[]) ∧ w = w' := by
 have hi : Calls prog 173 #[.slice p 0 cap, int i64 0, int i64 0, f] w fun e w' => e = .returned (.tuple #[]) ∧ w = w' := by
  go_enter Tryz.func173, Tryz.ntmps173
  go_wp2_with fail
  refine wp_loop_rounds 1 ?_
  rw [rounds_succ]
  go_wp2
  go_returns
  exact ⟨rfl, rfl⟩
 have hc : Calls prog 154 #[.slice p 0 cap, int i64 0, f] w fun e w' => e = .returned (.tuple #[]) ∧ w = w' := by
  go_enter Tryz.func154, Tryz.ntmps154
  go_wp2_with fail
  refine wp_loop_rounds 1 ?_
  rw [rounds_succ]
  go_wp2_with (go_at_call 173; refine hi.mono ?_; rintro e w' ⟨rfl, rfl⟩)
  refine wp_loop_rounds 1 ?_
  rw [rounds_succ]
  go_wp2
  go_returns
  exact ⟨rfl, rfl⟩
 go_enter Tryz.func134, Tryz.ntmps134
 go_wp2_with (go_at_call 154; refine hc.mono ?_; rintro e w' ⟨rfl, rfl⟩)
 go_returns
 exact ⟨rfl, rfl⟩
theorem sorted_any (v : Value) (l : List Bun) (w : World) (h : BIn w v l) (hl : l.length ≤ 1000000) :
 Calls prog 96 #[v] w fun e w' => ∃ v', e = .returned v' ∧ BNew w w' v' (stableF cmpBun l) := by
 have HC := hid (clone_bin v l w h hl)
 clear h
 go_enter Tryz.func96, Tryz.ntmps96
 go_wp2_with fail
 refine HC.out.mono ?_
 rintro e w1 ⟨v1, rfl, hs, hb, hg⟩
 have HS := hid hs
 have HB := hid hb
 have HG := hid hg
 by_cases h0 : l = []
 · subst h0
   obtain ⟨p, cap, rfl⟩ : ∃ p cap, v1 = .slice p 0 cap := by
    obtain ⟨_, ⟨rfl, _⟩ | ⟨g, off, cap, cur, rfl, _⟩⟩ := hs
    · exact ⟨none, 0, rfl⟩
    · exact ⟨_, cap, rfl⟩
   clear hs hb hg
   go_wp2_with (go_at_call 134; refine eqA (ssf_nil _ _ _ _) ?_)
   go_ret
   have e0 : stableF cmpBun [] = [] := by simp [stableF]
   exact ⟨.slice p 0 cap, rfl, by rw [e0]; exact HS.out, HB.out, HG.out⟩
 · obtain ⟨blk, off, cap, rfl⟩ : ∃ blk off cap, v1 = .slice (some ⟨blk, off, none⟩) l.length cap := by
    obtain ⟨_, ⟨rfl, h1⟩ | ⟨g, off, cap, cur, rfl, _⟩⟩ := hs
    · exact absurd (List.eq_nil_of_length_eq_zero h1) h0
    · exact ⟨g, off, cap, rfl⟩
   obtain ⟨hblk, hH⟩ := holds_of_sl hs
   have hss := ssf_any bunL cmpBun cmpBun_ok 135 #[] blk off cap l w1 (cmpr_bun blk off l w1 hl hblk hH)
   have HSS := hid hss
   clear hs hb hg hss hH h0
   go_wp2_with fail
   refine HSS.out.mono ?_
   rintro e w2 ⟨rfl, d', hd, hsz, hw⟩
   have hq := sl_of_sorted HS.out hsz hw
   rw [hd] at hq
   have HQ := hid hq
   clear hd hw hq
   go_wp2_with fail
   go_ret
   have hgb := HG.out blk rfl
   refine ⟨.slice (some ⟨blk, off, none⟩) l.length cap, rfl, ?_, HQ.out.2.below_new (fun k hk => by cases hk; exact hgb) HB.out HB.out.size, fun g hg => HG.out g hg⟩
   rw [stableF_len l]
   exact HQ.out.1
end
section
open Go.Sort
theorem BIn.cells {w : World} {v : Value} {l : List Bun} (h : BIn w v l) {k : Nat} {b : Bun} (hk : l[k]? = some b) : ∃ blk off cap, v = .slice (some ⟨blk, off, none⟩) l.length cap ∧ blk < w.heap.size ∧ ∀ j u, (bunL b)[j]? = some u → w.cell? ⟨blk, off + k * 11 + j, none⟩ = some u := by
 obtain ⟨p, cap, rfl, _, _, _, h4⟩ := h
 obtain ⟨blk, off, rfl, h5, h6⟩ := h4 (fun e => by subst e; cases hk)
 refine ⟨blk, off, cap, rfl, h5, fun j u hj => ?_⟩
 have hj' : j < 11 := by have := (List.getElem?_eq_some_iff.1 hj).1; rwa [bunL_len] at this
 have e := bunCells_get l k j b hk hj'
 rw [Nat.add_assoc]
 exact h6 _ u (e.trans hj)
theorem ld_of {w : World} {blk o : Nat} {b : Bun} (h : ∀ j u, (bunL b)[j]? = some u → w.cell? ⟨blk, o + j, none⟩ = some u) : (ldB ⟨blk, o, none⟩).run prog w = .ok (.agg b.arr) w := by
 have := ldB_of (cs := bunL b) (Go.Proofs.run_loadCellsFrom_list prog w ⟨blk, o, none⟩ (bunL b) 11 rfl (fun j v hj => by
  rw [show Addr.add ⟨blk, o, none⟩ j = ⟨blk, o + j, none⟩ from by unfold Addr.add; split <;> simp_all]
  exact h j v hj))
 exact this
theorem BNew.bin {w0 w : World} {v : Value} {l : List Bun} (h : BNew w0 w v l) : BIn w v l := BIn.of_sl h.1
theorem BNew.grow {w0 w w' : World} {v : Value} {l : List Bun} (h : BNew w0 w v l) (hb : Below w.heap.size w w') : BNew w0 w' v l :=
 ⟨h.1.keep fun g hg => hb.block g (sl_lt h.1 hg), h.2.1.trans (hb.mono h.2.1.size), h.2.2⟩
theorem BNew.nil (w : World) : BNew w w (.slice Option.none 0 0) [] := ⟨⟨rfl, .inl ⟨rfl, rfl⟩⟩, Below.refl _ _, fun g hg => by cases hg⟩
theorem BNew.snoc {w0 w w1 : World} {v v' : Value} {l : List Bun} {b : Bun} (h : BNew w0 w v l) (hs : Sl w1 32 11 v' (l.length + 1) (bunCells l ++ bunL b)) (ht : Turned w w1 v.ownBlock)
 (ho : v'.ownBlock = v.ownBlock ∨ ∃ g, v'.ownBlock = some g ∧ w.heap.size ≤ g) : BNew w0 w1 v' (l ++ [b]) := by
 refine ⟨?_, h.2.1.trans ⟨ht.os, ht.tape, ht.output, ht.size, fun k hk => ht.block k (by have := h.2.1.size; omega) fun e => by have := h.2.2 k e.symm; omega⟩, fun q hq => ?_⟩
 · rw [bunCells_app, show bunCells [b] = bunL b by simp [bunCells]]; simpa using hs
 · rcases ho with e | ⟨g', e, hg'⟩
   · exact h.2.2 q (by rw [← e]; exact hq)
   · rw [e] at hq
     cases hq
     exact Nat.le_trans h.2.1.size hg'
theorem bunCells_set : ∀ (l : List Bun) (k : Nat) (b : Bun) (t : Nat), k < l.length → (bunCells (l.set k b))[t]? = if k * 11 ≤ t ∧ t < k * 11 + 11 then (bunL b)[t - k * 11]? else (bunCells l)[t]?
 | [], k, b, t, h => by simp at h
 | c :: l, 0, b, t, h => by
   have e1 : bunCells (b :: l) = bunL b ++ bunCells l := by simp [bunCells]
   have e2 : bunCells (c :: l) = bunL c ++ bunCells l := by simp [bunCells]
   rw [List.set_cons_zero, e1, e2]
   by_cases ht : t < 11
   · rw [if_pos (by omega), List.getElem?_append_left (by rw [bunL_len]; exact ht)]; rfl
   · rw [if_neg (by omega), List.getElem?_append_right (by rw [bunL_len]; omega), List.getElem?_append_right (by rw [bunL_len]; omega), bunL_len, bunL_len]
 | c :: l, k + 1, b, t, h => by
   have e1 : bunCells (c :: l.set k b) = bunL c ++ bunCells (l.set k b) := by simp [bunCells]
   have e2 : bunCells (c :: l) = bunL c ++ bunCells l := by simp [bunCells]
   rw [List.set_cons_succ, e1, e2]
   by_cases ht : t < 11
   · rw [if_neg (by omega), List.getElem?_append_left (by rw [bunL_len]; exact ht), List.getElem?_append_left (by rw [bunL_len]; exact ht)]
   · have ih := bunCells_set l k b (t - 11) (by simpa using h)
     rw [List.getElem?_append_right (by rw [bunL_len]; omega), List.getElem?_append_right (by rw [bunL_len]; omega), bunL_len, ih]
     by_cases h1 : (k + 1) * 11 ≤ t ∧ t < (k + 1) * 11 + 11
     · rw [if_pos h1, if_pos (by omega)]; congr 1; omega
     · rw [if_neg h1, if_neg (by omega)]
theorem BNew.store {w0 w : World} {blk off cap : Nat} {l : List Bun} (h : BNew w0 w (.slice (some ⟨blk, off, Option.none⟩) l.length cap) l) {k : Nat} (hk : k < l.length) (b : Bun) :
 (stB ⟨blk, off + k * 11, Option.none⟩ b.v).run prog w = .ok () (w.setCells blk (off + k * 11) (bunL b)) ∧ BNew w0 (w.setCells blk (off + k * 11) (bunL b)) (.slice (some ⟨blk, off, Option.none⟩) l.length cap) (l.set k b) := by
 obtain ⟨⟨hlen, ⟨h0, _⟩ | ⟨g, off', cap', cur, hv, hb, hn, hc, hsz, hr⟩⟩, h2, h3⟩ := h
 · cases h0
 simp only [Value.slice.injEq, Option.some.injEq, Addr.mk.injEq, and_true, true_and] at hv
 obtain ⟨⟨rfl, rfl⟩, rfl⟩ := hv
 have hle : off + k * 11 + (bunL b).length ≤ cur.size := by
  have : l.length * 11 ≤ cap * 11 := Nat.mul_le_mul_right _ hn
  rw [bunL_len]; omega
 obtain ⟨cur', hg', hs', hlo, hin, hhi⟩ := setCells_heap blk 32 (0, 0) (bunL b) (off + k * 11) w cur hb hle
 have ht := setCells_turned blk (bunL b) (off + k * 11) w
 have hblk := h3 blk rfl
 refine ⟨?_, ⟨by rw [bunCells_len, List.length_set], .inr ⟨blk, off, cap, cur', by rw [List.length_set], hg', by rw [List.length_set]; exact hn, hc, by omega, fun j u hj => ?_⟩⟩, Turned.below_new ht (fun q hq => by cases hq; exact hblk) h2 h2.size, h3⟩
 · have := stB_of (W := w) (W' := w.setCells blk (off + k * 11) (bunL b)) (a := ⟨blk, off + k * 11, Option.none⟩) (cs := bunL b) rfl (by
    have := Go.run_storeCells_cells (P := prog) blk (off + k * 11) (bunL b) 0 w (fun j hj => by
     have hj2 : off + k * 11 + j < cur.size := by rw [bunL_len] at hj hle; omega
     simp [World.cell?, hb]; exact hj2) (fun j hj => by simp [World.frozen?, hb]) (bunL_one b)
    simpa using this)
   exact this
 · rw [bunCells_set l k b j hk] at hj
   split at hj
   · rename_i h1
     have := hin (j - k * 11) u hj
     rwa [show off + k * 11 + (j - k * 11) = off + j by omega] at this
   · rename_i h1
     by_cases h4 : j < k * 11
     · rw [hlo _ (by omega)]; exact hr j u hj
     · rw [hhi _ (by rw [bunL_len]; omega)]; exact hr j u hj
end
section
open Go.Sort
def bef (x y : Bun) : Bool := beforeB x.s x.i x.g y.s y.i y.g
theorem bef_cmp (x y : Bun) : bef x y = decide (cmpBun x y < 0) := cmpId_before _ _ _ _ _ _
def rPos (x : Bun) (l : List Bun) : Nat → Nat
 | 0 => 0
 | k + 1 => if bef x (l.getD k default) then rPos x l k else k + 1
theorem rPos_le (x : Bun) (l : List Bun) : ∀ k, rPos x l k ≤ k
 | 0 => Nat.le_refl _
 | k + 1 => by
   have := rPos_le x l k
   unfold rPos
   split <;> omega
theorem rPos_lo (x : Bun) (l : List Bun) : ∀ k, rPos x l k = 0 ∨ bef x (l.getD (rPos x l k - 1) default) = false
 | 0 => .inl rfl
 | k + 1 => by
   unfold rPos
   split
   · exact rPos_lo x l k
   · rename_i h
     right
     rw [Nat.add_sub_cancel]
     simpa using h
theorem rPos_hi (x : Bun) (l : List Bun) : ∀ k t, rPos x l k ≤ t → t < k → bef x (l.getD t default) = true
 | 0, t, _, h => absurd h (Nat.not_lt_zero _)
 | k + 1, t, h1, h2 => by
   unfold rPos at h1
   split at h1
   · rename_i hb
     by_cases ht : t = k
     · subst ht; exact hb
     · exact rPos_hi x l k t h1 (by omega)
   · omega
def rIns (x : Bun) (l : List Bun) : List Bun := l.take (rPos x l l.length) ++ x :: l.drop (rPos x l l.length)
def rSort (l : List Bun) : List Bun := l.foldl (fun out x => rIns x out) []
theorem rSort_snoc (l : List Bun) (x : Bun) : rSort (l ++ [x]) = rIns x (rSort l) := by simp [rSort]
theorem rIns_tag {n : Nat} (x : Bun) (T : List (Bun × Nat)) (hp : T.Pairwise fun a b => ltT cmpBun a b = true) (ht : ∀ y ∈ T, y.2 < n) :
 ∃ T' : List (Bun × Nat), T'.map (fun y => y.1) = rIns x (T.map fun y => y.1) ∧ T'.Perm ((x, n) :: T) ∧ T'.Pairwise fun a b => ltT cmpBun a b = true := by
 have hS := ltT_swo cmpBun_ok
 generalize hk : rPos x (T.map fun y => y.1) (T.map fun y => y.1).length = k
 have h1 := rPos_le x (T.map fun y => y.1) (T.map fun y => y.1).length
 have h2 := rPos_lo x (T.map fun y => y.1) (T.map fun y => y.1).length
 have h3 := rPos_hi x (T.map fun y => y.1) (T.map fun y => y.1).length
 rw [hk] at h1 h2 h3
 simp only [List.length_map] at h1 h3
 refine ⟨T.take k ++ (x, n) :: T.drop k, ?_, ?_, ?_⟩
 · unfold rIns
   rw [hk]
   simp [List.map_take, List.map_drop]
 · refine List.perm_middle.trans ?_
   rw [List.take_append_drop]
 · have hlo : ∀ y ∈ T.take k, ltT cmpBun y (x, n) = true := by
    intro y hy
    rcases h2 with h2 | h2
    · subst h2; simp at hy
    · by_cases hk0 : k = 0
      · subst hk0; simp at hy
      obtain ⟨j, hj, e⟩ := List.getElem_of_mem hy
      have hj' : j < k := by simp at hj; omega
      have hkl : k - 1 < T.length := by omega
      have e2 : (T.map fun y => y.1).getD (k - 1) default = T[k - 1].1 := by simp [List.getD, hkl]
      rw [e2, bef_cmp] at h2
      have hl : ltT cmpBun T[k - 1] (x, n) = true := by
       rw [(ltT_total cmpBun_ok (x := T[k - 1]) (y := (x, n)) (ht _ (List.getElem_mem hkl))).2, h2]; rfl
      have e3 : y = T[j] := by rw [← e]; simp
      rw [e3]
      by_cases hjk : j = k - 1
      · subst hjk; exact hl
      · exact hS.trans _ _ _ (List.pairwise_iff_getElem.1 hp j (k - 1) (by omega) hkl (by omega)) hl
   have hhi : ∀ y ∈ T.drop k, ltT cmpBun (x, n) y = true := by
    intro y hy
    obtain ⟨j, hj, e⟩ := List.getElem_of_mem hy
    have hj' : k + j < T.length := by simp at hj; omega
    have h4 := h3 (k + j) (by omega) hj'
    have e2 : (T.map fun y => y.1).getD (k + j) default = T[k + j].1 := by simp [List.getD, hj']
    rw [e2, bef_cmp] at h4
    have e3 : y = T[k + j] := by rw [← e]; simp
    rw [e3, (ltT_total cmpBun_ok (x := T[k + j]) (y := (x, n)) (ht _ (List.getElem_mem hj'))).1, h4]
   rw [List.pairwise_append]
   refine ⟨hp.sublist (List.take_sublist _ _), List.pairwise_cons.2 ⟨hhi, hp.sublist (List.drop_sublist _ _)⟩, fun y hy z hz => ?_⟩
   rcases List.mem_cons.1 hz with rfl | hz
   · exact hlo y hy
   · exact hS.trans _ _ _ (hlo y hy) (hhi z hz)
theorem rSort_tag (l : List Bun) : ∀ n, n ≤ l.length → ∃ T : List (Bun × Nat), T.map (fun y => y.1) = rSort (l.take n) ∧ T.Perm (l.take n).zipIdx ∧ T.Pairwise fun a b => ltT cmpBun a b = true
 | 0, _ => ⟨[], rfl, by simp, List.Pairwise.nil⟩
 | n + 1, h => by
   obtain ⟨T, h1, h2, h3⟩ := rSort_tag l n (by omega)
   have e : l.take (n + 1) = l.take n ++ [l[n]] := by rw [List.take_succ_eq_append_getElem (by omega)]
   obtain ⟨T', g1, g2, g3⟩ := rIns_tag (n := n) l[n] T h3 (fun y hy => by
    have := h2.mem_iff.1 hy
    have := List.mem_zipIdx this
    simp at this
    omega)
   refine ⟨T', by rw [g1, h1, e, rSort_snoc], ?_, g3⟩
   rw [e, List.zipIdx_append]
   refine g2.trans ((List.Perm.cons _ h2).trans ?_)
   have : (l.take n).length = n := by simp; omega
   simp [this]
   exact List.perm_append_comm (l₁ := [_])
theorem rSort_stable (l : List Bun) : rSort l = stableF cmpBun l := by
 obtain ⟨T, h1, h2, h3⟩ := rSort_tag l l.length (Nat.le_refl _)
 rw [List.take_length] at h1 h2
 have hl : T.length = l.length := by rw [h2.length_eq]; simp
 rw [← h1, ← stable_of cmpBun_ok (d := T.toArray) ?_ ?_]
 · refine ⟨by rw [size_tagd]; simpa using hl, fun i hi => ?_, ?_⟩
   · have h0 : l.length ≤ i := by omega
     rw [getElem!_neg _ _ (by simp; omega), getElem!_neg _ _ (by rw [size_tagd]; omega)]
   · have e1 : T.toArray.extract 0 l.length = T.toArray := by rw [← hl, ← List.size_toArray]; exact Array.extract_size
     have e2 : (tagd l).extract 0 l.length = tagd l := by
      have h := Array.extract_size (xs := tagd l)
      rwa [size_tagd] at h
     rw [e1, e2]
     simpa [tagd] using h2
 · intro i j _ hij hj
   rw [getElem!_pos _ i (by simp; omega), getElem!_pos _ j (by simp; omega)]
   simpa using List.pairwise_iff_getElem.1 h3 i j (by omega) (by omega) hij
def findB (s i g : Int) : List Bun → Nat → Int × Bool
 | [], k => (k, false)
 | b :: l, k => if 0 ≤ cmpId b.s b.i b.g s i g then ((k : Int), cmpId b.s b.i b.g s i g == 0) else findB s i g l (k + 1)
theorem cmpId_zero (s i g s' i' g' : Int) : cmpId s i g s' i' g' = 0 ↔ s = s' ∧ i = i' ∧ g = g' := by
 unfold cmpId
 have h1 := cmpI_spec s s'; have h2 := cmpI_spec i i'; have h3 := cmpI_spec g g'
 repeat' split
 all_goals omega
end
section
open Go.Sort
theorem sl_some {w : World} {e : TypeId} {size : Nat} {v : Value} {n : Nat} {xs : List Value} (h : Sl w e size v (n + 1) xs) : ∃ g off cap, v = .slice (some ⟨g, off, none⟩) (n + 1) cap ∧ g < w.heap.size ∧ n + 1 ≤ cap := by
 obtain ⟨_, ⟨_, h0⟩ | ⟨g, off, cap, cur, rfl, hb, hn, _⟩⟩ := h
 · omega
 · exact ⟨g, off, cap, rfl, (Array.getElem?_eq_some_iff.1 hb).1, hn⟩
theorem mid_step (l : List Bun) (k : Nat) (y : Bun) (hk : k < l.length) : (l.take (k + 1) ++ y :: l.drop (k + 1)).set (k + 1) l[k] = l.take k ++ l[k] :: l.drop k := by
 have e : (l.take (k + 1)).length = k + 1 := by simp; omega
 rw [List.set_append_right _ _ (by omega), e, Nat.sub_self, List.set_cons_zero, List.take_succ_eq_append_getElem hk, List.append_assoc, List.singleton_append, List.drop_eq_getElem_cons hk]
theorem mid_end (l : List Bun) (k : Nat) (y x : Bun) (hk : k ≤ l.length) : (l.take k ++ y :: l.drop k).set k x = l.take k ++ x :: l.drop k := by
 have e : (l.take k).length = k := by simp; omega
 rw [List.set_append_right _ _ (by omega), e, Nat.sub_self, List.set_cons_zero]
theorem mid_get (l : List Bun) (k : Nat) (y : Bun) (hk : k < l.length) : (l.take (k + 1) ++ y :: l.drop (k + 1))[k]? = some l[k] := by
 rw [List.getElem?_append_left (by simp; omega), List.getElem?_take_of_lt (by omega), List.getElem?_eq_getElem hk]
theorem mid_len (l : List Bun) (k : Nat) (y : Bun) (hk : k ≤ l.length) : (l.take k ++ y :: l.drop k).length = l.length + 1 := by simp; omega
theorem ltq {a W : Nat} (h : a < W) : a < W + 1 ∧ (∀ n, a < W + 1 + n) ∧ (∀ n m, a < W + 1 + n + m) ∧ (∀ n m q, a < W + 1 + n + m + q) := ⟨by omega, fun _ => by omega, fun _ _ => by omega, fun _ _ _ => by omega⟩
theorem BNew.store' {w0 w : World} {blk off cap n : Nat} {l : List Bun} (h : BNew w0 w (.slice (some ⟨blk, off, Option.none⟩) n cap) l) (hn : l.length = n) {k : Nat} (hk : k < n) (b : Bun) :
 (stB ⟨blk, off + k * 11, Option.none⟩ b.v).run prog w = .ok () (w.setCells blk (off + k * 11) (bunL b)) ∧ BNew w0 (w.setCells blk (off + k * 11) (bunL b)) (.slice (some ⟨blk, off, Option.none⟩) n cap) (l.set k b) := by
 subst hn
 exact h.store hk b
theorem BIn.cells' {w : World} {blk off n cap : Nat} {l : List Bun} (h : BIn w (.slice (some ⟨blk, off, none⟩) n cap) l) {k : Nat} {b : Bun} (hk : l[k]? = some b) : blk < w.heap.size ∧ ∀ j u, (bunL b)[j]? = some u → w.cell? ⟨blk, off + k * 11 + j, none⟩ = some u := by
 obtain ⟨g, o, c, hv, h1, h2⟩ := h.cells hk
 simp only [Value.slice.injEq, Option.some.injEq, Addr.mk.injEq, and_true] at hv
 obtain ⟨⟨rfl, rfl⟩, _, _⟩ := hv
 exact ⟨h1, h2⟩
attribute [local go_sem ↓] loadVar_ldB storeVar_stB
theorem rsorted_any (v : Value) (l : List Bun) (w : World) (h : BIn w v l) (hl : l.length ≤ 1000000) :
 Calls prog 24 #[v] w fun e w' => ∃ v', e = .returned v' ∧ BNew w w' v' (stableF cmpBun l) := by
 have mixed : prog.follows .mixedOrders = true := by kernel_rfl
 obtain ⟨i0, hi0, hz0, hz1, hz2⟩ := info_parts info_bunJ
 rw [← rSort_stable]
 have H := hid h
 obtain ⟨pv, cv, rfl, _⟩ := h
 go_enter Tryz.func24, Tryz.ntmps24
 go_wp2_with fail
 go_loopg [3, 4] l.length (fun kx o x wr => ∃ i : Nat, x = int i64 i ∧ i ≤ l.length ∧ l.length - i ≤ kx ∧ Hid (BNew w wr o (rSort (l.take i))))
 case atStart => exact ⟨0, rfl, by omega, by omega, hid (BNew.nil w)⟩
 case round =>
  obtain ⟨i, rfl, hil, hkx, HN⟩ := hrel
  by_cases hlt : i < l.length
  · have t1 : (i : Int) < (l.length : Int) := by omega
    obtain ⟨b, hb⟩ : ∃ b, l[i]? = some b := ⟨_, List.getElem?_eq_getElem hlt⟩
    have hbin := H.out.keep HN.out.2.1
    obtain ⟨gb, ob, cb, hv, hgb, hcb⟩ := hbin.cells hb
    simp only [Value.slice.injEq, true_and] at hv
    obtain ⟨rfl, rfl⟩ := hv
    have hld := ld_of hcb
    have hsl : (rSort (l.take i)).length = i := by
     rw [rSort_stable, stableF_len]; simp; omega
    generalize hls : rSort (l.take i) = ls at *
    have HLS := hid hls
    clear hls hbin
    obtain rfl : i = ls.length := hsl.symm
    clear hsl
    obtain ⟨po, co, rfl⟩ := sl_frm HN.out.1
    have HCB := hid hcb
    clear hcb
    go_wp2_with (at_builtin; refine wpList_append_sl _ (by rfl) _ _ 37 (by rfl) 32 i0 _ 11 88 Tryz.underlying37 hi0 hz0 hz1 hz2 rfl (by omega) _ ls.length (bunCells ls) (by rfl) (HN.out.grow bg).1 ⟨_, 0, none⟩ 1 1 (bunL b) (by rfl) (by rfl) (new_cells _ _ _) (bunL_one b) (by omega) (by unfold maxLen; omega) (by omega) ?_; intro v' w4 hs4 ht4 ho4)
    have hm := (HN.out.grow bg).snoc hs4 ht4 ho4
    obtain ⟨g, off, cap, hvf, hgl, hcp⟩ := sl_some hs4
    subst hvf
    have HM := hid hm
    have hld4 := hid (fun W (hW : Below w.heap.size w W) => (H.out.keep hW).cells' hb)
    clear hs4 ht4 ho4 hm hld hgl HN
    go_wp2_with fail
    go_loopg [5] ls.length (fun kx x wr => ∃ (k : Nat) (y : Bun), x = int i64 k ∧ k ≤ ls.length ∧ k ≤ kx ∧ Hid (BNew w wr (.slice (some ⟨g, off, none⟩) (ls.length + 1) cap) (ls.take k ++ y :: ls.drop k)) ∧ Hid (rPos b ls k = rPos b ls ls.length))
    case atStart => exact ⟨ls.length, b, rfl, by omega, by omega, hid (by rw [List.take_length, List.drop_length]; exact HM.out), hid rfl⟩
    case round =>
     clear HM
     obtain ⟨k1, y, rfl, hk, hkx2, HM, HP⟩ := hrel
     have fin : bef b (ls.getD (k1 - 1) default) = false ∨ k1 = 0 → rPos b ls ls.length = k1 := fun h => by
      rw [← HP.out]
      cases k1 with
      | zero => rfl
      | succ k =>
        rcases h with h | h
        · unfold rPos; rw [Nat.add_sub_cancel] at h; rw [h]; rfl
        · omega
     have FIN := hid fin
     clear fin
     by_cases hk0 : 0 < k1
     · obtain ⟨k, rfl⟩ : ∃ k, k1 = k + 1 := ⟨k1 - 1, by omega⟩
       obtain ⟨c, hc⟩ : ∃ c, ls[k]? = some c := ⟨_, List.getElem?_eq_getElem (by omega)⟩
       have hkl : k < ls.length := by omega
       have e3 : ls.getD k default = c := by simp [List.getD, hc]
       have hcg : ls[k] = c := by have := List.getElem?_eq_getElem hkl; rw [hc] at this; exact (Option.some.inj this).symm
       have hmg := mid_get ls k y hkl
       rw [hcg] at hmg
       obtain ⟨lg, qc⟩ := HM.out.bin.cells' hmg
       obtain ⟨lb, qb⟩ := hld4.out wr HM.out.2.1
       have c0 := qc 0 _ rfl; have b0 := qb 0 _ rfl
       have c1 := qc 1 _ rfl; have b1 := qb 1 _ rfl
       have c2 := qc 2 _ rfl; have b2 := qb 2 _ rfl
       simp only [Nat.add_zero] at c0 b0
       have HQ := hid (And.intro hmg hcg)
       have HC := hid (And.intro hc e3)
       clear qc qb hmg hcg hc e3
       obtain ⟨x0, x1, x2, x3⟩ := ltq lg
       obtain ⟨y0, y1, y2, y3⟩ := ltq lb
       have hg0 : (0 : Int) < (k : Int) + 1 := by omega
       have ea1 : ((k : Int)).toNat = k := by omega
       have pa1 : (0 : Int) ≤ (k : Int) := by omega
       have ba1 : (k : Int) < (ls.length : Int) + 1 := by omega
       have ba2 : (k : Int) + 1 < (ls.length : Int) + 1 := by omega
       have ra1 : IntKind.i64.wrap (k : Int) = (k : Int) := by rw [IntKind.wrap_i64]; omega
       cases hbv : beforeB b.s b.i b.g c.s c.i c.g with
       | true =>
         have HBV := hid hbv
         have hbef := before_any b.s b.i b.g c.s c.i c.g
         rw [hbv] at hbef
         have HBF := hid hbef
         clear hbv hbef
         go_wp2_with fail
         refine wpm ?_
         repeat (go_big_quiet_step ((first | (go_at_call 16; exact more_call (HBF.out _)))))
         refine wpQuiet_nil ?_
         rintro _ ⟨pm, rfl⟩
         have hN2 := HM.out.grow (more_below wr pm.d pm.os)
         have hst := hN2.store' (mid_len ls (k + 1) y (by omega)) (k := k + 1) (by omega) c
         have l44 := ld_of (hN2.bin.cells' HQ.out.1).2
         have s44 := hst.1
         have HST := hid hst.2
         clear hN2 hst c0 b0 c1 b1 c2 b2
         generalize more wr pm.d pm.os = W2 at *
         go_wp2_with fail
         go_roundg k
         case measure => omega
         case rel => exact ⟨k, c, by go_num, by omega, by omega, hid (by have h := HST.out; rw [← HQ.out.2, mid_step ls k y hkl] at h; rw [← HQ.out.2]; exact h), hid (by rw [← HP.out]; conv => rhs; unfold rPos; rw [HC.out.2]; rw [show bef b c = true from HBV.out, if_pos rfl])⟩
       | false =>
         have HBV := hid hbv
         have hbef := before_any b.s b.i b.g c.s c.i c.g
         rw [hbv] at hbef
         have HBF := hid hbef
         clear hbv hbef
         go_wp2_with fail
         refine wpm ?_
         repeat (go_big_quiet_step ((first | (go_at_call 16; exact more_call (HBF.out _)))))
         refine wpQuiet_nil ?_
         rintro _ ⟨pm, rfl⟩
         have hN2 := HM.out.grow (more_below wr pm.d pm.os)
         have hst := hN2.store' (mid_len ls (k + 1) y (by omega)) (k := k + 1) (by omega) b
         have l44 := ld_of (hld4.out _ hN2.2.1).2
         have s44 := hst.1
         have HST := hid hst.2
         clear hN2 hst c0 b0 c1 b1 c2 b2
         generalize more wr pm.d pm.os = W2 at *
         go_wp2_with fail
         go_roundg (l.length - (ls.length + 1))
         case measure => omega
         case rel => exact ⟨ls.length + 1, by go_num, by omega, by omega, hid (by
          have e := FIN.out (.inl (by rw [Nat.add_sub_cancel, HC.out.2]; exact HBV.out))
          have h := HST.out
          rw [mid_end ls (k + 1) y b (by omega)] at h
          rw [List.take_succ_eq_append_getElem hlt, rSort_snoc, HLS.out, show l[ls.length] = b from by have := List.getElem?_eq_getElem hlt; rw [hb] at this; exact (Option.some.inj this).symm]
          unfold rIns
          rw [e]
          exact h)⟩
     · obtain rfl : k1 = 0 := by omega
       go_wp2_with fail
       refine wpm ?_
       repeat (go_big_quiet_step (fail))
       refine wpQuiet_nil ?_
       rintro _ ⟨pn, rfl⟩
       have hN2 := HM.out.grow (more_below wr pn.d pn.os)
       have hst := hN2.store' (mid_len ls 0 y (by omega)) (k := 0) (by omega) b
       have l44 := ld_of (hld4.out _ hN2.2.1).2
       have s44 := hst.1
       have HST := hid hst.2
       rw [Nat.zero_mul, Nat.add_zero] at s44
       clear hN2 hst
       generalize more wr pn.d pn.os = W2 at *
       go_wp2_with fail
       go_roundg (l.length - (ls.length + 1))
       case measure => omega
       case rel => exact ⟨ls.length + 1, by go_num, by omega, by omega, hid (by
        have e := FIN.out (.inr (by simp))
        have h := HST.out
        rw [mid_end ls 0 y b (by omega), Nat.zero_mul, Nat.add_zero] at h
        rw [List.take_succ_eq_append_getElem hlt, rSort_snoc, HLS.out, show l[ls.length] = b from by have := List.getElem?_eq_getElem hlt; rw [hb] at this; exact (Option.some.inj this).symm]
        unfold rIns
        rw [e]
        exact h)⟩
  · have t1 : ¬ (i : Int) < (l.length : Int) := by omega
    obtain rfl : i = l.length := by omega
    rw [List.take_length] at HN
    go_wp2_with fail
    go_ret
    exact ⟨_, rfl, HN.out⟩
end
end Go.Proofs.YtoimjjhopljdmaaGreat

/-
  Chapter texts QmI Cmp SoA: what the claim reaches of them. Conditions stand at each theorem.
-/
import Derived.Shelf.SlSortCmp.KitK
import Derived.Sort.WalkB2
import Derived.Sort.WalkB12
import Derived.Test.YtmkfjelpekkmmaaQ11
import Derived.Test.YtmkfjelpekkmmaaQ03
namespace Go.Proofs.Ytmkfjelpekkmmaa
open Go.RowKit

theorem StoG.gone {w W : World} {p mb mb' : Nat} {o' : Obj} {V V' : Nat → Value} {T' : Nat → List Bun} {P' : List Pl} {L' : List Bun} {a : Nat → Prop} {w0 : World} (ho : ∀ x, a x ↔ StoOwn p mb V x) (hb : Below w0.heap.size w0 w) (h : StoG w (StoOwn p mb V) W p mb' o' V' (fun j => T' (j / 8))) (hm : MpO o' P') (hi : SInv T' P') (hp : (allT T').Perm L') :
    Gone a w0 W (stoO p L') :=
  ⟨StoOwn p mb' V', ⟨mb', o', V', T', P', h.at_, hm, hi, hp, fun _ => Iff.rfl⟩, ((Chg.of_below hb).trans h.chg fun _ _ h => h).mono fun x _ hx => (ho x).2 hx, fun x hx => (h.own x hx).imp (ho x).2 fun e => Nat.le_trans hb.size e⟩
theorem nfit_of_check {b : Bun} (h : checkB b = true) : NFit (idOf b) := by
  simp only [checkB, idOk, inR, Bool.and_eq_true, decide_eq_true_eq] at h
  obtain ⟨_, ⟨⟨h1, h2⟩, h3, h4⟩, h5, h6⟩ := h
  exact ⟨⟨by simp only [idOf]; omega, by simp only [idOf]; omega⟩, ⟨by simp only [idOf]; omega, by simp only [idOf]; omega⟩, ⟨by simp only [idOf]; omega, by simp only [idOf]; omega⟩⟩
theorem mask_of_check {b : Bun} (h : checkB b = true) : ∃ m : Nat, m < 32 ∧ b.m = (m : Int) := by
  simp only [checkB, rightB, inR, Bool.and_eq_true, decide_eq_true_eq] at h
  exact ⟨b.m.toNat, by omega, by omega⟩
theorem flat_le (T : Nat → List Bun) : ∀ (l : List Nat) (m : Nat), m ∈ l → (T m).length ≤ (l.flatMap T).length
  | [], _, h => by cases h
  | k :: l, m, h => by
    rw [List.flatMap_cons, List.length_append]
    rcases List.mem_cons.1 h with rfl | h
    · omega
    · have := flat_le T l m h; omega
theorem tab_le {T : Nat → List Bun} {L : List Bun} (hp : (allT T).Perm L) {m : Nat} (hm : m < 32) : (T m).length ≤ L.length := by
  rw [← hp.length_eq]
  exact flat_le T _ m (List.mem_range.2 hm)
set_option maxRecDepth 100000 in
set_option maxHeartbeats 1000000 in
theorem sput_any (w : World) (p : Nat) (L : List Bun) (b : Bun) (a : Nat → Prop) (h : (stoO p L).holds w a) (hl : L.length ≤ 1000000) :
    Calls Try.prog 35 #[.pointer (some ⟨p, 0, none⟩), .agg b.arr] w fun e w' => e = .returned (.int .i64 (if checkB b then (if putOk L b then 0 else 7) else 1)) ∧ Gone a w w' (stoO p (putL L b)) := by
  obtain ⟨mb, o, V, T, P, hC, hM, hI, hP, hO⟩ := h
  have hK := fun n => (hI.keys n).trans ⟨fun h => (hP.map idOf).mem_iff.1 h, fun h => (hP.map idOf).mem_iff.2 h⟩
  have HG0 := fun W (hW : Below w.heap.size w W) => (Gone.of_below (A := stoO p L) ⟨mb, o, V, T, P, hC, hM, hI, hP, hO⟩ hW : Gone a w W (stoO p L))
  cases hck : checkB b with
  | false =>
    have e1 : putL L b = L := by unfold putL putOk; rw [hck]; rfl
    rw [if_neg (by simp), e1]
    have HG := Lib.hid HG0
    obtain ⟨s, i, g, m, x, y, vx, vy, hp, pw, lf⟩ := b
    have HC := Lib.hid (check_any s i g m x y vx vy hp pw lf)
    rw [hck] at HC
    clear HG0 hC hM hI hP hO hK hck e1
    go_enter Try.func35, Try.ntmps35
    go_wp2_with (go_at_call 55; refine (HC.out _).mono ?_; rintro e w' ⟨rfl, hb⟩; obtain ⟨d, os, rfl⟩ := more_of hb; clear hb)
    go_ret
    exact ⟨rfl, HG.out _ (by repeat' (first | (with_reducible exact Below.refl _ _) | (with_reducible assumption) | (with_reducible refine below_drewN ?_ _) | (with_reducible refine below_more _ _ _ ?_ ?_) | (with_reducible refine Below.alloc ?_ ?_ _) | (with_reducible refine Below.drew ?_) | (with_reducible refine Below.setCell ?_ ?_ _) | go_size))⟩
  | true =>
    obtain ⟨m, hm, hbm⟩ := mask_of_check hck
    have hnf := nfit_of_check hck
    have HH := Lib.hid (fun W (hW : Below w.heap.size w W) => shas_any W p mb o V (fun j => T (j / 8)) P (idOf b) (hC.grow hW) hM hnf hI.key)
    by_cases hin : idOf b ∈ P.map fun x => x.1
    · have e0 : putOk L b = false := by unfold putOk; rw [hck]; simpa using (hK _).1 hin
      have e1 : putL L b = L := by unfold putL; rw [e0]; rfl
      rw [if_pos rfl, e0, if_neg (by simp), e1]
      rw [show decide (idOf b ∈ P.map fun x => x.1) = true from decide_eq_true hin] at HH
      have HG := Lib.hid HG0
      obtain ⟨s, i, g, m, x, y, vx, vy, hp, pw, lf⟩ := b
      simp only [idOf] at HH
      have HC := Lib.hid (check_any s i g m x y vx vy hp pw lf)
      rw [hck] at HC
      clear HG0 hC hM hI hP hO hK hck e0 e1 hin hnf hbm
      go_enter Try.func35, Try.ntmps35
      go_wp2_with (first | (go_at_call 55; refine (HC.out _).mono ?_; rintro e w' ⟨rfl, hb⟩; obtain ⟨d, os, rfl⟩ := more_of hb; clear hb) | (go_at_call 50; refine (HH.out _ (by repeat' (first | (with_reducible exact Below.refl _ _) | (with_reducible assumption) | (with_reducible refine below_drewN ?_ _) | (with_reducible refine below_more _ _ _ ?_ ?_) | (with_reducible refine Below.alloc ?_ ?_ _) | (with_reducible refine Below.drew ?_) | (with_reducible refine Below.setCell ?_ ?_ _) | go_size))).mono ?_; rintro e w' ⟨rfl, hb⟩; obtain ⟨d, os, rfl⟩ := more_of hb; clear hb))
      go_ret
      exact ⟨rfl, HG.out _ (by repeat' (first | (with_reducible exact Below.refl _ _) | (with_reducible assumption) | (with_reducible refine below_drewN ?_ _) | (with_reducible refine below_more _ _ _ ?_ ?_) | (with_reducible refine Below.alloc ?_ ?_ _) | (with_reducible refine Below.drew ?_) | (with_reducible refine Below.setCell ?_ ?_ _) | go_size))⟩
    · have e0 : putOk L b = true := by unfold putOk; rw [hck]; simpa using fun h => hin ((hK _).2 h)
      have e1 : putL L b = L ++ [b] := by unfold putL; rw [e0]; rfl
      rw [if_pos rfl, e0, if_pos rfl, e1]
      rw [show decide (idOf b ∈ P.map fun x => x.1) = false from decide_eq_false hin] at HH
      have HA := Lib.hid (fun W (hW : Below w.heap.size w W) => sadd_any W p mb o V T P m b (hC.grow hW) hM hm hbm hnf hin (Nat.le_trans (tab_le hP hm) hl))
      have hadd := hI.add hm hbm hck hin
      have HF := Lib.hid (fun W o' V' (hm' : MpO o' (P ++ [(idOf b, m, (T m).length)])) W0 (hb : Below w.heap.size w W0) (hg : StoG W0 (StoOwn p mb V) W p mb o' V' (fun j => updT T m (T m ++ [b]) (j / 8))) => (StoG.gone hO hb hg hm' hadd.1 (hadd.2.trans (hP.append_right [b])) : Gone a w W (stoO p (L ++ [b]))))
      obtain ⟨s, i, g, m, x, y, vx, vy, hp, pw, lf⟩ := b
      simp only [idOf] at HH
      have HC := Lib.hid (check_any s i g m x y vx vy hp pw lf)
      rw [hck] at HC
      clear HG0 hC hM hI hP hO hK hck e0 e1 hin hnf hbm hadd
      go_enter Try.func35, Try.ntmps35
      go_wp2_with (first | (go_at_call 55; refine (HC.out _).mono ?_; rintro e w' ⟨rfl, hb⟩; obtain ⟨d, os, rfl⟩ := more_of hb; clear hb) | (go_at_call 50; refine (HH.out _ (by repeat' (first | (with_reducible exact Below.refl _ _) | (with_reducible assumption) | (with_reducible refine below_drewN ?_ _) | (with_reducible refine below_more _ _ _ ?_ ?_) | (with_reducible refine Below.alloc ?_ ?_ _) | (with_reducible refine Below.drew ?_) | (with_reducible refine Below.setCell ?_ ?_ _) | go_size))).mono ?_; rintro e w' ⟨rfl, hb⟩; obtain ⟨d, os, rfl⟩ := more_of hb; clear hb))
      refine (HA.out _ (by repeat' (first | (with_reducible exact Below.refl _ _) | (with_reducible assumption) | (with_reducible refine below_drewN ?_ _) | (with_reducible refine below_more _ _ _ ?_ ?_) | (with_reducible refine Below.alloc ?_ ?_ _) | (with_reducible refine Below.drew ?_) | (with_reducible refine Below.setCell ?_ ?_ _) | go_size))).mono ?_
      rintro e w5 ⟨rfl, o', V', hm', hg⟩
      have HFF := Lib.hid (HF.out w5 o' V' hm' _ (by repeat' (first | (with_reducible exact Below.refl _ _) | (with_reducible assumption) | (with_reducible refine below_drewN ?_ _) | (with_reducible refine below_more _ _ _ ?_ ?_) | (with_reducible refine Below.alloc ?_ ?_ _) | (with_reducible refine Below.drew ?_) | (with_reducible refine Below.setCell ?_ ?_ _) | go_size)) hg)
      clear hm' hg
      go_wp2_with fail
      go_ret
      exact ⟨rfl, HFF.out⟩
theorem slen_o (w : World) (p : Nat) (L : List Bun) (a : Nat → Prop) (h : (stoO p L).holds w a) : Calls Try.prog 30 #[.pointer (some ⟨p, 0, none⟩)] w fun e w' => e = .returned (.int .i64 (L.length : Int)) ∧ w = w' := by
  obtain ⟨mb, o, V, T, P, hC, hM, hI, hP, hO⟩ := h
  have := slen_any w p mb o V _ P hC hM
  rwa [hI.len, hP.length_eq] at this
end Go.Proofs.Ytmkfjelpekkmmaa
namespace Go.Proofs.Ytmkfjelpekkmmaa
open Go.RowKit

def cmpI (a b : Int) : Int := if a < b then -1 else if b < a then 1 else 0
def cmpId (s i g s' i' g' : Int) : Int := if cmpI s s' ≠ 0 then cmpI s s' else if cmpI i i' ≠ 0 then cmpI i i' else cmpI g g'
def beforeB (s i g s' i' g' : Int) : Bool := if s ≠ s' then decide (s < s') else if i ≠ i' then decide (i < i') else decide (g < g')

theorem cmpI_spec (a b : Int) : (a < b ∧ cmpI a b = -1) ∨ (a = b ∧ cmpI a b = 0) ∨ (b < a ∧ cmpI a b = 1) := by
  unfold cmpI
  by_cases h : a < b
  · simp [h]
  · by_cases h2 : b < a
    · simp [h, h2]
    · simp [h, h2]; omega
theorem cmpId_neg (s i g s' i' g' : Int) : cmpId s' i' g' s i g = -cmpId s i g s' i' g' := by
  unfold cmpId
  have h1 := cmpI_spec s s'; have h2 := cmpI_spec i i'; have h3 := cmpI_spec g g'
  have k1 := cmpI_spec s' s; have k2 := cmpI_spec i' i; have k3 := cmpI_spec g' g
  repeat' split
  all_goals omega
theorem cmpId_before (s i g s' i' g' : Int) : beforeB s i g s' i' g' = decide (cmpId s i g s' i' g' < 0) := by
  unfold beforeB cmpId
  have h1 := cmpI_spec s s'; have h2 := cmpI_spec i i'; have h3 := cmpI_spec g g'
  repeat' split
  all_goals rw [decide_eq_decide]
  all_goals omega
set_option maxHeartbeats 4000000 in
theorem cmpId_trans (s i g s' i' g' s2 i2 g2 : Int) (h1 : cmpId s i g s' i' g' ≤ 0) (h2 : cmpId s' i' g' s2 i2 g2 ≤ 0) : cmpId s i g s2 i2 g2 = min (cmpId s i g s' i' g') (cmpId s' i' g' s2 i2 g2) := by
  unfold cmpId at *
  have a1 := cmpI_spec s s'; have a2 := cmpI_spec i i'; have a3 := cmpI_spec g g'
  have b1 := cmpI_spec s' s2; have b2 := cmpI_spec i' i2; have b3 := cmpI_spec g' g2
  have c1 := cmpI_spec s s2; have c2 := cmpI_spec i i2; have c3 := cmpI_spec g g2
  generalize cmpI s s' = x1 at *; generalize cmpI i i' = x2 at *; generalize cmpI g g' = x3 at *
  generalize cmpI s' s2 = y1 at *; generalize cmpI i' i2 = y2 at *; generalize cmpI g' g2 = y3 at *
  generalize cmpI s s2 = z1 at *; generalize cmpI i i2 = z2 at *; generalize cmpI g g2 = z3 at *
  repeat' split at h1
  all_goals repeat' split at h2
  all_goals repeat' split
  all_goals omega

theorem cmpC_any (a b : Int) (w : World) : Calls Try.prog 48 #[.int .i64 a, .int .i64 b] w fun e w' => e = .returned (.int .i64 (cmpI a b)) ∧ w = w' := by
  generalize hr : cmpI a b = r
  have HR := Lib.hid hr
  clear hr
  go_enter Try.func48, Try.ntmps48
  go_wp2
  all_goals go_ret
  all_goals (refine ⟨?_, rfl⟩; go_tidy; (have h := HR.out; clear HR; subst h; simp [cmpI, *]))
  all_goals (try omega)

def or3 (x y z : Int) : Int := if x ≠ 0 then x else if y ≠ 0 then y else z

theorem or_any (b : Nat) (x y z : Int) (w : World) (h0 : w.cell? ⟨b, 0, none⟩ = some (.int .i64 x)) (h1 : w.cell? ⟨b, 1, none⟩ = some (.int .i64 y)) (h2 : w.cell? ⟨b, 2, none⟩ = some (.int .i64 z)) :
    Calls Try.prog 80 #[.slice (some ⟨b, 0, none⟩) 3 3] w fun e w' => e = .returned (.int .i64 (or3 x y z)) ∧ w = w' := by
  generalize hr : or3 x y z = r
  have HR := Lib.hid hr
  clear hr
  go_enter Try.func80, Try.ntmps80
  go_wp2_with fail
  refine wp_loop_rounds 4 ?_
  repeat any_goals (rw [rounds_succ]; go_wp2)
  all_goals go_ret
  all_goals (refine ⟨?_, rfl⟩; go_tidy; (have h := HR.out; clear HR; subst h; simp_all [or3]))

theorem before_any (s i g s' i' g' : Int) (w : World) :
    Calls Try.prog 65 #[.agg #[.int .i64 s, .int .i64 i, .int .i64 g], .agg #[.int .i64 s', .int .i64 i', .int .i64 g']] w fun e w' => e = .returned (.bool (beforeB s i g s' i' g')) ∧ Below w.heap.size w w' := by
  generalize hr : beforeB s i g s' i' g' = r
  have HR := Lib.hid hr
  clear hr
  go_enter Try.func65, Try.ntmps65
  go_wp2
  all_goals go_ret
  all_goals (refine ⟨?_, (by repeat' (first | (with_reducible exact Below.refl _ _) | (with_reducible assumption) | (with_reducible refine below_drewN ?_ _) | (with_reducible refine below_more _ _ _ ?_ ?_) | (with_reducible refine Below.alloc ?_ ?_ _) | (with_reducible refine Below.drew ?_) | (with_reducible refine Below.setCell ?_ ?_ _) | go_size))⟩; go_tidy; (have h := HR.out; clear HR; subst h; simp_all [beforeB]))


end Go.Proofs.Ytmkfjelpekkmmaa
namespace Go.Proofs.Ytmkfjelpekkmmaa
open Go.Shelf Go.RowKit Go.Lib Go.Sort Go.Proofs

variable {α : Type} [Inhabited α]

def swapN (a b : Nat) : Nat → Array α → Array α
  | 0, d => d
  | n + 1, d => swp (swapN a b n d) (a + n) (b + n)
theorem size_swapN (a b : Nat) : ∀ (n : Nat) (d : Array α), (swapN a b n d).size = d.size
  | 0, _ => rfl
  | n + 1, d => by rw [swapN, size_swp, size_swapN a b n d]

def ldB (a : Addr) : Sem Value := loadVar 51 a
def stB (a : Addr) (v : Value) : Sem Unit := storeVar 51 a v
theorem loadVar_ldB (a : Addr) : loadVar 51 a = ldB a := rfl
theorem storeVar_stB (a : Addr) (v : Value) : storeVar 51 a v = stB a v := rfl

theorem ldB_of {W : World} {a : Addr} {cs : List Value} (h : Sem.run Try.prog (loadCellsFrom a 0 11 #[]) W = .ok cs.toArray W) : (ldB a).run Try.prog W = .ok (.agg cs.toArray) W := by
  simp [ldB, loadVar, loadCells, h]
theorem stB_of {W W' : World} {a : Addr} {cs : List Value} (hl : cs.length = 11) (h : Sem.run Try.prog (storeCells a cs 0) W = .ok () W') : (stB a (.agg cs.toArray)).run Try.prog W = .ok () W' := by
  simp [stB, storeVar, Value.cells, hl, h]
attribute [local go_sem ↓] loadVar_ldB storeVar_stB

set_option maxHeartbeats 4000000 in
set_option maxRecDepth 1000000 in
theorem swapRange (enc : α → List Value) (f : Value) (blk off cap a b n : Nat) (d0 d : Array α) (w0 w : World)
    (R : RowK enc 11 w0 blk off d0) (hs : d0.size = d.size) (S : SWK enc 11 w0 blk off d w) (ha : a + n ≤ d.size) (hb : b + n ≤ d.size) (hsz : d.size < 4611686018427387904) :
    Calls Try.prog 82 #[.slice (some ⟨blk, off, none⟩) d.size cap, .int .i64 a, .int .i64 b, .int .i64 n, f] w fun e w' => e = .returned (.tuple #[]) ∧ SWK enc 11 w0 blk off (swapN a b n d) w' := by
  have mixed : Try.prog.follows .mixedOrders = true := by kernel_rfl
  have S0 : Aside (SWK enc 11 w0 blk off d w) := S
  clear S
  go_enter Try.func82, Try.ntmps82
  go_wp2_with fail
  go_loopg [10] n (fun kx s wr => ∃ (i : Nat) (dk : Array α), s = .int .i64 i ∧ i ≤ n ∧ n - i ≤ kx ∧ dk.size = d.size ∧ dk = swapN a b i d ∧ Aside (SWK enc 11 w0 blk off dk wr))
  case atStart => exact ⟨0, d, rfl, by omega, by omega, rfl, rfl, S0⟩
  case round =>
    clear S0
    obtain ⟨i, dk, rfl, hin, hkx, hds, heq, S1⟩ := hrel
    have HEQ := Lib.hid heq
    clear heq
    by_cases hlt : i < n
    · have hltz : (i : Int) < (n : Int) := by omega
      go_wp2_with fail
      have ea44 : ((a : Int) + (i : Int)).toNat = a + i := by omega
      have pa44 : (0 : Int) ≤ (a : Int) + (i : Int) := by omega
      have ba44 : (a : Int) + (i : Int) < (d.size : Int) := by omega
      have ra44 : IntKind.i64.wrap ((a : Int) + (i : Int)) = (a : Int) + (i : Int) := by rw [IntKind.wrap_i64]; omega
      have ec44 : ((b : Int) + (i : Int)).toNat = b + i := by omega
      have pc44 : (0 : Int) ≤ (b : Int) + (i : Int) := by omega
      have bc44 : (b : Int) + (i : Int) < (d.size : Int) := by omega
      have rc44 : IntKind.i64.wrap ((b : Int) + (i : Int)) = (b : Int) + (i : Int) := by rw [IntKind.wrap_i64]; omega
      have S2 : Aside (SWK enc 11 w0 blk off (swp dk (a + i) (b + i)) ((wr.drew.setCells blk (off + (a + i) * 11) (enc dk[b + i]!)).setCells blk (off + (b + i) * 11) (enc dk[a + i]!))) := S1.out.swapped R (a + i) (b + i) (by omega) (by omega)
      have l44a := ldB_of (S1.out.ld1 R (by omega) Try.prog (a + i) (by omega))
      have l44b := ldB_of (S1.out.ld1 R (by omega) Try.prog (b + i) (by omega))
      have s44a := stB_of (R.hk _) (S1.out.st1 R (by omega) Try.prog (a + i) (by omega) dk[b + i]!)
      have s44b := stB_of (R.hk _) (S1.out.st2 R (by omega) Try.prog (a + i) (b + i) (by omega) (by omega) dk[b + i]! dk[a + i]!)
      generalize enc dk[a + i]! = cI44 at S2 l44a s44b
      generalize enc dk[b + i]! = cJ44 at S2 l44b s44a s44b
      clear S1
      go_wp2_with fail
      go_big_region_o
      clear l44a l44b s44a s44b
      generalize (wr.drew.setCells blk (off + (a + i) * 11) cJ44).setCells blk (off + (b + i) * 11) cI44 = w2 at S2 ⊢
      go_wp2
      go_roundg (n - (i + 1))
      case measure => omega
      case rel =>
        exact ⟨i + 1, swp dk (a + i) (b + i), by simp, by omega, by omega, by rw [size_swp]; exact hds, by rw [HEQ.out]; rfl, S2⟩
    · have hnot : ¬ (i : Int) < (n : Int) := by omega
      go_wp2
      go_returns
      refine ⟨rfl, ?_⟩
      obtain rfl : i = n := by omega
      rw [← HEQ.out]
      exact S1.out
end Go.Proofs.Ytmkfjelpekkmmaa

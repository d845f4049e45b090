/-
  Chapter 22: what a state has of ghosts: has, Missing. Condition: the ghosts can be read.
  Chapter 22: Missing; slices.Contains over ints. Condition: the ghosts can be read.
  Chapter 22: slices.Clone of ghosts; Near. Condition: what was told can be read.
-/
import Derived.Test.YtcnclcfipabimaaMga
import Derived.Shelf.SlicesQ.IndexFunc
namespace Go.Proofs.Ytcnclcfipabimaa
open Go.RowKit Go.Shelf

/-- What was told, as it lies in memory. -/
structure Gh where
  f : Int
  t : Int
  p : Option Addr
  n : Nat
  c : Nat
deriving Inhabited
def ghL (g : Gh) : List Value := [.int .i64 g.f, .int .i64 g.t, .slice g.p g.n g.c]
theorem ghL_len (g : Gh) : (ghL g).length = 3 := rfl
theorem ghL_one (g : Gh) : ∀ v ∈ ghL g, v.oneCell' = true := fun v hv => by
  simp only [ghL, List.mem_cons, List.not_mem_nil, or_false] at hv
  rcases hv with rfl | rfl | rfl <;> rfl
/-- A state, as it lies in memory. -/
structure Sta where
  ep : Int
  t : Int
  po : Option Addr
  no : Nat
  co : Nat
  pd : Option Addr
  nd : Nat
  cd : Nat
  pu : Option Addr
  nu : Nat
  cu : Nat
  pi : Option Addr
  ni : Nat
  ci : Nat
  pg : Option Addr
  ng : Nat
  cg : Nat
  nx : Int
def Sta.arr (s : Sta) : Array Value := #[.int .i64 s.ep, .int .i64 s.t, .slice s.po s.no s.co, .slice s.pd s.nd s.cd, .slice s.pu s.nu s.cu, .slice s.pi s.ni s.ci, .slice s.pg s.ng s.cg, .int .i64 s.nx]
def saidF (L : List Gh) (T k : Int) : Bool := L.any fun g => g.f == k && g.t == T
def missF (bes : List Int) (L : List Gh) (T : Int) : List Int := bes.filter fun k => !saidF L T k

def renG : Ren := ⟨fun n => if n = 6 then 134 else if n = 8 then 106 else 0, fun n => if n = 0 then 0 else if n = 3 then 3 else if n = 4 then 4 else if n = 22 then 36 else if n = 23 then 64 else if n = 25 then 155 else 0, fun _ => 0⟩
theorem laysG : SlLaysH0.n8 Try.prog renG := {
  mixed := by kernel_rfl
  f6 := ⟨Try.f134.name, by decide, by kernel_rfl⟩
  f8 := ⟨Try.f106.name, by decide, by kernel_rfl⟩
  t0 := by kernel_rfl
  a0 := fun _ => by kernel_rfl
  z0 := fun _ => by kernel_rfl
  v0 := fun _ => by kernel_rfl
  t3 := by kernel_rfl
  a3 := fun _ => by kernel_rfl
  z3 := fun _ => by kernel_rfl
  v3 := fun _ => by kernel_rfl
  t4 := by kernel_rfl
  a4 := fun _ => by kernel_rfl
  z4 := fun _ => by kernel_rfl
  v4 := fun _ => by kernel_rfl
  t22 := by kernel_rfl
  a22 := fun _ => by kernel_rfl
  z22 := fun _ => by kernel_rfl
  v22 := fun _ => by kernel_rfl
  t25 := by kernel_rfl
  a25 := fun _ => by kernel_rfl
  z25 := fun _ => by kernel_rfl
  v25 := fun _ => by kernel_rfl }

/-- has's predicate. -/
theorem has1_any (x : Gh) (fr T : Int) (B1 B2 : Nat) (W : World) (hB1 : B1 < W.heap.size) (hB2 : B2 < W.heap.size) (h1 : W.cell? ⟨B1, 0, none⟩ = some (.int .i64 fr)) (h2 : W.cell? ⟨B2, 1, none⟩ = some (.int .i64 T)) :
    Calls Try.prog 107 (#[.agg (ghL x).toArray] ++ #[.pointer (some ⟨B1, 0, none⟩), .pointer (some ⟨B2, 0, none⟩)]) W fun e w' => e = .returned (.bool (x.f == fr && x.t == T)) ∧ Below W.heap.size W w' := by
  show Calls Try.prog 107 #[.agg #[.int .i64 x.f, .int .i64 x.t, .slice x.p x.n x.c], .pointer (some ⟨B1, 0, none⟩), .pointer (some ⟨B2, 0, none⟩)] W _
  obtain ⟨n1, n2, n3⟩ := ltz hB1
  obtain ⟨m1, m2, m3⟩ := ltz hB2
  cases e1 : (x.f == fr) with
  | true =>
    go_enter Try.func107, Try.ntmps107
    go_wp2_with fail
    go_ret
    exact ⟨rfl, (by repeat' (first | (with_reducible exact Below.refl _ _) | (with_reducible assumption) | (with_reducible refine below_drewN ?_ _) | (with_reducible refine below_more _ _ _ ?_ ?_) | (with_reducible refine Below.alloc ?_ ?_ _) | (with_reducible refine Below.drew ?_) | (with_reducible refine Below.setCell ?_ ?_ _) | go_size))⟩
  | false =>
    go_enter Try.func107, Try.ntmps107
    go_wp2_with fail
    go_ret
    exact ⟨rfl, (by repeat' (first | (with_reducible exact Below.refl _ _) | (with_reducible assumption) | (with_reducible refine below_drewN ?_ _) | (with_reducible refine below_more _ _ _ ?_ ?_) | (with_reducible refine Below.alloc ?_ ?_ _) | (with_reducible refine Below.drew ?_) | (with_reducible refine Below.setCell ?_ ?_ _) | go_size))⟩

theorem eg_has1 : ∀ args w, (callFunc 107 args).run Try.prog w = .ok (.enter 107 args) w := enters_of Try.func107 (by kernel_rfl) rfl

theorem cf_empty (g : Nat) (lb : Array Value) (p : Option Addr) (c : Nat) (w : World) :
    Calls Try.prog 106 #[.slice p 0 c, .func (.func g) #[] lb] w fun e w' => e = .returned (.bool false) ∧ w = w' := by
  have hI : Calls Try.prog 134 #[.slice p 0 c, .func (.func g) #[] lb] w fun e w' => e = .returned (.int .i64 (-1)) ∧ w = w' := by
    go_enter Try.func134, Try.ntmps134
    go_wp2_with fail
    refine wp_loop_rounds 1 ?_
    rw [rounds_succ]
    go_wp2
    go_ret
    exact ⟨rfl, rfl⟩
  go_enter Try.func106, Try.ntmps106
  go_wp2_with (go_at_call 134; refine hI.mono ?_; rintro e w' ⟨rfl, rfl⟩)
  go_ret
  exact ⟨rfl, rfl⟩

theorem contG_any (fr T : Int) (L : List Gh) (v : Value) (B1 B2 : Nat) (W : World) (hL : RIn ghL W v L) (hB1 : B1 < W.heap.size) (hB2 : B2 < W.heap.size) (h1 : W.cell? ⟨B1, 0, none⟩ = some (.int .i64 fr)) (h2 : W.cell? ⟨B2, 1, none⟩ = some (.int .i64 T)) :
    Calls Try.prog 106 #[v, .func (.func 107) #[] #[.pointer (some ⟨B1, 0, none⟩), .pointer (some ⟨B2, 0, none⟩)]] W fun e w' => e = .returned (.bool (saidF L T fr)) ∧ Below W.heap.size W w' := by
  obtain ⟨p, cap, rfl, hm, _, hc, h4⟩ := hL
  by_cases h0 : L = []
  · subst h0
    refine (cf_empty _ _ p cap W).mono ?_
    rintro e w' ⟨rfl, rfl⟩
    exact ⟨rfl, Below.refl _ _⟩
  · obtain ⟨blk, off, rfl, h5, h6⟩ := h4 h0
    have hcon := AnyQ.slices_ContainsFunc laysG 3 (fun _ => by kernel_rfl) (fun _ => by kernel_rfl) ghL ghL_len (fun x => x.f == fr && x.t == T) 107 #[.pointer (some ⟨B1, 0, none⟩), .pointer (some ⟨B2, 0, none⟩)] eg_has1 blk off L.length cap L W
      (fun W' x hb => ?_) (Nat.le_refl _) (by unfold maxLen at hm; omega) h5 (fun j hj i v hi => ?_)
    · rw [List.take_length] at hcon
      exact hcon
    · have hz := hb.size
      refine (has1_any x fr T B1 B2 W' (by omega) (by omega) ((hb.cell (p := ⟨B1, 0, none⟩) hB1).trans h1) ((hb.cell (p := ⟨B2, 1, none⟩) hB2).trans h2)).mono ?_
      rintro e w' ⟨he, hb'⟩
      exact ⟨he, hb.trans (hb'.mono hz)⟩
    · rw [getElem!_pos L j hj] at hi
      have hi' : i < 3 := by have := (List.getElem?_eq_some_iff.1 hi).1; rwa [ghL_len] at this
      have := cellsR_get ghL 3 ghL_len L j i L[j] (List.getElem?_eq_getElem hj) hi'
      rw [Nat.add_assoc]
      exact h6 _ v (this.trans hi)

theorem has_gh (s : Sta) (L : List Gh) (fr : Int) (W : World) (hL : RIn ghL W (.slice s.pg s.ng s.cg) L) :
    Calls Try.prog 62 #[.agg #[.int .i64 s.ep, .int .i64 s.t, .slice s.po s.no s.co, .slice s.pd s.nd s.cd, .slice s.pu s.nu s.cu, .slice s.pi s.ni s.ci, .slice s.pg s.ng s.cg, .int .i64 s.nx], .int .i64 fr] W fun e w' => e = .returned (.bool (saidF L s.t fr)) ∧ Below W.heap.size W w' := by
  have HC := Lib.hid (fun W' (hW : Below W.heap.size W W') B1 B2 a1 a2 a3 a4 => contG_any fr s.t L _ B1 B2 W' (hL.keep hW) a1 a2 a3 a4)
  clear hL
  go_enter Try.func62, Try.ntmps62
  go_wp2_with fail
  refine (HC.out _ (by repeat' (first | (with_reducible exact Below.refl _ _) | (with_reducible assumption) | (with_reducible refine below_drewN ?_ _) | (with_reducible refine below_more _ _ _ ?_ ?_) | (with_reducible refine Below.alloc ?_ ?_ _) | (with_reducible refine Below.drew ?_) | (with_reducible refine Below.setCell ?_ ?_ _) | go_size)) _ _ (by first | (simp; done) | (simp; omega)) (by first | (simp; done) | (simp; omega)) (by simp [go_sem]) (by simp [go_sem])).mono ?_
  rintro e w' ⟨rfl, hb⟩
  obtain ⟨d, os, rfl⟩ := more_of hb; clear hb
  go_wp2_with fail
  go_ret
  exact ⟨rfl, (by repeat' (first | (with_reducible exact Below.refl _ _) | (with_reducible assumption) | (with_reducible refine below_drewN ?_ _) | (with_reducible refine below_more _ _ _ ?_ ?_) | (with_reducible refine Below.alloc ?_ ?_ _) | (with_reducible refine Below.drew ?_) | (with_reducible refine Below.setCell ?_ ?_ _) | go_size))⟩

theorem miss1_any (s : Sta) (L : List Gh) (k : Int) (B : Nat) (W : World) (hL : RIn ghL W (.slice s.pg s.ng s.cg) L) (hc : ∀ u, W.cell? ⟨B, u, none⟩ = s.arr[u]?) :
    Calls Try.prog 61 (#[.int .i64 k] ++ #[.pointer (some ⟨B, 0, none⟩)]) W fun e w' => e = .returned (.bool (saidF L s.t k)) ∧ Below W.heap.size W w' := by
  show Calls Try.prog 61 #[.int .i64 k, .pointer (some ⟨B, 0, none⟩)] W _
  have HC := Lib.hid (fun W' (hW : Below W.heap.size W W') => has_gh s L k W' (hL.keep hW))
  have c0 := hc 0; simp [Sta.arr] at c0; have c1 := hc 1; simp [Sta.arr] at c1; have c2 := hc 2; simp [Sta.arr] at c2; have c3 := hc 3; simp [Sta.arr] at c3; have c4 := hc 4; simp [Sta.arr] at c4; have c5 := hc 5; simp [Sta.arr] at c5; have c6 := hc 6; simp [Sta.arr] at c6; have c7 := hc 7; simp [Sta.arr] at c7
  clear hL hc
  go_enter Try.func61, Try.ntmps61
  go_wp2_with fail
  refine (HC.out _ (by repeat' (first | (with_reducible exact Below.refl _ _) | (with_reducible assumption) | (with_reducible refine below_drewN ?_ _) | (with_reducible refine below_more _ _ _ ?_ ?_) | (with_reducible refine Below.alloc ?_ ?_ _) | (with_reducible refine Below.drew ?_) | (with_reducible refine Below.setCell ?_ ?_ _) | go_size))).mono ?_; rintro e w' ⟨rfl, hb⟩
  obtain ⟨d, os, rfl⟩ := more_of hb; clear hb
  go_wp2_with fail
  go_ret
  exact ⟨rfl, (by repeat' (first | (with_reducible exact Below.refl _ _) | (with_reducible assumption) | (with_reducible refine below_drewN ?_ _) | (with_reducible refine below_more _ _ _ ?_ ?_) | (with_reducible refine Below.alloc ?_ ?_ _) | (with_reducible refine Below.drew ?_) | (with_reducible refine Below.setCell ?_ ?_ _) | go_size))⟩
end Go.Proofs.Ytcnclcfipabimaa
namespace Go.Proofs.Ytcnclcfipabimaa
open Go.RowKit Go.Shelf

theorem eg_miss1 : ∀ args w, (callFunc 61 args).run Try.prog w = .ok (.enter 61 args) w := enters_of Try.func61 (by kernel_rfl) rfl

theorem missing_of (m : Value) (z : Int) (s : Sta) (L : List Gh) (bes : List Int) (W : World) (hm : ∃ a, m = .pointer a) (hL : RIn ghL W (.slice s.pg s.ng s.cg) L)
    (HB : ∀ W', Below W.heap.size W W' → Calls Try.prog 52 #[m, .int .i64 z] W' fun e w' => ∃ v', e = .returned v' ∧ RNew intL 3 1 W' w' v' bes) :
    Calls Try.prog 26 #[m, .int .i64 z, .agg #[.int .i64 s.ep, .int .i64 s.t, .slice s.po s.no s.co, .slice s.pd s.nd s.cd, .slice s.pu s.nu s.cu, .slice s.pi s.ni s.ci, .slice s.pg s.ng s.cg, .int .i64 s.nx]] W fun e w' => ∃ v', e = .returned v' ∧ RNew intL 3 1 W w' v' (missF bes L s.t) := by
  obtain ⟨a, rfl⟩ := hm
  have HBB := Lib.hid HB
  have HL := Lib.hid hL
  clear HB hL
  go_enter Try.func26, Try.ntmps26
  go_wp2_with fail
  refine (HBB.out _ (by repeat' (first | (with_reducible exact Below.refl _ _) | (with_reducible assumption) | (with_reducible refine below_drewN ?_ _) | (with_reducible refine below_more _ _ _ ?_ ?_) | (with_reducible refine Below.alloc ?_ ?_ _) | (with_reducible refine Below.drew ?_) | (with_reducible refine Below.setCell ?_ ?_ _) | go_size))).mono ?_
  rintro e w2 ⟨v', rfl, hN⟩
  have hd : Calls Try.prog 60 #[v', .func (.func 61) #[] #[.pointer (some ⟨W.heap.size, 0, none⟩)]] w2 fun e w' => ∃ v'', e = .returned v'' ∧ RNew intL 3 1 W w' v'' (missF bes L s.t) := by
    obtain ⟨h1, h2, h3⟩ := hN
    have hz := h2.size
    simp only [World.size_alloc] at hz h3
    have b1 : Below W.heap.size W w2 := Below.trans (b := W.alloc (.cells #[.int .i64 s.ep, .int .i64 s.t, .slice s.po s.no s.co, .slice s.pd s.nd s.cd, .slice s.pu s.nu s.cu, .slice s.pi s.ni s.ci, .slice s.pg s.ng s.cg, .int .i64 s.nx] 46)) (by repeat' (first | (with_reducible exact Below.refl _ _) | (with_reducible assumption) | (with_reducible refine below_drewN ?_ _) | (with_reducible refine below_more _ _ _ ?_ ?_) | (with_reducible refine Below.alloc ?_ ?_ _) | (with_reducible refine Below.drew ?_) | (with_reducible refine Below.setCell ?_ ?_ _) | go_size)) (h2.mono (by simp))
    refine (del_any 61 _ eg_miss1 (fun k => saidF L s.t k) v' bes w2 h1 (fun W' ht x hx => ?_)).mono ?_
    · have b2 : Below W.heap.size W W' := Turned.below_new ht (fun k hk => by have := h3 k hk; omega) b1 (by omega)
      have b3 : Below (W.heap.size + 1) (W.alloc (.cells #[.int .i64 s.ep, .int .i64 s.t, .slice s.po s.no s.co, .slice s.pd s.nd s.cd, .slice s.pu s.nu s.cu, .slice s.pi s.ni s.ci, .slice s.pg s.ng s.cg, .int .i64 s.nx] 46)) W' := Turned.below_new ht (fun k hk => h3 k hk) (by simpa using h2) (by omega)
      refine miss1_any s L x W.heap.size W' (HL.out.keep b2) (fun u => ?_)
      refine (b3.cell (p := ⟨W.heap.size, u, none⟩) (by simp)).trans ?_
      simp [Sta.arr]
    · rintro e w' ⟨v'', rfl, q1, q2, q3⟩
      exact ⟨v'', rfl, q1, Turned.below_new q2 (fun k hk => by have := h3 k hk; omega) b1 (by omega), fun g hg => by rw [q3] at hg; have := h3 g hg; omega⟩
  have HD := Lib.hid hd
  clear hd hN
  go_wp2_with fail
  refine HD.out.mono ?_
  rintro e w' ⟨v'', rfl, hR⟩
  go_wp2_with fail
  go_ret
  exact ⟨_, rfl, hR⟩

set_option maxHeartbeats 1000000 in
theorem index_rin (v : Value) (zs : List Int) (x : Int) (w : World) (hs : RIn intL w v zs) :
    Calls Try.prog 110 #[v, .int .i64 x] w fun e w' => (∃ r : Int, e = .returned (.int .i64 r) ∧ decide (0 ≤ r) = decide (x ∈ zs)) ∧ w = w' := by
  have HS := Lib.hid hs
  obtain ⟨p, cap, rfl, hlen, _⟩ := hs
  unfold maxLen at hlen
  go_enter Try.func110, Try.ntmps110
  go_wp2
  go_loop [8] (fun i => ∃ k : Nat, k ≤ zs.length ∧ i = .int .i64 k ∧ Hid (∀ j, j < k → zs.getD j 0 ≠ x)) (fun i => zs.length - (intOf i).toNat)
  case atStart => exact ⟨0, Nat.zero_le _, rfl, fun j hj => by omega⟩
  case round =>
    obtain ⟨k, hk, rfl, hno⟩ := hrel
    by_cases hlt : k < zs.length
    · obtain ⟨g1, o1, c1, hv1, lg1, q1⟩ := HS.out.cells intL_len (show zs[k]? = some (zs.getD k 0) by simp [List.getD, hlt])
      simp only [Value.slice.injEq, true_and] at hv1
      obtain ⟨rfl, rfl⟩ := hv1
      have u0 := q1 0 _ rfl
      simp only [Nat.add_zero, Nat.mul_one] at u0
      clear q1
      by_cases he : zs.getD k 0 = x
      · have hin : decide (x ∈ zs) = true := by
          rw [← he]; simp [List.getD, hlt]
        have HIN := Lib.hid hin
        clear hin
        have hb : (x == zs.getD k 0) = true := by rw [he]; simp
        have HE := Lib.hid he
        clear he
        generalize zs.getD k 0 = z at *
        go_wp2
        go_ret
        exact ⟨⟨k, rfl, by have h := HIN.out; simpa using h⟩, rfl⟩
      · have hb : (x == zs.getD k 0) = false := by simp; exact fun h => he h.symm
        have hno' : Hid (∀ j, j < k + 1 → zs.getD j 0 ≠ x) := fun j hj => by
          by_cases hjk : j = k
          · rw [hjk]; exact he
          · exact hno.out j (by omega)
        clear he
        generalize zs.getD k 0 = z at *
        go_wp2
        go_round
        case rel => exact ⟨k + 1, by omega, by go_num, hno'⟩
        case measure => simp [intOf]; omega
    · have hin : decide (x ∈ zs) = false := by
        rw [decide_eq_false_iff_not]
        intro hm
        obtain ⟨j, hj, e⟩ := List.getElem_of_mem hm
        exact hno.out j (by omega) (by simp [List.getD, hj, e])
      have HIN := Lib.hid hin
      clear hin
      go_wp2
      go_ret
      exact ⟨⟨-1, rfl, by have h := HIN.out; simp at h ⊢; exact h⟩, rfl⟩

theorem contains_rin (v : Value) (zs : List Int) (x : Int) (w : World) (hs : RIn intL w v zs) :
    Calls Try.prog 65 #[v, .int .i64 x] w fun e w' => e = .returned (.bool (decide (x ∈ zs))) ∧ w = w' := by
  have HI := Lib.hid (index_rin v zs x w hs)
  obtain ⟨p, cap, rfl, hlen, _⟩ := hs
  go_enter Try.func65, Try.ntmps65
  go_wp2_with (go_at_call 110; refine HI.out.mono ?_; rintro e w' ⟨⟨r, rfl, hr⟩, rfl⟩)
  go_ret
  exact ⟨by rw [← hr]; rfl, rfl⟩
end Go.Proofs.Ytcnclcfipabimaa
namespace Go.Proofs.Ytcnclcfipabimaa
open Go.RowKit Go.Shelf

theorem info_gh : (Try.prog.info? 64).map (fun i => (i.zero, i.size, i.bytes)) = some (some (.agg #[.int .i64 0, .int .i64 0, .slice none 0 0]), 3, 40) := by kernel_rfl
theorem info_partsG {P : Program} {t : TypeId} {z : Value} {s b : Nat} (h : (P.info? t).map (fun i => (i.zero, i.size, i.bytes)) = some (some z, s, b)) : ∃ i, P.info? t = some i ∧ i.zero = some z ∧ i.size = s ∧ i.bytes = b := by
  cases hi : P.info? t with
  | none => rw [hi] at h; cases h
  | some i => rw [hi] at h; simp at h; exact ⟨i, rfl, h.1, h.2.1, h.2.2⟩
theorem sl_emptyG (W : World) : Sl (W.alloc (.cells #[] 64)) 64 3 (.slice (some ⟨W.heap.size, 0, none⟩) 0 0) 0 [] := ⟨rfl, .inr ⟨W.heap.size, 0, 0, #[], rfl, heap_alloc_new W _, Nat.le_refl _, by simp [maxLen], by simp, fun j u hj => by cases hj⟩⟩
theorem rnew_ofG {w w1 : World} {l : List Gh} {v v' : Value} (o : Obj) (hv : v.ownBlock = some w.heap.size) (hs : Sl w1 64 3 v' (0 + l.length) ([] ++ cellsR ghL l)) (ht : Turned (w.alloc o) w1 v.ownBlock)
    (ho : v'.ownBlock = v.ownBlock ∨ ∃ g, v'.ownBlock = some g ∧ (w.alloc o).heap.size ≤ g) : RNew ghL 64 3 w w1 v' l := by
  rw [Nat.zero_add, List.nil_append] at hs
  have hsz := ht.size
  rw [World.size_alloc] at hsz
  refine ⟨hs, ((Below.refl w.heap.size w).alloc (Nat.le_refl _) o).trans ⟨ht.os, ht.tape, ht.output, ht.size, fun k hk => ht.block k (by rw [World.size_alloc]; omega) (fun e => by rw [hv] at e; simp at e; omega)⟩, fun g hg => ?_⟩
  rcases ho with e | ⟨g', e, hg'⟩
  · rw [e, hv] at hg; simp at hg; omega
  · rw [e] at hg; simp at hg; rw [World.size_alloc] at hg'; omega

set_option maxRecDepth 100000 in
/-- slices.Clone of ghosts. -/
theorem cloneG_any (v : Value) (l : List Gh) (w : World) (h : RIn ghL w v l) (hl : l.length ≤ 1000000) :
    Calls Try.prog 66 #[v] w fun e w' => ∃ v', e = .returned v' ∧ RNew ghL 64 3 w w' v' l := by
  obtain ⟨i0, hi0, hz0, hz1, hz2⟩ := info_partsG info_gh
  obtain ⟨p, cap, rfl, h1, h2, h3, h4⟩ := h
  have HS := Lib.hid sl_emptyG
  by_cases hn : l = []
  · subst hn
    clear h4 h1
    cases p with
    | none =>
      obtain rfl := h2 rfl
      clear h2 h3
      have hnil := fun W : World => Lib.run_eql_slice_nil (P := Try.prog) W 36 64 none 0 0 0 0 Try.underlying36
      go_enter Try.func66, Try.ntmps66
      go_wp2_with fail
      go_ret
      exact ⟨_, rfl, ⟨rfl, .inl ⟨rfl, rfl⟩⟩, (by repeat' (first | (with_reducible exact Below.refl _ _) | (with_reducible assumption) | (with_reducible refine below_drewN ?_ _) | (with_reducible refine below_more _ _ _ ?_ ?_) | (with_reducible refine Below.alloc ?_ ?_ _) | (with_reducible refine Below.drew ?_) | (with_reducible refine Below.setCell ?_ ?_ _) | go_size)), fun g hg => by cases hg⟩
    | some a =>
      clear h2
      have hnil := fun W : World => Lib.run_eql_slice_nil (P := Try.prog) W 36 64 (some a) 0 cap 0 0 Try.underlying36
      go_enter Try.func66, Try.ntmps66
      go_wp2_with (at_builtin; refine wpList_append_zero (by rfl) _ _ 36 (by rfl) 64 i0 Try.underlying36 hi0 _ _ 0 0 _ (by rfl) (by rfl) (Nat.le_refl _) ?_)
      go_ret
      exact ⟨_, rfl, HS.out w, (by repeat' (first | (with_reducible exact Below.refl _ _) | (with_reducible assumption) | (with_reducible refine below_drewN ?_ _) | (with_reducible refine below_more _ _ _ ?_ ?_) | (with_reducible refine Below.alloc ?_ ?_ _) | (with_reducible refine Below.drew ?_) | (with_reducible refine Below.setCell ?_ ?_ _) | go_size)), fun g hg => by simp [Value.ownBlock] at hg; omega⟩
  · obtain ⟨blk, off, rfl, h5, h6⟩ := h4 hn
    have hn0 : 0 < l.length := List.length_pos_iff.2 hn
    have hcw : ∀ j u, (cellsR ghL l)[j]? = some u → (w.alloc (.cells #[] 64)).cell? (Addr.add ⟨blk, off, none⟩ j) = some u := fun j u hj => by
      have h := h6 j u hj
      rw [show Addr.add ⟨blk, off, none⟩ j = ⟨blk, off + j, none⟩ from by unfold Addr.add; split <;> simp_all]
      exact cell_keep ((Below.refl _ _).alloc (Nat.le_refl _) _) h
    have HW := Lib.hid hcw
    have H1 := Lib.hid (cellsR_mem ghL (l := l) ghL_one)
    have HX := Lib.hid (cellsR_len ghL 3 ghL_len l)
    clear hcw h4 h6 h2 hn h1
    have hnil := fun W : World => Lib.run_eql_slice_nil (P := Try.prog) W 36 64 (some ⟨blk, off, none⟩) l.length cap 0 0 Try.underlying36
    go_enter Try.func66, Try.ntmps66
    go_wp2_with (at_builtin; refine wpList_append_sl _ (by rfl) _ _ 36 (by rfl) 64 i0 _ 3 40 Try.underlying36 hi0 hz0 hz1 hz2 rfl (by omega) _ 0 [] (by rfl) (HS.out _) ⟨blk, off, none⟩ l.length cap (cellsR ghL l) (by rfl) HX.out HW.out H1.out hn0 (by unfold maxLen; omega) (by omega) ?_; intro v' w1 hs1 ht ho)
    go_ret
    exact ⟨_, rfl, rnew_ofG _ rfl hs1 ht ho⟩

/-- What all told of a tick. -/
def GhOk (W : World) (L : List Gh) (bl : Gh → List Bun) : Prop := ∀ g ∈ L, BIn W (.slice g.p g.n g.c) (bl g) ∧ (bl g).length ≤ 1000
theorem GhOk.keep {W W' : World} {L : List Gh} {bl : Gh → List Bun} (h : GhOk W L bl) (hb : Below W.heap.size W W') : GhOk W' L bl := fun g hg => ⟨(h g hg).1.keep hb, (h g hg).2⟩
def nearTo (L : List Gh) (T : Int) (bl : Gh → List Bun) : List Bun := (L.filter fun g => g.t == T).flatMap bl
def nearG (L : List Gh) (T : Int) (bl : Gh → List Bun) : List Bun := stableF cmpBun (nearTo L T bl)
theorem nearTo_succ {L : List Gh} {T : Int} {bl : Gh → List Bun} {k : Nat} {g : Gh} (h : L[k]? = some g) : nearTo (L.take (k + 1)) T bl = nearTo (L.take k) T bl ++ (if g.t == T then bl g else []) := by
  have hk := (List.getElem?_eq_some_iff.1 h).1
  unfold nearTo
  rw [List.take_succ_eq_append_getElem hk, List.filter_append, List.flatMap_append, (List.getElem?_eq_some_iff.1 h).2]
  cases hh : (g.t == T) <;> simp [hh]
theorem nearTo_le {L : List Gh} {T : Int} {bl : Gh → List Bun} (h : ∀ g ∈ L, (bl g).length ≤ 1000) : ∀ k, (nearTo (L.take k) T bl).length ≤ 1000 * k
  | 0 => by simp [nearTo]
  | k + 1 => by
    have ih := nearTo_le (T := T) h k
    by_cases hk : k < L.length
    · rw [nearTo_succ (List.getElem?_eq_getElem hk)]
      have := h _ (List.getElem_mem hk)
      split <;> simp <;> omega
    · rw [List.take_of_length_le (by omega)]
      rw [List.take_of_length_le (by omega)] at ih
      omega

set_option maxRecDepth 100000 in
set_option maxHeartbeats 2000000 in
theorem gnear_any (s : Sta) (L : List Gh) (bl : Gh → List Bun) (W : World) (hL : RIn ghL W (.slice s.pg s.ng s.cg) L) (hO : GhOk W L bl) (hn : L.length ≤ 1000) :
    Calls Try.prog 28 #[.agg #[.int .i64 s.ep, .int .i64 s.t, .slice s.po s.no s.co, .slice s.pd s.nd s.cd, .slice s.pu s.nu s.cu, .slice s.pi s.ni s.ci, .slice s.pg s.ng s.cg, .int .i64 s.nx]] W fun e w' => ∃ v', e = .returned v' ∧ BNew W w' v' (nearG L s.t bl) := by
  have HSO := Lib.hid (fun v l W' h hl => sorted_any v l W' h hl)
  have HNL := Lib.hid (fun k => nearTo_le (T := s.t) (fun g hg => (hO g hg).2) k)
  have HL := Lib.hid hL
  have HO := Lib.hid hO
  have hng : s.ng = L.length := by obtain ⟨_, _, e, _⟩ := hL; simp only [Value.slice.injEq] at e; exact e.2.1
  unfold nearG
  clear hL hO
  generalize s.pg = pg at *
  generalize s.cg = cg at *
  generalize s.ng = ng at *
  subst hng
  go_enter Try.func28, Try.ntmps28
  go_wp2_with fail
  generalize hw1 : World.alloc _ _ = w1
  have hb1 : Below W.heap.size W w1 := by rw [← hw1]; exact (by repeat' (first | (with_reducible exact Below.refl _ _) | (with_reducible assumption) | (with_reducible refine below_drewN ?_ _) | (with_reducible refine below_more _ _ _ ?_ ?_) | (with_reducible refine Below.alloc ?_ ?_ _) | (with_reducible refine Below.drew ?_) | (with_reducible refine Below.setCell ?_ ?_ _) | go_size))
  have hc1 : w1.cell? ⟨W.heap.size, 1, none⟩ = some (.int .i64 s.t) := by rw [← hw1]; simp [go_sem]
  have hs1 : W.heap.size < w1.heap.size := by rw [← hw1]; simp
  have HB1 := Lib.hid hb1
  clear hb1 hw1
  go_loopg [9, 3] L.length (fun kx sk so wr => ∃ k : Nat, sk = .int .i64 k ∧ k ≤ L.length ∧ L.length - k ≤ kx ∧ Hid (BNew w1 wr so (nearTo (L.take k) s.t bl)))
  case atStart => exact ⟨0, by go_num, by omega, by omega, Lib.hid (BNew.nil w1)⟩
  case round =>
    obtain ⟨k, rfl, hk, hkx, HN⟩ := hrel
    obtain ⟨wa, rfl⟩ : ∃ wa : World, wa = wr := ⟨_, rfl⟩
    have hbl := HN.out.2.1
    have hz := hbl.size
    have hca := (hbl.cell (p := ⟨W.heap.size, 1, none⟩) hs1).trans hc1
    have hsa : W.heap.size < wa.heap.size := by omega
    obtain ⟨z0, z1, z2⟩ := ltz hsa
    by_cases hlt : k < L.length
    · have t1 : (k : Int) < (L.length : Int) := by omega
      obtain ⟨g, hg⟩ : ∃ g, L[k]? = some g := ⟨_, List.getElem?_eq_getElem hlt⟩
      have hlb := HB1.out.trans (hbl.mono HB1.out.size)
      obtain ⟨gb, ob, cb, hv, hgb, hcb⟩ := (HL.out.keep hlb).cells ghL_len hg
      simp only [Value.slice.injEq, true_and] at hv
      obtain ⟨rfl, rfl⟩ := hv
      have c0 := hcb 0 _ rfl
      have c1 := hcb 1 _ rfl
      have c2 := hcb 2 _ rfl
      simp only [Nat.add_zero] at c0
      have hgo := HO.out g (List.mem_of_getElem? hg)
      have HGB := Lib.hid (hgo.1.keep hlb)
      have hgl := hgo.2
      have HST := Lib.hid (nearTo_succ (T := s.t) (bl := bl) hg)
      have hnl := HNL.out k
      obtain ⟨po, co, hpo⟩ := sl_frm HN.out.1
      subst hpo
      clear hcb hg hgo
      generalize bl g = gl at *
      generalize nearTo (L.take k) s.t bl = acc at *
      obtain ⟨gf, gt, gp, gn, gc⟩ := g
      simp only at c0 c1 c2 HGB HST
      cases he : (gt == s.t) with
      | true =>
        rw [he] at HST
        go_wp2_with (at_builtin; refine wpList_append_bins w1 _ (by rfl) _ _ (by rfl) _ _ acc gl (by rfl) (HN.out.grow (by repeat' (first | (with_reducible exact Below.refl _ _) | (with_reducible assumption) | (with_reducible refine below_drewN ?_ _) | (with_reducible refine below_more _ _ _ ?_ ?_) | (with_reducible refine Below.alloc ?_ ?_ _) | (with_reducible refine Below.drew ?_) | (with_reducible refine Below.setCell ?_ ?_ _) | go_size))) (by rfl) (HGB.out.keep (by repeat' (first | (with_reducible exact Below.refl _ _) | (with_reducible assumption) | (with_reducible refine below_drewN ?_ _) | (with_reducible refine below_more _ _ _ ?_ ?_) | (with_reducible refine Below.alloc ?_ ?_ _) | (with_reducible refine Below.drew ?_) | (with_reducible refine Below.setCell ?_ ?_ _) | go_size))) (by omega) (by omega) ?_; intro v4 w4 hm)
        have HM := Lib.hid hm
        clear hm
        go_roundg (L.length - (k + 1))
        case measure => omega
        case rel => exact ⟨k + 1, by go_num, by omega, by omega, Lib.hid (by rw [HST.out]; exact HM.out)⟩
      | false =>
        rw [he] at HST
        go_wp2_with fail
        go_roundg (L.length - (k + 1))
        case measure => omega
        case rel => exact ⟨k + 1, by go_num, by omega, by omega, Lib.hid (by rw [HST.out]; simpa using HN.out.grow (by repeat' (first | (with_reducible exact Below.refl _ _) | (with_reducible assumption) | (with_reducible refine below_drewN ?_ _) | (with_reducible refine below_more _ _ _ ?_ ?_) | (with_reducible refine Below.alloc ?_ ?_ _) | (with_reducible refine Below.drew ?_) | (with_reducible refine Below.setCell ?_ ?_ _) | go_size)))⟩
    · have t1 : ¬ (k : Int) < (L.length : Int) := by omega
      obtain rfl : k = L.length := by omega
      rw [List.take_length] at HN
      have hnl := HNL.out L.length
      rw [List.take_length] at hnl
      obtain ⟨po, co, hpo⟩ := sl_frm HN.out.1
      subst hpo
      generalize hlf : nearTo L s.t bl = lf at *
      have HLF := Lib.hid hlf
      clear hlf
      have HSL := Lib.hid (HSO.out _ lf wa HN.out.bin (by omega))
      go_wp2_with fail
      refine HSL.out.mono ?_
      rintro e w3 ⟨v3, rfl, hS⟩
      go_wp2_with fail
      go_ret
      exact ⟨_, rfl, by rw [HLF.out]; exact hS.since (HB1.out.trans (HN.out.2.1.mono HB1.out.size))⟩
end Go.Proofs.Ytcnclcfipabimaa

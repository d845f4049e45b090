/-
  Chapter texts QmZ: what the claim reaches of them. Conditions stand at each theorem.
-/
import Derived.Test.YtmkfjelpekkmmaaQ34
namespace Go.Proofs.Ytmkfjelpekkmmaa
open Go.RowKit Go.Shelf Go.Sort

attribute [local go_sem] Oper.semAt_some
theorem wpListIn_append_at {F : Fence} {n : Nat} {P : Program} (w : World) {ops : Array Oper} {rest : List Oper} {o : Oper} {a : Act} {Q : Exit → Act → World → Prop}
    (hg : o.guard = none) (s x : Operand) (t : TypeId) (hop : o.op = Op.call { callee := Callee.builtin Builtin.append, args := #[s, x], argTypes := #[t, t] })
    (base : Nat) (e : TypeId) (i : TypeInfo) (z : Value) (size bytes : Nat) (h1 : P.underlying t = some (.slice e)) (h2 : P.info? e = some i) (h3 : i.zero = some z) (h4 : i.size = size) (h5 : i.bytes = bytes) (h6 : z.cells.size = size) (h7 : 0 < size)
    (v : Value) (k : Nat) (xs : List Value) (hs : a.eval s = v) (hown : w.ownsRow base e size v k xs) (ad : Addr) (m c : Nat) (news : List Value) (hx : a.eval x = .slice (some ad) m c) (hn : news.length = m * size)
    (hc : ∀ j u, news[j]? = some u → w.cell? (ad.add j) = some u) (h1c : ∀ u ∈ news, u.oneCell' = true) (b1 : k + m ≤ maxLen) (b2 : (k + m) * bytes ≤ 140737488355328) (b3 : base ≤ w.heap.size)
    (hK : ∀ v' w', w'.ownsRow base e size v' (k + m) (xs ++ news) → w.grownBy w' v.ownBlock → (v'.ownBlock = v.ownBlock ∨ v'.ownBlock = some w.heap.size) → wpListIn F n P ops Q rest (a.put o.dst v') w') :
    wpListIn F n P ops Q (o :: rest) a w := by
  refine wpListIn_plain hg fun K hK' => ?_
  obtain ⟨v', w', hrun, r1, r2, _, r4⟩ := run_append_own_at (P := P) w base t o.type e i z size bytes h1 h2 h3 h4 h5 h6 h7 v k xs hown ad m c news hn hc h1c b1 b2 b3
  unfold Oper.wpIn
  refine ⟨?_, ?_⟩
  · simp [Oper.about, hop, resolve, Target.leads, Sem.run_pure]
  · rw [Oper.semAt_plain F _ _ (by rw [hop]; intro c hc'; cases hc')]
    simp [execOp, hop, resolve, invoke, builtin, hs, hx, hrun, Result.andThen]
    exact hK' _ _ (hK v' w' r1 r2 r4)
def allF (most : Int) (l : List Bun) : List Bun := if most < 0 then l else l.take most.toNat
theorem KpE.append {B bG t : Nat} {W w1 : World} {v v' : Value} {tmp : Obj} {g : Nat} {cap n : Nat} (hv : Go.Boxed W bG t v) (hBG : bG < B) (hg : (W.alloc tmp).grownBy w1 v.ownBlock) (hv' : v' = .slice (some ⟨g, 0, none⟩) n cap) (hvo : v = .slice none 0 0 ∨ ∃ g' n' c', v = .slice (some ⟨g', 0, none⟩) n' c')
    (ho : v'.ownBlock = v.ownBlock ∨ v'.ownBlock = some (W.alloc tmp).heap.size) (h2 : Go.Boxed (w1.setCell ⟨bG, 0, none⟩ v') bG t v') : KpE B bG W (w1.setCell ⟨bG, 0, none⟩ v') := by
  have hown : ∀ k, v.ownBlock = some k → Owns W bG k := fun k hk => by
    rcases hvo with e | ⟨g', n', c', e⟩
    · rw [e] at hk; cases hk
    · rw [e] at hk
      obtain rfl : g' = k := by simpa [Value.ownBlock] using hk
      exact ⟨0, n', c', by rw [hv.cell, e]⟩
  have hsz : W.heap.size ≤ (w1.setCell ⟨bG, 0, none⟩ v').heap.size := by have := hg.size; simp [World.setCell] at this ⊢; omega
  refine ⟨hsz, fun k o hB hk hc hn => ?_, fun k ⟨off, n', c', e⟩ => ?_⟩
  · have hlt := lt_of_heap hk
    refine (Below.heap_setCell _ _ _ _ (by simp; omega)).trans ((hg.block k (by simp; omega) fun e => hn (hown k e.symm)).trans (((World.grownBy_alloc W tmp none).block k hlt (by simp)).trans hk))
  · rw [h2.cell, hv'] at e
    have : g = k := by simpa using congrArg (fun x => match x with | some (Value.slice (some a) _ _) => a.block | _ => 0) e
    subst this
    rw [hv'] at ho
    rcases ho with ho | ho
    · exact .inl (hown g ho.symm)
    · right
      have : g = (W.alloc tmp).heap.size := by simpa [Value.ownBlock] using ho
      rw [this]; simp
theorem row_frm2 {W : World} {base e size n : Nat} {v : Value} {xs : List Value} (h : W.ownsRow base e size v n xs) : ∃ p c, v = .slice p n c ∧ (v = .slice none 0 0 ∨ ∃ g' n' c', v = .slice (some ⟨g', 0, none⟩) n' c') := by
  rcases h.2 with ⟨e, rfl⟩ | ⟨g, cap, cur, e, _⟩
  · exact ⟨none, 0, e, .inl e⟩
  · exact ⟨_, cap, e, .inr ⟨g, _, cap, e⟩⟩
theorem KpE.grow {B bG : Nat} {X Y : World} (hb : Below X.heap.size X Y) (hG : bG < X.heap.size) : KpE B bG X Y :=
  ⟨hb.size, fun k _ _ hk _ _ => (hb.block k (lt_of_heap hk)).trans hk, fun _ h => .inl (owns_grow hb hG h)⟩
theorem bnew_row {w0 W : World} {v : Value} {l : List Bun} (h : W.ownsRow w0.heap.size 51 11 v l.length (cellsR bunL l)) (hB : Below w0.heap.size w0 W) : BNew w0 W v l := by
  refine ⟨Sl.of_own h, hB, fun q hq => ?_⟩
  rcases h.2 with ⟨rfl, _⟩ | ⟨g, cap, cur, rfl, hg, _⟩
  · cases hq
  · obtain rfl : g = q := by simpa [Value.ownBlock] using hq
    exact hg
theorem ownFrom_ini (B0 B n2 : Nat) (c : Code) (most : Int) : OwnFrom B0 (fun (pre : List Bun) W => ∃ ini x, (pre = ini ++ [x] ∧ c = .exit 0 ∧ (ini.length : Int) = most) ∧ (∃ v, Go.Boxed W n2 29 v ∧ W.ownsRow B 51 11 v ini.length (cellsR bunL ini) ∧ True)) := fun pre X Y row hs hg hr => by
  obtain ⟨ini, x, h1, h2⟩ := hs
  exact ⟨ini, x, h1, Go.Own.from (holdsRow_own B n2 29 51 11 (fun pre : List Bun => pre.length) (fun pre => cellsR bunL pre) (fun _ _ => True)) B0 ini X Y row h2 hg hr⟩
set_option maxRecDepth 100000 in
set_option maxHeartbeats 4000000 in
theorem all12_any (w : World) (q : Option Addr) (L : List Bun) (qa qn most : Int) (h : FoundAt w (.pointer q) L) :
    Calls Try.prog 33 #[.pointer q, .agg #[.int .i64 qa, .int .i64 qn], .int .i64 most] w fun e w' => ∃ v, e = .returned v ∧ BNew w w' v (allF most (foundF qa qn (fun _ => true) L)) := by
  obtain ⟨i0, hi0, hz0, hz1, hz2⟩ := info_parts info_bunJ
  have hlen : (foundF qa qn (fun _ => true) L).length ≤ 1000000 := Nat.le_trans (foundF_len _ _ _ _) h.1
  obtain ⟨ls, hls⟩ : ∃ ls, ls = foundF qa qn (fun _ => true) L := ⟨_, rfl⟩
  rw [← hls] at hlen ⊢
  refine (callsIn_wide (n := 10)).1 ?_
  refine callsIn_of_wp_marks Try.func33 rfl trivial ?_ rfl
  simp only [Try.ntmps33, List.size_toArray, List.length_cons, List.length_nil, Nat.reduceAdd, Nat.reduceSub, Array.replicate_succ, Array.replicate_zero, List.push_toArray, List.append_toArray, List.nil_append, List.cons_append]
  gi_wp2
  refine ⟨trivial, (callsIn_wide.2 (each_any _ q qa qn)).mono ?_⟩
  rintro e W1 ⟨rfl, rfl⟩
  simp only [World.size_alloc]
  have hB0 : Below w.heap.size w (((((w.alloc (.cells #[.int .i64 qa, .int .i64 qn] 23)).alloc (.cells #[.int .i64 most] 3)).alloc (.cells #[.slice none 0 0] 29)).alloc (.cells #[.pointer q] 32)).alloc (.cells #[.int .i64 qa, .int .i64 qn] 23)) := (by repeat' (first | (with_reducible exact Below.refl _ _) | (with_reducible assumption) | (with_reducible refine below_drewN ?_ _) | (with_reducible refine below_more _ _ _ ?_ ?_) | (with_reducible refine Below.alloc ?_ ?_ _) | (with_reducible refine Below.drew ?_) | (with_reducible refine Below.setCell ?_ ?_ _) | go_size))
  have b1 : Go.Boxed (((((w.alloc (.cells #[.int .i64 qa, .int .i64 qn] 23)).alloc (.cells #[.int .i64 most] 3)).alloc (.cells #[.slice none 0 0] 29)).alloc (.cells #[.pointer q] 32)).alloc (.cells #[.int .i64 qa, .int .i64 qn] 23)) (w.heap.size + 1) 3 (.int .i64 most) := by
    have := (((Go.Boxed.new (w.alloc (.cells #[.int .i64 qa, .int .i64 qn] 23)) 3 (.int .i64 most)).alloc (.cells #[.slice none 0 0] 29)).alloc (.cells #[.pointer q] 32)).alloc (.cells #[.int .i64 qa, .int .i64 qn] 23)
    simpa only [World.size_alloc] using this
  have b2 : Go.Boxed (((((w.alloc (.cells #[.int .i64 qa, .int .i64 qn] 23)).alloc (.cells #[.int .i64 most] 3)).alloc (.cells #[.slice none 0 0] 29)).alloc (.cells #[.pointer q] 32)).alloc (.cells #[.int .i64 qa, .int .i64 qn] 23)) (w.heap.size + 1 + 1) 29 (.slice none 0 0) := by
    have := ((Go.Boxed.new ((w.alloc (.cells #[.int .i64 qa, .int .i64 qn] 23)).alloc (.cells #[.int .i64 most] 3)) 29 (.slice none 0 0)).alloc (.cells #[.pointer q] 32)).alloc (.cells #[.int .i64 qa, .int .i64 qn] 23)
    simpa only [World.size_alloc] using this
  have b3 : Go.Boxed (((((w.alloc (.cells #[.int .i64 qa, .int .i64 qn] 23)).alloc (.cells #[.int .i64 most] 3)).alloc (.cells #[.slice none 0 0] 29)).alloc (.cells #[.pointer q] 32)).alloc (.cells #[.int .i64 qa, .int .i64 qn] 23)) (w.heap.size + 1 + 1 + 1) 32 (.pointer q) := by
    have := (Go.Boxed.new (((w.alloc (.cells #[.int .i64 qa, .int .i64 qn] 23)).alloc (.cells #[.int .i64 most] 3)).alloc (.cells #[.slice none 0 0] 29)) 32 (.pointer q)).alloc (.cells #[.int .i64 qa, .int .i64 qn] 23)
    simpa only [World.size_alloc] using this
  have b4 : (((((w.alloc (.cells #[.int .i64 qa, .int .i64 qn] 23)).alloc (.cells #[.int .i64 most] 3)).alloc (.cells #[.slice none 0 0] 29)).alloc (.cells #[.pointer q] 32)).alloc (.cells #[.int .i64 qa, .int .i64 qn] 23)).heap[w.heap.size + 1 + 1 + 1 + 1]? = some (.cells #[.int .i64 qa, .int .i64 qn] 23 (0, 0)) := heap_alloc_new_at _ _ _ (by simp)
  have hsz : (((((w.alloc (.cells #[.int .i64 qa, .int .i64 qn] 23)).alloc (.cells #[.int .i64 most] 3)).alloc (.cells #[.slice none 0 0] 29)).alloc (.cells #[.pointer q] 32)).alloc (.cells #[.int .i64 qa, .int .i64 qn] 23)).heap.size = w.heap.size + 5 := by simp
  generalize ((((w.alloc (.cells #[.int .i64 qa, .int .i64 qn] 23)).alloc (.cells #[.int .i64 most] 3)).alloc (.cells #[.slice none 0 0] 29)).alloc (.cells #[.pointer q] 32)).alloc (.cells #[.int .i64 qa, .int .i64 qn] 23) = W0 at *
  have HSQ := each_stops 9 (by omega) (w.heap.size + 1 + 1 + 1) (w.heap.size + 1 + 1 + 1 + 1) (w.heap.size + 1 + 1) (.pointer q) L qa qn W0 (h.grow hB0) ⟨q, rfl⟩ b3.cell ⟨by simp [World.cell?, b4], by simp [World.cell?, b4]⟩ b2.cell
  rw [← hls] at HSQ
  obtain ⟨n0, hn0⟩ : ∃ n0, n0 = w.heap.size := ⟨_, rfl⟩
  rw [← hn0] at b1 b2 b3 b4 hsz HSQ ⊢
  obtain ⟨n1, hn1⟩ : ∃ n1, n1 = n0 + 1 := ⟨_, rfl⟩
  rw [← hn1] at b1 b2 b3 b4 HSQ ⊢
  obtain ⟨n2, hn2⟩ : ∃ n2, n2 = n1 + 1 := ⟨_, rfl⟩
  rw [← hn2] at b2 b3 b4 HSQ ⊢
  obtain ⟨n3, hn3⟩ : ∃ n3, n3 = n2 + 1 := ⟨_, rfl⟩
  rw [← hn3] at b3 b4 HSQ ⊢
  obtain ⟨n4, hn4⟩ : ∃ n4, n4 = n3 + 1 := ⟨_, rfl⟩
  rw [← hn4] at b4 HSQ ⊢
  have q0 : w.heap.size ≤ n0 := by omega
  have q1 : n0 < n1 := by omega
  have q2 : n1 < n2 := by omega
  have q3 : n2 < n3 := by omega
  have q4 : n4 < W0.heap.size := by omega
  have q6 : n3 < n4 := by omega
  have q5 : w.heap.size ≤ W0.heap.size := by omega
  clear hn0 hn1 hn2 hn3 hn4 hsz h
  have EQ : ∀ W, (binOp BinOp.eql 69 (.func (.func 58) #[] #[.pointer (some ⟨n3, 0, none⟩), .pointer (some ⟨n4, 0, none⟩)]) .nilFunc).run Try.prog W = .ok (.bool false) W := fun _ => by kernel_rfl
  gi_wp2
  refine wpIn_rangeFunc_ownH rfl (by omega) (gf := 58) (lb := #[.pointer (some ⟨n3, 0, none⟩), .pointer (some ⟨n4, 0, none⟩)]) rfl trivial (enters_of Try.func58 (by kernel_rfl) rfl)
    HSQ KpE.trans (kpE_b (by omega)) (Below.refl _ _) (fun _ => rfl)
    (fun pre W => (((∃ v, Go.Boxed W n2 29 v ∧ W.ownsRow w.heap.size 51 11 v pre.length (cellsR bunL pre) ∧ True) ∧ Go.Boxed W n1 3 (.int .i64 most)) ∧ (most < 0 ∨ (pre.length : Int) ≤ most)) ∧ Below w.heap.size w W)
    (fun c pre W => (∃ ini x, (pre = ini ++ [x] ∧ c = .exit 0 ∧ (ini.length : Int) = most) ∧ (∃ v, Go.Boxed W n2 29 v ∧ W.ownsRow w.heap.size 51 11 v ini.length (cellsR bunL ini) ∧ True)) ∧ Below w.heap.size w W)
    (OwnFrom.and (OwnFrom.and (OwnFrom.and (Go.Own.from (holdsRow_own w.heap.size n2 29 51 11 (fun pre : List Bun => pre.length) (fun pre => cellsR bunL pre) (fun _ _ => True)) _) (Go.Own.from (boxed_own _ _ _) _)) (ownFrom_pure _ (fun pre : List Bun => most < 0 ∨ (pre.length : Int) ≤ most))) (ownFrom_below (Nat.le_refl _) (by omega)))
    (fun c => OwnFrom.and (ownFrom_ini W0.heap.size w.heap.size n2 c most) (ownFrom_below (Nat.le_refl _) (by omega)))
    ⟨⟨⟨⟨_, b2, World.ownsRow_nil _ _ _ _, trivial⟩, b1⟩, by simp; omega⟩, hB0⟩
    (fun x a' W => ∃ Bx, n2 < Bx ∧ W.heap[Bx]? = some (.cells x.arr 51 (0, 0)) ∧ a' = { tmps := #[.pointer q, .agg #[.int .i64 qa, .int .i64 qn], .int .i64 most, undef, .pointer (some ⟨n0, 0, none⟩), .pointer (some ⟨n1, 0, none⟩), .slice none 0 0, .pointer (some ⟨n2, 0, none⟩), .func (.func 58) #[] #[.pointer (some ⟨n3, 0, none⟩), .pointer (some ⟨n4, 0, none⟩)], .pointer (some ⟨Bx, 0, none⟩), .pointer q, .agg #[.int .i64 qa, .int .i64 qn], .func (.func 58) #[] #[.pointer (some ⟨n3, 0, none⟩), .pointer (some ⟨n4, 0, none⟩)], .func (.func 58) #[] #[.pointer (some ⟨n3, 0, none⟩), .pointer (some ⟨n4, 0, none⟩)], .bool false, .func (.func 58) #[] #[.pointer (some ⟨n3, 0, none⟩), .pointer (some ⟨n4, 0, none⟩)], .agg x.arr, undef, undef, undef, undef, undef, undef, undef, undef, undef], defers := [] })
    (fun x a' _ X Y row hs hg hr => by obtain ⟨Bx, h1, h2, h3⟩ := hs; exact ⟨Bx, h1, cells_own Bx 51 (fun (_ : Unit) => x.arr) () X Y row h2 hg (fun r e => (hr r e).2), h3⟩)
    ?assign ?body ?done ?stop
  case assign =>
    rintro l pre x W K ⟨⟨⟨hrow, hb1⟩, hm⟩, hB⟩ hK
    gi_wp2
    have lG : n2 < W.heap.size := by obtain ⟨v, h1, _⟩ := hrow; exact h1.lt
    refine hK _ _ ((KeepsOthers.alloc _ _).from _) (KpE.grow ((Below.refl _ W).alloc (Nat.le_refl _) _) lG) ⟨⟨⟨?_, hb1.alloc _⟩, hm⟩, hB.alloc hB.size _⟩ ⟨W.heap.size, lG, heap_alloc_new_at _ _ _ rfl, rfl⟩
    · obtain ⟨v, h1, h2, h3⟩ := hrow
      exact ⟨v, h1.alloc _, h2.alloc _, h3⟩
  case body =>
    rintro l pre x a' W hl ⟨r, hr⟩ ⟨⟨⟨⟨v, hv, hrow, -⟩, hb1⟩, hm⟩, hB⟩ ⟨Bx, hBx, bX, rfl⟩ hlt
    obtain ⟨p0, c0, rfl, hp0⟩ := row_frm2 hrow
    have c2 := hv.cell
    have fr2 := hv.frozen
    have c1 := hb1.cell
    have x0 : W.cell? ⟨Bx, 0, none⟩ = some (.int .i64 x.s) := by simp [World.cell?, bX]
    have x1 : W.cell? ⟨Bx, 1, none⟩ = some (.int .i64 x.i) := by simp [World.cell?, bX]
    have x2 : W.cell? ⟨Bx, 2, none⟩ = some (.int .i64 x.g) := by simp [World.cell?, bX]
    have x3 : W.cell? ⟨Bx, 3, none⟩ = some (.int .i64 x.m) := by simp [World.cell?, bX]
    have x4 : W.cell? ⟨Bx, 4, none⟩ = some (.int .i64 x.x) := by simp [World.cell?, bX]
    have x5 : W.cell? ⟨Bx, 5, none⟩ = some (.int .i64 x.y) := by simp [World.cell?, bX]
    have x6 : W.cell? ⟨Bx, 6, none⟩ = some (.int .i64 x.vx) := by simp [World.cell?, bX]
    have x7 : W.cell? ⟨Bx, 7, none⟩ = some (.int .i64 x.vy) := by simp [World.cell?, bX]
    have x8 : W.cell? ⟨Bx, 8, none⟩ = some (.int .i64 x.hp) := by simp [World.cell?, bX]
    have x9 : W.cell? ⟨Bx, 9, none⟩ = some (.int .i64 x.pw) := by simp [World.cell?, bX]
    have x10 : W.cell? ⟨Bx, 10, none⟩ = some (.int .i64 x.lf) := by simp [World.cell?, bX]
    have lX : Bx < W.heap.size := lt_of_heap bX
    have l1 : n1 < W.heap.size := by omega
    have l2 : n2 < W.heap.size := by omega
    by_cases hlm : (pre.length : Int) = most
    · have HRES := Lib.hid (And.intro (⟨_, hv, hrow, trivial⟩ : (∃ v, Go.Boxed W n2 29 v ∧ W.ownsRow w.heap.size 51 11 v pre.length (cellsR bunL pre) ∧ True)) hB)
      gi_wp2
      exact ⟨KeepsFrom.refl _ _, ⟨pre, x, ⟨rfl, rfl, hlm⟩, HRES.out.1⟩, HRES.out.2⟩
    · have hm2 : most < 0 ∨ ((pre ++ [x]).length : Int) ≤ most := by simp; omega
      have HM2 := Lib.hid hm2
      have hne1 := hb1.not_row (e := 51) (by decide) hrow
      clear hm2
      gi_wp2_with (gi_at_builtin; refine wpListIn_append_at _ rfl _ _ 29 rfl w.heap.size 51 i0 _ 11 88 Try.underlying29 hi0 hz0 hz1 hz2 rfl (by decide) _ _ _ rfl (hrow.alloc _) ⟨W.heap.size, 0, none⟩ 1 1 (bunL x) rfl rfl (new_cells _ _ _) (bunL_one x) (by unfold maxLen; omega) (by omega) (by have := hB.size; simp; omega) ?_; intro v' w1 hown' hgrow ho'; obtain ⟨g', cap', rfl⟩ := ownsRow_succ hown'; obtain ⟨hv1, hv3, hr2, hk2, hb4⟩ := hv.appended (by decide) hrow hB.size (by omega) hown' hgrow; have hc1 := hv1.cell; have hf1 := hv1.frozen)
      have k1 := (hb1.alloc (.cells (bunL x).toArray 51)).kept hgrow hne1
      have e1 := k1.other (B' := n2) (by omega) (.slice (some ⟨g', 0, none⟩) (pre.length + 1) cap')
      refine ⟨hk2.from _, KpE.append hv (by omega) hgrow rfl hp0 ho' hv3, ?_⟩
      dsimp only
      rw [cellsR_app, cellsR_one, List.length_append]
      exact ⟨⟨⟨⟨_, hv3, hr2, trivial⟩, e1⟩, by have := HM2.out; rw [List.length_append] at this; exact this⟩, hB.trans hb4⟩
  case done =>
    rintro D zs W hD rfl ⟨⟨⟨⟨v, hv, hrow, -⟩, hb1⟩, hm⟩, hB⟩ hK
    have hc := hv.cell
    have he : allF most zs = zs := by unfold allF; split; rfl; exact List.take_of_length_le (by omega)
    have HN : Hid (BNew w W v (allF most zs)) := Lib.hid (by rw [he]; exact bnew_row hrow hB)
    clear hv hrow hm he
    gi_wp2
    refine ⟨by simp, .inl ⟨_, _, rfl, run_takeDeferred hK, ?_⟩⟩
    exact ⟨_, results_tmp rfl _ _ _, v, rfl, bnew_put HN.out _ (by omega) hK rfl rfl⟩
  case stop =>
    rintro D c pre W hD hpre ⟨⟨ini, x, ⟨rfl, rfl, hlm⟩, v, hv, hrow, -⟩, hB⟩ hK
    have hc := hv.cell
    have he : allF most ls = ini := by
      unfold allF
      rw [if_neg (by omega), show most.toNat = ini.length by omega]
      obtain ⟨r, rfl⟩ := hpre
      rw [List.append_assoc, List.take_left]
    have HN : Hid (BNew w W v (allF most ls)) := Lib.hid (by rw [he]; exact bnew_row hrow hB)
    clear hv hrow he
    gi_wp2
    refine ⟨by simp, .inl ⟨_, _, rfl, run_takeDeferred hK, ?_⟩⟩
    exact ⟨_, results_tmp rfl _ _ _, v, rfl, bnew_put HN.out _ (by omega) hK rfl rfl⟩
end Go.Proofs.Ytmkfjelpekkmmaa

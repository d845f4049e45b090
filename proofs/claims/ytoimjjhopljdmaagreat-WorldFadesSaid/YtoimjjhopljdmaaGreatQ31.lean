/-
  Chapter texts TkS GhO TpA TpB TpH TpE WoA WoB RegW: what the claim reaches of them. Conditions stand at each theorem.
-/
import Derived.Test.YtoimjjhopljdmaaGreatQ26
import Derived.Test.YtoimjjhopljdmaaGreatQ29
import Derived.Test.YtoimjjhopljdmaaGreatQ30
import Derived.Test.YtoimjjhopljdmaaGreatQ23
import Derived.Test.YtoimjjhopljdmaaGreatQ25
import Derived.Test.YtoimjjhopljdmaaGreatQ16
import Derived.Test.YtoimjjhopljdmaaGreatQ07
import Derived.Test.YtoimjjhopljdmaaGreatQ24
import Derived.Test.YtoimjjhopljdmaaGreatQ09
import Derived.Test.YtoimjjhopljdmaaGreatQ08
import Derived.Test.YtoimjjhopljdmaaGreatQ28
import Derived.Test.YtoimjjhopljdmaaGreatQ17
import Derived.Test.YtoimjjhopljdmaaGreatQ14
namespace Go.Proofs.YtoimjjhopljdmaaGreat
open Go.RowKit
def insF (l : List Bun) (i : Nat) (b : Bun) : List Bun := l.take i ++ b :: l.drop i
theorem findB_rng (s i g : Int) : ∀ (l : List Bun) (k : Nat), ∃ q : Nat, (findB s i g l k).1 = (q : Int) ∧ k ≤ q ∧ q ≤ k + l.length
  | [], k => ⟨k, rfl, by omega, by simp⟩
  | b :: l, k => by
    unfold findB
    split
    · exact ⟨k, rfl, by omega, by omega⟩
    · obtain ⟨q, h1, h2, h3⟩ := findB_rng s i g l (k + 1)
      exact ⟨q, h1, by omega, by simp only [List.length_cons]; omega⟩
def spawnB (c : Cfg) (z : Int) (l : List Bun) (m : Cm) : Bool :=
  !(findB m.b.s m.b.i m.b.g l 0).2 && decide (0 ≤ ofF c m.b.x m.b.y) && (decide (z < 0) || decide (ofF c m.b.x m.b.y = z))
def cmdL (c : Cfg) (z : Int) (l : List Bun) (m : Cm) : List Bun :=
  if m.k = 1 then (if spawnB c z l m then insF l (findB m.b.s m.b.i m.b.g l 0).1.toNat m.b else l) else eachL (fun b => obeyF b m) l
def cmdN (l : List Bun) (m : Cm) : List Nid := if m.k = 1 then [] else eachD (fun b => obeyF b m) l
def cmdsL (c : Cfg) (z : Int) : List Bun → List Cm → List Bun
  | l, [] => l
  | l, m :: ms => cmdsL c z (cmdL c z l m) ms
def cmdsN (c : Cfg) (z : Int) : List Bun → List Cm → List Nid
  | _, [] => []
  | l, m :: ms => cmdN l m ++ cmdsN c z (cmdL c z l m) ms
theorem cmdsL_app (c : Cfg) (z : Int) : ∀ (a b : List Cm) (l : List Bun), cmdsL c z l (a ++ b) = cmdsL c z (cmdsL c z l a) b
  | [], _, _ => rfl
  | _ :: a, b, _ => cmdsL_app c z a b _
theorem cmdsN_app (c : Cfg) (z : Int) : ∀ (a b : List Cm) (l : List Bun), cmdsN c z l (a ++ b) = cmdsN c z l a ++ cmdsN c z (cmdsL c z l a) b
  | [], _, _ => rfl
  | m :: a, b, l => by
    show cmdN l m ++ cmdsN c z (cmdL c z l m) (a ++ b) = _
    rw [cmdsN_app c z a b]
    exact (List.append_assoc _ _ _).symm
theorem cmdsL_step (c : Cfg) (z : Int) (l : List Bun) {ms : List Cm} {t : Nat} {m : Cm} (h : ms[t]? = some m) : cmdsL c z l (ms.take (t + 1)) = cmdL c z (cmdsL c z l (ms.take t)) m := by
  have hlt := (List.getElem?_eq_some_iff.1 h).1
  rw [List.take_succ_eq_append_getElem hlt, (List.getElem?_eq_some_iff.1 h).2, cmdsL_app]; rfl
theorem cmdsN_step (c : Cfg) (z : Int) (l : List Bun) {ms : List Cm} {t : Nat} {m : Cm} (h : ms[t]? = some m) : cmdsN c z l (ms.take (t + 1)) = cmdsN c z l (ms.take t) ++ cmdN (cmdsL c z l (ms.take t)) m := by
  have hlt := (List.getElem?_eq_some_iff.1 h).1
  rw [List.take_succ_eq_append_getElem hlt, (List.getElem?_eq_some_iff.1 h).2, cmdsN_app]
  simp [cmdsN]
theorem eachL_len (f : Bun → Bun × Bool) (l : List Bun) : (eachL f l).length ≤ l.length := by
  have := eachL_le f l l.length
  rwa [List.take_length] at this
theorem cmdL_len (c : Cfg) (z : Int) (l : List Bun) (m : Cm) : (cmdL c z l m).length ≤ l.length + 1 := by
  unfold cmdL
  split
  · split
    · unfold insF
      simp only [List.length_append, List.length_take, List.length_cons, List.length_drop]; omega
    · omega
  · have := eachL_len (fun b => obeyF b m) l; omega
theorem eachD_len (f : Bun → Bun × Bool) (l : List Bun) : (eachD f l).length ≤ l.length := by
  have := eachD_le f l l.length
  rwa [List.take_length] at this
def hurtL (r : Int) (own near : List Bun) : List Bun := eachL (hitF (hitsF r own near)) (stableF cmpBun own)
def hurtN (r : Int) (own near : List Bun) : List Nid := eachD (hitF (hitsF r own near)) (stableF cmpBun own)
def midL (c : Cfg) (z : Int) (own near : List Bun) (ms : List Cm) : List Bun := cmdsL c z (hurtL c.radius own near) ms
def leftL (c : Cfg) (z : Int) (own near : List Bun) (ms : List Cm) : List Bun := eachL (passF c) (midL c z own near ms)
def inZ (c : Cfg) (z : Int) (b : Bun) : Bool := decide (z < 0) || decide (ofF c b.x b.y = z)
def ownL (c : Cfg) (z : Int) (own near : List Bun) (ms : List Cm) : List Bun := (leftL c z own near ms).filter (inZ c z)
def goneL (c : Cfg) (z : Int) (own near : List Bun) (ms : List Cm) : List Bun := (leftL c z own near ms).filter fun b => !inZ c z b
def deadN (c : Cfg) (z : Int) (own near : List Bun) (ms : List Cm) : List Nid := hurtN c.radius own near ++ cmdsN c z (hurtL c.radius own near) ms ++ eachD (passF c) (midL c z own near ms)
def RIb {β : Type} (enc : β → List Value) (w : World) (v : Value) (l : List β) : Prop := RIn enc w v l ∧ (∀ g, v.ownBlock = some g → g < w.heap.size) ∧ (v = .slice none 0 0 ∨ ∃ blk off n cap, v = .slice (some ⟨blk, off, none⟩) n cap)
theorem RIb.of_sl {β : Type} {enc : β → List Value} {T : TypeId} {size : Nat} {w : World} {v : Value} {l : List β} (h : Sl w T size v l.length (cellsR enc l)) : RIb enc w v l := ⟨RIn.of_sl h, fun _ hg => sl_lt h hg, by
  obtain ⟨_, ⟨rfl, _⟩ | ⟨g, off, cap, cur, rfl, _⟩⟩ := h
  · exact .inl rfl
  · exact .inr ⟨g, off, _, cap, rfl⟩⟩
theorem RIb.keep {β : Type} {enc : β → List Value} {w w' : World} {v : Value} {l : List β} (h : RIb enc w v l) (hb : Below w.heap.size w w') : RIb enc w' v l := ⟨h.1.keep hb, fun g hg => Nat.lt_of_lt_of_le (h.2.1 g hg) hb.size, h.2.2⟩
theorem RIb.block {β : Type} {enc : β → List Value} {w w' : World} {v : Value} {l : List β} (h : RIb enc w v l) (hs : w.heap.size ≤ w'.heap.size) (hk : ∀ g, v.ownBlock = some g → w'.heap[g]? = w.heap[g]?) : RIb enc w' v l := by
  obtain ⟨⟨p, cap, rfl, h1, h2, h3, h4⟩, h5, h8⟩ := h
  refine ⟨⟨p, cap, rfl, h1, h2, h3, fun hn => ?_⟩, fun g hg => Nat.lt_of_lt_of_le (h5 g hg) hs, h8⟩
  obtain ⟨blk, off, rfl, h6, h7⟩ := h4 hn
  exact ⟨blk, off, rfl, Nat.lt_of_lt_of_le h6 hs, fun t u hu => (World.cell?_of_block (w := w) (a := ⟨blk, off + t, none⟩) (hk blk rfl)).trans (h7 t u hu)⟩
theorem RIb.turned {β : Type} {enc : β → List Value} {w w' : World} {v : Value} {l : List β} {o : Option Nat} (h : RIb enc w v l) (ht : Turned w w' o) (hn : ∀ g, v.ownBlock = some g → o ≠ some g) : RIb enc w' v l :=
  h.block ht.size fun g hg => ht.block g (h.2.1 g hg) fun e => hn g hg e.symm
def OrNew (w : World) (v v' : Value) : Prop := v' = v ∨ ∀ g, v'.ownBlock = some g → w.heap.size ≤ g
end Go.Proofs.YtoimjjhopljdmaaGreat
namespace Go.Proofs.YtoimjjhopljdmaaGreat
open Go.RowKit Go.Sort
theorem stF_perm (l : List Bun) : (stableF cmpBun l).Perm l := by
  unfold stableF
  have h := (List.mergeSort_perm l.zipIdx fun x y => !ltT cmpBun y x).map fun x => x.1
  have e : l.zipIdx.map (fun x => x.1) = l := by simp
  exact h.trans (List.Perm.of_eq e)
end Go.Proofs.YtoimjjhopljdmaaGreat
namespace Go.Proofs.YtoimjjhopljdmaaGreat
open Go.RowKit Go.Sort
def Rise (l : List Bun) : Prop := l.Pairwise fun a b => bef a b = true
end Go.Proofs.YtoimjjhopljdmaaGreat
namespace Go.Proofs.YtoimjjhopljdmaaGreat
open Go.RowKit Go.Sort
def lk (l : List Bun) (n : Nid) : Option Bun := l.find? fun b => decide (idOf b = n)
end Go.Proofs.YtoimjjhopljdmaaGreat
namespace Go.Proofs.YtoimjjhopljdmaaGreat
open Go.RowKit
def GoodZ (c : Cfg) (z : Int) (b : Bun) : Prop := checkB b = true ∧ inW c b.x b.y = true ∧ ofF c b.x b.y = z
end Go.Proofs.YtoimjjhopljdmaaGreat
namespace Go.Proofs.YtoimjjhopljdmaaGreat
open Go.RowKit Go.Sort
def begM (ms : List Cm) : List Nid := (ms.filter fun m => decide (m.k = 1)).map fun m => idOf m.b
end Go.Proofs.YtoimjjhopljdmaaGreat
namespace Go.Proofs.YtoimjjhopljdmaaGreat
open Go.RowKit
structure Wo where
  (D : Dk) (L : List Bun)
def callW (c : Cfg) (X : Wo) (m : Cm) : (Cm × Int) × Wo :=
  if (lookF c X.D m).2.2 ≠ 0 then ((zeroCm, (lookF c X.D m).2.2), X)
  else (((lookF c X.D m).1, (admitF c (lookedF c X.D m) (lookF c X.D m).1).1), ⟨(admitF c (lookedF c X.D m) (lookF c X.D m).1).2, X.L⟩)
def deadW (c : Cfg) (X : Wo) : List Nid := setN (deadN c (-1) X.L [] X.D.q)
def stepW (c : Cfg) (X : Wo) : (List Nid × Int) × Wo :=
  if (beginF X.D).1.2.2 ≠ 0 then (([], (beginF X.D).1.2.2), ⟨(beginF X.D).2, X.L⟩)
  else ((deadW c X, 0), ⟨(closeF (beginF X.D).2 (deadW c X)).2, ownL c (-1) X.L [] X.D.q⟩)
def newW (c : Cfg) : Wo := ⟨newD c, []⟩
structure WInv (c : Cfg) (n : Nat) (X : Wo) : Prop where
  gm : GM c.ids.toNat X.D.M
  ml : X.D.M.length = (c.cols * c.rows).toNat
  op : X.D.op = false
  t0 : 0 ≤ X.D.t
  t1 : X.D.t ≤ n
  rise : Rise X.L
  good : ∀ b ∈ X.L, GoodZ c (ofF c b.x b.y) b ∧ 0 ≤ ofF c b.x b.y
  qok : ∀ m ∈ X.D.q, cmdB m = true ∧ (m.k = 1 → 0 ≤ ofF c m.b.x m.b.y)
  len : X.L.length + X.D.q.length ≤ n
  nd : (X.L.map idOf ++ begM X.D.q).Nodup
  al : ∀ a, alN X.D.M a ↔ a ∈ X.L.map idOf ++ begM X.D.q
theorem WInv.more {c : Cfg} {n : Nat} {X : Wo} (h : WInv c n X) : WInv c (n + 1) X := { h with t1 := by have := h.t1; omega, len := by have := h.len; omega }
end Go.Proofs.YtoimjjhopljdmaaGreat
namespace Go.Proofs.YtoimjjhopljdmaaGreat
open Go.RowKit

def worldO (p : Nat) (c : Cfg) (X : Wo) : Ob where
  holds W o := ∃ d v, ((boxO p #[.pointer (some ⟨d, 0, none⟩), v] 83).and ((deskO d c X.D).and (slO 32 11 v X.L.length (cellsR bunL X.L)))).holds W o
  lt := by rintro w o ⟨d, v, h⟩; exact Ob.lt _ w o h
  keep := by rintro w w' o ⟨d, v, h⟩ hk; exact ⟨d, v, Ob.keep _ w w' o h hk⟩
section
variable {w0 W : World} {F : Ob} {p : Nat} {c : Cfg} {X : Wo}
theorem wopen (h : Own w0 W ((worldO p c X).and F)) : ∃ d v, Own w0 W ((boxO p #[.pointer (some ⟨d, 0, none⟩), v] 83).and ((deskO d c X.D).and ((slO 32 11 v X.L.length (cellsR bunL X.L)).and F))) := by
  obtain ⟨o, ⟨a, f, ⟨d, v, h1⟩, h2, h3, h4⟩, h5⟩ := h
  have h' : Own w0 W (((boxO p #[.pointer (some ⟨d, 0, none⟩), v] 83).and ((deskO d c X.D).and (slO 32 11 v X.L.length (cellsR bunL X.L)))).and F) := ⟨o, ⟨a, f, h1, h2, h3, h4⟩, h5⟩
  exact ⟨d, v, h'.assoc.inner fun _ h => and_assoc' h⟩
theorem and_shut' {A B C : Ob} {o : Nat → Prop} (h : (A.and (B.and C)).holds W o) : ((A.and B).and C).holds W o := and_comm' (and_assoc' (and_comm' (and_assoc' (and_comm' h))))
theorem wshut {d : Nat} {v : Value} (h : Own w0 W ((boxO p #[.pointer (some ⟨d, 0, none⟩), v] 83).and ((deskO d c X.D).and ((slO 32 11 v X.L.length (cellsR bunL X.L)).and F)))) : Own w0 W ((worldO p c X).and F) := by
  have h' := (h.inner (G := ((deskO d c X.D).and (slO 32 11 v X.L.length (cellsR bunL X.L))).and F) fun _ h => and_shut' h).assoc'
  obtain ⟨o, ⟨a, f, h1, h2, h3, h4⟩, h5⟩ := h'
  exact ⟨o, ⟨a, f, ⟨d, v, h1⟩, h2, h3, h4⟩, h5⟩
end
section
variable {w0 W : World} {F : Ob} {p : Nat} {c : Cfg} {X : Wo}

theorem wlist_o (h : Own w0 W ((worldO p c X).and F)) (hl : X.L.length ≤ 1000000) : Calls Tryz.prog 12 #[.pointer (some ⟨p, 0, none⟩)] W fun e w' => ∃ v, e = .returned v ∧ RNew bunL 32 11 W w' v X.L := by
  obtain ⟨d, v, h⟩ := wopen h
  have hb := h.box
  have x0 := hb.1 0
  have x1 := hb.1 1
  simp at x0 x1
  have hlt := hb.2.2.1
  obtain ⟨z0, z1, z2⟩ := ltz hlt
  have H := Lib.hid h
  obtain ⟨hs, _⟩ := h.third.sl
  have hin := BIn.of_sl hs
  obtain ⟨pv, cv, rfl⟩ := sl_frm hs
  have HC := Lib.hid (fun V hV => clone_bin (.slice pv X.L.length cv) X.L V (hin.keep (w' := V) hV) hl)
  clear hs hin
  clear h hb
  go_enter Tryz.func12, Tryz.ntmps12
  go_wp2_with fail
  refine (HC.out _ (by repeat' (first | (with_reducible exact Below.refl _ _) | (with_reducible assumption) | (with_reducible refine below_drewN ?_ _) | (with_reducible refine below_more _ _ _ ?_ ?_) | (with_reducible refine Below.alloc ?_ ?_ _) | (with_reducible refine Below.drew ?_) | (with_reducible refine Below.setCell ?_ ?_ _) | go_size))).mono ?_
  rintro e w' ⟨v', rfl, hn⟩
  have HN := Lib.hid hn
  obtain ⟨pw, cw, rfl⟩ := sl_frm hn.1
  clear hn
  go_wp2_with fail
  go_ret
  exact ⟨_, rfl, HN.out.1, Below.trans (Below.mono (B := W.heap.size) (by repeat' (first | (with_reducible exact Below.refl _ _) | (with_reducible assumption) | (with_reducible refine below_drewN ?_ _) | (with_reducible refine below_more _ _ _ ?_ ?_) | (with_reducible refine Below.alloc ?_ ?_ _) | (with_reducible refine Below.drew ?_) | (with_reducible refine Below.setCell ?_ ?_ _) | go_size)) (Nat.le_refl _)) (HN.out.2.1.mono (Nat.le_refl _)), HN.out.2.2⟩

theorem Own.inner2 {A B C G : Ob} (h : Own w0 W (A.and (B.and (C.and G)))) : Own w0 W (A.and (B.and (C.and G))) := h
theorem wt_o (h : Own w0 W ((worldO p c X).and F))  : Calls Tryz.prog 36 #[.pointer (some ⟨p, 0, none⟩)] W fun e w' => e = .returned (.int .i64 X.D.t) ∧ Below W.heap.size W w' := by
  obtain ⟨d, v, h⟩ := wopen h
  have hb := h.box
  have x0 := hb.1 0
  have x1 := hb.1 1
  simp at x0 x1
  have hlt := hb.2.2.1
  obtain ⟨z0, z1, z2⟩ := ltz hlt
  have H := Lib.hid h
  have HC := Lib.hid (fun V (hV : Own w0 V ((deskO d c X.D).and ((boxO p #[.pointer (some ⟨d, 0, none⟩), v] 83).and ((slO 32 11 v X.L.length (cellsR bunL X.L)).and F)))) => tick_o hV)
  have H2 := Lib.hid h.swap.inner2
  clear h hb
  go_enter Tryz.func36, Tryz.ntmps36
  go_wp2_with fail
  refine (HC.out _ (H2.out.grow (by repeat' (first | (with_reducible exact Below.refl _ _) | (with_reducible assumption) | (with_reducible refine below_drewN ?_ _) | (with_reducible refine below_more _ _ _ ?_ ?_) | (with_reducible refine Below.alloc ?_ ?_ _) | (with_reducible refine Below.drew ?_) | (with_reducible refine Below.setCell ?_ ?_ _) | go_size)))).mono ?_
  rintro e w' ⟨rfl, hb⟩
  have HB := Lib.hid hb
  clear hb
  go_wp2_with fail
  go_ret
  exact ⟨rfl, Below.trans (Below.mono (B := W.heap.size) (by repeat' (first | (with_reducible exact Below.refl _ _) | (with_reducible assumption) | (with_reducible refine below_drewN ?_ _) | (with_reducible refine below_more _ _ _ ?_ ?_) | (with_reducible refine Below.alloc ?_ ?_ _) | (with_reducible refine Below.drew ?_) | (with_reducible refine Below.setCell ?_ ?_ _) | go_size)) (Nat.le_refl _)) (HB.out.mono (by simp))⟩

theorem own_made {w0 W : World} {X : Ob} (h : Own w0 W X) : Made w0 W X := by
  obtain ⟨o, h1, h2, h3⟩ := h
  exact ⟨o, h1, h3, h2⟩
end
theorem wnew_ok (cols rows side radius speed ids queue : Int) (w : World) (ho : CfgOk ⟨cols, rows, side, radius, speed, ids, queue⟩) :
    Calls Tryz.prog 17 #[.agg #[.int .i64 cols, .int .i64 rows, .int .i64 side, .int .i64 radius, .int .i64 speed, .int .i64 ids, .int .i64 queue]] w fun e w' => ∃ p, e = .returned (.tuple #[.pointer (some ⟨p, 0, none⟩), .int .i64 0]) ∧ Made w w' (worldO p ⟨cols, rows, side, radius, speed, ids, queue⟩ (newW ⟨cols, rows, side, radius, speed, ids, queue⟩)) := by
  have HN := Lib.hid (fun V => dnew_ok cols rows side radius speed ids queue V ho)
  clear ho
  go_enter Tryz.func17, Tryz.ntmps17
  go_wp2_with fail
  generalize hw1 : World.alloc w _ = w1
  have hb1 : Below w.heap.size w w1 := by rw [← hw1]; exact (by repeat' (first | (with_reducible exact Below.refl _ _) | (with_reducible assumption) | (with_reducible refine below_drewN ?_ _) | (with_reducible refine below_more _ _ _ ?_ ?_) | (with_reducible refine Below.alloc ?_ ?_ _) | (with_reducible refine Below.drew ?_) | (with_reducible refine Below.setCell ?_ ?_ _) | go_size))
  clear hw1
  refine (HN.out _).mono ?_
  rintro e w2 ⟨d, rfl, hm⟩
  have h2 := ((Own.nil w).grow hb1).made hm
  have H2 := Lib.hid h2
  clear hm h2 HN hb1
  go_wp2_with fail
  go_ret2
  have hnil : Made w2 w2 (slO 32 11 (.slice none 0 0) ([] : List Bun).length (cellsR bunL [])) := made_sl ⟨rfl, .inl ⟨rfl, rfl⟩⟩ (Below.refl _ _) (fun g hg => by cases hg)
  have h3 := ((H2.out.made hnil).made (made_box w2 #[.pointer (some ⟨d, 0, none⟩), .slice none 0 0] 83)).inner fun _ h => and_swap' h
  exact ⟨_, rfl, own_made (wshut (X := newW ⟨cols, rows, side, radius, speed, ids, queue⟩) h3).fst⟩
end Go.Proofs.YtoimjjhopljdmaaGreat
namespace Go.Proofs.YtoimjjhopljdmaaGreat
open Go
section
variable {P : Program} {ops : Array Oper} {Q : Exit → Act → World → Prop} {md : Region.Mode} {S : World → Prop} {n : Nat}
def chainW (md : Region.Mode) (ops : Array Oper) (n : Nat) : Bool := (List.range ops.size).all fun t => decide (t ≤ n) || (List.range t).any fun u => decide (n ≤ u) && Region.waitsFor md ops t u
theorem tail_waitsW {listed : Array Bool} (hs : Region.sinkB md ops n = true) (hc : chainW md ops n = true) (hn : n < ops.size) (inv : HeadInv md ops n listed) :
    ∀ (d i : Nat), n - i = d → i < n → listed.getD i true = false → ∀ t, n ≤ t → t ∉ Region.ready md ops listed := by
  intro d
  induction d using Nat.strongRecOn with
  | _ d ih =>
    intro i hd hi hun t ht hr
    obtain ⟨_, ot, hot, hall⟩ := mem_ready.1 hr
    have htlt : t < ops.size := (Array.getElem?_eq_some_iff.1 hot).1
    by_cases htn : t = n
    · subst htn
      have h1 := List.all_eq_true.1 hs i (List.mem_range.2 hi)
      obtain ⟨j, hj, hj2⟩ := List.any_eq_true.1 h1
      simp only [Bool.and_eq_true, decide_eq_true_eq] at hj2
      obtain ⟨oj, hoj, e, he, hb, hon⟩ := Region.waitsFor_spec hj2.2
      have hjle : j ≤ t := by have := List.mem_range.1 hj; omega
      by_cases hjt : j = t
      · subst hjt
        have : oj = ot := Option.some.inj (hoj.symm.trans hot)
        subst this
        have h2 := hall e he hb
        rw [hon, getD_both hun] at h2
        cases h2
      · cases hl : listed.getD j false with
        | true =>
          have h2 := inv.closed j oj hoj hl e he hb
          rw [hon, getD_both hun] at h2
          cases h2
        | false =>
          have hjs : j < listed.size := by rw [inv.size]; omega
          exact ih (t - j) (by omega) j rfl (by omega) (getD_in hjs hl) t (Nat.le_refl _) hr
    · have h1 := List.all_eq_true.1 hc t (List.mem_range.2 htlt)
      simp only [Bool.or_eq_true, decide_eq_true_eq] at h1
      rcases h1 with h1 | h1
      · omega
      · obtain ⟨u, hu, hu2⟩ := List.any_eq_true.1 h1
        simp only [Bool.and_eq_true, decide_eq_true_eq] at hu2
        obtain ⟨o', ho', e, he, hb, hon⟩ := Region.waitsFor_spec hu2.2
        have : o' = ot := Option.some.inj (ho'.symm.trans hot)
        subst this
        have h2 := hall e he hb
        have hul : u < t := List.mem_range.1 hu
        rw [hon, getD_both (inv.tail u hu2.1 (by omega))] at h2
        cases h2
theorem anyX_firstW {i : Nat} {oi : Oper} {v : Value} (hi : ops[i]? = some oi) (hsel : Region.noSelect ops = true) (hs : Region.sinkB md ops n = true) (hc : chainW md ops n = true) (hn : n < ops.size) (hin : i < n)
    (hQ : ∀ c a w, Q (.panic c) (a.put oi.dst v) w → Q (.panic c) a w) : ∀ (fuel : Nat) (listed : Array Bool) (a : Act) (w : World), HeadInv md ops n listed →
      (∀ j oj, ops[j]? = some oj → j ≠ i → listed.getD j true = false → (∀ e ∈ oj.after, Region.binds md e = true → e.on ≠ i) → oi.apart ops oj = true) →
      i ∈ Region.ready md ops listed → YieldsIf P ops S oi v a → S w →
      AnyX P md ops Q S n fuel (listed.setIfInBounds i true) (a.put oi.dst v) w → AnyX P md ops Q S n (fuel + 1) listed a w
  | fuel, listed, a, w, inv, hfree, hr, hy, hS, H => by
    have hun := (mem_ready.1 hr).1
    refine ⟨fun h => (by rw [h] at hr; cases hr), fun j hj => ?_⟩
    have hjn : j < n := Nat.lt_of_not_le fun h => tail_waitsW hs hc hn inv _ i rfl hin hun j h hj
    by_cases hji : j = i
    · rw [hji]; exact hy.wpOp hi hS ⟨fun _ => hS, H⟩
    · cases fuel with
      | zero =>
        have := ready_mono hj hji
        rw [H.1] at this
        cases this
      | succ fuel =>
        have h1 := H.2 j (ready_mono hj hji)
        obtain ⟨hjun, oj, hoj, hall⟩ := mem_ready.1 hj
        have hnot : ∀ e ∈ oj.after, Region.binds md e = true → e.on ≠ i := fun e he hb heq => by
          have h2 := hall e he hb
          rw [heq, getD_both hun] at h2
          cases h2
        have h2 := wpOp_putIf hoj (hfree j oj hoj hji hjun hnot) (fun cs b => Region.noSelect_spec hsel i oi cs b hi) (fun cs b => Region.noSelect_spec hsel j oj cs b hoj) hQ hy h1
        refine wpOp_mono (fun a' w' h3 => ⟨h3.2.1, anyX_firstW hi hsel hs hc hn hin hQ fuel (listed.setIfInBounds j true) a' w' (inv.set hj hjn) (fun k ok hk hki hku hno => ?_) (ready_mono hr (Ne.symm hji)) h3.1 (h3.2.1 hjn) ?_⟩) h2
        · refine hfree k ok hk hki ?_ hno
          by_cases hjk : j = k
          · rw [← hjk]; exact hjun
          · rwa [getD_set_ne true hjk] at hku
        · rw [Array.setIfInBounds_comm _ _ hji]
          exact h3.2.2
theorem anyX_takeW {i : Nat} {oi : Oper} {v : Value} {fuel : Nat} {listed : Array Bool} {a : Act} {w : World} (hi : ops[i]? = some oi)
    (hB : (Region.noSelect ops && Region.sinkB md ops n && chainW md ops n && decide (n < ops.size) && decide (i < n) && headB md ops n listed && Region.free md ops listed i && (Region.ready md ops listed).contains i) = true)
    (hQ : ∀ c a w, Q (.panic c) (a.put oi.dst v) w → Q (.panic c) a w) (hy : YieldsIf P ops S oi v a) (hS : S w)
    (h : AnyX P md ops Q S n fuel (listed.setIfInBounds i true) (a.put oi.dst v) w) : AnyX P md ops Q S n (fuel + 1) listed a w := by
  simp only [Bool.and_eq_true, decide_eq_true_eq] at hB
  obtain ⟨⟨⟨⟨⟨⟨⟨b1, b2⟩, b3⟩, b4⟩, b5⟩, b6⟩, b7⟩, b8⟩ := hB
  exact anyX_firstW hi b1 b2 b3 b4 b5 hQ fuel listed a w (headB_inv b6) (Region.free_spec hi b7) (by simpa using b8) hy hS h
theorem anyX_turn {n' : Nat} : ∀ (fuel : Nat) (listed : Array Bool) (a : Act) (w : World), (∀ i, i < n → listed.getD i true = true) → AnyX P md ops Q (fun _ => True) n' fuel listed a w → AnyX P md ops Q S n fuel listed a w
  | 0, _, _, _, _, h => h
  | fuel + 1, listed, a, w, hl, h => ⟨h.1, fun i hi => wpOp_mono (fun a' w' h' => ⟨fun hin => (by
      have h1 := (mem_ready.1 hi).1
      rw [hl i hin] at h1; cases h1), anyX_turn fuel _ a' w' (fun j hj => by
      by_cases e : i = j
      · subst e
        have h1 := (mem_ready.1 hi).1
        rw [hl i hj] at h1; cases h1
      · rw [getD_set_ne true e]; exact hl j hj) h'.2⟩) (h.2 i hi)⟩
end
end Go.Proofs.YtoimjjhopljdmaaGreat

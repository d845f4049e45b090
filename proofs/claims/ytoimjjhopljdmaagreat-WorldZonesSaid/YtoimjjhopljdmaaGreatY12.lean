/-
  Chapter texts Fr SoN SoO SoP ShB: what the claim reaches of them. Conditions stand at each theorem.
-/
import Derived.Test.YtoimjjhopljdmaaGreatRows
import Derived.WalkKit
import Derived.ProofKit
import Derived.OpenShut
import Derived.Carry
import Derived.ChangeSlices
import Derived.Deep.Slices
import Derived.Test.YtoimjjhopljdmaaGreatY01
import Derived.Test.YtoimjjhopljdmaaGreatY11
import Derived.Test.YtoimjjhopljdmaaGreatY02
import Derived.Test.YtoimjjhopljdmaaGreatY09
import Derived.Test.YtoimjjhopljdmaaGreatY08
namespace Go.Proofs.YtoimjjhopljdmaaGreat
open Go.ChangeShapes Go.WideShapes Go.ChangeAt Go.RowKit

theorem ownKnob0 : ownKnob Tryz.prog.godebug = none := by kernel_rfl
theorem laidOut : laidOutB Tryz.prog = true := by kernel_rfl

theorem trodAll_stays {H : Type} {enc : TypeId × Value → H} {W W' : World} {sp : Nat → Bool} : ∀ {ts : List TypeId} {vs : List Value} {ds : List (DataW H)} {ps : List MemPlace},
    DataW.TrodAll enc Tryz.prog W 0 (fun _ => true) true ts vs ds ps → (∀ t ∈ ts, Tryz.prog.readableRec t = true ∧ t < Tryz.prog.types.size) → (∀ p ∈ ps, W.sameAt W' p) → (∀ p ∈ ps, sp p.block = true) →
    DataW.TrodAll enc Tryz.prog W' 0 sp true ts vs ds ps
  | [], [], [], _, h, _, _, _ => h
  | t :: ts, v :: vs, d :: ds, _, h, hr, hs, hp => by
    obtain ⟨p, q, h1, h2, rfl⟩ := h
    obtain ⟨r1, r2⟩ := hr t List.mem_cons_self
    exact ⟨p, q, WideElems.Trod_stays laidOut r1 r2 h1 (fun x hx => hs x (List.mem_append_left _ hx)) (fun x hx => hp x (List.mem_append_left _ hx)),
      trodAll_stays h2 (fun t ht => hr t (List.mem_cons_of_mem _ ht)) (fun x hx => hs x (List.mem_append_right _ hx)) (fun x hx => hp x (List.mem_append_right _ hx)), rfl⟩

theorem post_true {H : Type} {enc : TypeId × Value → H} {f : Func} {s : ChangeSpec} {W W' : World} {args : Array Value} {ds gs : List (DataW H)} {before : List MemPlace}
    (hv : s.vars = []) (hr : f.resultTypes = #[4]) (hread : ∀ t ∈ f.params.toList, Tryz.prog.readableRec t = true ∧ t < Tryz.prog.types.size)
    (hs : s.fn H (ds ++ gs) = { results := [.lit (.bool true)], args := ds })
    (hW : DataW.Whole enc Tryz.prog f.params.toList s.vars false W args.toList ds gs before) (hb : Below W.heap.size W W') :
    s.post enc Tryz.prog f false true false false W args (.bool true) W' := by
  have hlt := hW.lt
  have hW' := hW
  obtain ⟨p, q, hA, hV, rfl, _⟩ := hW'
  refine ⟨ds, gs, p ++ q, [], p, [], hW, ?_, ?_, ?_, hb.frame _, fun h => by cases h⟩
  · rw [hs, hr]
    exact trodAll_cons_mk (shut_bool Tryz.underlying4 true) trodAll_mk0
  · rw [hs]
    exact trodAll_stays hA hread (fun x hx => hb.same (hlt x (List.mem_append_left _ hx))) (fun x hx => by simpa using hlt x (List.mem_append_left _ hx))
  · rw [hs, hv]
    rfl

theorem cells_id : Tryz.prog.cellsOf 30 = 3 := by kernel_rfl
theorem cells_int : Tryz.prog.cellsOf 3 = 1 := by kernel_rfl
theorem cells_bun : Tryz.prog.cellsOf 32 = 11 := by kernel_rfl
theorem cells_cmd : Tryz.prog.cellsOf 34 = 16 := by kernel_rfl

theorem i64_of_wf {n : Int} (h : (Lit.int .i64 n).wf = true) : -9223372036854775808 ≤ n ∧ n ≤ 9223372036854775807 := by
  simpa [Lit.wf, IntKind.min, IntKind.max, IntKind.bits, IntKind.signed] using h

section
variable {H : Type} {enc : TypeId × Value → H} {w : World} {base : Nat} {spare : Nat → Bool} {held : Bool} {fuel : Nat}

theorem read_int {c : List Value} {x : DataW H × List MemPlace} (h : DataW.trod enc Tryz.prog w base spare held fuel 3 c = some x) : ∃ n, c = [.int .i64 n] ∧ -9223372036854775808 ≤ n ∧ n ≤ 9223372036854775807 := by
  obtain ⟨n, h1, _, h3⟩ := DataW.trod_int Tryz.underlying3 h
  exact ⟨n, h1, i64_of_wf h3⟩

set_option maxRecDepth 100000 in
theorem read_id {c : List Value} {x : DataW H × List MemPlace} (h : DataW.trod enc Tryz.prog w base spare held fuel 30 c = some x) :
    ∃ s i g : Int, c = [.int .i64 s, .int .i64 i, .int .i64 g] ∧ (-9223372036854775808 ≤ s ∧ s ≤ 9223372036854775807) ∧ (-9223372036854775808 ≤ i ∧ i ≤ 9223372036854775807) ∧ (-9223372036854775808 ≤ g ∧ g ≤ 9223372036854775807) := by
  obtain ⟨xs, n, _, _, hc, hl, hf⟩ := DataW.trod_struct Tryz.underlying30 h
  rw [cells_id] at hc
  match c, hc with
  | [c0, c1, c2], _ =>
    match xs, hl with
    | [x0, x1, x2], _ =>
      have h0 := hf 0 _ rfl
      have h1 := hf 1 _ rfl
      have h2 := hf 2 _ rfl
      simp [cells_int] at h0 h1 h2
      obtain ⟨s, e0, b0⟩ := read_int h0
      obtain ⟨i, e1, b1⟩ := read_int h1
      obtain ⟨g, e2, b2⟩ := read_int h2
      simp at e0 e1 e2
      subst e0 e1 e2
      exact ⟨s, i, g, rfl, b0, b1, b2⟩

set_option maxRecDepth 100000 in
theorem read_bun {c : List Value} {x : DataW H × List MemPlace} (h : DataW.trod enc Tryz.prog w base spare held fuel 32 c = some x) :
    ∃ s i g m x y vx vy hp pw lf : Int, c = [.int .i64 s, .int .i64 i, .int .i64 g, .int .i64 m, .int .i64 x, .int .i64 y, .int .i64 vx, .int .i64 vy, .int .i64 hp, .int .i64 pw, .int .i64 lf] ∧ (-9223372036854775808 ≤ s ∧ s ≤ 9223372036854775807) ∧ (-9223372036854775808 ≤ i ∧ i ≤ 9223372036854775807) ∧ (-9223372036854775808 ≤ g ∧ g ≤ 9223372036854775807) ∧ (-9223372036854775808 ≤ m ∧ m ≤ 9223372036854775807) ∧ (-9223372036854775808 ≤ x ∧ x ≤ 9223372036854775807) ∧ (-9223372036854775808 ≤ y ∧ y ≤ 9223372036854775807) ∧ (-9223372036854775808 ≤ vx ∧ vx ≤ 9223372036854775807) ∧ (-9223372036854775808 ≤ vy ∧ vy ≤ 9223372036854775807) ∧ (-9223372036854775808 ≤ hp ∧ hp ≤ 9223372036854775807) ∧ (-9223372036854775808 ≤ pw ∧ pw ≤ 9223372036854775807) ∧ (-9223372036854775808 ≤ lf ∧ lf ≤ 9223372036854775807) := by
  obtain ⟨xs, n, _, _, hc, hl, hf⟩ := DataW.trod_struct Tryz.underlying32 h
  rw [cells_bun] at hc
  match c, hc with
  | [c0, c1, c2, c3, c4, c5, c6, c7, c8, c9, c10], _ =>
    match xs, hl with
    | [x0, x1, x2, x3, x4, x5, x6, x7, x8], _ =>
      have h0 := hf 0 _ rfl
      have h1 := hf 1 _ rfl
      have h2 := hf 2 _ rfl
      have h3 := hf 3 _ rfl
      have h4 := hf 4 _ rfl
      have h5 := hf 5 _ rfl
      have h6 := hf 6 _ rfl
      have h7 := hf 7 _ rfl
      have h8 := hf 8 _ rfl
      simp [cells_int, cells_id] at h0 h1 h2 h3 h4 h5 h6 h7 h8
      obtain ⟨s, i, g, e0, b0, b1, b2⟩ := read_id h0
      obtain ⟨m, e1, d1⟩ := read_int h1
      obtain ⟨x, e2, d2⟩ := read_int h2
      obtain ⟨y, e3, d3⟩ := read_int h3
      obtain ⟨vx, e4, d4⟩ := read_int h4
      obtain ⟨vy, e5, d5⟩ := read_int h5
      obtain ⟨hp, e6, d6⟩ := read_int h6
      obtain ⟨pw, e7, d7⟩ := read_int h7
      obtain ⟨lf, e8, d8⟩ := read_int h8
      simp at e0 e1 e2 e3 e4 e5 e6 e7 e8
      obtain ⟨e0, e00, e01⟩ := e0
      subst e0 e00 e01 e1 e2 e3 e4 e5 e6 e7 e8
      exact ⟨s, i, g, m, x, y, vx, vy, hp, pw, lf, rfl, b0, b1, b2, d1, d2, d3, d4, d5, d6, d7, d8⟩

end

set_option maxRecDepth 100000 in
theorem agg_of {H : Type} {enc : TypeId × Value → H} {W : World} {base b0 : Nat} {spare : Nat → Bool} {held : Bool} {r : Reach} {t : TypeId} {fs : Array Field} {v : Value} {d : DataW H} {p : List MemPlace} (hs : Tryz.prog.underlying t = some (.struct fs))
    (hv : Value.okWide Tryz.prog W r b0 t v) (h : DataW.Trod enc Tryz.prog W base spare held t v d p) : ∃ (c : List Value) (fuel : Nat), v = .agg c.toArray ∧ DataW.trod enc Tryz.prog W base spare held fuel t c = some (d, p) := by
  obtain ⟨⟨c⟩, rfl, _⟩ := okWide_struct hs hv
  obtain ⟨fuel, hf⟩ := h
  exact ⟨c, fuel, rfl, by simpa [Value.cells] using hf⟩

end Go.Proofs.YtoimjjhopljdmaaGreat
namespace Go.Proofs.YtoimjjhopljdmaaGreat
open Go.RowKit Go.Sort

set_option maxRecDepth 100000 in
set_option maxHeartbeats 4000000 in
theorem find_any (v : Value) (l : List Bun) (s i g : Int) (w : World) (h : BIn w v l) (hl : l.length ≤ 1000000) :
    Calls Tryz.prog 63 #[v, .agg #[.int .i64 s, .int .i64 i, .int .i64 g]] w fun e w' => e = .returned (.tuple #[.int .i64 (findB s i g l 0).1, .bool (findB s i g l 0).2]) ∧ Below w.heap.size w w' := by
  have H := Lib.hid h
  obtain ⟨pv, cv, rfl, _⟩ := h
  go_enter Tryz.func63, Tryz.ntmps63
  go_wp2_with fail
  go_loopg [11] l.length (fun kx x wr => ∃ k : Nat, x = .int .i64 k ∧ k ≤ l.length ∧ l.length - k ≤ kx ∧ Hid (findB s i g (l.drop k) k = findB s i g l 0) ∧ Hid (Below w.heap.size w wr) ∧ w.heap.size < wr.heap.size ∧ Hid (∀ j, wr.cell? ⟨w.heap.size, j, none⟩ = (#[.int .i64 s, .int .i64 i, .int .i64 g] : Array Value)[j]?))
  case atStart => exact ⟨0, by go_num, by omega, by omega, Lib.hid rfl, Lib.hid bg, by simp, Lib.hid (fun j => by simp)⟩
  case round =>
    obtain ⟨k, rfl, hk, hkx, HF, HB, hsz, HI⟩ := hrel
    by_cases hlt : k < l.length
    · have t1 : (k : Int) < (l.length : Int) := by omega
      obtain ⟨b, hb⟩ : ∃ b, l[k]? = some b := ⟨_, List.getElem?_eq_getElem hlt⟩
      obtain ⟨gb, ob, cb, hv, hgb, hcb⟩ := (H.out.keep HB.out).cells hb
      simp only [Value.slice.injEq, true_and] at hv
      obtain ⟨rfl, rfl⟩ := hv
      have hq := HF.out
      rw [List.drop_eq_getElem_cons hlt, show l[k] = b from by have := List.getElem?_eq_getElem hlt; rw [hb] at this; exact (Option.some.inj this).symm] at hq
      simp only [findB] at hq
      have c0 := hcb 0 _ rfl
      have c1 := hcb 1 _ rfl
      have c2 := hcb 2 _ rfl
      have c3 := hcb 3 _ rfl
      have c4 := hcb 4 _ rfl
      have c5 := hcb 5 _ rfl
      have c6 := hcb 6 _ rfl
      have c7 := hcb 7 _ rfl
      have c8 := hcb 8 _ rfl
      have c9 := hcb 9 _ rfl
      have c10 := hcb 10 _ rfl
      simp only [Nat.add_zero] at c0
      have i0 := HI.out 0; have i1 := HI.out 1; have i2 := HI.out 2
      simp at i0 i1 i2
      have HQ := Lib.hid hq
      clear hcb hq hb
      obtain ⟨s', i', g', m', x', y', vx', vy', hp', pw', lf'⟩ := b
      have HC := Lib.hid (fun W => compare_any s' i' g' s i g W)
      have lb : w.heap.size < wr.heap.size := hsz
      obtain ⟨x0, x1, x2, x3⟩ := ltq hsz
      by_cases h0 : 0 ≤ cmpId s' i' g' s i g
      · have hr := HQ.out
        simp only [if_pos h0] at hr
        have HR := Lib.hid hr
        clear hr
        generalize cmpId s' i' g' s i g = r at *
        go_wp2_with (go_at_call 106; refine (HC.out _).mono ?_; rintro e w' ⟨rfl, hb⟩; obtain ⟨d, os, rfl⟩ := more_of hb; clear hb)
        exact bodyPost_ret (v := .tuple #[.int .i64 k, .bool (r == 0)]) (by simp [results, Tryz.results63, go_sem]) rfl ⟨by rw [← HR.out], HB.out.trans (Below.mono (B := wr.heap.size) bg (by omega))⟩
      · have hr := HQ.out
        simp only [if_neg h0] at hr
        have HR := Lib.hid hr
        clear hr
        generalize cmpId s' i' g' s i g = r at *
        go_wp2_with (go_at_call 106; refine (HC.out _).mono ?_; rintro e w' ⟨rfl, hb⟩; obtain ⟨d, os, rfl⟩ := more_of hb; clear hb)
        go_roundg (l.length - (k + 1))
        case measure => omega
        case rel => exact ⟨k + 1, by go_num, by omega, by omega, HR, Lib.hid (HB.out.trans (Below.mono (B := wr.heap.size) bg (by omega))), by simp; omega, Lib.hid (fun j => by rw [← HI.out j]; exact Below.cell (B := wr.heap.size) bg (by simpa using hsz))⟩
    · obtain rfl : k = l.length := by omega
      have hr := HF.out
      rw [List.drop_length] at hr
      simp only [findB] at hr
      have HR := Lib.hid hr
      clear hr
      go_wp2_with fail
      exact bodyPost_ret (v := .tuple #[.int .i64 l.length, .bool false]) (by simp [results, Tryz.results63, go_sem]) rfl ⟨by rw [← HR.out], HB.out⟩

theorem BIn.cell3 {w : World} {v : Value} {l : List Bun} (h : BIn w v l) {k : Nat} {b : Bun} (hk : l[k]? = some b) : ∃ blk off cap, v = .slice (some ⟨blk, off, none⟩) l.length cap ∧ blk < w.heap.size ∧ w.cell? ⟨blk, off + k * 11, none⟩ = some (.int .i64 b.s) ∧ w.cell? ⟨blk, off + k * 11 + 1, none⟩ = some (.int .i64 b.i) ∧ w.cell? ⟨blk, off + k * 11 + 2, none⟩ = some (.int .i64 b.g) := by
  obtain ⟨g, o, c, hv, h1, h2⟩ := h.cells hk
  exact ⟨g, o, c, hv, h1, h2 0 _ rfl, h2 1 _ rfl, h2 2 _ rfl⟩

set_option maxRecDepth 100000 in
set_option maxHeartbeats 4000000 in
theorem rfind_any (v : Value) (l : List Bun) (s i g : Int) (w : World) (h : BIn w v l) (hl : l.length ≤ 1000000) :
    Calls Tryz.prog 93 #[v, .agg #[.int .i64 s, .int .i64 i, .int .i64 g]] w fun e w' => e = .returned (.tuple #[.int .i64 (findB s i g l 0).1, .bool (findB s i g l 0).2]) ∧ Below w.heap.size w w' := by
  have H := Lib.hid h
  obtain ⟨pv, cv, rfl, _⟩ := h
  go_enter Tryz.func93, Tryz.ntmps93
  go_wp2_with fail
  go_loopg [6] l.length (fun kx x wr => ∃ k : Nat, x = .int .i64 k ∧ k ≤ l.length ∧ l.length - k ≤ kx ∧ Hid (findB s i g (l.drop k) k = findB s i g l 0) ∧ Hid (Below w.heap.size w wr) ∧ w.heap.size < wr.heap.size ∧ Hid (∀ j, wr.cell? ⟨w.heap.size, j, none⟩ = (#[.int .i64 s, .int .i64 i, .int .i64 g] : Array Value)[j]?))
  case atStart => exact ⟨0, by go_num, by omega, by omega, Lib.hid rfl, Lib.hid bg, by simp, Lib.hid (fun j => by simp)⟩
  case round =>
    obtain ⟨k, rfl, hk, hkx, HF, HB, hsz, HI⟩ := hrel
    have i0 := HI.out 0; have i1 := HI.out 1; have i2 := HI.out 2
    simp at i0 i1 i2
    obtain ⟨x0, x1, x2, x3⟩ := ltq hsz
    by_cases hlt : k < l.length
    · have t1 : (k : Int) < (l.length : Int) := by omega
      obtain ⟨b, hb⟩ : ∃ b, l[k]? = some b := ⟨_, List.getElem?_eq_getElem hlt⟩
      obtain ⟨gb, ob, cb, hv, hgb, c0, c1, c2⟩ := (H.out.keep HB.out).cell3 hb
      simp only [Value.slice.injEq, true_and] at hv
      obtain ⟨rfl, rfl⟩ := hv
      obtain ⟨y0, y1, y2, y3⟩ := ltq hgb
      have hq := HF.out
      rw [List.drop_eq_getElem_cons hlt, show l[k] = b from by have := List.getElem?_eq_getElem hlt; rw [hb] at this; exact (Option.some.inj this).symm] at hq
      simp only [findB] at hq
      have HQ := Lib.hid hq
      have HBC := Lib.hid (cmpId_before b.s b.i b.g s i g)
      have HZ := Lib.hid (cmpId_zero b.s b.i b.g s i g)
      have HBF := Lib.hid (fun W => before_any b.s b.i b.g s i g W)
      clear hq hb
      cases hbv : beforeB b.s b.i b.g s i g with
      | true =>
        have h1 := HBF.out
        rw [hbv] at h1
        have HBF2 := Lib.hid h1
        have hr := HQ.out
        have hlt2 := HBC.out
        rw [hbv] at hlt2
        simp only [if_neg (show ¬ 0 ≤ cmpId b.s b.i b.g s i g by have := of_decide_eq_true hlt2.symm; omega)] at hr
        have HR := Lib.hid hr
        clear hr h1 hlt2 hbv
        go_wp2_with fail
        refine wp_region_more (by kernel_rfl) (by kernel_rfl) ?_
        repeat (go_big_quiet_step ((first | (go_at_call 16; exact more_call (HBF2.out _)))))
        refine wpQuiet_nil ?_
        rintro _ ⟨pm, rfl⟩
        go_wp2_with fail
        go_roundg (l.length - (k + 1))
        case measure => omega
        case rel => exact ⟨k + 1, by go_num, by omega, by omega, HR, Lib.hid (HB.out.trans (Below.mono (B := wr.heap.size) bg (by omega))), by simp; omega, Lib.hid (fun j => by rw [← HI.out j]; exact Below.cell (B := wr.heap.size) bg (by simpa using hsz))⟩
      | false =>
        have h1 := HBF.out
        rw [hbv] at h1
        have HBF2 := Lib.hid h1
        have hr := HQ.out
        have hlt2 := HBC.out
        rw [hbv] at hlt2
        simp only [if_pos (show 0 ≤ cmpId b.s b.i b.g s i g by have := of_decide_eq_false hlt2.symm; omega)] at hr
        have hz : (cmpId b.s b.i b.g s i g == 0) = idEq b.s b.i b.g s i g := by
          rw [Bool.eq_iff_iff, beq_iff_eq, HZ.out]
          simp [idEq, and_assoc]
        rw [hz] at hr
        have HR := Lib.hid hr
        clear hr h1 hlt2 hbv hz
        go_wp2_with fail
        refine wp_region_more (by kernel_rfl) (by kernel_rfl) ?_
        repeat (go_big_quiet_step ((first | (go_at_call 16; exact more_call (HBF2.out _)))))
        refine wpQuiet_nil ?_
        rintro _ ⟨pm, rfl⟩
        have hw2 : Below w.heap.size w (more wr pm.d pm.os) := HB.out.trans (Below.mono (B := wr.heap.size) bg (by omega))
        have d0 := (more_cell wr pm.d pm.os ⟨gb, ob + k * 11, none⟩ hgb).trans c0
        have d1 := (more_cell wr pm.d pm.os ⟨gb, ob + k * 11 + 1, none⟩ hgb).trans c1
        have d2 := (more_cell wr pm.d pm.os ⟨gb, ob + k * 11 + 2, none⟩ hgb).trans c2
        have j0 := (more_cell wr pm.d pm.os ⟨w.heap.size, 0, none⟩ hsz).trans i0
        have j1 := (more_cell wr pm.d pm.os ⟨w.heap.size, 1, none⟩ hsz).trans i1
        have j2 := (more_cell wr pm.d pm.os ⟨w.heap.size, 2, none⟩ hsz).trans i2
        have hg2 : gb < (more wr pm.d pm.os).heap.size := by rw [more_size]; omega
        have hw3 : w.heap.size < (more wr pm.d pm.os).heap.size := by rw [more_size]; omega
        have HW2 := Lib.hid hw2
        clear hw2 c0 c1 c2 i0 i1 i2
        generalize more wr pm.d pm.os = W2 at *
        go_wp2_with fail
        refine wp_region_more (by kernel_rfl) (by kernel_rfl) ?_
        repeat (go_big_quiet_step (fail))
        refine wpQuiet_nil ?_
        rintro _ ⟨pn, rfl⟩
        go_wp2_with fail
        exact bodyPost_ret (v := .tuple #[.int .i64 k, .bool (idEq b.s b.i b.g s i g)]) (by simp [results, Tryz.results93, go_sem]) rfl ⟨by rw [← HR.out], HW2.out.trans (Below.mono (B := W2.heap.size) bg (by omega))⟩
    · obtain rfl : k = l.length := by omega
      have hr := HF.out
      rw [List.drop_length] at hr
      simp only [findB] at hr
      have HR := Lib.hid hr
      have t1 : ¬ (l.length : Int) < (l.length : Int) := by omega
      clear hr
      go_wp2_with fail
      refine wp_region_more (by kernel_rfl) (by kernel_rfl) ?_
      repeat (go_big_quiet_step (fail))
      refine wpQuiet_nil ?_
      rintro _ ⟨pn, rfl⟩
      go_wp2_with fail
      refine wp_region_more (by kernel_rfl) (by kernel_rfl) ?_
      repeat (go_big_quiet_step (fail))
      refine wpQuiet_nil ?_
      rintro _ ⟨pq, rfl⟩
      go_wp2_with fail
      exact bodyPost_ret (v := .tuple #[.int .i64 l.length, .bool false]) (by simp [results, Tryz.results93, go_sem]) rfl ⟨by rw [← HR.out], HB.out.trans (Below.mono (B := wr.heap.size) bg (by omega))⟩
end Go.Proofs.YtoimjjhopljdmaaGreat
namespace Go.Proofs.YtoimjjhopljdmaaGreat
open Go.RowKit Go.Sort

attribute [local go_sem ↓] loadVar_ldB
theorem BIn.ldm {w : World} {v : Value} {l : List Bun} (h : BIn w v l) {k : Nat} {b : Bun} (hk : l[k]? = some b) : ∃ blk off cap, v = .slice (some ⟨blk, off, none⟩) l.length cap ∧ ∀ d os, (ldB ⟨blk, off + k * 11, none⟩).run Tryz.prog (more w d os) = .ok (.agg b.arr) (more w d os) := by
  obtain ⟨g, o, c, hv, h1, h2⟩ := h.cells hk
  exact ⟨g, o, c, hv, fun d os => ld_of fun j u hj => (more_cell w d os ⟨g, o + k * 11 + j, none⟩ h1).trans (h2 j u hj)⟩

set_option maxRecDepth 100000 in
set_option maxHeartbeats 4000000 in
theorem same_any (va vb : Value) (la lb : List Bun) (w : World) (ha : BIn w va la) (hb : BIn w vb lb) :
    Calls Tryz.prog 26 #[va, vb] w fun e w' => e = .returned (.bool (decide (la = lb))) ∧ Below w.heap.size w w' := by
  have mixed : Tryz.prog.follows .mixedOrders = true := by kernel_rfl
  have HA := Lib.hid ha
  have HB := Lib.hid hb
  obtain ⟨pa, ca, rfl, ma, _⟩ := ha
  obtain ⟨pb, cb, rfl, mb, _⟩ := hb
  unfold maxLen at ma mb
  by_cases hlen : la.length = lb.length
  · have hd : ((la.length : Int) != (lb.length : Int)) = false := by simp; omega
    have hd2 : (la.length : Int) = (lb.length : Int) := by omega
    have HL := Lib.hid hlen
    clear hlen
    by_cases heq : la = lb
    · subst heq
      rw [decide_eq_true rfl]
      go_enter Tryz.func26, Tryz.ntmps26
      go_wp2_with fail
      go_loopg [5] la.length (fun kx x wr => ∃ k : Nat, x = .int .i64 k ∧ k ≤ la.length ∧ la.length - k ≤ kx ∧ Hid (Below w.heap.size w wr))
      case atStart => exact ⟨0, by go_num, by omega, by omega, Lib.hid (Below.refl _ _)⟩
      case round =>
        obtain ⟨k, rfl, hk, hkx, HW⟩ := hrel
        by_cases hlt : k < la.length
        · have t1 : (k : Int) < (la.length : Int) := by omega
          obtain ⟨b, hb⟩ : ∃ b, la[k]? = some b := ⟨_, List.getElem?_eq_getElem hlt⟩
          obtain ⟨g1, o1, c1, hv1, l1⟩ := (HA.out.keep HW.out).ldm hb
          obtain ⟨g2, o2, c2, hv2, l2⟩ := (HB.out.keep HW.out).ldm hb
          simp only [Value.slice.injEq, true_and] at hv1 hv2
          obtain ⟨rfl, rfl⟩ := hv1
          obtain ⟨rfl, rfl⟩ := hv2
          clear hb
          obtain ⟨s, i, g, m, x, y, vx, vy, hp, pw, lf⟩ := b
          have hbe : bunEq ⟨s, i, g, m, x, y, vx, vy, hp, pw, lf⟩ ⟨s, i, g, m, x, y, vx, vy, hp, pw, lf⟩ = true := by simp [bunEq]
          go_wp2_with fail
          refine wp_region_more (by kernel_rfl) (by kernel_rfl) ?_
          repeat (go_big_quiet_step (fail))
          refine wpQuiet_nil ?_
          rintro _ ⟨pn, rfl⟩
          go_wp2_with fail
          go_roundg (la.length - (k + 1))
          case measure => omega
          case rel => exact ⟨k + 1, by go_num, by omega, by omega, Lib.hid (HW.out.trans (Below.mono (B := wr.heap.size) bg HW.out.size))⟩
        · have t1 : ¬ (k : Int) < (la.length : Int) := by omega
          go_wp2_with fail
          go_ret
          exact ⟨rfl, HW.out⟩
    · rw [decide_eq_false heq]
      have HNE := Lib.hid heq
      clear heq
      go_enter Tryz.func26, Tryz.ntmps26
      go_wp2_with fail
      go_loopg [5] la.length (fun kx x wr => ∃ k : Nat, x = .int .i64 k ∧ k ≤ la.length ∧ la.length - k ≤ kx ∧ Hid (Below w.heap.size w wr) ∧ Hid (∀ t, t < k → la[t]? = lb[t]?))
      case atStart => exact ⟨0, by go_num, by omega, by omega, Lib.hid (Below.refl _ _), Lib.hid (fun t ht => by omega)⟩
      case round =>
        obtain ⟨k, rfl, hk, hkx, HW, HT⟩ := hrel
        by_cases hlt : k < la.length
        · have t1 : (k : Int) < (la.length : Int) := by omega
          have t2 : (k : Int) < (lb.length : Int) := by omega
          obtain ⟨b, hb⟩ : ∃ b, la[k]? = some b := ⟨_, List.getElem?_eq_getElem hlt⟩
          obtain ⟨c, hc⟩ : ∃ c, lb[k]? = some c := ⟨_, List.getElem?_eq_getElem (by omega)⟩
          obtain ⟨g1, o1, c1, hv1, l1⟩ := (HA.out.keep HW.out).ldm hb
          obtain ⟨g2, o2, c2, hv2, l2⟩ := (HB.out.keep HW.out).ldm hc
          simp only [Value.slice.injEq, true_and] at hv1 hv2
          obtain ⟨rfl, rfl⟩ := hv1
          obtain ⟨rfl, rfl⟩ := hv2
          have HBC := Lib.hid (And.intro hb hc)
          clear hb hc
          by_cases hbc : b = c
          · subst hbc
            obtain ⟨s, i, g, m, x, y, vx, vy, hp, pw, lf⟩ := b
            have hbe : bunEq ⟨s, i, g, m, x, y, vx, vy, hp, pw, lf⟩ ⟨s, i, g, m, x, y, vx, vy, hp, pw, lf⟩ = true := by simp [bunEq]
            go_wp2_with fail
            refine wp_region_more (by kernel_rfl) (by kernel_rfl) ?_
            repeat (go_big_quiet_step (fail))
            refine wpQuiet_nil ?_
            rintro _ ⟨pn, rfl⟩
            go_wp2_with fail
            go_roundg (la.length - (k + 1))
            case measure => omega
            case rel => exact ⟨k + 1, by go_num, by omega, by omega, Lib.hid (HW.out.trans (Below.mono (B := wr.heap.size) bg HW.out.size)), Lib.hid (fun t ht => by
              by_cases htk : t = k
              · subst htk; exact HBC.out.1.trans HBC.out.2.symm
              · exact HT.out t (by omega))⟩
          · obtain ⟨s, i, g, m, x, y, vx, vy, hp, pw, lf⟩ := b
            obtain ⟨s', i', g', m', x', y', vx', vy', hp', pw', lf'⟩ := c
            have hbe : bunEq ⟨s, i, g, m, x, y, vx, vy, hp, pw, lf⟩ ⟨s', i', g', m', x', y', vx', vy', hp', pw', lf'⟩ = false := by unfold bunEq; exact decide_eq_false hbc
            clear hbc
            go_wp2_with fail
            refine wp_region_more (by kernel_rfl) (by kernel_rfl) ?_
            repeat (go_big_quiet_step (fail))
            refine wpQuiet_nil ?_
            rintro _ ⟨pn, rfl⟩
            go_wp2_with fail
            go_ret
            exact ⟨rfl, HW.out.trans (Below.mono (B := wr.heap.size) bg HW.out.size)⟩
        · exfalso
          obtain rfl : k = la.length := by omega
          refine HNE.out (List.ext_getElem? fun t => ?_)
          by_cases ht : t < la.length
          · exact HT.out t ht
          · rw [List.getElem?_eq_none (by omega), List.getElem?_eq_none (by have := HL.out; omega)]
  · have hd : ((la.length : Int) != (lb.length : Int)) = true := by simp; omega
    have hd2 : ¬ (la.length : Int) = (lb.length : Int) := by omega
    rw [decide_eq_false (fun e => hlen (by rw [e]))]
    clear hlen
    go_enter Tryz.func26, Tryz.ntmps26
    go_wp2_with fail
    go_ret
    exact ⟨rfl, Below.refl _ _⟩
end Go.Proofs.YtoimjjhopljdmaaGreat
namespace Go.Proofs.YtoimjjhopljdmaaGreat
open Go.RowKit Go.Sort
theorem bunCells_split : ∀ (l : List Bun) (t : Nat) (u : Value), (bunCells l)[t]? = some u → ∃ b, l[t / 11]? = some b ∧ (bunL b)[t % 11]? = some u := fun l t u h => by
  have ht : t < l.length * 11 := by have := (List.getElem?_eq_some_iff.1 h).1; rwa [bunCells_len] at this
  have hk : t / 11 < l.length := by omega
  refine ⟨l[t / 11], List.getElem?_eq_getElem hk, ?_⟩
  have e := bunCells_get l (t / 11) (t % 11) l[t / 11] (List.getElem?_eq_getElem hk) (Nat.mod_lt _ (by omega))
  rw [show t / 11 * 11 + t % 11 = t by omega] at e
  rw [← e]; exact h

theorem sl_store1 {w : World} {e : TypeId} {size n : Nat} {g off cap : Nat} {xs : List Value} (h : Sl w e size (.slice (some ⟨g, off, none⟩) n cap) n xs) {t : Nat} (ht : t < n * size) (u : Value) :
    (∃ u', w.cell? ⟨g, off + t, none⟩ = some u') ∧ w.frozen? ⟨g, off + t, none⟩ = false ∧ Sl (w.setCell ⟨g, off + t, none⟩ u) e size (.slice (some ⟨g, off, none⟩) n cap) n (xs.set t u) ∧ Turned w (w.setCell ⟨g, off + t, none⟩ u) (some g) := by
  obtain ⟨hl, ⟨h0, _⟩ | ⟨g', off', cap', cur, hv, hb, hn, hc, hsz, hr⟩⟩ := h
  · cases h0
  simp only [Value.slice.injEq, Option.some.injEq, Addr.mk.injEq, and_true, true_and] at hv
  obtain ⟨⟨rfl, rfl⟩, rfl⟩ := hv
  have hlt : off + t < cur.size := by
    have : n * size ≤ cap * size := Nat.mul_le_mul_right _ hn
    omega
  have hs := setCells_turned g [u] (off + t) w
  refine ⟨⟨cur[off + t], by simp [World.cell?, hb, hlt]⟩, by simp [World.frozen?, hb], ⟨by rw [List.length_set, hl], .inr ⟨g, off, cap, cur.setIfInBounds (off + t) u, rfl, ?_, hn, hc, by simpa using hsz, fun j v hj => ?_⟩⟩, hs⟩
  · simp [World.setCell, Array.getElem?_modify, hb]
  · rw [List.getElem?_set] at hj
    split at hj
    · rename_i e1
      subst e1
      split at hj
      · rw [Array.getElem?_setIfInBounds_self, if_pos hlt]; exact hj
      · cases hj
    · rename_i e1
      rw [Array.getElem?_setIfInBounds_ne (by omega)]
      exact hr j v hj

end Go.Proofs.YtoimjjhopljdmaaGreat
namespace Go.Proofs.YtoimjjhopljdmaaGreat
open Go.RowKit

theorem abs_any (n : Int) (w : World) (h0 : -4294967296 ≤ n) (h1 : n ≤ 4294967296) : Calls Tryz.prog 91 #[.int .i64 n] w fun e w' => e = .returned (.int .i64 (max n (-n))) ∧ w = w' := by
  by_cases h : n < 0
  · rw [show max n (-n) = -n by omega]
    go_enter Tryz.func91, Tryz.ntmps91
    go_wp2
    go_ret
    exact ⟨rfl, rfl⟩
  · rw [show max n (-n) = n by omega]
    have h' : 0 ≤ n := by omega
    go_enter Tryz.func91, Tryz.ntmps91
    go_wp2
    go_ret
    exact ⟨rfl, rfl⟩

theorem rFar_any (x y u v : Int) (w : World) : Calls Tryz.prog 49 #[.int .i64 x, .int .i64 y, .int .i64 u, .int .i64 v] w fun e w' => e = .returned (.int .i64 (farF x y u v)) ∧ w = w' := by
  have h1 := clampF_lo x; have h2 := clampF_hi x; have h3 := clampF_lo u; have h4 := clampF_hi u
  have h5 := clampF_lo y; have h6 := clampF_hi y; have h7 := clampF_lo v; have h8 := clampF_hi v
  by_cases hc : max (clampF x - clampF u) (-(clampF x - clampF u)) > max (clampF y - clampF v) (-(clampF y - clampF v))
  · rw [show farF x y u v = max (clampF x - clampF u) (-(clampF x - clampF u)) by unfold farF; omega]
    generalize hcx : clampF x = cx at *
    generalize hcy : clampF y = cy at *
    generalize hcu : clampF u = cu at *
    generalize hcv : clampF v = cv at *
    have HX := Lib.hid (And.intro hcx (And.intro hcy (And.intro hcu hcv)))
    have HA := Lib.hid (fun n W a b => abs_any n W a b)
    have e1 := Lib.hid (fun W => by have := clamp_any x W; exact this)
    have C1 := Lib.hid (fun W => by have h := rClamp_any x W; rw [hcx] at h; exact h)
    have C2 := Lib.hid (fun W => by have h := rClamp_any u W; rw [hcu] at h; exact h)
    have C3 := Lib.hid (fun W => by have h := rClamp_any y W; rw [hcy] at h; exact h)
    have C4 := Lib.hid (fun W => by have h := rClamp_any v W; rw [hcv] at h; exact h)
    clear hcx hcy hcu hcv e1
    go_enter Tryz.func49, Tryz.ntmps49
    go_wp2_with fail
    refine (C1.out _).mono ?_; rintro e w' ⟨rfl, rfl⟩
    go_wp2_with fail
    refine (C2.out _).mono ?_; rintro e w' ⟨rfl, rfl⟩
    go_wp2_with fail
    refine (HA.out _ _ (by omega) (by omega)).mono ?_; rintro e w' ⟨rfl, rfl⟩
    go_wp2_with fail
    refine (C3.out _).mono ?_; rintro e w' ⟨rfl, rfl⟩
    go_wp2_with fail
    refine (C4.out _).mono ?_; rintro e w' ⟨rfl, rfl⟩
    go_wp2_with fail
    refine (HA.out _ _ (by omega) (by omega)).mono ?_; rintro e w' ⟨rfl, rfl⟩
    go_wp2_with fail
    go_ret
    exact ⟨rfl, rfl⟩
  · rw [show farF x y u v = max (clampF y - clampF v) (-(clampF y - clampF v)) by unfold farF; omega]
    generalize hcx : clampF x = cx at *
    generalize hcy : clampF y = cy at *
    generalize hcu : clampF u = cu at *
    generalize hcv : clampF v = cv at *
    have HA := Lib.hid (fun n W a b => abs_any n W a b)
    have C1 := Lib.hid (fun W => by have h := rClamp_any x W; rw [hcx] at h; exact h)
    have C2 := Lib.hid (fun W => by have h := rClamp_any u W; rw [hcu] at h; exact h)
    have C3 := Lib.hid (fun W => by have h := rClamp_any y W; rw [hcy] at h; exact h)
    have C4 := Lib.hid (fun W => by have h := rClamp_any v W; rw [hcv] at h; exact h)
    clear hcx hcy hcu hcv
    go_enter Tryz.func49, Tryz.ntmps49
    go_wp2_with fail
    refine (C1.out _).mono ?_; rintro e w' ⟨rfl, rfl⟩
    go_wp2_with fail
    refine (C2.out _).mono ?_; rintro e w' ⟨rfl, rfl⟩
    go_wp2_with fail
    refine (HA.out _ _ (by omega) (by omega)).mono ?_; rintro e w' ⟨rfl, rfl⟩
    go_wp2_with fail
    refine (C3.out _).mono ?_; rintro e w' ⟨rfl, rfl⟩
    go_wp2_with fail
    refine (C4.out _).mono ?_; rintro e w' ⟨rfl, rfl⟩
    go_wp2_with fail
    refine (HA.out _ _ (by omega) (by omega)).mono ?_; rintro e w' ⟨rfl, rfl⟩
    go_wp2_with fail
    go_ret
    exact ⟨rfl, rfl⟩
end Go.Proofs.YtoimjjhopljdmaaGreat

/-
  IdsPlays: for any two numbers and every list of deeds the law returns true, and the argument stays as it was. No condition.
-/
import Derived.Test.YtjkbenghgbigdaaPlayC
import Derived.Deep.Slices
namespace Go.Proofs.Ytjkbenghgbigdaa.idsPlays
open Go.ChangeShapes Go.WideShapes Go.ChangeAt Go.RowKit

abbrev Dd := Int × Int × Int × Int
theorem list_of {β : Type} {P : Nat → β → Prop} : ∀ (n : Nat), (∀ i, i < n → ∃ b, P i b) → ∃ l : List β, l.length = n ∧ ∀ i b, l[i]? = some b → P i b
  | 0, _ => ⟨[], rfl, fun i b h => by cases h⟩
  | n + 1, h => by
    obtain ⟨l, hl, hp⟩ := list_of n fun i hi => h i (by omega)
    obtain ⟨b, hb⟩ := h n (by omega)
    refine ⟨l ++ [b], by simp [hl], fun i c hc => ?_⟩
    by_cases hi : i < n
    · rw [List.getElem?_append_left (by omega)] at hc; exact hp i c hc
    · rw [List.getElem?_append_right (by omega)] at hc
      have : i - l.length = 0 := by have := (List.getElem?_eq_some_iff.1 hc).1; simp at this; omega
      rw [this] at hc
      simp at hc
      subst hc
      obtain rfl : i = n := by omega
      exact hb
theorem cells_deed : Try.prog.cellsOf 71 = 4 := by kernel_rfl
set_option maxRecDepth 100000 in
theorem read_deed {H : Type} {enc : TypeId × Value → H} {w : World} {base : Nat} {spare : Nat → Bool} {held : Bool} {fuel : Nat} {c : List Value} {x : DataW H × List MemPlace} (h : DataW.trod enc Try.prog w base spare held fuel 71 c = some x) :
    ∃ k s i g : Int, c = [.int .i64 k, .int .i64 s, .int .i64 i, .int .i64 g] := by
  obtain ⟨xs, n, _, _, hc, hl, hf⟩ := DataW.trod_struct Try.underlying71 h
  rw [cells_deed] at hc
  match c, hc with
  | [c0, c1, c2, c3], _ =>
    match xs, hl with
    | [x0, x1], _ =>
      have h0 := hf 0 _ rfl
      have h1 := hf 1 _ rfl
      simp [cells_int, cells_id] at h0 h1
      obtain ⟨k, e0, _⟩ := read_int h0
      obtain ⟨s, i, g, e1, _⟩ := read_id h1
      simp at e0 e1
      obtain ⟨e10, e11, e12⟩ := e1
      subst e0 e10 e11 e12
      exact ⟨k, s, i, g, rfl⟩
/-- A slice of deeds that came in. -/
def DeedsIn (w : World) (v : Value) (zs : List Dd) : Prop := ∃ p cap, v = .slice p zs.length cap ∧ zs.length ≤ maxLen ∧ ∀ k z, zs[k]? = some z → ∃ b off, p = some ⟨b, off, none⟩ ∧ zs.length ≤ cap ∧ b < w.heap.size ∧
  w.cell? ⟨b, off + k * 4, none⟩ = some (.int .i64 z.1) ∧ w.cell? ⟨b, off + k * 4 + 1, none⟩ = some (.int .i64 z.2.1) ∧ w.cell? ⟨b, off + k * 4 + 2, none⟩ = some (.int .i64 z.2.2.1) ∧ w.cell? ⟨b, off + k * 4 + 3, none⟩ = some (.int .i64 z.2.2.2)

set_option maxRecDepth 100000 in
theorem deeds_in {H : Type} {enc : TypeId × Value → H} {W : World} {base b0 : Nat} {spare : Nat → Bool} {held : Bool} {r : Reach} {v : Value} {d : DataW H} {p : List MemPlace} (hv : Value.okWide Try.prog W r b0 65 v) (h : DataW.Trod enc Try.prog W base spare held 65 v d p) : ∃ l, DeedsIn W v l := by
  obtain ⟨a, len, cap, rfl⟩ := Go.WideShapes.okWide_slice Try.underlying65 hv
  obtain ⟨fuel, hf⟩ := h
  have hf' : DataW.trod enc Try.prog W base spare held fuel 65 [.slice a len cap] = some (d, p) := by simpa [Value.cells] using hf
  rcases Go.Deep.open_slice Try.underlying65 hf' with ⟨h0, _⟩ | ⟨⟨b, off, sp⟩, len', cap', m, n, D, Pl, h0, _, hl, hm, hmm, _, hi⟩
  · simp at h0
    obtain ⟨rfl, rfl, rfl⟩ := h0
    exact ⟨[], none, 0, rfl, by simp [maxLen], fun k z hz => by cases hz⟩
  · simp only [List.cons.injEq, and_true, Value.slice.injEq] at h0
    obtain ⟨rfl, rfl, rfl⟩ := h0
    have hle : len ≤ m := by rw [hmm]; split <;> omega
    rw [cells_deed] at hi
    by_cases hz : len = 0
    · subst hz
      exact ⟨[], _, cap, rfl, by simp [maxLen], fun k z hz => by cases hz⟩
    have hsp : sp = none := by
      obtain ⟨cs', hc, ht⟩ := hi 0 (by omega)
      obtain ⟨_, hlen, hcell⟩ := World.cells?_some hc
      have hc0 := hcell 0 (by omega)
      rw [List.getElem?_eq_getElem (by omega)] at hc0
      simp only [Addr.add, Nat.zero_mul, if_true] at hc0
      cases sp with
      | none => rfl
      | some q =>
        simp only [World.cell?, Option.isSome_some, if_true] at hc0
        split at hc0 <;> cases hc0
    subst hsp
    have hq : ∀ q, q < len → ∃ c : Dd, W.cell? ⟨b, off + q * 4, none⟩ = some (.int .i64 c.1) ∧ W.cell? ⟨b, off + q * 4 + 1, none⟩ = some (.int .i64 c.2.1) ∧ W.cell? ⟨b, off + q * 4 + 2, none⟩ = some (.int .i64 c.2.2.1) ∧ W.cell? ⟨b, off + q * 4 + 3, none⟩ = some (.int .i64 c.2.2.2) := by
      intro q hql
      obtain ⟨cs', hc, ht⟩ := hi q (by omega)
      obtain ⟨_, hlen, hcell⟩ := World.cells?_some hc
      obtain ⟨k, s, i, g, rfl⟩ := read_deed ht
      have e : ∀ j, ((⟨b, off, none⟩ : Addr).add (q * 4)).add j = ⟨b, off + q * 4 + j, none⟩ := fun j => by rw [addr_at, addr_at]
      have r0 := hcell 0 (by omega)
      have r1 := hcell 1 (by omega)
      have r2 := hcell 2 (by omega)
      have r3 := hcell 3 (by omega)
      rw [e] at r0 r1 r2 r3
      exact ⟨(k, s, i, g), by simpa using r0, by simpa using r1, by simpa using r2, by simpa using r3⟩
    obtain ⟨l, hll, hlp⟩ := list_of len hq
    exact ⟨l, some ⟨b, off, none⟩, cap, by rw [hll], by omega, fun k z hz => ⟨b, off, rfl, by omega, World.block_lt_of_cell? W _ (hlp k z hz).1, hlp k z hz⟩⟩

set_option maxRecDepth 100000 in
set_option maxHeartbeats 4000000 in
theorem walk_ok (shards ids : Nat) (v : Value) (zs : List Dd) (w : World) (hz : DeedsIn w v zs) (h1 : 1 ≤ shards) (h2 : shards ≤ 16) (h3 : 1 ≤ ids) (h4 : ids ≤ 16) :
    Calls Try.prog 14 #[.int .i64 shards, .int .i64 ids, v] w fun e w' => e = .returned (.bool true) ∧ Below w.heap.size w w' := by
  obtain ⟨pz, capz, rfl, hlen, hzc⟩ := hz
  unfold maxLen at hlen
  have HZC := Lib.hid hzc
  clear hzc
  have hcb : shards * ids ≤ 256 := Nat.mul_le_mul h2 h4
  have HNEW := Lib.hid fun W => new_p shards ids W h1 h2 h3 h4
  have HRNEW := Lib.hid fun W => rnew_ok shards ids W h1 h2 h3 h4
  clear h1 h2 h3 h4
  go_enter Try.func14, Try.ntmps14
  go_wp2_with fail
  refine (HNEW.out _).mono ?_
  rintro e w1 ⟨rfl, hb1, L1, hP1, hp1, ho1⟩
  go_wp2_with fail
  refine (HRNEW.out _).mono ?_
  rintro e w2 ⟨rfl, hb2, R, hR1, hr1, ho2⟩
  have hpl : Pl w w2 L1 (List.replicate shards (fresh ids ids)) (w.heap.size + 1) R ids ((shards * ids : Nat) : Int) (List.replicate shards (fresh ids ids)) :=
    ⟨⟨hP1, hp1.grown hb2, hb1.trans (hb2.mono hb1.size), ho1⟩, hr1, fun b h1 h2 => by have := hp1.lt h1; have := ho2 b h2; omega, fun b h => Nat.le_trans hb1.size (ho2 b h)⟩
  have HPL := Lib.hid hpl
  rw [← hR1]
  clear hb1 hP1 hp1 ho1 hb2 hR1 hr1 ho2 hpl
  go_wp2_with fail
  go_loopw [11] (fun x wr => ∃ k : Nat, x = .int .i64 k ∧ k ≤ zs.length ∧ k ≤ 60 ∧ Hid (Play w wr (w.heap.size + 1) R ids ((shards * ids + k : Nat) : Int))) (fun x _ => 61 - (intOf x).toNat)
  case atStart => exact ⟨0, rfl, Nat.zero_le _, by omega, Lib.hid ⟨L1, _, HPL.out.grow (by repeat' (first | (with_reducible exact Below.refl _ _) | (with_reducible assumption) | (with_reducible refine below_drewN ?_ _) | (with_reducible refine below_more _ _ _ ?_ ?_) | (with_reducible refine Below.alloc ?_ ?_ _) | (with_reducible refine Below.drew ?_) | (with_reducible refine Below.setCell ?_ ?_ _) | go_size))⟩⟩
  case round =>
    obtain ⟨k, rfl, hkz, hk60, hh⟩ := hrel
    clear HPL
    obtain ⟨wo, rfl⟩ : ∃ wo : World, wo = wr := ⟨_, rfl⟩
    obtain ⟨L2, M2, hpl⟩ := hh.out
    have hI : 0 ≤ (k : Int) := Int.natCast_nonneg k
    have HPL := Lib.hid hpl
    clear hh hpl
    by_cases hlt : k < zs.length ∧ k < 60
    · obtain ⟨hl1, hl2⟩ := hlt
      obtain ⟨z, hz⟩ : ∃ z, zs[k]? = some z := ⟨_, List.getElem?_eq_getElem hl1⟩
      obtain ⟨bz, oz, rfl, hcap, hbz, q0, q1, q2, q3⟩ := HZC.out k z hz
      obtain ⟨kd, s, i, g⟩ := z
      have hB := HPL.out.st.hb
      have r0 := (hB.cell (p := ⟨bz, oz + k * 4, none⟩) hbz).trans q0
      have r1 := (hB.cell (p := ⟨bz, oz + k * 4 + 1, none⟩) hbz).trans q1
      have r2 := (hB.cell (p := ⟨bz, oz + k * 4 + 2, none⟩) hbz).trans q2
      have r3 := (hB.cell (p := ⟨bz, oz + k * 4 + 3, none⟩) hbz).trans q3
      have Q1 := Lib.hid q1
      have Q2 := Lib.hid q2
      have Q3 := Lib.hid q3
      try simp only at r0 r1 r2 r3
      have hL : (k : Int) < (zs.length : Int) := by omega
      clear q0 q1 q2 q3 hz hB
      go_wp2_with fail
      refine (step_any w _ L2 M2 _ R ids _ HPL.out (by omega) kd s i g).mono ?_
      rintro e w3 ⟨rfl, L3, M3, hpl3⟩
      have hB := hpl3.st.hb
      have r1 := (hB.cell (p := ⟨bz, oz + k * 4 + 1, none⟩) hbz).trans Q1.out
      have r2 := (hB.cell (p := ⟨bz, oz + k * 4 + 2, none⟩) hbz).trans Q2.out
      have r3 := (hB.cell (p := ⟨bz, oz + k * 4 + 3, none⟩) hbz).trans Q3.out
      try simp only at r1 r2 r3
      have HPL3 := Lib.hid hpl3
      clear hB hpl3
      go_wp2_with fail
      refine (alike_any w _ L3 M3 _ R ids _ HPL3.out s i g).mono ?_
      rintro e w4 ⟨rfl, hpl4⟩
      have HPL4 := Lib.hid hpl4
      clear hpl4
      go_wp2_with fail
      go_roundw
      case rel => exact ⟨k + 1, by go_num, hl1, by omega, Lib.hid ⟨L3, M3, by rw [show ((shards * ids + (k + 1) : Nat) : Int) = ((shards * ids + k : Nat) : Int) + 1 by omega]; exact HPL4.out.grow (by repeat' (first | (with_reducible exact Below.refl _ _) | (with_reducible assumption) | (with_reducible refine below_drewN ?_ _) | (with_reducible refine below_more _ _ _ ?_ ?_) | (with_reducible refine Below.alloc ?_ ?_ _) | (with_reducible refine Below.drew ?_) | (with_reducible refine Below.setCell ?_ ?_ _) | go_size))⟩⟩
      case measure => simp [intOf]; omega
    · have HB := Lib.hid HPL.out.st.hb
      have hlt' : zs.length ≤ k ∨ (k < zs.length ∧ 60 ≤ k) := by omega
      clear hlt HPL
      rcases hlt' with h1' | ⟨h1', h2'⟩
      all_goals
        go_wp2_with (go_at_call 22; refine (awake8 _).mono ?_; rintro e w' ⟨rfl, hb⟩; obtain ⟨d, os, rfl⟩ := more_of hb; clear hb)
        go_ret
        exact ⟨rfl, HB.out.trans (Below.mono (B := wo.heap.size) (by repeat' (first | (with_reducible exact Below.refl _ _) | (with_reducible assumption) | (with_reducible refine below_drewN ?_ _) | (with_reducible refine below_more _ _ _ ?_ ?_) | (with_reducible refine Below.alloc ?_ ?_ _) | (with_reducible refine Below.drew ?_) | (with_reducible refine Below.setCell ?_ ?_ _) | go_size)) HB.out.size)⟩

set_option maxRecDepth 100000 in
set_option maxHeartbeats 4000000 in
theorem walk_bad (n ids : Int) (v : Value) (w : World) (h : n < 1 ∨ 16 < n ∨ ids < 1 ∨ 16 < ids) :
    Calls Try.prog 14 #[.int .i64 n, .int .i64 ids, v] w fun e w' => e = .returned (.bool true) ∧ Below w.heap.size w w' := by
  have HN := Lib.hid fun W => new_bad n ids W h
  have HR := Lib.hid fun W => rnew_bad n ids W h
  clear h
  go_enter Try.func14, Try.ntmps14
  go_wp2_with fail
  refine (HN.out _).mono ?_
  rintro e w1 ⟨rfl, rfl⟩
  go_wp2_with fail
  refine (HR.out _).mono ?_
  rintro e w1 ⟨rfl, rfl⟩
  go_wp2_with (go_at_call 22; refine (awake8 _).mono ?_; rintro e w' ⟨rfl, hb⟩; obtain ⟨d, os, rfl⟩ := more_of hb; clear hb)
  go_ret
  exact ⟨rfl, (by repeat' (first | (with_reducible exact Below.refl _ _) | (with_reducible assumption) | (with_reducible refine below_drewN ?_ _) | (with_reducible refine below_more _ _ _ ?_ ?_) | (with_reducible refine Below.alloc ?_ ?_ _) | (with_reducible refine Below.drew ?_) | (with_reducible refine Below.setCell ?_ ?_ _) | go_size))⟩

theorem walk (n ids : Int) (v : Value) (zs : List Dd) (w : World) (hz : DeedsIn w v zs) :
    Calls Try.prog 14 #[.int .i64 n, .int .i64 ids, v] w fun e w' => e = .returned (.bool true) ∧ Below w.heap.size w w' := by
  by_cases h : n < 1 ∨ 16 < n ∨ ids < 1 ∨ 16 < ids
  · exact walk_bad n ids v w h
  · obtain ⟨a, rfl⟩ := Int.eq_ofNat_of_zero_le (show 0 ≤ n by omega)
    obtain ⟨b, rfl⟩ := Int.eq_ofNat_of_zero_le (show 0 ≤ ids by omega)
    exact walk_ok a b v zs w hz (by omega) (by omega) (by omega) (by omega)
set_option maxRecDepth 100000 in
theorem lifted (os : Os) (started : os.Started) (H : Type) (enc : TypeId × Value → H) :
    ReturnsInHanded {} Try.checked os 14 .any (Rows.idsPlaysSpec.pre6 enc Try.prog Try.f14 Rows.idsPlaysRow.domain false) (Rows.idsPlaysSpec.post enc Try.prog Try.f14 false true false false) := by
  refine returnsInHanded_of_change (C := Try.checked) ownKnob0 started (by kernel_rfl) Try.func14
    (ChangeSpec.witness6 (enc := enc) (C := Try.checked) false ⟨#[], #[.int .i64 0, .int .i64 0, .slice none 0 0], []⟩ 8 (by kernel_rfl) (by kernel_rfl) (by kernel_rfl) (by kernel_rfl)) ?_
  intro W base args ds gs before hval0 hW _ _
  have hval : ∀ (j : Nat) t v, Try.f14.params[j]? = some t → args[j]? = some v → Value.okWide Try.prog W .any base t v := hval0
  have hread : ∀ t ∈ Try.f14.params.toList, Try.prog.readableRec t = true ∧ t < Try.prog.types.size := by
    rw [Try.params14]
    intro t ht
    simp only [List.mem_cons, List.not_mem_nil, or_false] at ht
    rcases ht with rfl | rfl | rfl
    all_goals exact ⟨by kernel_rfl, of_decide_eq_true (by kernel_rfl)⟩
  have hW' := hW
  obtain ⟨p, q, hA0, hV, -, -⟩ := hW'
  have hA : DataW.TrodAll enc Try.prog W 0 (fun _ => true) true Try.f14.params.toList args.toList ds p := hA0
  rw [Try.params14] at hA hval
  obtain ⟨v0, vs0, d0, ds0, p0, q0, hargs, rfl, rfl, h0, r0⟩ := trodAll_cons hA
  obtain ⟨v1, vs1, d1, ds1, p1, q1, rfl, rfl, rfl, h1, r1⟩ := trodAll_cons r0
  obtain ⟨v2, vs2, d2, ds2, p2, q2, rfl, rfl, rfl, h2, r2⟩ := trodAll_cons r1
  obtain ⟨rfl, rfl, rfl⟩ := trodAll_nil r2
  obtain rfl : args = #[v0, v1, v2] := by cases args; simp_all
  obtain ⟨rfl, rfl⟩ := trodVars_none hV
  have k0 := hval 0 3 v0 rfl rfl
  have k1 := hval 1 3 v1 rfl rfl
  have k2 := hval 2 65 v2 rfl rfl
  clear hval hval0 hA0 hV hA
  obtain ⟨a, rfl, rfl, rfl, _⟩ := open_int Try.underlying3 k0 h0
  obtain ⟨b, rfl, rfl, rfl, _⟩ := open_int Try.underlying3 k1 h1
  obtain ⟨zs, hz⟩ := deeds_in k2 h2
  exact (walk a b _ zs W hz).mono fun e W' ⟨he, hb⟩ => ⟨_, he, post_true rfl rfl hread rfl hW hb⟩

/-- IdsPlays: true for every input; the arguments stay. -/
theorem proved : Rows.IdsPlaysSaid :=
  OpenClaim.holds_of_wide 14 Try.f14 rfl rfl rfl rfl rfl rfl rfl ⟨rfl, rfl, rfl, rfl, rfl⟩ rfl rfl rfl rfl rfl (by kernel_rfl) Try.func14 (by kernel_rfl)
    (of_decide_eq_true (by kernel_rfl)) (by unfold Func.isWrapper; first | (rw [if_pos (by decide +kernel)]; kernel_rfl) | (rw [if_neg (by decide +kernel)]; exact ⟨rfl, rfl⟩))
    (fun os started H enc _ => lifted os started H enc)
end Go.Proofs.Ytjkbenghgbigdaa.idsPlays

/- The laws' arguments, opened: a case (a struct with slices), slices of headers, slices of bytes. -/
import Derived.Test.YtlhgbamajabnfaaRows
import Derived.Test.YtlhgbamajabnfaaCase
import Derived.WalkKit
import Derived.ProofKit
import Derived.OpenShut
import Derived.ChangeOld
import Derived.Below
import Derived.SizedLaws
import Derived.Deep.Slices
import Derived.Deep.Fields
import Derived.ChangeSame
namespace Go.Proofs.Ytlhgbamajabnfaa.Arg
open Go.ChangeShapes Go.WideShapes Go.Deep Go.RowKit Go.Proofs.Ytlhgbamajabnfaa.Gab Go.Proofs.Ytlhgbamajabnfaa.Fields Go.Proofs.Ytlhgbamajabnfaa.Case
open Go.Proofs.Ytlhgbamajabnfaa.Wr (InR)
set_option linter.unusedVariables false
theorem own : ownKnob Try.prog.godebug = none := by kernel_rfl
theorem laidOut : laidOutB Try.prog = true := by kernel_rfl
section
variable {H : Type} {enc : TypeId × Value → H} {P : Program} {w : World} {base : Nat} {spare : Nat → Bool} {held : Bool}
theorem open_slice_fields {t e : TypeId} {fs : Array Field} {fuel : Nat} {cs : List Value} {x : DataW H × List MemPlace} (ht : P.underlying t = some (.slice e)) (he : P.underlying e = some (.struct fs))
    (hone : oneCellFields P fs = true) (hC : P.cellsOf e = fs.size) (h : DataW.trod enc P w base spare held fuel t cs = some x) :
    (cs = [.slice none 0 0]) ∨
    ∃ (a : Addr) (len cap : Nat), cs = [.slice (some a) len cap] ∧ len ≤ cap ∧ cap ≤ maxLen ∧
      ∀ i, i < len → ∃ n, ∀ (j : Nat) (f : Field), fs[j]? = some f → ∃ (v : Value) (y : DataW H × List MemPlace), w.cell? (a.add (i * fs.size + j)) = some v ∧ DataW.trod enc P w base spare held n f.type [v] = some y := by
  rcases open_slice ht h with h0 | ⟨a, len, cap, m, n, D, Pl, hcs, hb, hl, hm, hmm, hx, hi⟩
  · exact .inl h0.1
  · have hlm : len ≤ m := by rw [hmm]; split <;> omega
    refine .inr ⟨a, len, cap, hcs, hl, hm, fun i him => ?_⟩
    obtain ⟨cs', hc, ht'⟩ := hi i (by omega)
    rw [hC] at hc
    obtain ⟨ys, n', hn', hy, hlen, hyl, hf⟩ := DataW.trod_struct he ht'
    obtain ⟨_, hcl, hat⟩ := World.cells?_some hc
    refine ⟨n', fun j f hj => ?_⟩
    obtain ⟨ho, hk⟩ := hone_of hone j f hj
    have hjl : j < fs.size := (Array.getElem?_eq_some_iff.1 hj).1
    have hcell := hat j hjl
    have hv : cs'[j]? = some (cs'[j]'(by omega)) := List.getElem?_eq_getElem (by omega)
    have h1 := hf j f hj
    rw [ho, hk] at h1
    have hone' : (cs'.drop j).take 1 = [cs'[j]'(by omega)] := by
      rw [List.drop_eq_getElem_cons (by omega)]
      rfl
    rw [hone'] at h1
    have hys : ys[j]? = some (ys[j]'(by omega)) := List.getElem?_eq_getElem (by omega)
    refine ⟨_, _, ?_, h1.trans hys⟩
    rw [← Go.Deep.add_add, hcell, hv]
theorem open_struct_fields {t : TypeId} {fs : Array Field} {fuel : Nat} {cs : List Value} {x : DataW H × List MemPlace} (ht : P.underlying t = some (.struct fs))
    (hone : oneCellFields P fs = true) (hC : P.cellsOf t = fs.size) (h : DataW.trod enc P w base spare held fuel t cs = some x) :
    cs.length = fs.size ∧ ∃ n, ∀ (j : Nat) (f : Field), fs[j]? = some f → ∃ (v : Value) (y : DataW H × List MemPlace), cs[j]? = some v ∧ DataW.trod enc P w base spare held n f.type [v] = some y := by
  obtain ⟨ys, n', hn', hy, hlen, hyl, hf⟩ := DataW.trod_struct ht h
  rw [hC] at hlen
  refine ⟨hlen, n', fun j f hj => ?_⟩
  obtain ⟨ho, hk⟩ := hone_of hone j f hj
  have hjl : j < fs.size := (Array.getElem?_eq_some_iff.1 hj).1
  have hv : cs[j]? = some (cs[j]'(by omega)) := List.getElem?_eq_getElem (by omega)
  have h1 := hf j f hj
  rw [ho, hk] at h1
  have hone' : (cs.drop j).take 1 = [cs[j]'(by omega)] := by
    rw [List.drop_eq_getElem_cons (by omega)]
    rfl
  rw [hone'] at h1
  have hys : ys[j]? = some (ys[j]'(by omega)) := List.getElem?_eq_getElem (by omega)
  exact ⟨_, _, hv, h1.trans hys⟩
end
section
variable {H : Type} {enc : TypeId × Value → H} {W : World} {base : Nat} {spare : Nat → Bool} {held : Bool} {fuel : Nat} {y : DataW H × List MemPlace}
theorem open_bytes {v : Value} (h : DataW.trod enc Try.prog W base spare held fuel 23 [v] = some y) :
    ∃ A n c xs, v = .slice A n c ∧ n ≤ c ∧ Rd .u8 W A n xs ∧ InR 256 xs := by
  rcases open_slice Try.underlying23 h with h0 | ⟨a, len, cap, m, n, D, Pl, hcs, hb, hl, hm, hmm, hx, hi⟩
  · have h1 := h0.1
    simp at h1
    subst h1
    exact ⟨none, 0, 0, [], rfl, Nat.le_refl _, Rd.nil _ _ _, fun x hx => by cases hx⟩
  · simp at hcs
    subst hcs
    have hlm : len ≤ m := by rw [hmm]; split <;> omega
    have hC : Try.prog.cellsOf 5 = 1 := by kernel_rfl
    have hall : ∀ i, i < len → ∃ z : Int, (0 ≤ z ∧ z < 256) ∧ W.cell? (a.add i) = some (.int .u8 z) := by
      intro i hil
      obtain ⟨cs', hc, ht'⟩ := hi i (by omega)
      rw [hC] at hc
      obtain ⟨n0, e0, _, w0⟩ := DataW.trod_int Try.underlying5 ht'
      obtain ⟨_, hcl, hat⟩ := World.cells?_some hc
      have hcell := hat 0 (by decide)
      subst e0
      rw [Nat.mul_one, Go.Deep.add_add] at hcell
      simp at hcell
      refine ⟨n0, ?_, hcell⟩
      simp [Lit.wf, IntKind.min, IntKind.max, IntKind.bits, IntKind.signed] at w0
      exact ⟨by omega, by omega⟩
    refine ⟨_, _, _, (List.range len).map fun i => if h : i < len then (hall i h).choose else 0, rfl, hl, ⟨by simp, by unfold maxLen at hm; omega, fun _ => ⟨a, rfl, fun j hj => ?_⟩⟩, ?_⟩
    · simp only [List.getD_eq_getElem?_getD, List.getElem?_map, List.getElem?_range hj, Option.map_some, Option.getD_some, dif_pos hj]
      exact (hall j hj).choose_spec.2
    · intro z hz
      obtain ⟨i, hi', rfl⟩ := List.mem_map.1 hz
      have hi' : i < len := by simpa using hi'
      rw [dif_pos hi']
      exact (hall i hi').choose_spec.1
theorem open_heads {v : Value} (h : DataW.trod enc Try.prog W base spare held fuel 22 [v] = some y) :
    ∃ A n c l, v = .slice A n c ∧ n ≤ c ∧ n ≤ 9223372036854775807 ∧ Heads W A n l := by
  rcases open_slice_fields Try.underlying22 Try.underlying54 (by kernel_rfl) (by kernel_rfl) h with h1 | ⟨a, len, cap, hcs, hl, hm, hi⟩
  · simp at h1
    subst h1
    exact ⟨none, 0, 0, [], rfl, Nat.le_refl _, by omega, rfl, fun x hx => (by cases hx), fun h => absurd h (by decide)⟩
  · simp at hcs
    subst hcs
    have hall : ∀ i, i < len → ∃ z : Head, z.Ok ∧ ∀ k, k < 7 → W.cell? (a.add (i * 7 + k)) = some (z.vals.getD k undef) := by
      intro i hil
      obtain ⟨n, hf⟩ := hi i hil
      obtain ⟨v0, y0, c0, t0⟩ := hf 0 _ rfl
      obtain ⟨v1, y1, c1, t1⟩ := hf 1 _ rfl
      obtain ⟨v2, y2, c2, t2⟩ := hf 2 _ rfl
      obtain ⟨v3, y3, c3, t3⟩ := hf 3 _ rfl
      obtain ⟨v4, y4, c4, t4⟩ := hf 4 _ rfl
      obtain ⟨v5, y5, c5, t5⟩ := hf 5 _ rfl
      obtain ⟨v6, y6, c6, t6⟩ := hf 6 _ rfl
      obtain ⟨n0, e0, _, w0⟩ := DataW.trod_int (k := .u8) (by kernel_rfl) t0
      obtain ⟨n1, e1, _, w1⟩ := DataW.trod_int (k := .u32) (by kernel_rfl) t1
      obtain ⟨n2, e2, _, w2⟩ := DataW.trod_int (k := .u32) (by kernel_rfl) t2
      obtain ⟨n3, e3, _, w3⟩ := DataW.trod_int (k := .u16) (by kernel_rfl) t3
      obtain ⟨n4, e4, _, w4⟩ := DataW.trod_int (k := .u16) (by kernel_rfl) t4
      obtain ⟨n5, e5, _, w5⟩ := DataW.trod_int (k := .u32) (by kernel_rfl) t5
      obtain ⟨n6, e6, _, w6⟩ := DataW.trod_int (k := .u32) (by kernel_rfl) t6
      simp at e0 e1 e2 e3 e4 e5 e6
      subst e0 e1 e2 e3 e4 e5 e6
      simp [Lit.wf, IntKind.min, IntKind.max, IntKind.bits, IntKind.signed] at w0 w1 w2 w3 w4 w5 w6
      refine ⟨⟨n0, n1, n2, n3, n4, n5, n6⟩, ⟨?_, ?_, ?_, ?_, ?_, ?_, ?_⟩, fun k hk => ?_⟩
      · exact ⟨by show 0 ≤ n0; omega, by show n0 < 256; omega⟩
      · exact ⟨by show 0 ≤ n1; omega, by show n1 < 4294967296; omega⟩
      · exact ⟨by show 0 ≤ n2; omega, by show n2 < 4294967296; omega⟩
      · exact ⟨by show 0 ≤ n3; omega, by show n3 < 65536; omega⟩
      · exact ⟨by show 0 ≤ n4; omega, by show n4 < 65536; omega⟩
      · exact ⟨by show 0 ≤ n5; omega, by show n5 < 4294967296; omega⟩
      · exact ⟨by show 0 ≤ n6; omega, by show n6 < 4294967296; omega⟩
      · match k, hk with
        | 0, _ => exact c0
        | 1, _ => exact c1
        | 2, _ => exact c2
        | 3, _ => exact c3
        | 4, _ => exact c4
        | 5, _ => exact c5
        | 6, _ => exact c6
    refine ⟨_, _, _, (List.range len).map fun i => if h : i < len then (hall i h).choose else ⟨0, 0, 0, 0, 0, 0, 0⟩, rfl, hl, by unfold maxLen at hm; omega, by simp, ?_, fun _ => ⟨a, rfl, fun j hj k hk => ?_⟩⟩
    · intro z hz
      obtain ⟨i, hi', rfl⟩ := List.mem_map.1 hz
      have hi' : i < len := by simpa using hi'
      rw [dif_pos hi']
      exact (hall i hi').choose_spec.1
    · simp only [List.getD_eq_getElem?_getD, List.getElem?_map, List.getElem?_range hj, Option.map_some, Option.getD_some, dif_pos hj]
      have := (hall j hj).choose_spec.2 k hk
      simpa only [List.getD_eq_getElem?_getD] using this
/-- An opened case. -/
structure CaseAt (W : World) (x : Cs) (heads : List Head) (first bytes : List Int) : Prop where
  hd : Heads W x.HA x.hn heads
  fi : Rd .u8 W x.FA x.fn first
  fiR : InR 256 first
  by_ : Rd .u8 W x.BA x.bn bytes
  byR : InR 256 bytes
  byC : x.bn ≤ x.bc
  hdN : x.hn ≤ 9223372036854775807
  dead : i64r x.dead
  spoilt : i64r x.spoilt
theorem open_case {v : Value} (h : DataW.trod enc Try.prog W base spare held fuel 25 v.cells.toList = some y) : ∃ x heads first bytes, v = .agg x.cells ∧ CaseAt W x heads first bytes := by
  obtain ⟨hlen, n, hf⟩ := open_struct_fields Try.underlying25 (by kernel_rfl) (by kernel_rfl) h
  have hlen : v.cells.toList.length = 8 := hlen
  obtain ⟨v0, y0, c0, t0⟩ := hf 0 _ rfl
  obtain ⟨v1, y1, c1, t1⟩ := hf 1 _ rfl
  obtain ⟨v2, y2, c2, t2⟩ := hf 2 _ rfl
  obtain ⟨v3, y3, c3, t3⟩ := hf 3 _ rfl
  obtain ⟨v4, y4, c4, t4⟩ := hf 4 _ rfl
  obtain ⟨v5, y5, c5, t5⟩ := hf 5 _ rfl
  obtain ⟨v6, y6, c6, t6⟩ := hf 6 _ rfl
  obtain ⟨v7, y7, c7, t7⟩ := hf 7 _ rfl
  obtain ⟨n0, e0, _, w0⟩ := DataW.trod_int (k := .i64) (by kernel_rfl) t0
  obtain ⟨n1, e1, _, w1⟩ := DataW.trod_int (k := .i64) (by kernel_rfl) t1
  obtain ⟨n2, e2, _, w2⟩ := DataW.trod_int (k := .i64) (by kernel_rfl) t2
  obtain ⟨HA, hn, hc, hl, e3, hnc, hn63, hH⟩ := open_heads t3
  obtain ⟨FA, fn, fc, fl, e4, hfc, hF, hFr⟩ := open_bytes t4
  obtain ⟨n5, e5, _, w5⟩ := DataW.trod_int (k := .i64) (by kernel_rfl) t5
  obtain ⟨n6, e6, _, w6⟩ := DataW.trod_int (k := .i64) (by kernel_rfl) t6
  obtain ⟨BA, bn, bc, bl, e7, hbc, hB, hBr⟩ := open_bytes t7
  simp at e0 e1 e2 e5 e6
  subst e0 e1 e2 e3 e4 e5 e6 e7
  simp [Lit.wf, IntKind.min, IntKind.max, IntKind.bits, IntKind.signed] at w5 w6
  refine ⟨⟨n0, n1, n2, n5, n6, HA, hn, hc, FA, fn, fc, BA, bn, bc⟩, hl, fl, bl, ?_, hH, hF, hFr, hB, hBr, hbc, hn63, ⟨by show -9223372036854775808 ≤ n5; omega, by show n5 < 9223372036854775808; omega⟩, ⟨by show -9223372036854775808 ≤ n6; omega, by show n6 < 9223372036854775808; omega⟩⟩
  cases v with
  | agg a =>
    simp only [Value.cells] at hlen c0 c1 c2 c3 c4 c5 c6 c7
    refine congrArg Value.agg ?_
    apply Array.ext'
    apply List.ext_getElem?
    intro i
    match i with
    | 0 => exact c0
    | 1 => exact c1
    | 2 => exact c2
    | 3 => exact c3
    | 4 => exact c4
    | 5 => exact c5
    | 6 => exact c6
    | 7 => exact c7
    | i + 8 =>
      rw [List.getElem?_eq_none (by omega), List.getElem?_eq_none]
      show 8 ≤ _
      omega
  | _ => exact absurd hlen (by simp [Value.cells])
end
end Go.Proofs.Ytlhgbamajabnfaa.Arg

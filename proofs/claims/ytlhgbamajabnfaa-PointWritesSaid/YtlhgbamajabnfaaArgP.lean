/- The laws' arguments, opened: a point (a struct with slices of uint32). -/
import Derived.Test.YtlhgbamajabnfaaArg
import Derived.Test.YtlhgbamajabnfaaPoint1
namespace Go.Proofs.Ytlhgbamajabnfaa.ArgP
open Go.ChangeShapes Go.WideShapes Go.Deep Go.RowKit Go.Proofs.Ytlhgbamajabnfaa.Gab Go.Proofs.Ytlhgbamajabnfaa.Arg Go.Proofs.Ytlhgbamajabnfaa.Point1
open Go.Proofs.Ytlhgbamajabnfaa.Wr (InR)
set_option linter.unusedVariables false
section
variable {H : Type} {enc : TypeId × Value → H} {W : World} {base : Nat} {spare : Nat → Bool} {held : Bool} {fuel : Nat} {y : DataW H × List MemPlace}
theorem open_u32s {v : Value} (h : DataW.trod enc Try.prog W base spare held fuel 71 [v] = some y) :
    ∃ A n c xs, v = .slice A n c ∧ n ≤ c ∧ Rd .u32 W A n xs ∧ InR 4294967296 xs := by
  rcases open_slice Try.underlying71 h with h0 | ⟨a, len, cap, m, n, D, Pl, hcs, hb, hl, hm, hmm, hx, hi⟩
  · have h1 := h0.1
    simp at h1
    subst h1
    exact ⟨none, 0, 0, [], rfl, Nat.le_refl _, Rd.nil _ _ _, fun x hx => by cases hx⟩
  · simp at hcs
    subst hcs
    have hlm : len ≤ m := by rw [hmm]; split <;> omega
    have hC : Try.prog.cellsOf 51 = 1 := by kernel_rfl
    have hall : ∀ i, i < len → ∃ z : Int, (0 ≤ z ∧ z < 4294967296) ∧ W.cell? (a.add i) = some (.int .u32 z) := by
      intro i hil
      obtain ⟨cs', hc, ht'⟩ := hi i (by omega)
      rw [hC] at hc
      obtain ⟨n0, e0, _, w0⟩ := DataW.trod_int Try.underlying51 ht'
      obtain ⟨_, hcl, hat⟩ := World.cells?_some hc
      have hcell := hat 0 (by decide)
      subst e0
      rw [Nat.mul_one, Go.Deep.add_add] at hcell
      simp at hcell
      refine ⟨n0, ?_, hcell⟩
      simp [Lit.wf, IntKind.min, IntKind.max, IntKind.bits, IntKind.signed] at w0
      exact ⟨by omega, by omega⟩
    refine ⟨_, _, _, (List.range len).map fun i => if h : i < len then (hall i h).choose else 0, rfl, hl, ⟨by simp, by unfold maxLen at hm; omega, fun _ => ⟨a, rfl, fun j hj => ?_⟩⟩, ?_⟩
    · simp only [List.getD_eq_getElem?_getD, List.getElem?_map, List.getElem?_range hj, Option.map_some, Option.getD_some, dif_pos hj]
      exact (hall j hj).choose_spec.2
    · intro z hz
      obtain ⟨i, hi', rfl⟩ := List.mem_map.1 hz
      have hi' : i < len := by simpa using hi'
      rw [dif_pos hi']
      exact (hall i hi').choose_spec.1
theorem open_point {v : Value} (h : DataW.trod enc Try.prog W base spare held fuel 73 v.cells.toList = some y) : ∃ x m er, v = .agg x.cells ∧ PtAt W x m er := by
  obtain ⟨hlen, n, hf⟩ := open_struct_fields Try.underlying73 (by kernel_rfl) (by kernel_rfl) h
  have hlen : v.cells.toList.length = 4 := hlen
  obtain ⟨v0, y0, c0, t0⟩ := hf 0 _ rfl
  obtain ⟨v1, y1, c1, t1⟩ := hf 1 _ rfl
  obtain ⟨v2, y2, c2, t2⟩ := hf 2 _ rfl
  obtain ⟨v3, y3, c3, t3⟩ := hf 3 _ rfl
  obtain ⟨n0, e0, _, w0⟩ := DataW.trod_int (k := .u32) (by kernel_rfl) t0
  obtain ⟨n1, e1, _, w1⟩ := DataW.trod_int (k := .u32) (by kernel_rfl) t1
  obtain ⟨MA, mn, mc, ml, e2, hmc, hM, hMr⟩ := open_u32s t2
  obtain ⟨EA, en, ec, el, e3, hec, hE, hEr⟩ := open_u32s t3
  simp at e0 e1
  subst e0 e1 e2 e3
  simp [Lit.wf, IntKind.min, IntKind.max, IntKind.bits, IntKind.signed] at w0 w1
  refine ⟨⟨n0, n1, MA, mn, mc, EA, en, ec⟩, ml, el, ?_, ⟨by show 0 ≤ n0; omega, by show n0 < 4294967296; omega⟩, ⟨by show 0 ≤ n1; omega, by show n1 < 4294967296; omega⟩, hM, hMr, hmc, hE, hEr, hec⟩
  cases v with
  | agg a =>
    simp only [Value.cells] at hlen c0 c1 c2 c3
    refine congrArg Value.agg ?_
    apply Array.ext'
    apply List.ext_getElem?
    intro i
    match i with
    | 0 => exact c0
    | 1 => exact c1
    | 2 => exact c2
    | 3 => exact c3
    | i + 4 =>
      rw [List.getElem?_eq_none (by omega), List.getElem?_eq_none]
      show 4 ≤ _
      omega
  | _ => exact absurd hlen (by simp [Value.cells])
end
end Go.Proofs.Ytlhgbamajabnfaa.ArgP

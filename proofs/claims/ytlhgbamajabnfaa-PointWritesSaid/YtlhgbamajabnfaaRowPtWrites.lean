/- PointWrites holds of the given program: for every input (any numbers, any slice of points that can be read) the law returns true and leaves its arguments as they were. No further condition. -/
import Derived.Test.YtlhgbamajabnfaaRows
import Derived.Test.YtlhgbamajabnfaaArgP
import Derived.Test.YtlhgbamajabnfaaPtWrites
namespace Go.Proofs.Ytlhgbamajabnfaa.PointWritesRow
open Go.Proofs.Ytlhgbamajabnfaa.Wr (InR)
open Go.ChangeShapes Go.WideShapes Go.ChangeAt Go.RowKit Go.Proofs.Ytlhgbamajabnfaa.Gab Go.Proofs.Ytlhgbamajabnfaa.Arg Go.Proofs.Ytlhgbamajabnfaa.ArgP Go.Proofs.Ytlhgbamajabnfaa.Point1 Go.Proofs.Ytlhgbamajabnfaa.PtMany Go.Proofs.Ytlhgbamajabnfaa.PtWrites
theorem law (chips : Int) (A : Option Addr) (n c : Nat) (dead : Int) (l : List (Pt × List Int × List Int)) (W : World) (hA : Pts W A n l) (hd : dead < 9223372036854775808) : Calls Try.prog 8 #[.int .i64 chips, .slice A n c, .int .i64 dead] W fun e w' => e = .returned (.bool true) ∧ Fr None_ W w' := by
  by_cases h : 6 < n
  · exact great_calls chips A n c dead W h
  · exact writes_calls chips A n c dead l W hA (by omega) hd
section
variable {H : Type} {enc : TypeId × Value → H} {W : World} {base : Nat} {spare : Nat → Bool} {held : Bool} {fuel : Nat} {y : DataW H × List MemPlace}
theorem open_pts {v : Value} (h : DataW.trod enc Try.prog W base spare held fuel 90 [v] = some y) :
    ∃ A n c l, v = .slice A n c ∧ Pts W A n l := by
  rcases open_slice_fields Try.underlying90 Try.underlying73 (by kernel_rfl) (by kernel_rfl) h with h1 | ⟨a, len, cap, hcs, hl, hm, hi⟩
  · simp at h1
    subst h1
    exact ⟨none, 0, 0, [], rfl, rfl, fun x hx => (by cases hx), fun h => absurd h (by decide)⟩
  · simp at hcs
    subst hcs
    have hall : ∀ i, i < len → ∃ z : Pt × List Int × List Int, PtAt W z.1 z.2.1 z.2.2 ∧ ∀ k, k < 4 → W.cell? (a.add (i * 4 + k)) = some (z.1.cells.getD k undef) := by
      intro i hil
      obtain ⟨n, hf⟩ := hi i hil
      obtain ⟨v0, y0, c0, t0⟩ := hf 0 _ rfl
      obtain ⟨v1, y1, c1, t1⟩ := hf 1 _ rfl
      obtain ⟨v2, y2, c2, t2⟩ := hf 2 _ rfl
      obtain ⟨v3, y3, c3, t3⟩ := hf 3 _ rfl
      obtain ⟨n0, e0, _, w0⟩ := DataW.trod_int (k := .u32) (by kernel_rfl) t0
      obtain ⟨n1, e1, _, w1⟩ := DataW.trod_int (k := .u32) (by kernel_rfl) t1
      obtain ⟨MA, mn, mc, ml, e2, hmc, hM, hMr⟩ := open_u32s t2
      obtain ⟨EA, en, ec, el, e3, hec, hE, hEr⟩ := open_u32s t3
      simp at e0 e1
      subst e0 e1 e2 e3
      simp [Lit.wf, IntKind.min, IntKind.max, IntKind.bits, IntKind.signed] at w0 w1
      refine ⟨(⟨n0, n1, MA, mn, mc, EA, en, ec⟩, ml, el), ⟨⟨by show 0 ≤ n0; omega, by show n0 < 4294967296; omega⟩, ⟨by show 0 ≤ n1; omega, by show n1 < 4294967296; omega⟩, hM, hMr, hmc, hE, hEr, hec⟩, fun k hk => ?_⟩
      match k, hk with
      | 0, _ => exact c0
      | 1, _ => exact c1
      | 2, _ => exact c2
      | 3, _ => exact c3
    refine ⟨_, _, _, (List.range len).map fun i => if h : i < len then (hall i h).choose else noPt, rfl, by simp, ?_, fun _ => ⟨a, rfl, fun j hj k hk => ?_⟩⟩
    · intro z hz
      obtain ⟨i, hi', rfl⟩ := List.mem_map.1 hz
      have hi' : i < len := by simpa using hi'
      rw [dif_pos hi']
      exact (hall i hi').choose_spec.1
    · simp only [List.getD_eq_getElem?_getD, List.getElem?_map, List.getElem?_range hj, Option.map_some, Option.getD_some, dif_pos hj]
      exact (hall j hj).choose_spec.2 k hk
end
theorem wf64_lt {n : Int} (h : (Lit.int .i64 n).wf = true) : n < 9223372036854775808 := by
  simp [Lit.wf, IntKind.min, IntKind.max, IntKind.bits, IntKind.signed] at h
  omega
set_option maxRecDepth 100000 in
theorem lifted (os : Os) (started : os.Started) (H : Type) (enc : TypeId × Value → H) :
    ReturnsInHanded {} Try.checked os 8 .any (Rows.pointWritesSpec.pre6 enc Try.prog Try.f8 Rows.pointWritesRow.domain false) (Rows.pointWritesSpec.post enc Try.prog Try.f8 false true false false) := by
  refine returnsInHanded_of_change_sized (C := Try.checked) own started (by kernel_rfl) Try.func8
    (ChangeSpec.witness6 (enc := enc) (C := Try.checked) false ⟨#[], #[.int .i64 0, .slice none 0 0, .int .i64 0], []⟩ 8 (by kernel_rfl) (by kernel_rfl) (by kernel_rfl) (by kernel_rfl)) ?_
  intro W base args ds gs before hval0 hW hcnd hsz0 _
  have hval : ∀ (j : Nat) t v, Try.f8.params[j]? = some t → args[j]? = some v → Value.okWide Try.prog W .any base t v := hval0
  have hW' := hW
  obtain ⟨p, q, hA0, hV, rfl, hfz, hnd⟩ := hW
  have hA : DataW.TrodAll enc Try.prog W 0 (fun _ => true) true Try.f8.params.toList args.toList ds p := hA0
  rw [Try.params8] at hA hval
  obtain ⟨v0, vs0, d0, ds0, p0, q0, hargs, rfl, rfl, h0, r0⟩ := trodAll_cons hA
  obtain ⟨v1, vs1, d1, ds1, p1, q1, rfl, rfl, rfl, h1, r1⟩ := trodAll_cons r0
  obtain ⟨v2, vs2, d2, ds2, p2, q2, rfl, rfl, rfl, h2, r2⟩ := trodAll_cons r1
  obtain ⟨rfl, rfl, rfl⟩ := trodAll_nil r2
  obtain rfl : args = #[v0, v1, v2] := by cases args; simp_all
  obtain ⟨rfl, rfl⟩ := trodVars_none hV
  have k0 := h0
  have k1 := h1
  have k2 := h2
  have lt0 : ∀ x ∈ p0, x.block < W.heap.size := by obtain ⟨m, hm⟩ := k0; exact DataW.trod_lt m _ _ _ hm
  have lt1 : ∀ x ∈ p1, x.block < W.heap.size := by obtain ⟨m, hm⟩ := k1; exact DataW.trod_lt m _ _ _ hm
  have lt2 : ∀ x ∈ p2, x.block < W.heap.size := by obtain ⟨m, hm⟩ := k2; exact DataW.trod_lt m _ _ _ hm
  obtain ⟨N, rfl, _⟩ := open_int Try.underlying3 (hval 0 3 v0 rfl rfl) h0
  obtain ⟨K, rfl, _, _, wK⟩ := open_int Try.underlying3 (hval 2 3 v2 rfl rfl) h2
  obtain ⟨a1, len1, cap1, rfl⟩ := okWide_slice Try.underlying90 (hval 1 90 v1 rfl rfl)
  obtain ⟨fuel1, hf1⟩ := h1
  obtain ⟨A, n, c, l, e0, hA⟩ := open_pts hf1
  injection e0 with e1 e2 e3
  subst e1 e2 e3
  clear hA0 hval0 hsz0
  refine (law N _ _ _ K l W hA (wf64_lt wK)).mono fun e W' ⟨he, hfr⟩ => ?_
  subst he
  have bel := hfr.below
  exact ⟨_, rfl, _, _, _, [], _, [], hW', trodAll_mk1 (shut_bool Try.underlying4 _), (trodAll_cons_mk (Below.trod laidOut (by kernel_rfl) (of_decide_eq_true (by kernel_rfl)) k0 bel lt0) (trodAll_cons_mk (Below.trod laidOut (by kernel_rfl) (of_decide_eq_true (by kernel_rfl)) k1 bel lt1) (trodAll_cons_mk (Below.trod laidOut (by kernel_rfl) (of_decide_eq_true (by kernel_rfl)) k2 bel lt2) trodAll_mk0))), rfl, bel.frame _, fun h => by cases h⟩
theorem over : Rows.pointWritesRow.holds Try.pinned (OpenSpec.ofChange Rows.pointWritesSpec) :=
  OpenClaim.holds_of_wide 8 Try.f8 rfl rfl rfl rfl rfl rfl rfl ⟨rfl, rfl, rfl, rfl, rfl⟩ rfl rfl rfl rfl rfl (by kernel_rfl) Try.func8 (by kernel_rfl)
    (of_decide_eq_true (by kernel_rfl)) (by unfold Func.isWrapper; first | (rw [if_pos (by decide +kernel)]; kernel_rfl) | (rw [if_neg (by decide +kernel)]; exact ⟨rfl, rfl⟩))
    (fun os started H enc _ => lifted os started H enc)
end Go.Proofs.Ytlhgbamajabnfaa.PointWritesRow
namespace Go.Proofs.Ytlhgbamajabnfaa
theorem pointWrites_holds : Rows.PointWritesSaid := PointWritesRow.over
#print axioms pointWrites_holds
end Go.Proofs.Ytlhgbamajabnfaa

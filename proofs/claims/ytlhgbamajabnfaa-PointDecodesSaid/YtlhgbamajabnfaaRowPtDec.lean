/- PointDecodes holds of the given program: for every input (any bytes that can be read, any two numbers) the law returns true and leaves its arguments as they were. No further condition. -/
import Derived.Test.YtlhgbamajabnfaaRows
import Derived.Test.YtlhgbamajabnfaaArgP
import Derived.Test.YtlhgbamajabnfaaPtDec
namespace Go.Proofs.Ytlhgbamajabnfaa.PointDecodesRow
open Go.Proofs.Ytlhgbamajabnfaa.Wr (InR)
open Go.ChangeShapes Go.WideShapes Go.ChangeAt Go.RowKit Go.Proofs.Ytlhgbamajabnfaa.Gab Go.Proofs.Ytlhgbamajabnfaa.Arg Go.Proofs.Ytlhgbamajabnfaa.ArgP Go.Proofs.Ytlhgbamajabnfaa.Point1
theorem law (A : Option Addr) (n c : Nat) (bs : List Int) (N K : Int) (W : World) (hA : Rd .u8 W A n bs) (hr : InR 256 bs) (hc : n ≤ c) (hN : 0 ≤ N ∧ N < 4294967296) (hK : 0 ≤ K ∧ K < 4294967296) : Calls Try.prog 7 #[.slice A n c, .int .u32 N, .int .u32 K] W fun e w' => e = .returned (.bool true) ∧ Fr None_ W w' := by
  by_cases h : 2000 < n
  · exact PtDec.great_calls A n c N K W h
  · exact PtDec.dec_calls A n c bs N K W hA hr hc (by omega) hN hK
theorem wf32 {n : Int} (h : (Lit.int .u32 n).wf = true) : 0 ≤ n ∧ n < 4294967296 := by
  simp [Lit.wf, IntKind.min, IntKind.max, IntKind.bits, IntKind.signed] at h
  omega
set_option maxRecDepth 100000 in
theorem lifted (os : Os) (started : os.Started) (H : Type) (enc : TypeId × Value → H) :
    ReturnsInHanded {} Try.checked os 7 .any (Rows.pointDecodesSpec.pre6 enc Try.prog Try.f7 Rows.pointDecodesRow.domain false) (Rows.pointDecodesSpec.post enc Try.prog Try.f7 false true false false) := by
  refine returnsInHanded_of_change_sized (C := Try.checked) own started (by kernel_rfl) Try.func7
    (ChangeSpec.witness6 (enc := enc) (C := Try.checked) false ⟨#[], #[.slice none 0 0, .int .u32 0, .int .u32 0], []⟩ 8 (by kernel_rfl) (by kernel_rfl) (by kernel_rfl) (by kernel_rfl)) ?_
  intro W base args ds gs before hval0 hW hcnd hsz0 _
  have hval : ∀ (j : Nat) t v, Try.f7.params[j]? = some t → args[j]? = some v → Value.okWide Try.prog W .any base t v := hval0
  have hW' := hW
  obtain ⟨p, q, hA0, hV, rfl, hfz, hnd⟩ := hW
  have hA : DataW.TrodAll enc Try.prog W 0 (fun _ => true) true Try.f7.params.toList args.toList ds p := hA0
  rw [Try.params7] at hA hval
  obtain ⟨v0, vs0, d0, ds0, p0, q0, hargs, rfl, rfl, h0, r0⟩ := trodAll_cons hA
  obtain ⟨v1, vs1, d1, ds1, p1, q1, rfl, rfl, rfl, h1, r1⟩ := trodAll_cons r0
  obtain ⟨v2, vs2, d2, ds2, p2, q2, rfl, rfl, rfl, h2, r2⟩ := trodAll_cons r1
  obtain ⟨rfl, rfl, rfl⟩ := trodAll_nil r2
  obtain rfl : args = #[v0, v1, v2] := by cases args; simp_all
  obtain ⟨rfl, rfl⟩ := trodVars_none hV
  have k0 := h0
  have k1 := h1
  have k2 := h2
  have lt0 : ∀ x ∈ p0, x.block < W.heap.size := by obtain ⟨m, hm⟩ := k0; exact DataW.trod_lt m _ _ _ hm
  have lt1 : ∀ x ∈ p1, x.block < W.heap.size := by obtain ⟨m, hm⟩ := k1; exact DataW.trod_lt m _ _ _ hm
  have lt2 : ∀ x ∈ p2, x.block < W.heap.size := by obtain ⟨m, hm⟩ := k2; exact DataW.trod_lt m _ _ _ hm
  obtain ⟨N, rfl, _, _, wN⟩ := open_int Try.underlying51 (hval 1 51 v1 rfl rfl) h1
  obtain ⟨K, rfl, _, _, wK⟩ := open_int Try.underlying51 (hval 2 51 v2 rfl rfl) h2
  obtain ⟨a0, len0, cap0, rfl⟩ := okWide_slice Try.underlying23 (hval 0 23 v0 rfl rfl)
  obtain ⟨fuel0, hf0⟩ := h0
  obtain ⟨A, n, c, bs, e0, hc, hA, hr⟩ := open_bytes hf0
  injection e0 with e1 e2 e3
  subst e1 e2 e3
  clear hA0 hval0 hsz0
  refine (law _ _ _ bs N K W hA hr hc (wf32 wN) (wf32 wK)).mono fun e W' ⟨he, hfr⟩ => ?_
  subst he
  have bel := hfr.below
  exact ⟨_, rfl, _, _, _, [], _, [], hW', trodAll_mk1 (shut_bool Try.underlying4 _), (trodAll_cons_mk (Below.trod laidOut (by kernel_rfl) (of_decide_eq_true (by kernel_rfl)) k0 bel lt0) (trodAll_cons_mk (Below.trod laidOut (by kernel_rfl) (of_decide_eq_true (by kernel_rfl)) k1 bel lt1) (trodAll_cons_mk (Below.trod laidOut (by kernel_rfl) (of_decide_eq_true (by kernel_rfl)) k2 bel lt2) trodAll_mk0))), rfl, bel.frame _, fun h => by cases h⟩
theorem over : Rows.pointDecodesRow.holds Try.pinned (OpenSpec.ofChange Rows.pointDecodesSpec) :=
  OpenClaim.holds_of_wide 7 Try.f7 rfl rfl rfl rfl rfl rfl rfl ⟨rfl, rfl, rfl, rfl, rfl⟩ rfl rfl rfl rfl rfl (by kernel_rfl) Try.func7 (by kernel_rfl)
    (of_decide_eq_true (by kernel_rfl)) (by unfold Func.isWrapper; first | (rw [if_pos (by decide +kernel)]; kernel_rfl) | (rw [if_neg (by decide +kernel)]; exact ⟨rfl, rfl⟩))
    (fun os started H enc _ => lifted os started H enc)
end Go.Proofs.Ytlhgbamajabnfaa.PointDecodesRow
namespace Go.Proofs.Ytlhgbamajabnfaa
theorem pointDecodes_holds : Rows.PointDecodesSaid := PointDecodesRow.over
#print axioms pointDecodes_holds
end Go.Proofs.Ytlhgbamajabnfaa

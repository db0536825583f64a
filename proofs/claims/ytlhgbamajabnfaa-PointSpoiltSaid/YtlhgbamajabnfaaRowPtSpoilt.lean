/- PointSpoilt holds of the given program: for every input (any numbers, any two points and bytes that can be read) the law returns true and leaves its argument as it was. No further condition. -/
import Derived.Test.YtlhgbamajabnfaaRows
import Derived.Test.YtlhgbamajabnfaaArgP
import Derived.Test.YtlhgbamajabnfaaPtSpoilt
namespace Go.Proofs.Ytlhgbamajabnfaa.PointSpoiltRow
open Go.Proofs.Ytlhgbamajabnfaa.Wr (InR)
open Go.ChangeShapes Go.WideShapes Go.ChangeAt Go.RowKit Go.Proofs.Ytlhgbamajabnfaa.Gab Go.Proofs.Ytlhgbamajabnfaa.Arg Go.Proofs.Ytlhgbamajabnfaa.ArgP Go.Proofs.Ytlhgbamajabnfaa.Point1 Go.Proofs.Ytlhgbamajabnfaa.PtSpoilt
theorem law (chips : Int) (x y : Pt) (at_ : Int) (CA : Option Addr) (cn cc : Nat) (W : World) {m er m' er' cs : List Int} (hx : PtAt W x m er) (hy : PtAt W y m' er') (hC : Rd .u8 W CA cn cs) (hCr : InR 256 cs) (hcc : cn ≤ cc) : Calls Try.prog 9 #[.agg (Sp.mk chips x y at_ CA cn cc).cells] W fun e w' => e = .returned (.bool true) ∧ Fr None_ W w' :=
  spoilt_calls chips x y at_ CA cn cc m er m' er' cs W hx hy hC hCr hcc
section
variable {H : Type} {enc : TypeId × Value → H} {W : World} {base : Nat} {spare : Nat → Bool} {held : Bool} {fuel : Nat} {z : DataW H × List MemPlace}
theorem open_cells {l : List Value} (h : DataW.trod enc Try.prog W base spare held fuel 73 l = some z) : ∃ x m er, l = x.cells.toList ∧ PtAt W x m er := by
  obtain ⟨x, m, er, e, hx⟩ := open_point (v := .agg ⟨l⟩) h
  refine ⟨x, m, er, ?_, hx⟩
  injection e with e
  rw [← e]
theorem sp_cells (l : List Value) (h : l.length = 11) : ∃ c0 c1 c2 c3 c4 c5 c6 c7 c8 c9 c10, l = [c0, c1, c2, c3, c4, c5, c6, c7, c8, c9, c10] := by
  match l, h with
  | [c0, c1, c2, c3, c4, c5, c6, c7, c8, c9, c10], _ => exact ⟨c0, c1, c2, c3, c4, c5, c6, c7, c8, c9, c10, rfl⟩
theorem open_sp {v : Value} (h : DataW.trod enc Try.prog W base spare held fuel 98 v.cells.toList = some z) :
    ∃ chips x y at_ CA cn cc m er m' er' cs, v = .agg (Sp.mk chips x y at_ CA cn cc).cells ∧ PtAt W x m er ∧ PtAt W y m' er' ∧ Rd .u8 W CA cn cs ∧ InR 256 cs ∧ cn ≤ cc := by
  obtain ⟨ys, n, _, _, hlen, hyl, hf⟩ := DataW.trod_struct Try.underlying98 h
  have eC : Try.prog.cellsOf 98 = 11 := by kernel_rfl
  have eI : Try.prog.cellsOf 3 = 1 := by kernel_rfl
  have eP : Try.prog.cellsOf 73 = 4 := by kernel_rfl
  have eB : Try.prog.cellsOf 23 = 1 := by kernel_rfl
  have hyl : ys.length = 5 := hyl
  rw [eC] at hlen
  obtain ⟨c0, c1, c2, c3, c4, c5, c6, c7, c8, c9, c10, hc⟩ := sp_cells _ hlen
  have t0 : DataW.trod enc Try.prog W base spare held n 3 (([c0, c1, c2, c3, c4, c5, c6, c7, c8, c9, c10].drop 0).take (Try.prog.cellsOf 3)) = ys[0]? := by
    have h := hf 0 _ rfl
    rw [hc] at h
    exact h
  have t1 : DataW.trod enc Try.prog W base spare held n 73 (([c0, c1, c2, c3, c4, c5, c6, c7, c8, c9, c10].drop 1).take (Try.prog.cellsOf 73)) = ys[1]? := by
    have h := hf 1 _ rfl
    rw [hc] at h
    exact h
  have t2 : DataW.trod enc Try.prog W base spare held n 73 (([c0, c1, c2, c3, c4, c5, c6, c7, c8, c9, c10].drop 5).take (Try.prog.cellsOf 73)) = ys[2]? := by
    have h := hf 2 _ rfl
    rw [hc] at h
    exact h
  have t3 : DataW.trod enc Try.prog W base spare held n 3 (([c0, c1, c2, c3, c4, c5, c6, c7, c8, c9, c10].drop 9).take (Try.prog.cellsOf 3)) = ys[3]? := by
    have h := hf 3 _ rfl
    rw [hc] at h
    exact h
  have t4 : DataW.trod enc Try.prog W base spare held n 23 (([c0, c1, c2, c3, c4, c5, c6, c7, c8, c9, c10].drop 10).take (Try.prog.cellsOf 23)) = ys[4]? := by
    have h := hf 4 _ rfl
    rw [hc] at h
    exact h
  rw [eI] at t0 t3
  rw [eP] at t1 t2
  rw [eB] at t4
  obtain ⟨y0, e0⟩ : ∃ y, ys[0]? = some y := ⟨_, List.getElem?_eq_getElem (by omega)⟩
  obtain ⟨y1, e1⟩ : ∃ y, ys[1]? = some y := ⟨_, List.getElem?_eq_getElem (by omega)⟩
  obtain ⟨y2, e2⟩ : ∃ y, ys[2]? = some y := ⟨_, List.getElem?_eq_getElem (by omega)⟩
  obtain ⟨y3, e3⟩ : ∃ y, ys[3]? = some y := ⟨_, List.getElem?_eq_getElem (by omega)⟩
  obtain ⟨y4, e4⟩ : ∃ y, ys[4]? = some y := ⟨_, List.getElem?_eq_getElem (by omega)⟩
  rw [e0] at t0
  rw [e1] at t1
  rw [e2] at t2
  rw [e3] at t3
  rw [e4] at t4
  obtain ⟨n0, q0, _, _⟩ := DataW.trod_int (k := .i64) Try.underlying3 t0
  obtain ⟨n3, q3, _, _⟩ := DataW.trod_int (k := .i64) Try.underlying3 t3
  obtain ⟨x, m, er, q1, hx⟩ := open_cells t1
  obtain ⟨y, m', er', q2, hy⟩ := open_cells t2
  obtain ⟨CA, cn, cc, cs, q4, hcc, hC, hCr⟩ := open_bytes t4
  refine ⟨n0, x, y, n3, CA, cn, cc, m, er, m', er', cs, ?_, hx, hy, hC, hCr, hcc⟩
  have q1 : [c1, c2, c3, c4] = [.int .u32 x.seq, .int .u32 x.batch, .slice x.MA x.mn x.mc, .slice x.EA x.en x.ec] := q1
  have q2 : [c5, c6, c7, c8] = [.int .u32 y.seq, .int .u32 y.batch, .slice y.MA y.mn y.mc, .slice y.EA y.en y.ec] := q2
  simp at q0 q1 q2 q3
  obtain ⟨rfl, rfl, rfl, rfl⟩ := q1
  obtain ⟨rfl, rfl, rfl, rfl⟩ := q2
  subst q0 q3 q4
  cases v with
  | agg a =>
    refine congrArg Value.agg ?_
    apply Array.ext'
    exact hc
  | _ => exact absurd hlen (by simp [Value.cells])
end
set_option maxRecDepth 100000 in
theorem lifted (os : Os) (started : os.Started) (H : Type) (enc : TypeId × Value → H) :
    ReturnsInHanded {} Try.checked os 9 .any (Rows.pointSpoiltSpec.pre6 enc Try.prog Try.f9 Rows.pointSpoiltRow.domain false) (Rows.pointSpoiltSpec.post enc Try.prog Try.f9 false true false false) := by
  refine returnsInHanded_of_change_sized (C := Try.checked) own started (by kernel_rfl) Try.func9
    (ChangeSpec.witness6 (enc := enc) (C := Try.checked) false ⟨#[], #[.agg #[.int .i64 0, .int .u32 0, .int .u32 0, .slice none 0 0, .slice none 0 0, .int .u32 0, .int .u32 0, .slice none 0 0, .slice none 0 0, .int .i64 0, .slice none 0 0]], []⟩ 8 (by kernel_rfl) (by kernel_rfl) (by kernel_rfl) (by kernel_rfl)) ?_
  intro W base args ds gs before hval0 hW hcnd hsz0 _
  have hval : ∀ (j : Nat) t v, Try.f9.params[j]? = some t → args[j]? = some v → Value.okWide Try.prog W .any base t v := hval0
  have hW' := hW
  obtain ⟨p, q, hA0, hV, rfl, hfz, hnd⟩ := hW
  have hA : DataW.TrodAll enc Try.prog W 0 (fun _ => true) true Try.f9.params.toList args.toList ds p := hA0
  rw [Try.params9] at hA hval
  obtain ⟨v0, vs0, d0, ds0, p0, q0, hargs, rfl, rfl, h0, r0⟩ := trodAll_cons hA
  obtain ⟨rfl, rfl, rfl⟩ := trodAll_nil r0
  obtain rfl : args = #[v0] := by cases args; simp_all
  obtain ⟨rfl, rfl⟩ := trodVars_none hV
  have k0 := h0
  have lt0 : ∀ x ∈ p0, x.block < W.heap.size := by obtain ⟨m, hm⟩ := k0; exact DataW.trod_lt m _ _ _ hm
  obtain ⟨fuel0, hf0⟩ := h0
  obtain ⟨chips, x, y, at_, CA, cn, cc, m, er, m', er', cs, rfl, hx, hy, hC, hCr, hcc⟩ := open_sp hf0
  clear hA0 hval0 hsz0
  refine (law chips x y at_ CA cn cc W hx hy hC hCr hcc).mono fun e W' ⟨he, hfr⟩ => ?_
  subst he
  have bel := hfr.below
  exact ⟨_, rfl, _, _, _, [], _, [], hW', trodAll_mk1 (shut_bool Try.underlying4 _), (trodAll_cons_mk (Below.trod laidOut (by kernel_rfl) (of_decide_eq_true (by kernel_rfl)) k0 bel lt0) trodAll_mk0), rfl, bel.frame _, fun h => by cases h⟩
theorem over : Rows.pointSpoiltRow.holds Try.pinned (OpenSpec.ofChange Rows.pointSpoiltSpec) :=
  OpenClaim.holds_of_wide 9 Try.f9 rfl rfl rfl rfl rfl rfl rfl ⟨rfl, rfl, rfl, rfl, rfl⟩ rfl rfl rfl rfl rfl (by kernel_rfl) Try.func9 (by kernel_rfl)
    (of_decide_eq_true (by kernel_rfl)) (by unfold Func.isWrapper; first | (rw [if_pos (by decide +kernel)]; kernel_rfl) | (rw [if_neg (by decide +kernel)]; exact ⟨rfl, rfl⟩))
    (fun os started H enc _ => lifted os started H enc)
end Go.Proofs.Ytlhgbamajabnfaa.PointSpoiltRow
namespace Go.Proofs.Ytlhgbamajabnfaa
theorem pointSpoilt_holds : Rows.PointSpoiltSaid := PointSpoiltRow.over
#print axioms pointSpoilt_holds
end Go.Proofs.Ytlhgbamajabnfaa

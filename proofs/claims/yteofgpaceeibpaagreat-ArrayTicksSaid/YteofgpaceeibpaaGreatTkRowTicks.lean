/- ArrayTicks holds of the given program: for every case (any numbers, any slice of operations that can be read) the law returns true and leaves its argument as it was. No further condition. -/
import Derived.Test.YteofgpaceeibpaaGreatRows
import Derived.Test.YteofgpaceeibpaaGreatTkTicks
namespace Go.Proofs.YteofgpaceeibpaaGreat.ArrayTicksRow
open Go.ChangeShapes Go.WideShapes Go.ChangeAt Go.RowKit Gab OpRow
theorem law (chips dead : Int) (A : Option Addr) (n c : Nat) (again : Bool) (l : List (Int × Int × Int)) (W : World) (hl : OpsAt W A n l) : Calls Tryz.prog 5 #[.agg #[.int .i64 chips, .int .i64 dead, .slice A n c, .bool again]] W fun e w' => e = .returned (.bool true) ∧ Fr None_ W w' := by
  by_cases h1 : 30 < n
  · exact Ticks.small_calls chips dead A n c again W h1
  · exact Ticks.ticks_calls chips dead A n c again l W hl (by omega)
theorem lifted (os : Os) (started : os.Started) (H : Type) (enc : TypeId × Value → H) :
    ReturnsInHanded {} Tryz.checked os 5 .any (Rows.arrayTicksSpec.pre6 enc Tryz.prog Tryz.f5 Rows.arrayTicksRow.domain false) (Rows.arrayTicksSpec.post enc Tryz.prog Tryz.f5 false true false false) := by
  refine returnsInHanded_of_change_sized (C := Tryz.checked) own started (by kernel_rfl) Tryz.func5
    (ChangeSpec.witness6 (enc := enc) (C := Tryz.checked) false ⟨#[], #[.agg #[.int .i64 0, .int .i64 0, .slice none 0 0, .bool false]], []⟩ 8 (by kernel_rfl) (by kernel_rfl) (by kernel_rfl) (by kernel_rfl)) ?_
  intro W base args ds gs before hval0 hW hcnd hsz0 _
  have hW' := hW
  obtain ⟨p, q, hA0, hV, rfl, hfz, hnd⟩ := hW
  have hA : DataW.TrodAll enc Tryz.prog W 0 (fun _ => true) true Tryz.f5.params.toList args.toList ds p := hA0
  rw [Tryz.params5] at hA
  obtain ⟨v0, vs0, d0, ds0, p0, q0, hargs, rfl, rfl, h0, r0⟩ := trodAll_cons hA
  obtain ⟨rfl, rfl, rfl⟩ := trodAll_nil r0
  obtain rfl : args = #[v0] := by cases args; simp_all
  obtain ⟨rfl, rfl⟩ := trodVars_none hV
  have k0 := h0
  have lt0 : ∀ x ∈ p0, x.block < W.heap.size := by obtain ⟨m, hm⟩ := k0; exact DataW.trod_lt m _ _ _ hm
  obtain ⟨fuel0, hf0⟩ := h0
  obtain ⟨chips, dead, A, n, c, again, l, rfl, hnc, hl⟩ := open_ticks hf0
  clear hA0 hval0 hsz0
  refine (law chips dead A n c again l W hl).mono fun e W' ⟨he, hfr⟩ => ?_
  subst he
  have bel := hfr.below
  exact ⟨_, rfl, _, _, _, [], _, [], hW', trodAll_mk1 (shut_bool Tryz.underlying4 _), (trodAll_cons_mk (Below.trod laidOut (by kernel_rfl) (of_decide_eq_true (by kernel_rfl)) k0 bel lt0) trodAll_mk0), rfl, bel.frame _, fun h => by cases h⟩
theorem over : Rows.arrayTicksRow.holds Tryz.pinned (OpenSpec.ofChange Rows.arrayTicksSpec) :=
  OpenClaim.holds_of_wide 5 Tryz.f5 rfl rfl rfl rfl rfl rfl rfl ⟨rfl, rfl, rfl, rfl, rfl⟩ rfl rfl rfl rfl rfl (by kernel_rfl) Tryz.func5 (by kernel_rfl)
    (of_decide_eq_true (by kernel_rfl)) (by unfold Func.isWrapper; first | (rw [if_pos (by decide +kernel)]; kernel_rfl) | (rw [if_neg (by decide +kernel)]; exact ⟨rfl, rfl⟩))
    (fun os started H enc _ => lifted os started H enc)
end Go.Proofs.YteofgpaceeibpaaGreat.ArrayTicksRow
namespace Go.Proofs.YteofgpaceeibpaaGreat
theorem arrayTicks_holds : Rows.ArrayTicksSaid := ArrayTicksRow.over
#print axioms arrayTicks_holds
end Go.Proofs.YteofgpaceeibpaaGreat

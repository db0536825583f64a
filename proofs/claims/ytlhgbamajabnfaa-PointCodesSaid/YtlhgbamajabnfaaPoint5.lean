/- gabionlaw14.shape; stripe.Fill. -/
import Derived.Test.YtlhgbamajabnfaaPoint4
namespace Go.Proofs.Ytlhgbamajabnfaa.Point5
open Go.RowKit Go.Proofs.Ytlhgbamajabnfaa.Gab Go.Proofs.Ytlhgbamajabnfaa.Wr Go.Proofs.Ytlhgbamajabnfaa.Geom Go.Proofs.Ytlhgbamajabnfaa.Ref Go.Proofs.Ytlhgbamajabnfaa.Point1
open Go.Proofs.Ytlhgbamajabnfaa.Case (u64of)
open Go.Proofs.Ytlhgbamajabnfaa.Str (pcells)
set_option linter.unusedVariables false
set_option linter.unusedSimpArgs false

def shapeOf (chips : Int) : Geo := ⟨3 + u64of chips % 3, 20, 6, 256⟩
theorem shape_ok (chips : Int) : (shapeOf chips).Ok := ⟨by show 3 ≤ 3 + u64of chips % 3 ∧ 3 + u64of chips % 3 ≤ 16; unfold u64of; omega, by show (16 : Int) ≤ 20 ∧ (20 : Int) ≤ 64; decide, by show (4 : Int) ≤ 6 ∧ (6 : Int) ≤ 32; decide, by show (256 : Int) ≤ 256 ∧ (256 : Int) ≤ 1024; decide, by show (256 : Int) % 64 = 0; decide⟩
set_option maxHeartbeats 1000000 in
set_option maxRecDepth 100000 in
theorem shape_calls (chips : Int) (w : World) : Calls Try.prog 38 #[.int .i64 chips] w fun e w' => e = .returned (shapeOf chips).val ∧ Fr None_ w w' := by
  have h0 : IntKind.u64.wrap chips = u64of chips := IntKind.wrap_u64 _
  have h1 : 0 ≤ u64of chips := by unfold u64of; omega
  have h2 : u64of chips < 18446744073709551616 := by unfold u64of; omega
  have h4 : 0 ≤ u64of chips % 3 := by omega
  have h5 : u64of chips % 3 < 3 := by omega
  have h6 : IntKind.u64.wrap (Int.tmod (u64of chips) 3) = u64of chips % 3 := by rw [Int.tmod_eq_emod_of_nonneg h1, IntKind.wrap_u64]; omega
  unfold Geo.val shapeOf
  generalize u64of chips = u at *
  go_enter Try.func38, Try.ntmps38
  go_wp2
  exact bodyPost_ret (v := .agg #[.int .i64 (3 + u % 3), .int .i64 20, .int .i64 6, .int .i64 256]) (by simp [results, Try.results38, go_sem]) rfl ⟨rfl, (Fr.refl None_ w).alloc _⟩
end Go.Proofs.Ytlhgbamajabnfaa.Point5

/- The law PointNils: its walk. -/
import Derived.Test.YtlhgbamajabnfaaNils
namespace Go.Proofs.Ytlhgbamajabnfaa.PtNils
open Go.RowKit Go.Proofs.Ytlhgbamajabnfaa.Ord Go.Proofs.Ytlhgbamajabnfaa.Write Go.Proofs.Ytlhgbamajabnfaa.Gab Go.Proofs.Ytlhgbamajabnfaa.Wr Go.Proofs.Ytlhgbamajabnfaa.Geom Go.Proofs.Ytlhgbamajabnfaa.Fields Go.Proofs.Ytlhgbamajabnfaa.Last Go.Proofs.Ytlhgbamajabnfaa.Point1 Go.Proofs.Ytlhgbamajabnfaa.Point5 Go.Proofs.Ytlhgbamajabnfaa.PtLaw Go.Proofs.Ytlhgbamajabnfaa.Kept Go.Proofs.Ytlhgbamajabnfaa.Written Go.Proofs.Ytlhgbamajabnfaa.Nils
open Go.Proofs.Ytlhgbamajabnfaa.Ram (RamE New_calls Foot)
set_option linter.unusedVariables false
set_option linter.unusedSimpArgs false

/-- What Read and Last hand back of new members. -/
def No (c : Int) (w : World) (e : Ending) (w' : World) : Prop := ∃ A n k B m j, e = .returned (.tuple #[.agg #[.int .u32 0, .int .u32 0, .slice A n k, .slice B m j], .bool false, .int .u32 0, .int .i64 c]) ∧ Fr None_ w w'
theorem No.of_none {w w' : World} {e : Ending} (h : ReadIs Res.none w e w') : No 0 w e w' := by
  obtain ⟨vM, vE, rfl, h1, h2, h3⟩ := h
  obtain ⟨A, n, k, rfl, _⟩ := h1.rd
  obtain ⟨B, m, j, rfl, _⟩ := h2.rd
  exact ⟨A, n, k, B, m, j, rfl, h3⟩
theorem No.of_bad {c : Int} {w w' : World} {e : Ending} (h : Bad c w e w') : No c w e w' := ⟨none, 0, 0, none, 0, 0, h.1, h.2⟩
set_option maxHeartbeats 8000000 in
set_option maxRecDepth 100000 in
theorem nils_calls (chips which : Int) (w : World) : Calls Try.prog 10 #[.int .i64 chips, .int .i64 which] w fun e w' => e = .returned (.bool true) ∧ Fr None_ w w' := by
  have HK := As.mk (fun w => written_calls w)
  have HSH := As.mk (fun w => shape_calls chips w)
  have hok := shape_ok chips
  have hgs : (shapeOf chips).s = 256 := rfl
  generalize shapeOf chips = g at *
  have HNW := As.mk (fun w => New_calls g w hok)
  obtain ⟨Wd, hWd⟩ : ∃ Wd : Nat, (Wd : Int) = g.c - 1 := ⟨(g.c - 1).toNat, by have := hok.c; omega⟩
  have hde : SRow3.Dead (Ram.St.new g) (-1) := dead_none (fun m => by show ¬ (0 : Int) < 0; decide) hok.c.1
  have HLA := As.mk (fun (p : Nat) (w : World) (hR : RamE w p (Ram.St.new g)) => (Last_any p (Ram.St.new g) g 256 Wd 0 w (fun _ => none) (-1) hR (Both.new g 256 Wd) hgs hWd hde (fun i x h => by cases h)).mono fun e w' h => No.of_none h)
  obtain ⟨c, hc⟩ : ∃ c : Int, ((which = 0 ∨ which = 1) ∧ c = 0) ∨ (¬ (which = 0 ∨ which = 1) ∧ c = 34) := by
    by_cases h : which = 0 ∨ which = 1
    · exact ⟨0, .inl ⟨h, rfl⟩⟩
    · exact ⟨34, .inr ⟨h, rfl⟩⟩
  have HRD := As.mk (fun (p : Nat) (w : World) (hR : RamE w p (Ram.St.new g)) => show Calls Try.prog 41 #[dev p, .int .i64 which] w (No c w) from by
    rcases hc with ⟨h, rfl⟩ | ⟨h, rfl⟩
    · exact (Read_any p (Ram.St.new g) which 256 Wd w none (-1) hR hgs hWd h hde (holds_new g 256 Wd _)).mono fun e w' h => No.of_none h
    · exact (Read_range p which w (by omega)).mono fun e w' h => No.of_bad h)
  have HLN := As.mk (fun w => Last_nil w)
  have HRN := As.mk (fun w => Read_nil 0 w)
  have HWN := As.mk (fun w => Write_nil ⟨0, 0, none, 0, 0, none, 0, 0⟩ w)
  unfold Pt.cells at HWN
  unfold dev at HLA HRD
  unfold Bad at HLN HRN
  unfold Geo.val at *
  dsimp only at HWN
  clear hok hgs hWd hde
  have hcc : (((which == 0) = true ∧ c = 0) ∨ ((which == 0) = false ∧ (which == 1) = true ∧ c = 0)) ∨ ((which == 0) = false ∧ (which == 1) = false ∧ c = 34) := by
    simp only [beq_iff_eq, beq_eq_false_iff_ne]
    omega
  clear hc
  go_enter Try.func10, Try.ntmps10
  go_wp2_with fail
  ((with_reducible refine (HK.out _).mono ?_); rintro e w1 ⟨rfl, hf1⟩)
  go_wp2_with fail
  ((with_reducible refine (HSH.out _).mono ?_); rintro e w2 ⟨rfl, hf2⟩)
  have HF2 := As.mk (hf1.after hf2 (fun _ _ h => h))
  clear hf1 hf2
  go_wp2_with fail
  ((with_reducible refine (HNW.out _).mono ?_); rintro e w3 ⟨p, rfl, hR3, hf3, hn3⟩)
  have HR3 := As.mk hR3
  have HF3 := As.mk (HF2.out.after hf3 (fun _ _ h => h))
  clear hf3 hn3 hR3
  go_wp2_with fail
  ((with_reducible refine (HLA.out p _ HR3.out).mono ?_); rintro e w4 ⟨A1, n1, k1, B1, m1, j1, rfl, hf4⟩)
  have HR4 := As.mk (HR3.out.none_ (hf4.alloc (.cells #[.int .u32 0, .int .u32 0, .slice A1 n1 k1, .slice B1 m1 j1] 73)))
  have HF4 := As.mk (HF3.out.after (hf4.alloc (.cells #[.int .u32 0, .int .u32 0, .slice A1 n1 k1, .slice B1 m1 j1] 73)) (fun _ _ h => h))
  clear hf4
  go_wp2_with fail
  ((with_reducible refine (HRD.out p _ HR4.out).mono ?_); rintro e w5 ⟨A2, n2, k2, B2, m2, j2, rfl, hf5⟩)
  have HF5 := As.mk ((HF4.out.after hf5 (fun _ _ h => h)).alloc (.cells #[.int .u32 0, .int .u32 0, .slice A2 n2 k2, .slice B2 m2 j2] 73))
  clear hf5
  go_wp2_with fail
  ((with_reducible refine (HLN.out _).mono ?_); rintro e w6 ⟨rfl, hf6⟩)
  have HF6 := As.mk ((HF5.out.after hf6 (fun _ _ h => h)).alloc (.cells #[.int .u32 0, .int .u32 0, .slice none 0 0, .slice none 0 0] 73))
  clear hf6
  go_wp2_with fail
  ((with_reducible refine (HRN.out _).mono ?_); rintro e w7 ⟨rfl, hf7⟩)
  have HF7 := As.mk ((HF6.out.after hf7 (fun _ _ h => h)).alloc (.cells #[.int .u32 0, .int .u32 0, .slice none 0 0, .slice none 0 0] 73))
  clear hf7 HLN HRN HRD HLA HNW HSH HK
  rcases hcc with (⟨q1, rfl⟩ | ⟨q1, q2, rfl⟩) | ⟨q1, q2, rfl⟩
  all_goals
    go_wp2_with fail
    ((with_reducible refine (HWN.out _).mono ?_); rintro e w8 ⟨rfl, hf8⟩)
    have HF8 := As.mk (HF7.out.after hf8 (fun _ _ h => h))
    go_wp2_with fail
    go_ret
    exact ⟨rfl, HF8.out⟩
end Go.Proofs.Ytlhgbamajabnfaa.PtNils

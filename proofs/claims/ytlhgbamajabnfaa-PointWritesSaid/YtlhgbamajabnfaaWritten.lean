/- gabionlaw14.written. -/
import Derived.Test.YtlhgbamajabnfaaPtLaw3
import Derived.Test.YtlhgbamajabnfaaPoint7
namespace Go.Proofs.Ytlhgbamajabnfaa.Written
open Go.RowKit Go.Proofs.Ytlhgbamajabnfaa.Ord Go.Proofs.Ytlhgbamajabnfaa.Write Go.Proofs.Ytlhgbamajabnfaa.Gab Go.Proofs.Ytlhgbamajabnfaa.Wr Go.Proofs.Ytlhgbamajabnfaa.Geom Go.Proofs.Ytlhgbamajabnfaa.Fields Go.Proofs.Ytlhgbamajabnfaa.Last Go.Proofs.Ytlhgbamajabnfaa.Point1 Go.Proofs.Ytlhgbamajabnfaa.Point5 Go.Proofs.Ytlhgbamajabnfaa.Point7 Go.Proofs.Ytlhgbamajabnfaa.PtLaw Go.Proofs.Ytlhgbamajabnfaa.Kept
open Go.Proofs.Ytlhgbamajabnfaa.Ram (RamE New_calls Foot)
set_option linter.unusedVariables false
set_option linter.unusedSimpArgs false

theorem rd32_two {w : World} {b : Nat} {x y : Int} {e : TypeId} (h : w.heap[b]? = some (.cells #[.int .u32 x, .int .u32 y] e (0, 0))) : Rd .u32 w (some ⟨b, 0, none⟩) 2 [x, y] := by
  refine ⟨rfl, by omega, fun _ => ⟨_, rfl, fun j hj => ?_⟩⟩
  rcases (show j = 0 ∨ j = 1 by omega) with rfl | rfl
  · exact cell_is h rfl
  · exact cell_is h rfl
theorem rd32_one {w : World} {b : Nat} {x : Int} {e : TypeId} (h : w.heap[b]? = some (.cells #[.int .u32 x] e (0, 0))) : Rd .u32 w (some ⟨b, 0, none⟩) 1 [x] := by
  refine ⟨rfl, by omega, fun _ => ⟨_, rfl, fun j hj => ?_⟩⟩
  obtain rfl : j = 0 := by omega
  exact cell_is h rfl
def x6 : Num := ⟨6, 0, [1, 2], []⟩
def x7 : Num := ⟨7, 3, [4], [9]⟩
def y6 (b : Nat) : Pt := ⟨6, 0, some ⟨b, 0, none⟩, 2, 2, none, 0, 0⟩
def y7 (b c : Nat) : Pt := ⟨7, 3, some ⟨b, 0, none⟩, 1, 1, some ⟨c, 0, none⟩, 1, 1⟩
theorem n6 : x6.n 256 = 1 := by unfold Num.n Num.b x6; rw [encB_len]; rfl
theorem n7 : x7.n 256 = 1 := by unfold Num.n Num.b x7; rw [encB_len]; rfl
theorem in32 {l : List Int} (h : l.all (fun x => decide (0 ≤ x ∧ x < 4294967296)) = true) : InR 4294967296 l := fun x hx => of_decide_eq_true (List.all_eq_true.1 h x hx)
theorem at6 {w : World} {b : Nat} {e : TypeId} (h : w.heap[b]? = some (.cells #[.int .u32 1, .int .u32 2] e (0, 0))) : PtAt w (y6 b) [1, 2] [] :=
  ⟨by show (0 : Int) ≤ 6 ∧ (6 : Int) < 4294967296; decide, by show (0 : Int) ≤ 0 ∧ (0 : Int) < 4294967296; decide, rd32_two h, in32 rfl, Nat.le_refl _, Rd.nil _ _ _, in32 rfl, Nat.le_refl _⟩
theorem at7 {w : World} {b c : Nat} {e : TypeId} (h : w.heap[b]? = some (.cells #[.int .u32 4] e (0, 0))) (h2 : w.heap[c]? = some (.cells #[.int .u32 9] e (0, 0))) : PtAt w (y7 b c) [4] [9] :=
  ⟨by show (0 : Int) ≤ 7 ∧ (7 : Int) < 4294967296; decide, by show (0 : Int) ≤ 3 ∧ (3 : Int) < 4294967296; decide, rd32_one h, in32 rfl, Nat.le_refl _, rd32_one h2, in32 rfl, Nat.le_refl _⟩
def o67 : Int → Option Num := putO (putO (fun _ => none) x6) x7
theorem last67 : lastOf o67 = x7.res := rfl
theorem o67_ok : ∀ i x, o67 i = some x → x.Ok := fun i x h => by
  unfold o67 putO at h
  split at h
  · injection h with h; subst h; exact ⟨by decide, by decide, in32 rfl, in32 rfl, by decide, by decide⟩
  · split at h
    · injection h with h; subst h; exact ⟨by decide, by decide, in32 rfl, in32 rfl, by decide, by decide⟩
    · cases h
def wg : Geo := ⟨3, 20, 6, 256⟩

set_option maxHeartbeats 8000000 in
set_option maxRecDepth 100000 in
theorem written_calls (w : World) : Calls Try.prog 28 #[] w fun e w' => e = .returned (.bool true) ∧ Fr None_ w w' := by
  have HSH := As.mk (fun w => shape_calls 0 w)
  have hge : shapeOf 0 = wg := rfl
  have hok := shape_ok 0
  have HNW := As.mk (fun w => New_calls (shapeOf 0) w hok)
  rw [hge] at HSH HNW hok
  have HW6 := As.mk (fun (p b : Nat) (e : TypeId) (w : World) (hR : RamE w p (Ram.St.new wg)) (h : w.heap[b]? = some (.cells #[.int .u32 1, .int .u32 2] e (0, 0))) => Write_fits p (Ram.St.new wg) wg 256 2 0 (y6 b) [1, 2] [] w (fun _ => none) hR (Both.new wg 256 2) hok rfl rfl (at6 h) (by show 2 ≤ 100000; decide) (by show 0 ≤ 100000; decide) (fun m => by show ¬ (0 : Int) < 0; decide) (by decide) (by show (x6.n 256 : Int) ≤ _; rw [n6]; decide))
  have HW7 := As.mk (fun (p b c : Nat) (e : TypeId) (s : Ram.St) (w : World) (hR : RamE w p s) (hB : Both s wg 256 2 (-1) (putO (fun _ => none) x6) 1) (hg : ∀ m, ¬ 0 < s.gone m) (h : w.heap[b]? = some (.cells #[.int .u32 4] e (0, 0))) (h2 : w.heap[c]? = some (.cells #[.int .u32 9] e (0, 0))) => Write_fits p s wg 256 2 1 (y7 b c) [4] [9] w _ hR hB hok rfl rfl (at7 h h2) (by show 1 ≤ 100000; decide) (by show 1 ≤ 100000; decide) hg (by decide) (by show (x7.n 256 : Int) ≤ _; rw [n7]; decide))
  have HLA := As.mk (fun (p : Nat) (s : Ram.St) (w : World) (hR : RamE w p s) (hB : Both s wg 256 2 (-1) o67 2) (hg : ∀ m, ¬ 0 < s.gone m) => Last_any p s wg 256 2 2 w o67 (-1) hR hB rfl rfl (dead_none hg (by rw [hB.geo]; decide)) o67_ok)
  rw [last67] at HLA
  unfold Num.res x7 ReadIs at HLA
  dsimp only at HLA
  unfold Pt.cells y6 at HW6
  unfold Pt.cells y7 at HW7
  dsimp only at HW6 HW7
  have hgv : wg.val = .agg #[.int .i64 3, .int .i64 20, .int .i64 6, .int .i64 256] := rfl
  rw [hgv] at HSH HNW
  unfold dev at HW6 HW7 HLA
  clear hge hok hgv
  go_enter Try.func28, Try.ntmps28
  go_wp2_with fail
  ((with_reducible refine (HSH.out _).mono ?_); rintro e w1 ⟨rfl, hf1⟩)
  have HF1 := As.mk hf1
  clear hf1
  go_wp2_with fail
  ((with_reducible refine (HNW.out _).mono ?_); rintro e w2 ⟨p, rfl, hR2, hf2, hn2⟩)
  have HR2 := As.mk hR2
  have HF2 := As.mk (show Fr None_ w w2 ∧ ∀ b, Foot w2 p b → w.heap.size ≤ b from ⟨HF1.out.after hf2 (fun _ _ h => h), fun b hb => Nat.le_trans HF1.out.size (hn2 b hb)⟩)
  clear hf2 hn2 hR2
  go_wp2_with fail
  have hfA : Fr None_ w2 (w2.alloc (.cells #[.int .u32 1, .int .u32 2] 51)) := (Fr.refl None_ w2).alloc _
  have HSA := As.mk (Ram.Step.none_ HR2.out.lt hfA)
  ((with_reducible refine (HW6.out p _ _ _ (HR2.out.none_ hfA) (heap_alloc_new w2 _)).mono ?_); rintro e w3 ⟨rfl, s1, hR3, hB3, hg3, hS3⟩)
  have HR3 := As.mk hR3
  have HB3 := As.mk (show Both s1 wg 256 2 (-1) (putO (fun _ => none) x6) 1 from hB3)
  have HG3 := As.mk hg3
  have HS3 := As.mk (HSA.out.trans hS3)
  clear hR3 hB3 hg3 hS3 hfA HSA
  go_wp2_with fail
  have hfB : Fr None_ w3 ((w3.alloc (.cells #[.int .u32 4] 51)).alloc (.cells #[.int .u32 9] 51)) := ((Fr.refl None_ w3).alloc _).alloc _
  have HSB := As.mk (Ram.Step.none_ HR3.out.lt hfB)
  ((with_reducible refine (HW7.out p w3.heap.size (w3.heap.size + 1) _ s1 _ (HR3.out.none_ hfB) HB3.out HG3.out (at_old _ (heap_alloc_new w3 _)) (at_new _ (size_new (.cells #[.int .u32 4] 51) rfl))).mono ?_); rintro e w4 ⟨rfl, s2, hR4, hB4, hg4, hS4⟩)
  have HS4 := As.mk (HS3.out.trans (HSB.out.trans hS4))
  have HL4 := As.mk (HLA.out p s2 w4 hR4 (show Both s2 wg 256 2 (-1) o67 2 from hB4) hg4)
  have HF4 := As.mk (step_new HF2.out.1 HF2.out.2 HS4.out).1
  clear hR4 hB4 hg4 hS4 hfB HSB HS3 HS4
  go_wp2_with fail
  ((with_reducible refine (HL4.out).mono ?_); rintro e w5 ⟨vM, vE, rfl, hrM, hrE, hf5⟩)
  have HF5 := As.mk (HF4.out.after hf5 (fun _ _ h => h))
  obtain ⟨A5, n5, c5, e5, _, hd5, _⟩ := hrM.rd
  subst e5
  obtain rfl : n5 = 1 := hd5.out.1.symm
  obtain ⟨ad5, ea5, hc5⟩ := hd5.out.2.2 (by decide)
  subst ea5
  have k0 := hc5 0 (by decide)
  have HHD := As.mk hd5
  obtain ⟨AE, nE, cE, eE, _, _, _⟩ := hrE.rd
  subst eE
  clear hrM hrE HLA HW6 HW7 HSH HNW HL4
  have hnew := heap_alloc_new w5 (.cells #[.int .u32 7, .int .u32 3, .slice (some ad5) 1 c5, .slice AE nE cE] 73)
  have hfn : Fr None_ w5 (w5.alloc (.cells #[.int .u32 7, .int .u32 3, .slice (some ad5) 1 c5, .slice AE nE cE] 73)) := (Fr.refl None_ w5).alloc _
  have g0 := cell_is (i := 0) hnew rfl
  have g2 := cell_is (i := 2) hnew rfl
  try dsimp only at g0 g2
  have e0 : ad5.add 0 = ad5 := by unfold Addr.add; split <;> simp_all
  rw [e0] at k0
  have k1 : w5.cell? ad5 = some (.int .u32 4) := k0
  have kk := hfn.cell k1 (fun h => h)
  have HFN := As.mk hfn
  clear hc5 k0 k1 e0 hnew hfn hd5 hf5
  go_wp2_with fail
  go_ret
  exact ⟨rfl, HF5.out.after HFN.out (fun _ _ h => h)⟩
end Go.Proofs.Ytlhgbamajabnfaa.Written

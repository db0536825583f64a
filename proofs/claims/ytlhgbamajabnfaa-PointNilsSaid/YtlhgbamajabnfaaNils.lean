/- point.Write, Read, Last where there are no members; Read where there is no such place. -/
import Derived.Test.YtlhgbamajabnfaaWritten
namespace Go.Proofs.Ytlhgbamajabnfaa.Nils
open Go.RowKit Go.Proofs.Ytlhgbamajabnfaa.Ord Go.Proofs.Ytlhgbamajabnfaa.Write Go.Proofs.Ytlhgbamajabnfaa.Gab Go.Proofs.Ytlhgbamajabnfaa.Wr Go.Proofs.Ytlhgbamajabnfaa.Geom Go.Proofs.Ytlhgbamajabnfaa.Fields Go.Proofs.Ytlhgbamajabnfaa.Last Go.Proofs.Ytlhgbamajabnfaa.Point1 Go.Proofs.Ytlhgbamajabnfaa.Iter Go.Proofs.Ytlhgbamajabnfaa.PRead1 Go.Proofs.Ytlhgbamajabnfaa.PRead3
open Go.Proofs.Ytlhgbamajabnfaa.Ram (RamE)
attribute [local go_sem] Oper.semAt_some
set_option linter.unusedVariables false
set_option linter.unusedSimpArgs false

set_option maxHeartbeats 4000000 in
set_option maxRecDepth 100000 in
theorem Write_nil (y : Pt) (w : World) : Calls Try.prog 39 #[.nilIface, .agg y.cells] w fun e w' => e = .returned (.int .i64 60) ∧ Fr None_ w w' := by
  unfold Pt.cells
  go_enter Try.func39, Try.ntmps39
  go_wp2_with fail
  go_ret
  exact ⟨rfl, (Fr.refl None_ w).alloc _⟩

/-- An error: no point. -/
def Bad (c : Int) (w : World) (e : Ending) (w' : World) : Prop := e = .returned (.tuple #[.agg #[.int .u32 0, .int .u32 0, .slice none 0 0, .slice none 0 0], .bool false, .int .u32 0, .int .i64 c]) ∧ Fr None_ w w'
/-- Six new boxes: a member or none; an error's number. -/
def sixE (w : World) (v0 : Value) (which c : Int) : World := (((((w.alloc (.cells #[v0] 105)).alloc (.cells #[.int .i64 which] 3)).alloc (.cells #[.int .u32 0, .int .u32 0, .slice none 0 0, .slice none 0 0] 73)).alloc (.cells #[.bool false] 4)).alloc (.cells #[.int .u32 0] 51)).alloc (.cells #[.int .i64 c] 42)
theorem sixE_is (w : World) (v0 : Value) (which c : Int) : Fr None_ w (sixE w v0 which c) ∧ (sixE w v0 which c).heap[w.heap.size + 1]? = some (.cells #[.int .i64 which] 3 (0, 0)) ∧
    (sixE w v0 which c).heap[w.heap.size + 1 + 1]? = some (.cells #[.int .u32 0, .int .u32 0, .slice none 0 0, .slice none 0 0] 73 (0, 0)) ∧ (sixE w v0 which c).heap[w.heap.size + 1 + 1 + 1]? = some (.cells #[.bool false] 4 (0, 0)) ∧ (sixE w v0 which c).heap[w.heap.size + 1 + 1 + 1 + 1]? = some (.cells #[.int .u32 0] 51 (0, 0)) ∧ (sixE w v0 which c).heap[w.heap.size + 1 + 1 + 1 + 1 + 1]? = some (.cells #[.int .i64 c] 42 (0, 0)) := by
  have s1 := size_new (.cells #[v0] 105) (rfl : w.heap.size = w.heap.size)
  have s2 := size_new (.cells #[.int .i64 which] 3) s1
  have s3 := size_new (.cells #[.int .u32 0, .int .u32 0, .slice none 0 0, .slice none 0 0] 73) s2
  have s4 := size_new (.cells #[.bool false] 4) s3
  have s5 := size_new (.cells #[.int .u32 0] 51) s4
  refine ⟨(((((((Fr.refl None_ w).alloc _).alloc _).alloc _).alloc _).alloc _).alloc _), ?_, ?_, ?_, ?_, ?_⟩
  · exact at_old _ (at_old _ (at_old _ (at_old _ (at_new _ s1))))
  · exact at_old _ (at_old _ (at_old _ (at_new _ s2)))
  · exact at_old _ (at_old _ (at_new _ s3))
  · exact at_old _ (at_new _ s4)
  · exact at_new _ s5
theorem bad_end {w W : World} {v0 : Value} {which c : Int} (h : W = sixE w v0 which c) : ∃ v, W.cell? ⟨w.heap.size + 1 + 1, 0, none⟩ = some (.int .u32 0) ∧ W.cell? ⟨w.heap.size + 1 + 1, 1, none⟩ = some (.int .u32 0) ∧ W.cell? ⟨w.heap.size + 1 + 1, 2, none⟩ = some (.slice none 0 0) ∧ W.cell? ⟨w.heap.size + 1 + 1, 3, none⟩ = some (.slice none 0 0) ∧
    W.cell? ⟨w.heap.size + 1 + 1 + 1, 0, none⟩ = some (.bool false) ∧ W.cell? ⟨w.heap.size + 1 + 1 + 1 + 1, 0, none⟩ = some (.int .u32 0) ∧ W.cell? ⟨w.heap.size + 1 + 1 + 1 + 1 + 1, 0, none⟩ = some (.int .i64 c) ∧ v = Value.int .i64 c := by
  subst h
  obtain ⟨_, _, h2, h3, h4, h5⟩ := sixE_is w v0 which c
  exact ⟨_, cell_is h2 rfl, cell_is h2 rfl, cell_is h2 rfl, cell_is h2 rfl, cell_is h3 rfl, cell_is h4 rfl, cell_is h5 rfl, rfl⟩
set_option maxHeartbeats 4000000 in
set_option maxRecDepth 100000 in
theorem Read_nil (which : Int) (w : World) : Calls Try.prog 41 #[.nilIface, .int .i64 which] w (Bad 60 w) := by
  refine (callsIn_wide (n := 3)).1 ?_
  refine callsIn_of_wp_marks Try.func41 rfl trivial ?_ rfl
  simp only [Try.ntmps41, List.size_toArray, List.length_cons, List.length_nil, Nat.reduceAdd, Nat.reduceSub, Array.replicate_succ, Array.replicate_zero, List.push_toArray, List.append_toArray, List.nil_append, List.cons_append]
  gi_wp2
  obtain ⟨_, y20, y21, y22, y23, y3, y4, y5, _⟩ := bad_end (w := w) (v0 := .nilIface) (which := which) (c := 60) rfl
  have hf := (sixE_is w .nilIface which 60).1
  unfold sixE at y20 y21 y22 y23 y3 y4 y5 hf
  exact ⟨.tuple #[.agg #[.int .u32 0, .int .u32 0, .slice none 0 0, .slice none 0 0], .bool false, .int .u32 0, .int .i64 60], by simp [results, Try.results41, go_sem, y20, y21, y22, y23, y3, y4, y5], rfl, hf⟩
set_option maxHeartbeats 4000000 in
set_option maxRecDepth 100000 in
theorem Last_nil (w : World) : Calls Try.prog 40 #[.nilIface] w (Bad 60 w) := by
  have HRD := As.mk (fun w => Read_nil 0 w)
  unfold Bad at HRD
  go_enter Try.func40, Try.ntmps40
  go_wp2_with fail
  go_loopw [3, 4, 6, 7, 8, 9, 10, 11] (fun v3 v4 v6 v7 v8 v9 v10 v11 w' => v11 = .int .i64 0 ∧ v3 = .bool false ∧ v4 = .int .u32 0 ∧ w' = w.alloc (.cells #[.int .u32 0, .int .u32 0, .slice none 0 0, .slice none 0 0] 73)) (fun _ _ _ _ _ _ _ _ _ => 0)
  case atStart => exact ⟨rfl, rfl, rfl, rfl⟩
  case round =>
    obtain ⟨rfl, rfl, rfl, rfl⟩ := hrel
    go_wp2_with fail
    ((with_reducible refine (HRD.out _).mono ?_); rintro e w1 ⟨rfl, hf1⟩)
    have HB1 := As.mk (hf1.heap (heap_alloc_new w _) (fun h => h))
    have HF1 := As.mk (((Fr.refl None_ w).alloc (.cells #[.int .u32 0, .int .u32 0, .slice none 0 0, .slice none 0 0] 73)).after hf1 (fun _ _ h => h))
    clear hf1
    go_upto_region 5 with fail
    have hfn : Fr None_ w1 (w1.alloc (.cells #[.int .u32 0, .int .u32 0, .slice none 0 0, .slice none 0 0] 73)) := (Fr.refl None_ w1).alloc _
    generalize w1.alloc (.cells #[.int .u32 0, .int .u32 0, .slice none 0 0, .slice none 0 0] 73) = w2 at *
    have hb2 := hfn.heap HB1.out (fun h => h)
    obtain ⟨z1, z2⟩ := put4_is hb2 (.int .u32 0) (.int .u32 0) (.slice none 0 0) (.slice none 0 0)
    unfold put4 at z1 z2
    have HZ1 := As.mk z1
    have HZ2 := As.mk ((HF1.out.after hfn (fun _ _ h => h)).after z2 (fun i hi e => by subst e; omega))
    have p0 := cell_is (i := 0) hb2 rfl
    have p1 := cell_is (i := 1) hb2 rfl
    have p2 := cell_is (i := 2) hb2 rfl
    have p3 := cell_is (i := 3) hb2 rfl
    have pf0 := free_of (i := 0) hb2
    have pf1 := free_of (i := 1) hb2
    have pf2 := free_of (i := 2) hb2
    have pf3 := free_of (i := 3) hb2
    try dsimp only at p0 p1 p2 p3 pf0 pf1 pf2 pf3
    clear z1 z2 hb2 HB1 hfn HRD
    go_wp2_with fail
    clear p0 p1 p2 p3 pf0 pf1 pf2 pf3
    generalize (((w2.setCell ⟨w.heap.size, 0, none⟩ (.int .u32 0)).setCell ⟨w.heap.size, 1, none⟩ (.int .u32 0)).setCell ⟨w.heap.size, 2, none⟩ (.slice none 0 0)).setCell ⟨w.heap.size, 3, none⟩ (.slice none 0 0) = wf at *
    have y0 := cell_is (i := 0) HZ1.out rfl
    have y1 := cell_is (i := 1) HZ1.out rfl
    have y2 := cell_is (i := 2) HZ1.out rfl
    have y3 := cell_is (i := 3) HZ1.out rfl
    try dsimp only at y0 y1 y2 y3
    exact bodyPost_ret (v := .tuple #[.agg #[.int .u32 0, .int .u32 0, .slice none 0 0, .slice none 0 0], .bool false, .int .u32 0, .int .i64 60]) (by simp [results, Try.results40, go_sem, y0, y1, y2, y3]) rfl ⟨rfl, HZ2.out⟩

set_option maxHeartbeats 4000000 in
set_option maxRecDepth 100000 in
theorem Read_range (p : Nat) (which : Int) (w : World) (h : which < 0 ∨ 1 < which) : Calls Try.prog 41 #[dev p, .int .i64 which] w (Bad 34 w) := by
  unfold dev
  have hh : decide (which < 0) = true ∨ decide (which < 0) = false ∧ decide (1 < which) = true := by
    simp only [decide_eq_true_eq, decide_eq_false_iff_not]
    omega
  clear h
  refine (callsIn_wide (n := 3)).1 ?_
  refine callsIn_of_wp_marks Try.func41 rfl trivial ?_ rfl
  simp only [Try.ntmps41, List.size_toArray, List.length_cons, List.length_nil, Nat.reduceAdd, Nat.reduceSub, Array.replicate_succ, Array.replicate_zero, List.push_toArray, List.append_toArray, List.nil_append, List.cons_append]
  obtain ⟨_, y20, y21, y22, y23, y3, y4, y5, _⟩ := bad_end (w := w) (v0 := .iface 30 (.pointer (some ⟨p, 0, none⟩))) (which := which) (c := 34) rfl
  have hf := (sixE_is w (.iface 30 (.pointer (some ⟨p, 0, none⟩))) which 34).1
  unfold sixE at y20 y21 y22 y23 y3 y4 y5 hf
  have HH := As.mk (And.intro (And.intro y20 (And.intro y21 (And.intro y22 y23))) (And.intro (And.intro y3 (And.intro y4 y5)) hf))
  clear y20 y21 y22 y23 y3 y4 y5 hf
  rcases hh with d1 | ⟨d1, d2⟩
  all_goals
    gi_wp2
    obtain ⟨⟨y20, y21, y22, y23⟩, ⟨y3, y4, y5⟩, hf⟩ := HH.out
    exact ⟨.tuple #[.agg #[.int .u32 0, .int .u32 0, .slice none 0 0, .slice none 0 0], .bool false, .int .u32 0, .int .i64 34], by simp [results, Try.results41, go_sem, y20, y21, y22, y23, y3, y4, y5], rfl, hf⟩
end Go.Proofs.Ytlhgbamajabnfaa.Nils

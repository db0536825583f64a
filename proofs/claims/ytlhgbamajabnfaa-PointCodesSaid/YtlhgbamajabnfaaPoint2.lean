/- gabionlaw14: of. -/
import Derived.Test.YtlhgbamajabnfaaPoint1
import Derived.Deep.RegionLaw
import Derived.Test.YtlhgbamajabnfaaRam
namespace Go.Proofs.Ytlhgbamajabnfaa.Point2
open Go.RowKit Go.Proofs.Ytlhgbamajabnfaa.Gab Go.Proofs.Ytlhgbamajabnfaa.Wr Go.Proofs.Ytlhgbamajabnfaa.Geom Go.Proofs.Ytlhgbamajabnfaa.Ref Go.Proofs.Ytlhgbamajabnfaa.Point1
open Go.Proofs.Ytlhgbamajabnfaa.Ram (step_appendRow)
open Go.Proofs.Ytlhgbamajabnfaa.Str (take_snoc)
open Go.Proofs.Ytlhgbamajabnfaa.Case (heap_set)
set_option linter.unusedVariables false
set_option linter.unusedSimpArgs false
theorem infoI64 : (Try.prog.info? 2).map (fun i => (i.zero, i.size, i.bytes)) = some (some (.int .i64 0), 1, 8) := by kernel_rfl

/-- What `of` answers. -/
def OfPost (x : Pt) (m er : List Int) (w : World) (e : Ending) (w' : World) : Prop := ∃ vM vE, e = .returned (.agg #[.int .i64 x.seq, .int .i64 x.batch, vM, vE]) ∧ Row 2 .i64 w' w.heap.size vM m ∧ Row 2 .i64 w' w.heap.size vE er ∧ Fr None_ w w'
set_option maxHeartbeats 4000000 in
set_option maxRecDepth 100000 in
theorem of_calls (x : Pt) (m er : List Int) (w : World) (h : PtAt w x m er) (hm : x.mn ≤ 100000) (he : x.en ≤ 100000) :
    Calls Try.prog 34 #[.agg x.cells] w (OfPost x m er w) := by
  have H := As.mk h
  have w1 : IntKind.i64.wrap x.seq = x.seq := i64_in _ (by have := h.seq; omega) (by have := h.seq; omega)
  have w2 : IntKind.i64.wrap x.batch = x.batch := i64_in _ (by have := h.batch; omega) (by have := h.batch; omega)
  unfold Pt.cells
  clear h
  have HB0 : As (Fr None_ w (((w.alloc (.cells #[.int .u32 x.seq, .int .u32 x.batch, .slice x.MA x.mn x.mc, .slice x.EA x.en x.ec] 73)).alloc (.cells #[.int .i64 0, .int .i64 0, .slice none 0 0, .slice none 0 0] 82)).alloc (.cells #[.int .i64 x.seq, .int .i64 x.batch, .slice none 0 0, .slice none 0 0] 82)) ∧ (((w.alloc (.cells #[.int .u32 x.seq, .int .u32 x.batch, .slice x.MA x.mn x.mc, .slice x.EA x.en x.ec] 73)).alloc (.cells #[.int .i64 0, .int .i64 0, .slice none 0 0, .slice none 0 0] 82)).alloc (.cells #[.int .i64 x.seq, .int .i64 x.batch, .slice none 0 0, .slice none 0 0] 82)).heap[w.heap.size]? = some (.cells #[.int .u32 x.seq, .int .u32 x.batch, .slice x.MA x.mn x.mc, .slice x.EA x.en x.ec] 73 (0, 0)) ∧ (((w.alloc (.cells #[.int .u32 x.seq, .int .u32 x.batch, .slice x.MA x.mn x.mc, .slice x.EA x.en x.ec] 73)).alloc (.cells #[.int .i64 0, .int .i64 0, .slice none 0 0, .slice none 0 0] 82)).alloc (.cells #[.int .i64 x.seq, .int .i64 x.batch, .slice none 0 0, .slice none 0 0] 82)).heap[w.heap.size + 1]? = some (.cells #[.int .i64 0, .int .i64 0, .slice none 0 0, .slice none 0 0] 82 (0, 0)) ∧ (((w.alloc (.cells #[.int .u32 x.seq, .int .u32 x.batch, .slice x.MA x.mn x.mc, .slice x.EA x.en x.ec] 73)).alloc (.cells #[.int .i64 0, .int .i64 0, .slice none 0 0, .slice none 0 0] 82)).alloc (.cells #[.int .i64 x.seq, .int .i64 x.batch, .slice none 0 0, .slice none 0 0] 82)).heap[w.heap.size + 1 + 1]? = some (.cells #[.int .i64 x.seq, .int .i64 x.batch, .slice none 0 0, .slice none 0 0] 82 (0, 0))) :=
    ⟨(((Fr.refl None_ w).alloc _).alloc _).alloc _, at_old _ (at_old _ (heap_alloc_new w _)), at_old _ (at_new _ (size_new _ rfl)), at_new _ (size_new _ (size_new _ rfl))⟩
  go_enter Try.func34, Try.ntmps34
  go_wp2_with fail
  generalize ((w.alloc (.cells #[.int .u32 x.seq, .int .u32 x.batch, .slice x.MA x.mn x.mc, .slice x.EA x.en x.ec] 73)).alloc (.cells #[.int .i64 0, .int .i64 0, .slice none 0 0, .slice none 0 0] 82)).alloc (.cells #[.int .i64 x.seq, .int .i64 x.batch, .slice none 0 0, .slice none 0 0] 82) = wa at *
  have HFB := As.mk HB0.out.1
  have HB := As.mk HB0.out.2.1
  have hzs := HB0.out.1.size
  go_loopw [4] (fun vS w' => ∃ i : Int, ∃ v : Value, vS = .int .i64 i ∧ 0 ≤ i ∧ i ≤ (x.mn : Int) ∧ As (Row 2 .i64 w' wa.heap.size v (m.take i.toNat)) ∧ As (Fr (fun b => b = w.heap.size + 1 + 1) wa w' ∧ w'.heap[w.heap.size + 1 + 1]? = some (.cells #[.int .i64 x.seq, .int .i64 x.batch, v, .slice none 0 0] 82 (0, 0)))) (fun vS _ => x.mn - (intOf vS).toNat)
  case atStart => exact ⟨0, .slice none 0 0, rfl, by omega, by omega, ⟨Row.nil _ _ _ _⟩, ⟨Fr.refl _ _, HB0.out.2.2.2⟩⟩
  case round =>
    obtain ⟨i, v, rfl, hi0, hi, HX, HQ⟩ := hrel
    obtain ⟨AM, nM, cM, e1, _, hd1, _⟩ := HX.out.rd
    subst e1
    have HBX := As.mk (HQ.out.1.heap HB.out (by omega))
    have b2 := cell_is (i := 2) HBX.out rfl
    have b3 := cell_is (i := 3) HBX.out rfl
    have o2 := cell_is (i := 2) HQ.out.2 rfl
    have o3 := cell_is (i := 3) HQ.out.2 rfl
    by_cases hlt : i < (x.mn : Int)
    · have hil : i.toNat < m.length := by have := H.out.map.1; omega
      obtain ⟨ad, e, hc⟩ := H.out.map.at_ i hi0 hlt
      replace hc := HQ.out.1.cell (HFB.out.cell hc (fun h => h)) (by have h1 := World.block_lt_of_cell? w _ hc; intro h2; have h3 : (ad.add i.toNat).block = w.heap.size + 1 + 1 := h2; omega)
      have hcm := inR_at H.out.mapR hil
      have hcv : IntKind.i64.wrap (m.getD i.toNat 0) = m.getD i.toNat 0 := i64_in _ (by omega) (by omega)
      have HTK := As.mk (take_snoc 0 hil)
      have HLN := As.mk H.out.map.1
      rw [e] at b2 b3
      generalize m.getD i.toNat 0 = y at *
      clear hcm hil e HBX
      go_upto_region 5 with fail
      have HXd := As.mk ((HX.out.none_ ((Fr.refl None_ wr).alloc (.cells #[.int .i64 y] 2))).none_ ((Fr.refl None_ (wr.alloc (.cells #[.int .i64 y] 2))).drew))
      have HOd := As.mk ((Fr.refl None_ (wr.alloc (.cells #[.int .i64 y] 2))).drew.heap (at_old (.cells #[.int .i64 y] 2) HQ.out.2) (fun h => h))
      have HFd := As.mk (HQ.out.1.alloc (.cells #[.int .i64 y] 2)).drew
      have HRy : As (Rd .i64 (wr.alloc (.cells #[.int .i64 y] 2)).drew (some ⟨wr.heap.size, 0, none⟩) 1 [y]) := ⟨rfl, by omega, fun _ => ⟨_, rfl, fun j hj => by
        have h0 : j = 0 := by omega
        subst h0
        rw [add_at]
        exact cell_is (i := 0) ((Fr.refl None_ (wr.alloc (.cells #[.int .i64 y] 2))).drew.heap (heap_alloc_new wr _) (fun h => h)) rfl⟩⟩
      have lo : w.heap.size + 1 + 1 < wr.heap.size := (Array.getElem?_eq_some_iff.1 HQ.out.2).1
      have lb : w.heap.size < wr.heap.size := by omega
      have la : (ad.add i.toNat).block < wr.heap.size := World.block_lt_of_cell? wr _ hc
      go_region_law (first | ((with_reducible refine step_appendRow wa.heap.size rfl _ _ 80 2 .i64 8 rfl Try.underlying80 infoI64 (by decide) (.slice AM nM cM) (m.take i.toNat) [y] (some ⟨wr.heap.size, 0, none⟩) 1 1 rfl rfl HXd.out HRy.out ?k0 ?k1 ?_); (case k0 => exact HFd.out.size); (case k1 => have := HLN.out; simp; omega); intro v1 w5 hrow1 hfr1 hat1; have HR1 := As.mk hrow1; have HF5 := As.mk (HFd.out.after hfr1 (fun i hi ht => absurd hi (by have := (HXd.out.blk i ht).1; omega))); have hd5 := hfr1.heap HOd.out (Row.ne HXd.out HOd.out (by decide)); have HD5 := As.mk hd5; have f2 := free_of (i := 2) hd5; have k2 := cell_is (i := 2) hd5 rfl; clear hrow1 hfr1 hat1 hd5; obtain ⟨A5, n5, c5, e5, _, _, _⟩ := HR1.out.rd; subst e5))
      all_goals
       go_wp2_with fail
       have hn1 : (i + 1).toNat = i.toNat + 1 := by omega
       refine ⟨⟨i + 1, .slice A5 n5 c5, rfl, by omega, by omega, ⟨?_⟩, ⟨?_, ?_⟩⟩, by simp [intOf]; omega⟩
       · rw [hn1, HTK.out]
         exact HR1.out.fr ((Fr.refl (fun b => b = w.heap.size + 1 + 1) w5).setCell (p := ⟨w.heap.size + 1 + 1, 2, none⟩) (fun _ => rfl) (.slice A5 n5 c5)) (fun b hb e => by subst e; exact Row.ne HR1.out HD5.out (by decide) hb)
       · exact HF5.out.setCell (p := ⟨w.heap.size + 1 + 1, 2, none⟩) (fun _ => rfl) (.slice A5 n5 c5)
       · exact heap_set HD5.out 2 (.slice A5 n5 c5)
    · have hin : m.take i.toNat = m := List.take_of_length_le (by have := H.out.map.1; omega)
      rw [hin] at HX
      clear hin
      have HVM := As.mk HX.out
      have HFB2 := As.mk (HFB.out.after HQ.out.1 (fun i hi ht => absurd hi (by omega)))
      have HB2 := As.mk (HQ.out.1.heap HB.out (by omega))
      have HC2 := As.mk (HQ.out.1.heap HB0.out.2.2.1 (by omega))
      have HO2 := As.mk HQ.out.2
      have hzl := HFB2.out.size
      have hlt' : ¬ i < (x.mn : Int) := hlt
      clear HX HQ HB HFB hlt
      rename World => wl
      have HFB := HFB2
      have HB := HB2
      go_wp2_with fail
      go_loopw [5] (fun vS w' => ∃ i : Int, ∃ v : Value, vS = .int .i64 i ∧ 0 ≤ i ∧ i ≤ (x.en : Int) ∧ As (Row 2 .i64 w' wl.heap.size v (er.take i.toNat)) ∧ As (Fr (fun b => b = w.heap.size + 1 + 1) wl w' ∧ w'.heap[w.heap.size + 1 + 1]? = some (.cells #[.int .i64 x.seq, .int .i64 x.batch, .slice AM nM cM, v] 82 (0, 0)))) (fun vS _ => x.en - (intOf vS).toNat)
      case atStart => exact ⟨0, .slice none 0 0, rfl, by omega, by omega, ⟨Row.nil _ _ _ _⟩, ⟨Fr.refl _ _, HO2.out⟩⟩
      case round =>
        obtain ⟨i, v, rfl, hi0, hi, HX, HQ⟩ := hrel
        obtain ⟨A1, n1, c1, e1, _, hd1, _⟩ := HX.out.rd
        subst e1
        have HBX := As.mk (HQ.out.1.heap HB.out (by omega))
        have b2 := cell_is (i := 2) HBX.out rfl
        have b3 := cell_is (i := 3) HBX.out rfl
        have o2 := cell_is (i := 2) HQ.out.2 rfl
        have o3 := cell_is (i := 3) HQ.out.2 rfl
        by_cases hlt : i < (x.en : Int)
        · have hil : i.toNat < er.length := by have := H.out.ers.1; omega
          obtain ⟨ad, e, hc⟩ := H.out.ers.at_ i hi0 hlt
          replace hc := HQ.out.1.cell (HFB.out.cell hc (fun h => h)) (by have h1 := World.block_lt_of_cell? w _ hc; intro h2; have h3 : (ad.add i.toNat).block = w.heap.size + 1 + 1 := h2; omega)
          have hcm := inR_at H.out.ersR hil
          have hcv : IntKind.i64.wrap (er.getD i.toNat 0) = er.getD i.toNat 0 := i64_in _ (by omega) (by omega)
          have HTK := As.mk (take_snoc 0 hil)
          have HLN := As.mk H.out.ers.1
          rw [e] at b2 b3
          generalize er.getD i.toNat 0 = y at *
          clear hcm hil e HBX
          go_upto_region 9 with fail
          have HXd := As.mk ((HX.out.none_ ((Fr.refl None_ wr).alloc (.cells #[.int .i64 y] 2))).none_ ((Fr.refl None_ (wr.alloc (.cells #[.int .i64 y] 2))).drew))
          have HOd := As.mk ((Fr.refl None_ (wr.alloc (.cells #[.int .i64 y] 2))).drew.heap (at_old (.cells #[.int .i64 y] 2) HQ.out.2) (fun h => h))
          have HFd := As.mk (HQ.out.1.alloc (.cells #[.int .i64 y] 2)).drew
          have HRy : As (Rd .i64 (wr.alloc (.cells #[.int .i64 y] 2)).drew (some ⟨wr.heap.size, 0, none⟩) 1 [y]) := ⟨rfl, by omega, fun _ => ⟨_, rfl, fun j hj => by
            have h0 : j = 0 := by omega
            subst h0
            rw [add_at]
            exact cell_is (i := 0) ((Fr.refl None_ (wr.alloc (.cells #[.int .i64 y] 2))).drew.heap (heap_alloc_new wr _) (fun h => h)) rfl⟩⟩
          have lo : w.heap.size + 1 + 1 < wr.heap.size := (Array.getElem?_eq_some_iff.1 HQ.out.2).1
          have lb : w.heap.size < wr.heap.size := by omega
          have la : (ad.add i.toNat).block < wr.heap.size := World.block_lt_of_cell? wr _ hc
          go_region_law (first | ((with_reducible refine step_appendRow wl.heap.size rfl _ _ 80 2 .i64 8 rfl Try.underlying80 infoI64 (by decide) (.slice A1 n1 c1) (er.take i.toNat) [y] (some ⟨wr.heap.size, 0, none⟩) 1 1 rfl rfl HXd.out HRy.out ?k0 ?k1 ?_); (case k0 => exact HFd.out.size); (case k1 => have := HLN.out; simp; omega); intro v1 w5 hrow1 hfr1 hat1; have HR1 := As.mk hrow1; have HF5 := As.mk (HFd.out.after hfr1 (fun i hi ht => absurd hi (by have := (HXd.out.blk i ht).1; omega))); have hd5 := hfr1.heap HOd.out (Row.ne HXd.out HOd.out (by decide)); have HD5 := As.mk hd5; have f2 := free_of (i := 3) hd5; have k2 := cell_is (i := 3) hd5 rfl; clear hrow1 hfr1 hat1 hd5; obtain ⟨A5, n5, c5, e5, _, _, _⟩ := HR1.out.rd; subst e5))
          all_goals
           go_wp2_with fail
           have hn1 : (i + 1).toNat = i.toNat + 1 := by omega
           refine ⟨⟨i + 1, .slice A5 n5 c5, rfl, by omega, by omega, ⟨?_⟩, ⟨?_, ?_⟩⟩, by simp [intOf]; omega⟩
           · rw [hn1, HTK.out]
             exact HR1.out.fr ((Fr.refl (fun b => b = w.heap.size + 1 + 1) w5).setCell (p := ⟨w.heap.size + 1 + 1, 3, none⟩) (fun _ => rfl) (.slice A5 n5 c5)) (fun b hb e => by subst e; exact Row.ne HR1.out HD5.out (by decide) hb)
           · exact HF5.out.setCell (p := ⟨w.heap.size + 1 + 1, 3, none⟩) (fun _ => rfl) (.slice A5 n5 c5)
           · exact heap_set HD5.out 3 (.slice A5 n5 c5)
        · have hin : er.take i.toNat = er := List.take_of_length_le (by have := H.out.ers.1; omega)
          rw [hin] at HX
          clear hin
          have HVE := As.mk HX.out
          have HCz := As.mk (HQ.out.1.heap HC2.out (by omega))
          have o0 := cell_is (i := 0) HQ.out.2 rfl
          have o1 := cell_is (i := 1) HQ.out.2 rfl
          have z0 := cell_is (i := 0) HCz.out rfl
          have z1 := cell_is (i := 1) HCz.out rfl
          have z2 := cell_is (i := 2) HCz.out rfl
          have z3 := cell_is (i := 3) HCz.out rfl
          have y0 := free_of (i := 0) HCz.out
          have y1 := free_of (i := 1) HCz.out
          have y2 := free_of (i := 2) HCz.out
          have y3 := free_of (i := 3) HCz.out
          have hb9 := HQ.out.1.size
          go_wp2_with fail
          have hS : Fr (fun b => b = w.heap.size + 1) wr (((((wr.setCell ⟨w.heap.size + 1, 0, none⟩ (.int .i64 x.seq)).setCell ⟨w.heap.size + 1, 1, none⟩ (.int .i64 x.batch)).setCell ⟨w.heap.size + 1, 2, none⟩ (.slice AM nM cM)).setCell ⟨w.heap.size + 1, 3, none⟩ (.slice A1 n1 c1))) := ((((Fr.refl (fun b => b = w.heap.size + 1) wr).setCell (p := ⟨w.heap.size + 1, 0, none⟩) (fun _ => rfl) _).setCell (p := ⟨w.heap.size + 1, 1, none⟩) (fun _ => rfl) _).setCell (p := ⟨w.heap.size + 1, 2, none⟩) (fun _ => rfl) _).setCell (p := ⟨w.heap.size + 1, 3, none⟩) (fun _ => rfl) _
          refine bodyPost_ret (v := .agg #[.int .i64 x.seq, .int .i64 x.batch, .slice AM nM cM, .slice A1 n1 c1]) (by simp [results, Try.results34, go_sem, z0, z1, z2, z3, y0, y1, y2, y3]) rfl ⟨_, _, rfl, ?_, ?_, ?_⟩
          · exact ((HVM.out.lower (Nat.le_trans (Nat.le_refl _) hzs)).fr HQ.out.1 (fun b hb e => by subst e; exact Row.ne HVM.out HO2.out (by decide) hb)).fr hS (fun b hb e => by subst e; exact Row.ne HVM.out HC2.out (by decide) hb)
          · exact (HVE.out.lower hzl).fr hS (fun b hb e => by subst e; exact Row.ne HVE.out HCz.out (by decide) hb)
          · exact (HFB.out.after HQ.out.1 (fun i hi ht => absurd hi (by omega))).after hS (fun i hi ht => absurd hi (by omega))

end Go.Proofs.Ytlhgbamajabnfaa.Point2

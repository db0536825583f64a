import Derived.Test.YtlhgbamajabnfaaPoint1
import Derived.Deep.RegionLaw
import Derived.Test.YtlhgbamajabnfaaRam
import Derived.Test.YtlhgbamajabnfaaKept
import Derived.StillTailTactics
/- gabionlaw14: of. -/
namespace Go.Proofs.Ytlhgbamajabnfaa.Point2
open Go.RowKit Go.Proofs.Ytlhgbamajabnfaa.Gab Go.Proofs.Ytlhgbamajabnfaa.Wr Go.Proofs.Ytlhgbamajabnfaa.Geom Go.Proofs.Ytlhgbamajabnfaa.Ref Go.Proofs.Ytlhgbamajabnfaa.Point1
open Go.Proofs.Ytlhgbamajabnfaa.Ram (step_appendRow)
open Go.Proofs.Ytlhgbamajabnfaa.Str (take_snoc)
open Go.Proofs.Ytlhgbamajabnfaa.Case (heap_set)
set_option linter.unusedVariables false
set_option linter.unusedSimpArgs false
theorem infoI64 : (Try.prog.info? 2).map (fun i => (i.zero, i.size, i.bytes)) = some (some (.int .i64 0), 1, 8) := by kernel_rfl

/-- What `of` answers. -/
def OfPost (x : Pt) (m er : List Int) (w : World) (e : Ending) (w' : World) : Prop := ∃ vM vE, e = .returned (.agg #[.int .i64 x.seq, .int .i64 x.batch, vM, vE]) ∧ Row 2 .i64 w' w.heap.size vM m ∧ Row 2 .i64 w' w.heap.size vE er ∧ Fr None_ w w'
set_option maxHeartbeats 4000000 in
set_option maxRecDepth 100000 in
theorem of_calls (x : Pt) (m er : List Int) (w : World) (h : PtAt w x m er) (hm : x.mn ≤ 100000) (he : x.en ≤ 100000) :
    Calls Try.prog 34 #[.agg x.cells] w (OfPost x m er w) := by
  have H := As.mk h
  have w1 : IntKind.i64.wrap x.seq = x.seq := i64_in _ (by have := h.seq; omega) (by have := h.seq; omega)
  have w2 : IntKind.i64.wrap x.batch = x.batch := i64_in _ (by have := h.batch; omega) (by have := h.batch; omega)
  unfold Pt.cells
  clear h
  have HB0 : As (Fr None_ w (((w.alloc (.cells #[.int .u32 x.seq, .int .u32 x.batch, .slice x.MA x.mn x.mc, .slice x.EA x.en x.ec] 73)).alloc (.cells #[.int .i64 0, .int .i64 0, .slice none 0 0, .slice none 0 0] 82)).alloc (.cells #[.int .i64 x.seq, .int .i64 x.batch, .slice none 0 0, .slice none 0 0] 82)) ∧ (((w.alloc (.cells #[.int .u32 x.seq, .int .u32 x.batch, .slice x.MA x.mn x.mc, .slice x.EA x.en x.ec] 73)).alloc (.cells #[.int .i64 0, .int .i64 0, .slice none 0 0, .slice none 0 0] 82)).alloc (.cells #[.int .i64 x.seq, .int .i64 x.batch, .slice none 0 0, .slice none 0 0] 82)).heap[w.heap.size]? = some (.cells #[.int .u32 x.seq, .int .u32 x.batch, .slice x.MA x.mn x.mc, .slice x.EA x.en x.ec] 73 (0, 0)) ∧ (((w.alloc (.cells #[.int .u32 x.seq, .int .u32 x.batch, .slice x.MA x.mn x.mc, .slice x.EA x.en x.ec] 73)).alloc (.cells #[.int .i64 0, .int .i64 0, .slice none 0 0, .slice none 0 0] 82)).alloc (.cells #[.int .i64 x.seq, .int .i64 x.batch, .slice none 0 0, .slice none 0 0] 82)).heap[w.heap.size + 1]? = some (.cells #[.int .i64 0, .int .i64 0, .slice none 0 0, .slice none 0 0] 82 (0, 0)) ∧ (((w.alloc (.cells #[.int .u32 x.seq, .int .u32 x.batch, .slice x.MA x.mn x.mc, .slice x.EA x.en x.ec] 73)).alloc (.cells #[.int .i64 0, .int .i64 0, .slice none 0 0, .slice none 0 0] 82)).alloc (.cells #[.int .i64 x.seq, .int .i64 x.batch, .slice none 0 0, .slice none 0 0] 82)).heap[w.heap.size + 1 + 1]? = some (.cells #[.int .i64 x.seq, .int .i64 x.batch, .slice none 0 0, .slice none 0 0] 82 (0, 0))) :=
    ⟨(((Fr.refl None_ w).alloc _).alloc _).alloc _, at_old _ (at_old _ (heap_alloc_new w _)), at_old _ (at_new _ (size_new _ rfl)), at_new _ (size_new _ (size_new _ rfl))⟩
  go_enter Try.func34, Try.ntmps34
  go_wp2_with fail
  generalize ((w.alloc (.cells #[.int .u32 x.seq, .int .u32 x.batch, .slice x.MA x.mn x.mc, .slice x.EA x.en x.ec] 73)).alloc (.cells #[.int .i64 0, .int .i64 0, .slice none 0 0, .slice none 0 0] 82)).alloc (.cells #[.int .i64 x.seq, .int .i64 x.batch, .slice none 0 0, .slice none 0 0] 82) = wa at *
  have HFB := As.mk HB0.out.1
  have HB := As.mk HB0.out.2.1
  have hzs := HB0.out.1.size
  go_loopw [4] (fun vS w' => ∃ i : Int, ∃ v : Value, vS = .int .i64 i ∧ 0 ≤ i ∧ i ≤ (x.mn : Int) ∧ As (Row 2 .i64 w' wa.heap.size v (m.take i.toNat)) ∧ As (Fr (fun b => b = w.heap.size + 1 + 1) wa w' ∧ w'.heap[w.heap.size + 1 + 1]? = some (.cells #[.int .i64 x.seq, .int .i64 x.batch, v, .slice none 0 0] 82 (0, 0)))) (fun vS _ => x.mn - (intOf vS).toNat)
  case atStart => exact ⟨0, .slice none 0 0, rfl, by omega, by omega, ⟨Row.nil _ _ _ _⟩, ⟨Fr.refl _ _, HB0.out.2.2.2⟩⟩
  case round =>
    obtain ⟨i, v, rfl, hi0, hi, HX, HQ⟩ := hrel
    obtain ⟨AM, nM, cM, e1, _, hd1, _⟩ := HX.out.rd
    subst e1
    have HBX := As.mk (HQ.out.1.heap HB.out (by omega))
    have b2 := cell_is (i := 2) HBX.out rfl
    have b3 := cell_is (i := 3) HBX.out rfl
    have o2 := cell_is (i := 2) HQ.out.2 rfl
    have o3 := cell_is (i := 3) HQ.out.2 rfl
    by_cases hlt : i < (x.mn : Int)
    · have hil : i.toNat < m.length := by have := H.out.map.1; omega
      obtain ⟨ad, e, hc⟩ := H.out.map.at_ i hi0 hlt
      replace hc := HQ.out.1.cell (HFB.out.cell hc (fun h => h)) (by have h1 := World.block_lt_of_cell? w _ hc; intro h2; have h3 : (ad.add i.toNat).block = w.heap.size + 1 + 1 := h2; omega)
      have hcm := inR_at H.out.mapR hil
      have hcv : IntKind.i64.wrap (m.getD i.toNat 0) = m.getD i.toNat 0 := i64_in _ (by omega) (by omega)
      have HTK := As.mk (take_snoc 0 hil)
      have HLN := As.mk H.out.map.1
      rw [e] at b2 b3
      generalize m.getD i.toNat 0 = y at *
      clear hcm hil e HBX
      go_upto_region 5 with fail
      have HXd := As.mk ((HX.out.none_ ((Fr.refl None_ wr).alloc (.cells #[.int .i64 y] 2))).none_ ((Fr.refl None_ (wr.alloc (.cells #[.int .i64 y] 2))).drew))
      have HOd := As.mk ((Fr.refl None_ (wr.alloc (.cells #[.int .i64 y] 2))).drew.heap (at_old (.cells #[.int .i64 y] 2) HQ.out.2) (fun h => h))
      have HFd := As.mk (HQ.out.1.alloc (.cells #[.int .i64 y] 2)).drew
      have HRy : As (Rd .i64 (wr.alloc (.cells #[.int .i64 y] 2)).drew (some ⟨wr.heap.size, 0, none⟩) 1 [y]) := ⟨rfl, by omega, fun _ => ⟨_, rfl, fun j hj => by
        have h0 : j = 0 := by omega
        subst h0
        rw [add_at]
        exact cell_is (i := 0) ((Fr.refl None_ (wr.alloc (.cells #[.int .i64 y] 2))).drew.heap (heap_alloc_new wr _) (fun h => h)) rfl⟩⟩
      have lo : w.heap.size + 1 + 1 < wr.heap.size := (Array.getElem?_eq_some_iff.1 HQ.out.2).1
      have lb : w.heap.size < wr.heap.size := by omega
      have la : (ad.add i.toNat).block < wr.heap.size := World.block_lt_of_cell? wr _ hc
      go_region_law (first | ((with_reducible refine step_appendRow wa.heap.size rfl _ _ 80 2 .i64 8 rfl Try.underlying80 infoI64 (by decide) (.slice AM nM cM) (m.take i.toNat) [y] (some ⟨wr.heap.size, 0, none⟩) 1 1 rfl rfl HXd.out HRy.out ?k0 ?k1 ?_); (case k0 => exact HFd.out.size); (case k1 => have := HLN.out; simp; omega); intro v1 w5 hrow1 hfr1 hat1; have HR1 := As.mk hrow1; have HF5 := As.mk (HFd.out.after hfr1 (fun i hi ht => absurd hi (by have := (HXd.out.blk i ht).1; omega))); have hd5 := hfr1.heap HOd.out (Row.ne HXd.out HOd.out (by decide)); have HD5 := As.mk hd5; have f2 := free_of (i := 2) hd5; have k2 := cell_is (i := 2) hd5 rfl; clear hrow1 hfr1 hat1 hd5; obtain ⟨A5, n5, c5, e5, _, _, _⟩ := HR1.out.rd; subst e5))
      all_goals
       go_wp2_with fail
       have hn1 : (i + 1).toNat = i.toNat + 1 := by omega
       refine ⟨⟨i + 1, .slice A5 n5 c5, rfl, by omega, by omega, ⟨?_⟩, ⟨?_, ?_⟩⟩, by simp [intOf]; omega⟩
       · rw [hn1, HTK.out]
         exact HR1.out.fr ((Fr.refl (fun b => b = w.heap.size + 1 + 1) w5).setCell (p := ⟨w.heap.size + 1 + 1, 2, none⟩) (fun _ => rfl) (.slice A5 n5 c5)) (fun b hb e => by subst e; exact Row.ne HR1.out HD5.out (by decide) hb)
       · exact HF5.out.setCell (p := ⟨w.heap.size + 1 + 1, 2, none⟩) (fun _ => rfl) (.slice A5 n5 c5)
       · exact heap_set HD5.out 2 (.slice A5 n5 c5)
    · have hin : m.take i.toNat = m := List.take_of_length_le (by have := H.out.map.1; omega)
      rw [hin] at HX
      clear hin
      have HVM := As.mk HX.out
      have HFB2 := As.mk (HFB.out.after HQ.out.1 (fun i hi ht => absurd hi (by omega)))
      have HB2 := As.mk (HQ.out.1.heap HB.out (by omega))
      have HC2 := As.mk (HQ.out.1.heap HB0.out.2.2.1 (by omega))
      have HO2 := As.mk HQ.out.2
      have hzl := HFB2.out.size
      have hlt' : ¬ i < (x.mn : Int) := hlt
      clear HX HQ HB HFB hlt
      rename World => wl
      have HFB := HFB2
      have HB := HB2
      go_wp2_with fail
      go_loopw [5] (fun vS w' => ∃ i : Int, ∃ v : Value, vS = .int .i64 i ∧ 0 ≤ i ∧ i ≤ (x.en : Int) ∧ As (Row 2 .i64 w' wl.heap.size v (er.take i.toNat)) ∧ As (Fr (fun b => b = w.heap.size + 1 + 1) wl w' ∧ w'.heap[w.heap.size + 1 + 1]? = some (.cells #[.int .i64 x.seq, .int .i64 x.batch, .slice AM nM cM, v] 82 (0, 0)))) (fun vS _ => x.en - (intOf vS).toNat)
      case atStart => exact ⟨0, .slice none 0 0, rfl, by omega, by omega, ⟨Row.nil _ _ _ _⟩, ⟨Fr.refl _ _, HO2.out⟩⟩
      case round =>
        obtain ⟨i, v, rfl, hi0, hi, HX, HQ⟩ := hrel
        obtain ⟨A1, n1, c1, e1, _, hd1, _⟩ := HX.out.rd
        subst e1
        have HBX := As.mk (HQ.out.1.heap HB.out (by omega))
        have b2 := cell_is (i := 2) HBX.out rfl
        have b3 := cell_is (i := 3) HBX.out rfl
        have o2 := cell_is (i := 2) HQ.out.2 rfl
        have o3 := cell_is (i := 3) HQ.out.2 rfl
        by_cases hlt : i < (x.en : Int)
        · have hil : i.toNat < er.length := by have := H.out.ers.1; omega
          obtain ⟨ad, e, hc⟩ := H.out.ers.at_ i hi0 hlt
          replace hc := HQ.out.1.cell (HFB.out.cell hc (fun h => h)) (by have h1 := World.block_lt_of_cell? w _ hc; intro h2; have h3 : (ad.add i.toNat).block = w.heap.size + 1 + 1 := h2; omega)
          have hcm := inR_at H.out.ersR hil
          have hcv : IntKind.i64.wrap (er.getD i.toNat 0) = er.getD i.toNat 0 := i64_in _ (by omega) (by omega)
          have HTK := As.mk (take_snoc 0 hil)
          have HLN := As.mk H.out.ers.1
          rw [e] at b2 b3
          generalize er.getD i.toNat 0 = y at *
          clear hcm hil e HBX
          go_upto_region 9 with fail
          have HXd := As.mk ((HX.out.none_ ((Fr.refl None_ wr).alloc (.cells #[.int .i64 y] 2))).none_ ((Fr.refl None_ (wr.alloc (.cells #[.int .i64 y] 2))).drew))
          have HOd := As.mk ((Fr.refl None_ (wr.alloc (.cells #[.int .i64 y] 2))).drew.heap (at_old (.cells #[.int .i64 y] 2) HQ.out.2) (fun h => h))
          have HFd := As.mk (HQ.out.1.alloc (.cells #[.int .i64 y] 2)).drew
          have HRy : As (Rd .i64 (wr.alloc (.cells #[.int .i64 y] 2)).drew (some ⟨wr.heap.size, 0, none⟩) 1 [y]) := ⟨rfl, by omega, fun _ => ⟨_, rfl, fun j hj => by
            have h0 : j = 0 := by omega
            subst h0
            rw [add_at]
            exact cell_is (i := 0) ((Fr.refl None_ (wr.alloc (.cells #[.int .i64 y] 2))).drew.heap (heap_alloc_new wr _) (fun h => h)) rfl⟩⟩
          have lo : w.heap.size + 1 + 1 < wr.heap.size := (Array.getElem?_eq_some_iff.1 HQ.out.2).1
          have lb : w.heap.size < wr.heap.size := by omega
          have la : (ad.add i.toNat).block < wr.heap.size := World.block_lt_of_cell? wr _ hc
          go_region_law (first | ((with_reducible refine step_appendRow wl.heap.size rfl _ _ 80 2 .i64 8 rfl Try.underlying80 infoI64 (by decide) (.slice A1 n1 c1) (er.take i.toNat) [y] (some ⟨wr.heap.size, 0, none⟩) 1 1 rfl rfl HXd.out HRy.out ?k0 ?k1 ?_); (case k0 => exact HFd.out.size); (case k1 => have := HLN.out; simp; omega); intro v1 w5 hrow1 hfr1 hat1; have HR1 := As.mk hrow1; have HF5 := As.mk (HFd.out.after hfr1 (fun i hi ht => absurd hi (by have := (HXd.out.blk i ht).1; omega))); have hd5 := hfr1.heap HOd.out (Row.ne HXd.out HOd.out (by decide)); have HD5 := As.mk hd5; have f2 := free_of (i := 3) hd5; have k2 := cell_is (i := 3) hd5 rfl; clear hrow1 hfr1 hat1 hd5; obtain ⟨A5, n5, c5, e5, _, _, _⟩ := HR1.out.rd; subst e5))
          all_goals
           go_wp2_with fail
           have hn1 : (i + 1).toNat = i.toNat + 1 := by omega
           refine ⟨⟨i + 1, .slice A5 n5 c5, rfl, by omega, by omega, ⟨?_⟩, ⟨?_, ?_⟩⟩, by simp [intOf]; omega⟩
           · rw [hn1, HTK.out]
             exact HR1.out.fr ((Fr.refl (fun b => b = w.heap.size + 1 + 1) w5).setCell (p := ⟨w.heap.size + 1 + 1, 3, none⟩) (fun _ => rfl) (.slice A5 n5 c5)) (fun b hb e => by subst e; exact Row.ne HR1.out HD5.out (by decide) hb)
           · exact HF5.out.setCell (p := ⟨w.heap.size + 1 + 1, 3, none⟩) (fun _ => rfl) (.slice A5 n5 c5)
           · exact heap_set HD5.out 3 (.slice A5 n5 c5)
        · have hin : er.take i.toNat = er := List.take_of_length_le (by have := H.out.ers.1; omega)
          rw [hin] at HX
          clear hin
          have HVE := As.mk HX.out
          have HCz := As.mk (HQ.out.1.heap HC2.out (by omega))
          have o0 := cell_is (i := 0) HQ.out.2 rfl
          have o1 := cell_is (i := 1) HQ.out.2 rfl
          have z0 := cell_is (i := 0) HCz.out rfl
          have z1 := cell_is (i := 1) HCz.out rfl
          have z2 := cell_is (i := 2) HCz.out rfl
          have z3 := cell_is (i := 3) HCz.out rfl
          have y0 := free_of (i := 0) HCz.out
          have y1 := free_of (i := 1) HCz.out
          have y2 := free_of (i := 2) HCz.out
          have y3 := free_of (i := 3) HCz.out
          have hb9 := HQ.out.1.size
          go_wp2_with fail
          have hS : Fr (fun b => b = w.heap.size + 1) wr (((((wr.setCell ⟨w.heap.size + 1, 0, none⟩ (.int .i64 x.seq)).setCell ⟨w.heap.size + 1, 1, none⟩ (.int .i64 x.batch)).setCell ⟨w.heap.size + 1, 2, none⟩ (.slice AM nM cM)).setCell ⟨w.heap.size + 1, 3, none⟩ (.slice A1 n1 c1))) := ((((Fr.refl (fun b => b = w.heap.size + 1) wr).setCell (p := ⟨w.heap.size + 1, 0, none⟩) (fun _ => rfl) _).setCell (p := ⟨w.heap.size + 1, 1, none⟩) (fun _ => rfl) _).setCell (p := ⟨w.heap.size + 1, 2, none⟩) (fun _ => rfl) _).setCell (p := ⟨w.heap.size + 1, 3, none⟩) (fun _ => rfl) _
          refine bodyPost_ret (v := .agg #[.int .i64 x.seq, .int .i64 x.batch, .slice AM nM cM, .slice A1 n1 c1]) (by simp [results, Try.results34, go_sem, z0, z1, z2, z3, y0, y1, y2, y3]) rfl ⟨_, _, rfl, ?_, ?_, ?_⟩
          · exact ((HVM.out.lower (Nat.le_trans (Nat.le_refl _) hzs)).fr HQ.out.1 (fun b hb e => by subst e; exact Row.ne HVM.out HO2.out (by decide) hb)).fr hS (fun b hb e => by subst e; exact Row.ne HVM.out HC2.out (by decide) hb)
          · exact (HVE.out.lower hzl).fr hS (fun b hb e => by subst e; exact Row.ne HVE.out HCz.out (by decide) hb)
          · exact (HFB.out.after HQ.out.1 (fun i hi ht => absurd hi (by omega))).after hS (fun i hi ht => absurd hi (by omega))

end Go.Proofs.Ytlhgbamajabnfaa.Point2

/- gabionref14.Encode; gabionlaw14.same. -/
namespace Go.Proofs.Ytlhgbamajabnfaa.Point3
open Go.RowKit Go.Proofs.Ytlhgbamajabnfaa.Gab Go.Proofs.Ytlhgbamajabnfaa.Wr Go.Proofs.Ytlhgbamajabnfaa.Geom Go.Proofs.Ytlhgbamajabnfaa.Ref Go.Proofs.Ytlhgbamajabnfaa.Point1 Go.Proofs.Ytlhgbamajabnfaa.Point2
open Go.Proofs.Ytlhgbamajabnfaa.Str (take_snoc)
set_option linter.unusedVariables false
set_option linter.unusedSimpArgs false

theorem les_app (l : List Int) (v : Int) : les 4 l ++ le v 4 = les 4 (l ++ [v]) := by simp [les]
theorem wrap64 {y : Int} (h0 : 0 ≤ y) (h1 : y < 4294967296) : IntKind.u64.wrap y = y := by rw [IntKind.wrap_u64]; omega
set_option maxHeartbeats 4000000 in
set_option maxRecDepth 100000 in
theorem REncode_calls (seq batch : Int) (A B : Option Addr) (n c k d : Nat) (m er : List Int) (w : World) (hs : 0 ≤ seq ∧ seq < 4294967296) (hb : 0 ≤ batch ∧ batch < 4294967296) (hA : Rd .i64 w A n m) (hm : InR 4294967296 m) (hB : Rd .i64 w B k er) (he : InR 4294967296 er) (hn : n ≤ 100000) (hk : k ≤ 100000) :
    Calls Try.prog 33 #[.agg #[.int .i64 seq, .int .i64 batch, .slice A n c, .slice B k d]] w fun e w' => ∃ v, e = .returned v ∧ Row 5 .u8 w' w.heap.size v (encB seq batch m er) ∧ Fr None_ w w' := by
  have HE : As (encB seq batch m er = les 4 ([seq] ++ [batch] ++ [(n : Int)] ++ [(k : Int)] ++ m ++ er)) := ⟨by unfold encB les; rw [hA.1, hB.1]; simp⟩
  have HA := As.mk hA
  have HB := As.mk hB
  have HM := As.mk hm
  have HMN := As.mk hA.1
  have HER := As.mk he
  have HBY := As.mk (fun (v : Int) (w : World) (h0 : 0 ≤ v) (h1 : v < 18446744073709551616) => Bytes_calls v 4 w h0 h1 (by decide) (by decide))
  generalize encB seq batch m er = res at *
  obtain ⟨hs0, hs1⟩ := hs
  obtain ⟨hb0, hb1⟩ := hb
  have ww1 := wrap64 hs0 hs1
  have ww2 := wrap64 hb0 hb1
  have ww3 : IntKind.u64.wrap (n : Int) = n := wrap64 (by omega) (by omega)
  have ww4 : IntKind.u64.wrap (k : Int) = k := wrap64 (by omega) (by omega)
  have HX := As.mk (heap_alloc_new w (.cells #[.int .i64 seq, .int .i64 batch, .slice A n c, .slice B k d] 82))
  clear hA hB hm he
  go_enter Try.func33, Try.ntmps33
  go_wp2_with fail
  ((with_reducible refine (HBY.out seq _ (by omega) (by omega)).mono ?_); rintro e wa ⟨va, rfl, hra, hfa⟩)
  obtain ⟨A3, n3, c3, ea, _, _, _⟩ := hra.rd
  subst ea
  have HRW : As (Row 5 .u8 wa w.heap.size (.slice A3 n3 c3) (les 4 ([seq]))) := ⟨by have h := hra.lower ((Fr.refl None_ w).alloc (.cells #[.int .i64 seq, .int .i64 batch, .slice A n c, .slice B k d] 82)).size; rw [show les 4 [seq] = le seq 4 by simp [les]]; exact h⟩
  have HF := As.mk (((Fr.refl None_ w).alloc (.cells #[.int .i64 seq, .int .i64 batch, .slice A n c, .slice B k d] 82)).after hfa (fun _ _ h => h))
  have HBX := As.mk (hfa.heap HX.out (fun h => h))
  clear hra hfa HX
  have b0 := cell_is (i := 0) HBX.out rfl
  have b1 := cell_is (i := 1) HBX.out rfl
  have b2 := cell_is (i := 2) HBX.out rfl
  have b3 := cell_is (i := 3) HBX.out rfl
  go_wp2_with fail
  ((with_reducible refine (HBY.out (batch) _ (by omega) (by omega)).mono ?_); rintro e wb ⟨vb, rfl, hrb, hfb⟩)
  obtain ⟨Ab, nb, cb, eb, _, hdb, _⟩ := hrb.rd
  subst eb
  have HDB := As.mk hdb.out
  have hlb : nb = 4 := by rw [← hdb.out.1, le_length]; rfl
  subst hlb
  have HRb := As.mk (HRW.out.none_ hfb)
  have HFb := As.mk (HF.out.after hfb (fun _ _ h => h))
  have HXb := As.mk (hfb.heap HBX.out (fun h => h))
  clear hrb hfb hdb HRW HF HBX b0 b1 b2 b3
  go_wp2_with (at_builtin; (with_reducible refine appendRow w.heap.size rfl _ _ 23 5 .u8 1 rfl Try.underlying23 infoByte (by decide) (.slice A3 n3 c3) (les 4 ([seq])) (le (batch) (Int.toNat 4)) Ab 4 cb rfl rfl HRb.out HDB.out ?k0 ?k1 ?_); (case k0 => exact HFb.out.size); (case k1 => simp [les_length] <;> omega); intro v1 w1 hrow1 hfr1 hat1; have HR1 := As.mk hrow1; have HF1 := As.mk (row_grow HRb.out HFb.out hfr1); have HX1 := As.mk (hfr1.heap HXb.out (Row.ne HRb.out HXb.out (by decide))); have b0 := cell_is (i := 0) HX1.out rfl; have b1 := cell_is (i := 1) HX1.out rfl; have b2 := cell_is (i := 2) HX1.out rfl; have b3 := cell_is (i := 3) HX1.out rfl; clear hrow1 hfr1 hat1; obtain ⟨A4, n4, c4, e9, _, _, _⟩ := HR1.out.rd; subst e9)
  have HRW : As (Row 5 .u8 w1 w.heap.size (.slice A4 n4 c4) (les 4 ([seq] ++ [batch]))) := ⟨by have h := HR1.out; rw [show Int.toNat 4 = 4 from rfl, les_app] at h; exact h⟩
  have HF := HF1
  have HBX := HX1
  clear HR1 HF1 HX1 HRb HFb HXb HDB
  ((with_reducible refine (HBY.out ((n : Int)) _ (by omega) (by omega)).mono ?_); rintro e wb ⟨vb, rfl, hrb, hfb⟩)
  obtain ⟨Ab, nb, cb, eb, _, hdb, _⟩ := hrb.rd
  subst eb
  have HDB := As.mk hdb.out
  have hlb : nb = 4 := by rw [← hdb.out.1, le_length]; rfl
  subst hlb
  have HRb := As.mk (HRW.out.none_ hfb)
  have HFb := As.mk (HF.out.after hfb (fun _ _ h => h))
  have HXb := As.mk (hfb.heap HBX.out (fun h => h))
  clear hrb hfb hdb HRW HF HBX b0 b1 b2 b3
  go_wp2_with (at_builtin; (with_reducible refine appendRow w.heap.size rfl _ _ 23 5 .u8 1 rfl Try.underlying23 infoByte (by decide) (.slice A4 n4 c4) (les 4 ([seq] ++ [batch])) (le ((n : Int)) (Int.toNat 4)) Ab 4 cb rfl rfl HRb.out HDB.out ?k0 ?k1 ?_); (case k0 => exact HFb.out.size); (case k1 => simp [les_length] <;> omega); intro v1 w1 hrow1 hfr1 hat1; have HR1 := As.mk hrow1; have HF1 := As.mk (row_grow HRb.out HFb.out hfr1); have HX1 := As.mk (hfr1.heap HXb.out (Row.ne HRb.out HXb.out (by decide))); have b0 := cell_is (i := 0) HX1.out rfl; have b1 := cell_is (i := 1) HX1.out rfl; have b2 := cell_is (i := 2) HX1.out rfl; have b3 := cell_is (i := 3) HX1.out rfl; clear hrow1 hfr1 hat1; obtain ⟨A5, n5, c5, e9, _, _, _⟩ := HR1.out.rd; subst e9)
  have HRW : As (Row 5 .u8 w1 w.heap.size (.slice A5 n5 c5) (les 4 ([seq] ++ [batch] ++ [(n : Int)]))) := ⟨by have h := HR1.out; rw [show Int.toNat 4 = 4 from rfl, les_app] at h; exact h⟩
  have HF := HF1
  have HBX := HX1
  clear HR1 HF1 HX1 HRb HFb HXb HDB
  ((with_reducible refine (HBY.out ((k : Int)) _ (by omega) (by omega)).mono ?_); rintro e wb ⟨vb, rfl, hrb, hfb⟩)
  obtain ⟨Ab, nb, cb, eb, _, hdb, _⟩ := hrb.rd
  subst eb
  have HDB := As.mk hdb.out
  have hlb : nb = 4 := by rw [← hdb.out.1, le_length]; rfl
  subst hlb
  have HRb := As.mk (HRW.out.none_ hfb)
  have HFb := As.mk (HF.out.after hfb (fun _ _ h => h))
  have HXb := As.mk (hfb.heap HBX.out (fun h => h))
  clear hrb hfb hdb HRW HF HBX b0 b1 b2 b3
  go_wp2_with (at_builtin; (with_reducible refine appendRow w.heap.size rfl _ _ 23 5 .u8 1 rfl Try.underlying23 infoByte (by decide) (.slice A5 n5 c5) (les 4 ([seq] ++ [batch] ++ [(n : Int)])) (le ((k : Int)) (Int.toNat 4)) Ab 4 cb rfl rfl HRb.out HDB.out ?k0 ?k1 ?_); (case k0 => exact HFb.out.size); (case k1 => simp [les_length] <;> omega); intro v1 w1 hrow1 hfr1 hat1; have HR1 := As.mk hrow1; have HF1 := As.mk (row_grow HRb.out HFb.out hfr1); have HX1 := As.mk (hfr1.heap HXb.out (Row.ne HRb.out HXb.out (by decide))); have b0 := cell_is (i := 0) HX1.out rfl; have b1 := cell_is (i := 1) HX1.out rfl; have b2 := cell_is (i := 2) HX1.out rfl; have b3 := cell_is (i := 3) HX1.out rfl; clear hrow1 hfr1 hat1; obtain ⟨A6, n6, c6, e9, _, _, _⟩ := HR1.out.rd; subst e9)
  have HRW : As (Row 5 .u8 w1 w.heap.size (.slice A6 n6 c6) (les 4 ([seq] ++ [batch] ++ [(n : Int)] ++ [(k : Int)]))) := ⟨by have h := HR1.out; rw [show Int.toNat 4 = 4 from rfl, les_app] at h; exact h⟩
  have HF := HF1
  have HBX := HX1
  clear HR1 HF1 HX1 HRb HFb HXb HDB
  clear b0 b1 b2 b3
  go_loopw [3, 4] (fun v3 vS w' => ∃ i : Int, vS = .int .i64 i ∧ 0 ≤ i ∧ i ≤ (n : Int) ∧ As (Row 5 .u8 w' w.heap.size v3 (les 4 ([seq] ++ [batch] ++ [(n : Int)] ++ [(k : Int)] ++ m.take i.toNat))) ∧ As (Fr None_ w w') ∧ As (w'.heap[w.heap.size]? = some (.cells #[.int .i64 seq, .int .i64 batch, .slice A n c, .slice B k d] 82 (0, 0)))) (fun _ vS _ => n - (intOf vS).toNat)
  case atStart => exact ⟨0, rfl, by omega, by omega, ⟨by simpa using HRW.out⟩, HF, HBX⟩
  case round =>
    clear HRW HF HBX
    obtain ⟨i, rfl, hi0, hi, HRW, HF, HBX⟩ := hrel
    obtain ⟨A3, n3, c3, e3, _, _, _⟩ := HRW.out.rd
    subst e3
    have b2 := cell_is (i := 2) HBX.out rfl
    have b3 := cell_is (i := 3) HBX.out rfl
    by_cases hlt : i < (n : Int)
    · obtain ⟨ad, e, hc⟩ := (HA.out.none_ HF.out).at_ i hi0 hlt
      have hil : i.toNat < m.length := by have := HA.out.1; omega
      have hcm := inR_at HM.out hil
      have HTK := As.mk (take_snoc 0 hil)
      have hle := HA.out.1
      have hmn : m.length = n := HMN.out
      rw [e] at b2 b3
      generalize m.getD i.toNat 0 = y at *
      obtain ⟨hy0, hy1⟩ := hcm
      have hwy := wrap64 hy0 hy1
      clear hil e
      go_wp2_with fail
      ((with_reducible refine (HBY.out (y) _ (by omega) (by omega)).mono ?_); rintro e wb ⟨vb, rfl, hrb, hfb⟩)
      obtain ⟨Ab, nb, cb, eb, _, hdb, _⟩ := hrb.rd
      subst eb
      have HDB := As.mk hdb.out
      have hlb : nb = 4 := by rw [← hdb.out.1, le_length]; rfl
      subst hlb
      have HRb := As.mk (HRW.out.none_ hfb)
      have HFb := As.mk (HF.out.after hfb (fun _ _ h => h))
      have HXb := As.mk (hfb.heap HBX.out (fun h => h))
      clear hrb hfb hdb HRW HF HBX
      go_wp2_with (at_builtin; (with_reducible refine appendRow w.heap.size rfl _ _ 23 5 .u8 1 rfl Try.underlying23 infoByte (by decide) (.slice A3 n3 c3) (les 4 ([seq] ++ [batch] ++ [(n : Int)] ++ [(k : Int)] ++ m.take i.toNat)) (le (y) (Int.toNat 4)) Ab 4 cb rfl rfl HRb.out HDB.out ?k0 ?k1 ?_); (case k0 => exact HFb.out.size); (case k1 => simp [les_length] <;> omega); intro v1 w1 hrow1 hfr1 hat1; have HR1 := As.mk hrow1; have HF1 := As.mk (row_grow HRb.out HFb.out hfr1); have HX1 := As.mk (hfr1.heap HXb.out (Row.ne HRb.out HXb.out (by decide))); clear hrow1 hfr1 hat1; obtain ⟨A9, n9, c9, e9, _, _, _⟩ := HR1.out.rd; subst e9)
      have HRW : As (Row 5 .u8 w1 w.heap.size (.slice A9 n9 c9) (les 4 ([seq] ++ [batch] ++ [(n : Int)] ++ [(k : Int)] ++ m.take i.toNat ++ [y]))) := ⟨by have h := HR1.out; rw [show Int.toNat 4 = 4 from rfl, les_app] at h; exact h⟩
      have HF := HF1
      have HBX := HX1
      clear HR1 HF1 HX1 HRb HFb HXb HDB
      have hn1 : (i + 1).toNat = i.toNat + 1 := by omega
      exact ⟨⟨i + 1, rfl, by omega, by omega, ⟨by rw [hn1, HTK.out, ← List.append_assoc]; exact HRW.out⟩, HF, HBX⟩, by simp [intOf]; omega⟩
    · have hin : m.take i.toNat = m := List.take_of_length_le (by have := HA.out.1; omega)
      rw [hin] at HRW
      clear hin
      go_wp2_with fail
      go_loopw [3, 5] (fun v3 vS w' => ∃ i : Int, vS = .int .i64 i ∧ 0 ≤ i ∧ i ≤ (k : Int) ∧ As (Row 5 .u8 w' w.heap.size v3 (les 4 ([seq] ++ [batch] ++ [(n : Int)] ++ [(k : Int)] ++ m ++ er.take i.toNat))) ∧ As (Fr None_ w w') ∧ As (w'.heap[w.heap.size]? = some (.cells #[.int .i64 seq, .int .i64 batch, .slice A n c, .slice B k d] 82 (0, 0)))) (fun _ vS _ => k - (intOf vS).toNat)
      case atStart => exact ⟨0, rfl, by omega, by omega, ⟨by simpa using HRW.out⟩, HF, HBX⟩
      case round =>
        clear HRW HF HBX
        obtain ⟨i, rfl, hi0, hi, HRW, HF, HBX⟩ := hrel
        obtain ⟨A3, n3, c3, e3, _, _, _⟩ := HRW.out.rd
        subst e3
        have b2 := cell_is (i := 2) HBX.out rfl
        have b3 := cell_is (i := 3) HBX.out rfl
        by_cases hlt : i < (k : Int)
        · obtain ⟨ad, e, hc⟩ := (HB.out.none_ HF.out).at_ i hi0 hlt
          have hil : i.toNat < er.length := by have := HB.out.1; omega
          have hcm := inR_at HER.out hil
          have HTK := As.mk (take_snoc 0 hil)
          have hle := HB.out.1
          have hmn : m.length = n := HMN.out
          rw [e] at b2 b3
          generalize er.getD i.toNat 0 = y at *
          obtain ⟨hy0, hy1⟩ := hcm
          have hwy := wrap64 hy0 hy1
          clear hil e
          go_wp2_with fail
          ((with_reducible refine (HBY.out (y) _ (by omega) (by omega)).mono ?_); rintro e wb ⟨vb, rfl, hrb, hfb⟩)
          obtain ⟨Ab, nb, cb, eb, _, hdb, _⟩ := hrb.rd
          subst eb
          have HDB := As.mk hdb.out
          have hlb : nb = 4 := by rw [← hdb.out.1, le_length]; rfl
          subst hlb
          have HRb := As.mk (HRW.out.none_ hfb)
          have HFb := As.mk (HF.out.after hfb (fun _ _ h => h))
          have HXb := As.mk (hfb.heap HBX.out (fun h => h))
          clear hrb hfb hdb HRW HF HBX
          go_wp2_with (at_builtin; (with_reducible refine appendRow w.heap.size rfl _ _ 23 5 .u8 1 rfl Try.underlying23 infoByte (by decide) (.slice A3 n3 c3) (les 4 ([seq] ++ [batch] ++ [(n : Int)] ++ [(k : Int)] ++ m ++ er.take i.toNat)) (le (y) (Int.toNat 4)) Ab 4 cb rfl rfl HRb.out HDB.out ?k0 ?k1 ?_); (case k0 => exact HFb.out.size); (case k1 => simp [les_length] <;> omega); intro v1 w1 hrow1 hfr1 hat1; have HR1 := As.mk hrow1; have HF1 := As.mk (row_grow HRb.out HFb.out hfr1); have HX1 := As.mk (hfr1.heap HXb.out (Row.ne HRb.out HXb.out (by decide))); clear hrow1 hfr1 hat1; obtain ⟨A9, n9, c9, e9, _, _, _⟩ := HR1.out.rd; subst e9)
          have HRW : As (Row 5 .u8 w1 w.heap.size (.slice A9 n9 c9) (les 4 ([seq] ++ [batch] ++ [(n : Int)] ++ [(k : Int)] ++ m ++ er.take i.toNat ++ [y]))) := ⟨by have h := HR1.out; rw [show Int.toNat 4 = 4 from rfl, les_app] at h; exact h⟩
          have HF := HF1
          have HBX := HX1
          clear HR1 HF1 HX1 HRb HFb HXb HDB
          have hn1 : (i + 1).toNat = i.toNat + 1 := by omega
          exact ⟨⟨i + 1, rfl, by omega, by omega, ⟨by rw [hn1, HTK.out, ← List.append_assoc]; exact HRW.out⟩, HF, HBX⟩, by simp [intOf]; omega⟩
        · have hin : er.take i.toNat = er := List.take_of_length_le (by have := HB.out.1; omega)
          rw [hin] at HRW
          clear hin
          have HRES : As (Row 5 .u8 wr w.heap.size (.slice A3 n3 c3) res) := ⟨by rw [HE.out]; exact HRW.out⟩
          go_wp2_with fail
          go_ret
          exact ⟨_, rfl, HRES.out, HF.out⟩
end Go.Proofs.Ytlhgbamajabnfaa.Point3

/- gabionlaw14: same, shape, light. -/
namespace Go.Proofs.Ytlhgbamajabnfaa.Point4
open Go.RowKit Go.Proofs.Ytlhgbamajabnfaa.Gab Go.Proofs.Ytlhgbamajabnfaa.Wr Go.Proofs.Ytlhgbamajabnfaa.Geom Go.Proofs.Ytlhgbamajabnfaa.Ref Go.Proofs.Ytlhgbamajabnfaa.Point1 Go.Proofs.Ytlhgbamajabnfaa.Point2 Go.Proofs.Ytlhgbamajabnfaa.Point3
set_option linter.unusedVariables false
set_option linter.unusedSimpArgs false

/-- The document's point, as it stands. -/
structure RPt where
  seq : Int
  batch : Int
  A : Option Addr
  n : Nat
  c : Nat
  B : Option Addr
  k : Nat
  d : Nat
def RPt.cells (x : RPt) : Array Value := #[.int .i64 x.seq, .int .i64 x.batch, .slice x.A x.n x.c, .slice x.B x.k x.d]
structure RPtAt (w : World) (x : RPt) (m er : List Int) : Prop where
  seq : 0 ≤ x.seq ∧ x.seq < 4294967296
  batch : 0 ≤ x.batch ∧ x.batch < 4294967296
  map : Rd .i64 w x.A x.n m
  mapR : InR 4294967296 m
  mapN : x.n ≤ 100000
  ers : Rd .i64 w x.B x.k er
  ersR : InR 4294967296 er
  ersN : x.k ≤ 100000
theorem RPtAt.none_ {w w' : World} {x : RPt} {m er : List Int} (h : RPtAt w x m er) (hf : Fr None_ w w') : RPtAt w' x m er := ⟨h.seq, h.batch, h.map.none_ hf, h.mapR, h.mapN, h.ers.none_ hf, h.ersR, h.ersN⟩
theorem RPtAt.enc {w : World} {x : RPt} {m er : List Int} (h : RPtAt w x m er) : Calls Try.prog 33 #[.agg x.cells] w fun e w' => ∃ v, e = .returned v ∧ Row 5 .u8 w' w.heap.size v (encB x.seq x.batch m er) ∧ Fr None_ w w' :=
  REncode_calls x.seq x.batch x.A x.B x.n x.c x.k x.d m er w h.seq h.batch h.map h.mapR h.ers h.ersR h.mapN h.ersN
theorem le_range : ∀ (n : Nat) (v : Int), InR 256 (le v n)
  | 0, v => fun x hx => by cases hx
  | n + 1, v => fun x hx => by
    unfold le at hx
    rcases List.mem_cons.1 hx with rfl | hx
    · omega
    · exact le_range n _ x hx
theorem les_range (n : Nat) (l : List Int) : InR 256 (les n l) := fun x hx => by
  unfold les at hx
  obtain ⟨v, _, hv⟩ := List.mem_flatMap.1 hx
  exact le_range n v x hv
theorem encB_range (seq batch : Int) (m er : List Int) : InR 256 (encB seq batch m er) := fun x hx => by
  unfold encB at hx
  rcases List.mem_append.1 hx with h | h
  · rcases List.mem_append.1 h with h | h
    · exact les_range 4 _ x h
    · exact les_range 4 _ x h
  · exact les_range 4 _ x h

set_option maxHeartbeats 4000000 in
set_option maxRecDepth 100000 in
theorem same_calls (x y : RPt) (m er m' er' : List Int) (w : World) (hx : RPtAt w x m er) (hy : RPtAt w y m' er') :
    Calls Try.prog 35 #[.agg x.cells, .agg y.cells] w fun e w' => e = .returned (.bool (decide (encB x.seq x.batch m er = encB y.seq y.batch m' er'))) ∧ Fr None_ w w' := by
  have HX := As.mk (fun (w' : World) (hf : Fr None_ w w') => (hx.none_ hf).enc)
  have HY := As.mk (fun (w' : World) (hf : Fr None_ w w') => (hy.none_ hf).enc)
  have h1 := encB_range x.seq x.batch m er
  have h2 := encB_range y.seq y.batch m' er'
  have HR1 := As.mk h1
  have HR2 := As.mk h2
  generalize encB x.seq x.batch m er = xs at *
  generalize encB y.seq y.batch m' er' = ys at *
  unfold RPt.cells at *
  clear hx hy h1 h2
  have HFW : As (Fr None_ w ((w.alloc (.cells #[.int .i64 x.seq, .int .i64 x.batch, .slice x.A x.n x.c, .slice x.B x.k x.d] 82)).alloc (.cells #[.int .i64 y.seq, .int .i64 y.batch, .slice y.A y.n y.c, .slice y.B y.k y.d] 82))) := ⟨((Fr.refl None_ w).alloc _).alloc _⟩
  go_enter Try.func35, Try.ntmps35
  go_upto_region 1 with fail
  have hb0 := at_old (.cells #[.int .i64 y.seq, .int .i64 y.batch, .slice y.A y.n y.c, .slice y.B y.k y.d] 82) (heap_alloc_new w (.cells #[.int .i64 x.seq, .int .i64 x.batch, .slice x.A x.n x.c, .slice x.B x.k x.d] 82))
  have hb1 := at_new (.cells #[.int .i64 y.seq, .int .i64 y.batch, .slice y.A y.n y.c, .slice y.B y.k y.d] 82) (size_new (.cells #[.int .i64 x.seq, .int .i64 x.batch, .slice x.A x.n x.c, .slice x.B x.k x.d] 82) (rfl : w.heap.size = w.heap.size))
  generalize (w.alloc (.cells #[.int .i64 x.seq, .int .i64 x.batch, .slice x.A x.n x.c, .slice x.B x.k x.d] 82)).alloc (.cells #[.int .i64 y.seq, .int .i64 y.batch, .slice y.A y.n y.c, .slice y.B y.k y.d] 82) = w2 at *
  have a0 := cell_is (i := 0) hb0 rfl
  have a1 := cell_is (i := 1) hb0 rfl
  have a2 := cell_is (i := 2) hb0 rfl
  have a3 := cell_is (i := 3) hb0 rfl
  have b0 := cell_is (i := 0) hb1 rfl
  have b1 := cell_is (i := 1) hb1 rfl
  have b2 := cell_is (i := 2) hb1 rfl
  have b3 := cell_is (i := 3) hb1 rfl
  clear hb0 hb1
  go_region_held3 (fun w' => w'.cell? ⟨w.heap.size, 0, none⟩ = some (.int .i64 x.seq) ∧ w'.cell? ⟨w.heap.size, 1, none⟩ = some (.int .i64 x.batch) ∧ w'.cell? ⟨w.heap.size, 2, none⟩ = some (.slice x.A x.n x.c) ∧ w'.cell? ⟨w.heap.size, 3, none⟩ = some (.slice x.B x.k x.d) ∧ w'.cell? ⟨w.heap.size + 1, 0, none⟩ = some (.int .i64 y.seq) ∧ w'.cell? ⟨w.heap.size + 1, 1, none⟩ = some (.int .i64 y.batch) ∧ w'.cell? ⟨w.heap.size + 1, 2, none⟩ = some (.slice y.A y.n y.c) ∧ w'.cell? ⟨w.heap.size + 1, 3, none⟩ = some (.slice y.B y.k y.d)) (first | go_keep | (refine ⟨?_, ?_, ?_, ?_, ?_, ?_, ?_, ?_⟩ <;> (refine Fr.cell ‹Fr None_ _ _› ?_ (fun h => h); go_keep))) (first | ((with_reducible refine (Same_calls Aa Ad na ca nd cd xs ys wd (HDa.out.none_ hfd) HDd.out HR1.out HR2.out).mono ?_); rintro e w9 ⟨rfl, rfl⟩) | ((with_reducible refine (Same_calls Ab Ac nb cb nc cc xs ys wb HDb.out (HDc.out.none_ hfb) HR1.out HR2.out).mono ?_); rintro e w9 ⟨rfl, rfl⟩) | ((with_reducible refine (HY.out wa HFa.out).mono ?_); rintro e wd ⟨vd, rfl, hrd, hfd⟩; obtain ⟨Ad, nd, cd, ed, _, hdd, _⟩ := hrd.rd; subst ed; have HFd := As.mk (Fr.after (T := None_) HFa.out hfd (fun _ _ h => h)); have HDd := As.mk hdd.out; clear hrd hdd) | ((with_reducible refine (HX.out wc HFc.out).mono ?_); rintro e wb ⟨vb, rfl, hrb, hfb⟩; obtain ⟨Ab, nb, cb, eb, _, hdb, _⟩ := hrb.rd; subst eb; have HFb := As.mk (Fr.after (T := None_) HFc.out hfb (fun _ _ h => h)); have HDb := As.mk hdb.out; clear hrb hdb) | ((with_reducible refine (HX.out w2.drew HFW.out.drew).mono ?_); rintro e wa ⟨va, rfl, hra, hfa⟩; obtain ⟨Aa, na, ca, ea, _, hda, _⟩ := hra.rd; subst ea; have HFa := As.mk (Fr.after (T := None_) HFW.out.drew hfa (fun _ _ h => h)); have HDa := As.mk hda.out; clear hra hda) | ((with_reducible refine (HY.out w2.drew HFW.out.drew).mono ?_); rintro e wc ⟨vc, rfl, hrc, hfc⟩; obtain ⟨Ac, nc, cc, ec, _, hdc, _⟩ := hrc.rd; subst ec; have HFc := As.mk (Fr.after (T := None_) HFW.out.drew hfc (fun _ _ h => h)); have HDc := As.mk hdc.out; clear hrc hdc) | fail)
  all_goals
    go_wp2_with fail
    go_ret
    first
    | exact ⟨rfl, HFd.out⟩
    | exact ⟨rfl, HFb.out⟩
set_option maxHeartbeats 1000000 in
set_option maxRecDepth 100000 in
theorem light_calls (x : Pt) (w : World) : Calls Try.prog 29 #[.agg x.cells] w fun e w' => e = .returned (.bool (decide (x.mn ≤ 900 ∧ x.en ≤ 100))) ∧ Fr None_ w w' := by
  unfold Pt.cells
  by_cases h1 : x.mn ≤ 900
  · have d1 : decide ((x.mn : Int) ≤ 900) = true := decide_eq_true (by omega)
    by_cases h2 : x.en ≤ 100
    · have d2 : decide ((x.en : Int) ≤ 100) = true := decide_eq_true (by omega)
      have hd : decide (x.mn ≤ 900 ∧ x.en ≤ 100) = true := decide_eq_true ⟨h1, h2⟩
      have HD := As.mk hd
      clear hd h1 h2
      go_enter Try.func29, Try.ntmps29
      go_wp2_with fail
      go_ret
      exact ⟨by rw [HD.out]; rfl, (Fr.refl None_ w).alloc _⟩
    · have d2 : decide ((x.en : Int) ≤ 100) = false := decide_eq_false (by omega)
      have hd : decide (x.mn ≤ 900 ∧ x.en ≤ 100) = false := decide_eq_false (fun h => h2 h.2)
      have HD := As.mk hd
      clear hd h1 h2
      go_enter Try.func29, Try.ntmps29
      go_wp2_with fail
      go_ret
      exact ⟨by rw [HD.out]; rfl, (Fr.refl None_ w).alloc _⟩
  · have d1 : decide ((x.mn : Int) ≤ 900) = false := decide_eq_false (by omega)
    have hd : decide (x.mn ≤ 900 ∧ x.en ≤ 100) = false := decide_eq_false (fun h => h1 h.1)
    have HD := As.mk hd
    clear hd h1
    go_enter Try.func29, Try.ntmps29
    go_wp2_with fail
    go_ret
    exact ⟨by rw [HD.out]; rfl, (Fr.refl None_ w).alloc _⟩
end Go.Proofs.Ytlhgbamajabnfaa.Point4

/- gabionlaw14.shape; stripe.Fill. -/
namespace Go.Proofs.Ytlhgbamajabnfaa.Point5
open Go.RowKit Go.Proofs.Ytlhgbamajabnfaa.Gab Go.Proofs.Ytlhgbamajabnfaa.Wr Go.Proofs.Ytlhgbamajabnfaa.Geom Go.Proofs.Ytlhgbamajabnfaa.Ref Go.Proofs.Ytlhgbamajabnfaa.Point1
open Go.Proofs.Ytlhgbamajabnfaa.Case (u64of)
open Go.Proofs.Ytlhgbamajabnfaa.Str (pcells)
set_option linter.unusedVariables false
set_option linter.unusedSimpArgs false

def shapeOf (chips : Int) : Geo := ⟨3 + u64of chips % 3, 20, 6, 256⟩
theorem shape_ok (chips : Int) : (shapeOf chips).Ok := ⟨by show 3 ≤ 3 + u64of chips % 3 ∧ 3 + u64of chips % 3 ≤ 16; unfold u64of; omega, by show (16 : Int) ≤ 20 ∧ (20 : Int) ≤ 64; decide, by show (4 : Int) ≤ 6 ∧ (6 : Int) ≤ 32; decide, by show (256 : Int) ≤ 256 ∧ (256 : Int) ≤ 1024; decide, by show (256 : Int) % 64 = 0; decide⟩
set_option maxHeartbeats 1000000 in
set_option maxRecDepth 100000 in
theorem shape_calls (chips : Int) (w : World) : Calls Try.prog 38 #[.int .i64 chips] w fun e w' => e = .returned (shapeOf chips).val ∧ Fr None_ w w' := by
  have h0 : IntKind.u64.wrap chips = u64of chips := IntKind.wrap_u64 _
  have h1 : 0 ≤ u64of chips := by unfold u64of; omega
  have h2 : u64of chips < 18446744073709551616 := by unfold u64of; omega
  have h4 : 0 ≤ u64of chips % 3 := by omega
  have h5 : u64of chips % 3 < 3 := by omega
  have h6 : IntKind.u64.wrap (Int.tmod (u64of chips) 3) = u64of chips % 3 := by rw [Int.tmod_eq_emod_of_nonneg h1, IntKind.wrap_u64]; omega
  unfold Geo.val shapeOf
  generalize u64of chips = u at *
  go_enter Try.func38, Try.ntmps38
  go_wp2
  exact bodyPost_ret (v := .agg #[.int .i64 (3 + u % 3), .int .i64 20, .int .i64 6, .int .i64 256]) (by simp [results, Try.results38, go_sem]) rfl ⟨rfl, (Fr.refl None_ w).alloc _⟩
end Go.Proofs.Ytlhgbamajabnfaa.Point5

/- stripe.Fill. -/
namespace Go.Proofs.Ytlhgbamajabnfaa.Point6
open Go.RowKit Go.Proofs.Ytlhgbamajabnfaa.Gab Go.Proofs.Ytlhgbamajabnfaa.Wr Go.Proofs.Ytlhgbamajabnfaa.Geom Go.Proofs.Ytlhgbamajabnfaa.Ref Go.Proofs.Ytlhgbamajabnfaa.Point1 Go.Proofs.Ytlhgbamajabnfaa.Fields
open Go.Proofs.Ytlhgbamajabnfaa.Str (pcells)
set_option linter.unusedVariables false
set_option linter.unusedSimpArgs false

def fillHead (epoch batch : Int) : Head := ⟨6, epoch, batch, 0, 0, 0, 0⟩
set_option maxHeartbeats 2000000 in
set_option maxRecDepth 100000 in
theorem Fill_calls (g : Geo) (epoch batch : Int) (n : Nat) (w : World) (h : g.Ok) (hn : g.s = n) :
    Calls Try.prog 70 #[g.val, .int .u32 epoch, .int .u32 batch] w fun e w' => ∃ v, e = .returned (.agg (pcells (fillHead epoch batch) v)) ∧ Row 5 .u8 w' w.heap.size v (List.replicate n 0) ∧ Fr None_ w w' := by
  have hs := h.s
  have hmk := Gab.run_make (P := Try.prog) 23 5 .u8 1 Try.underlying23 infoByte (by decide) n (by omega)
  have HN : As (n ≤ 1024) := ⟨by omega⟩
  unfold Geo.val
  rw [hn]
  clear h hs hn
  go_enter Try.func70, Try.ntmps70
  go_wp2
  have hz : ((w.alloc (.cells #[.int .i64 g.c, .int .i64 g.b, .int .i64 g.p, .int .i64 (n : Int)] 28)).alloc (.cells #[.int .u8 6, .int .u32 epoch, .int .u32 batch, .int .u16 0, .int .u16 0, .int .u32 0, .int .u32 0, .slice (some ⟨w.heap.size + 1 + 1, 0, none⟩) n n] 56)).heap.size = w.heap.size + 1 + 1 := size_new _ (size_new _ rfl)
  have hrow := Row.made ((w.alloc (.cells #[.int .i64 g.c, .int .i64 g.b, .int .i64 g.p, .int .i64 (n : Int)] 28)).alloc (.cells #[.int .u8 6, .int .u32 epoch, .int .u32 batch, .int .u16 0, .int .u16 0, .int .u32 0, .int .u32 0, .slice (some ⟨w.heap.size + 1 + 1, 0, none⟩) n n] 56)) w.heap.size 5 .u8 n (by rw [hz]; omega) (by have := HN.out; omega)
  rw [hz] at hrow
  exact bodyPost_ret (v := .agg #[.int .u8 6, .int .u32 epoch, .int .u32 batch, .int .u16 0, .int .u16 0, .int .u32 0, .int .u32 0, .slice (some ⟨w.heap.size + 1 + 1, 0, none⟩) n n]) (by simp [results, Try.results70, go_sem]) rfl ⟨.slice (some ⟨w.heap.size + 1 + 1, 0, none⟩) n n, rfl, hrow, (((Fr.refl None_ w).alloc _).alloc _).alloc _⟩
end Go.Proofs.Ytlhgbamajabnfaa.Point6

/- point.Write: what it lays (plain). -/
namespace Go.Proofs.Ytlhgbamajabnfaa.Point7
open Go.RowKit Go.Proofs.Ytlhgbamajabnfaa.Gab Go.Proofs.Ytlhgbamajabnfaa.Wr Go.Proofs.Ytlhgbamajabnfaa.Geom Go.Proofs.Ytlhgbamajabnfaa.Ref Go.Proofs.Ytlhgbamajabnfaa.Point1 Go.Proofs.Ytlhgbamajabnfaa.Point6 Go.Proofs.Ytlhgbamajabnfaa.Fields Go.Proofs.Ytlhgbamajabnfaa.Stripe Go.Proofs.Ytlhgbamajabnfaa.Write Go.Proofs.Ytlhgbamajabnfaa.Ord Go.Proofs.Ytlhgbamajabnfaa.Kept
open Go.Proofs.Ytlhgbamajabnfaa.Ram (RamE)
open Go.Proofs.Ytlhgbamajabnfaa.Str (pcells take_snoc)
set_option linter.unusedVariables false
set_option linter.unusedSimpArgs false

/-- How many pages a point takes. -/
def pagesOf (S : Nat) (len : Nat) : Nat := (len + S - 1) / S
/-- The page that stands at place i: the point's, or one that says nothing. -/
def ptPage (S n : Nat) (seq : Int) (B : List Int) (i : Nat) : Head × List Int :=
  if i < n then (⟨3, seq, 0, i, n, 0, 0⟩, ((padTo B (n * S)).drop (i * S)).take S) else (fillHead seq 0, List.replicate S 0)
/-- A row's pages: W of them. -/
def ptRow (S n : Nat) (seq : Int) (B : List Int) (W r : Nat) : List (Head × List Int) := (List.range W).map fun k => ptPage S n seq B (r * W + k)
theorem ptRow_len (S n : Nat) (seq : Int) (B : List Int) (W r : Nat) : (ptRow S n seq B W r).length = W := by simp [ptRow]
theorem ptRow_get {S n : Nat} {seq : Int} {B : List Int} {W r k : Nat} (h : k < W) (d : Head × List Int) : (ptRow S n seq B W r).getD k d = ptPage S n seq B (r * W + k) := by
  simp [ptRow, List.getD_eq_getElem?_getD, h]
theorem padTo_len {xs : List Int} {n : Nat} (h : xs.length ≤ n) : (padTo xs n).length = n := by unfold padTo; simp; omega
theorem padTo_range {xs : List Int} {n : Nat} (h : InR 256 xs) : InR 256 (padTo xs n) := fun x hx => by
  unfold padTo at hx
  rcases List.mem_append.1 hx with hx | hx
  · exact h x hx
  · obtain ⟨_, rfl⟩ := List.mem_replicate.1 hx
    decide
theorem pages_le {S len : Nat} (hS : 0 < S) : len ≤ pagesOf S len * S := by
  unfold pagesOf
  have h1 := Nat.div_add_mod (len + S - 1) S
  have h2 := Nat.mod_lt (len + S - 1) hS
  rw [Nat.mul_comm]
  omega
theorem ptPage_ok {S n : Nat} {seq : Int} {B : List Int} (hq : 0 ≤ seq ∧ seq < 4294967296) (hB : InR 256 B) (hl : B.length ≤ n * S) (hn : n < 65536) (i : Nat) :
    ((ptPage S n seq B i).1.Ok ∧ 1 ≤ (ptPage S n seq B i).1.kind ∧ (ptPage S n seq B i).1.kind ≤ 6) ∧ (ptPage S n seq B i).2.length = S ∧ InR 256 (ptPage S n seq B i).2 := by
  unfold ptPage
  by_cases h : i < n
  · rw [if_pos h]
    refine ⟨⟨⟨by show (0 : Int) ≤ 3 ∧ (3 : Int) < 256; decide, hq, by show (0 : Int) ≤ 0 ∧ (0 : Int) < 4294967296; decide, by show 0 ≤ (i : Int) ∧ (i : Int) < 65536; omega, by show 0 ≤ (n : Int) ∧ (n : Int) < 65536; omega, by show (0 : Int) ≤ 0 ∧ (0 : Int) < 4294967296; decide, by show (0 : Int) ≤ 0 ∧ (0 : Int) < 4294967296; decide⟩, by show (1 : Int) ≤ 3; decide, by show (3 : Int) ≤ 6; decide⟩, ?_, fun x hx => ?_⟩
    · have h1 : (i + 1) * S ≤ n * S := Nat.mul_le_mul_right _ h
      rw [Nat.add_mul, Nat.one_mul] at h1
      show (((padTo B (n * S)).drop (i * S)).take S).length = S
      rw [List.length_take, List.length_drop, padTo_len hl]
      omega
    · exact padTo_range hB x (List.drop_subset _ _ (List.take_subset _ _ hx))
  · rw [if_neg h]
    refine ⟨⟨⟨by show (0 : Int) ≤ 6 ∧ (6 : Int) < 256; decide, hq, by show (0 : Int) ≤ 0 ∧ (0 : Int) < 4294967296; decide, by show (0 : Int) ≤ 0 ∧ (0 : Int) < 65536; decide, by show (0 : Int) ≤ 0 ∧ (0 : Int) < 65536; decide, by show (0 : Int) ≤ 0 ∧ (0 : Int) < 4294967296; decide, by show (0 : Int) ≤ 0 ∧ (0 : Int) < 4294967296; decide⟩, by show (1 : Int) ≤ 6; decide, by show (6 : Int) ≤ 6; decide⟩, by simp, fun x hx => ?_⟩
    obtain ⟨_, rfl⟩ := List.mem_replicate.1 hx
    decide
theorem ptRow_ok {g : Geo} {S n : Nat} {seq : Int} {B : List Int} (hS : g.s = S) (hq : 0 ≤ seq ∧ seq < 4294967296) (hB : InR 256 B) (hl : B.length ≤ n * S) (hn : n < 65536) {W : Nat} (hW : (W : Int) = g.c - 1) (r : Nat) : LOk g (ptRow S n seq B W r) := by
  have hm : ∀ q ∈ ptRow S n seq B W r, ∃ k, q = ptPage S n seq B (r * W + k) := fun q hq => by
    unfold ptRow at hq
    obtain ⟨k, _, rfl⟩ := List.mem_map.1 hq
    exact ⟨k, rfl⟩
  refine ⟨by rw [ptRow_len]; exact hW, fun q h => ?_, fun q h => ?_⟩
  · obtain ⟨k, rfl⟩ := hm q h
    exact (ptPage_ok hq hB hl hn _).1
  · obtain ⟨k, rfl⟩ := hm q h
    have h1 := (ptPage_ok hq hB hl hn (r * W + k)).2
    exact ⟨by rw [h1.1, hS], h1.2⟩

/-- Members on whose segment a point's first r rows were written. -/
structure Wrote (s s' : Ram.St) (seg : Int) (L : Nat → List (Head × List Int)) (r : Nat) : Prop where
  geo : s'.g = s.g
  first : s'.first = s.first
  gone : s'.gone = s.gone
  cnt : s'.cnt ≤ s.cnt + 100 * r
  other : ∀ m b q, b ≠ seg → s'.pages m b q = s.pages m b q
  done : ∀ q : Nat, q < r → ∀ m, 0 ≤ m → m < s.g.c → s'.pages m seg q = (pageOf s.g (L q) seg q m).1 ++ (pageOf s.g (L q) seg q m).2
  todo : ∀ q : Int, (r : Int) ≤ q → q < s.g.p → ∀ m, 0 ≤ m → m < s.g.c → s'.pages m seg q = []
theorem Wrote.erased (s : Ram.St) (seg : Int) (L : Nat → List (Head × List Int)) : Wrote s (s.erase seg) seg L 0 := by
  refine ⟨rfl, rfl, rfl, by show s.cnt ≤ s.cnt + 100 * 0; omega, fun m b q h => ?_, fun q h => by omega, fun q h0 h1 m m0 m1 => ?_⟩
  · show (if _ then _ else _) = _
    rw [if_neg (fun hh => h hh.1)]
  · show (if _ then _ else _) = _
    rw [if_pos ⟨rfl, m0, by omega, h1, .inl m1⟩]
theorem Wrote.step {s s' : Ram.St} {seg : Int} {L : Nat → List (Head × List Int)} {r : Nat} (h : Wrote s s' seg L r) (hg : s.g.Ok) (hgn : ∀ m, ¬ 0 < s.gone m) :
    Wrote s (s'.progs seg r (fun m => (pageOf s.g (L r) seg r m).1 ++ (pageOf s.g (L r) seg r m).2) (orderOf s.first s.g.c)) seg L (r + 1) := by
  obtain ⟨a1, a2, a3, a4, a5⟩ := progs_gone seg r (fun m => (pageOf s.g (L r) seg r m).1 ++ (pageOf s.g (L r) seg r m).2) (orderOf s.first s.g.c) s'
  have hc := hg.c
  have ho := orderOf_len s.first s.g.c
  have hgn' : ∀ m, ¬ 0 < s'.gone m := by rw [h.gone]; exact hgn
  refine ⟨by rw [a2, h.geo], by rw [a3, h.first], by rw [a1, h.gone], ?_, fun m b q hb => ?_, fun q hq m m0 m1 => ?_, fun q q0 q1 m m0 m1 => ?_⟩
  · have h2 := h.cnt
    omega
  · rw [progs_pages, if_neg (fun hh => hb hh.2.1)]
    exact h.other m b q hb
  · rw [progs_pages]
    by_cases e : q = r
    · subst e
      rw [if_pos ⟨mem_order m0 m1, rfl, rfl, hgn' m⟩]
    · rw [if_neg (fun hh => e (by have h2 := hh.2.2.1; omega))]
      exact h.done q (by omega) m m0 m1
  · rw [progs_pages, if_neg (fun hh => by have h2 := hh.2.2.1; omega)]
    exact h.todo q (by omega) q1 m m0 m1
theorem Wrote.err {s s' : Ram.St} {seg : Int} {L : Nat → List (Head × List Int)} {r : Nat} (h : Wrote s s' seg L r) (hgn : ∀ m, ¬ 0 < s.gone m) (first c : Int) : errOf (goneIn s' (orderOf first c)) = 0 := by
  have hgn' : ∀ m, ¬ 0 < s'.gone m := by rw [h.gone]; exact hgn
  rw [show goneIn s' (orderOf first c) = 0 from goneIn_none _ _ (fun m _ => hgn' m)]
  rfl
/-- A part of a slice that is none of theirs. -/
theorem SlO.sub {w : World} {p : Nat} {ad : Addr} {n c : Nat} {xs : List Int} (h : SlO w p (.slice (some ad) n c) xs) (i k : Nat) (hk : i + k ≤ n) (hk0 : 0 < k) : SlO w p (.slice (some (ad.add i)) k (c - i)) ((xs.drop i).take k) := by
  obtain ⟨⟨A, n', c', e, h1, h2⟩, h3⟩ := h
  injection e with e1 e2 e3
  subst e1 e2 e3
  refine ⟨⟨_, _, _, rfl, by omega, ?_⟩, fun b hb => h3 b ?_⟩
  · have hd := (h2.drop i (by omega) h1).take k (by omega)
    rwa [if_neg (by omega)] at hd
  · have e : (ad.add i).block = b := by simpa [Value.ownBlock] using hb
    rw [add_block] at e
    rw [← e]
    rfl
/-- append of one element of several cells, where the region draws its order. -/
theorem step_appendV {P : Program} {ops : Array Oper} {o : Oper} {a : Act} {K : Act → World → Prop} {Q : Exit → Act → World → Prop} {E : Prop} {W : World} (base : Nat) (hgd : o.guard = none) (s x : Operand) (t e : TypeId) (z : Value) (size bytes : Nat)
    (ho : o.op = .call { callee := .builtin .append, args := #[s, x], argTypes := #[t, t] })
    (ht : P.underlying t = some (.slice e)) (hinfo : (P.info? e).map (fun i => (i.zero, i.size, i.bytes)) = some (some z, size, bytes)) (hzs : z.cells.size = size) (hs0 : 0 < size) (hb0 : 0 < bytes)
    (v : Value) (n : Nat) (vs : List Value) (ys : Array Value) (g : Nat) (hs : a.eval s = v) (hx : a.eval x = .slice (some ⟨g, 0, none⟩) 1 1) (hys : ys.size = size) (hone : ∀ u ∈ ys.toList, u.oneCell' = true)
    (hcell : W.heap[g]? = some (.cells ys e (0, 0))) (HO : Par.RowV e size W base v n vs) (hbase : base ≤ W.heap.size) (hl : (n + 1) * bytes ≤ 140737488355328)
    (h : ∀ v1 w1, Par.RowV e size w1 base v1 (n + 1) (vs ++ ys.toList) → Fr (fun b => v.ownBlock = some b) W w1 → (v1.ownBlock = v.ownBlock ∨ ∃ b, v1.ownBlock = some b ∧ W.heap.size ≤ b) → K (a.put o.dst v1) w1) :
    if Region.wanted o (yielded ops a.tmps) = true then Oper.wp P o a W K Q else E := by
  have hw : Region.wanted o (yielded ops a.tmps) = true := by simp [Region.wanted, hgd]
  rw [if_pos hw]
  obtain ⟨i0, hi, hzz⟩ := Option.map_eq_some_iff.1 hinfo
  simp only [Prod.mk.injEq] at hzz
  obtain ⟨hz0, hz1, hz2⟩ := hzz
  have hlen : n + 1 ≤ 140737488355328 := Nat.le_trans (Nat.le_mul_of_pos_right _ hb0) hl
  obtain ⟨v1, w1, hr, hown, hg, _, hat⟩ := run_append_own_at (P := P) (w := W) base t o.type e i0 z size bytes ht hi hz0 hz1 hz2 hzs hs0 v n vs HO.1 ⟨g, 0, none⟩ 1 1 ys.toList (by simp [hys]) (World.news_of_block hcell) hone (by simp only [maxLen]; omega) hl hbase
  unfold Oper.wp execOp
  simp only [ho, resolve, invoke, builtin, Sem.run_bind, Sem.run_pure, Result.andThen_ok, List.map_toArray, List.map_cons, List.map_nil, hs, hx, hr]
  refine h v1 w1 ⟨hown, ?_⟩ ((Fr.refl _ W).grown hg (fun k hk _ => hk.symm ▸ rfl)) ?_
  · rw [List.length_append, HO.2, Array.length_toList, hys, Nat.add_mul, Nat.one_mul]
  · rcases hat with hat | hat
    · exact .inl hat
    · exact .inr ⟨_, hat, Nat.le_refl _⟩
/-- b[o:e], of a slice of bytes that is not nil. -/
theorem run_part (ad : Addr) (n c o e S : Nat) (W : World) (h1 : o ≤ e) (h2 : e ≤ c) (h3 : ¬ c = o) (h4 : e - o = S) :
    (Instr.slice 23 (.slice (some ad) n c) (some (.int .i64 (o : Int))) (some (.int .i64 (e : Int))) none).run Try.prog W = .ok (.slice (some (ad.add o)) S (c - o)) W := by
  subst h4
  simp [Instr.slice, Instr.sliceBounds, Instr.sliceBound, asIntOf, run_underlying Try.underlying23, go_sem, h1, h2, h3]
end Go.Proofs.Ytlhgbamajabnfaa.Point7

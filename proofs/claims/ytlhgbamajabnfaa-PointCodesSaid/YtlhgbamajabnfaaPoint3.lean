/- gabionref14.Encode; gabionlaw14.same. -/
import Derived.Test.YtlhgbamajabnfaaPoint2
namespace Go.Proofs.Ytlhgbamajabnfaa.Point3
open Go.RowKit Go.Proofs.Ytlhgbamajabnfaa.Gab Go.Proofs.Ytlhgbamajabnfaa.Wr Go.Proofs.Ytlhgbamajabnfaa.Geom Go.Proofs.Ytlhgbamajabnfaa.Ref Go.Proofs.Ytlhgbamajabnfaa.Point1 Go.Proofs.Ytlhgbamajabnfaa.Point2
open Go.Proofs.Ytlhgbamajabnfaa.Str (take_snoc)
set_option linter.unusedVariables false
set_option linter.unusedSimpArgs false

theorem les_app (l : List Int) (v : Int) : les 4 l ++ le v 4 = les 4 (l ++ [v]) := by simp [les]
theorem wrap64 {y : Int} (h0 : 0 ≤ y) (h1 : y < 4294967296) : IntKind.u64.wrap y = y := by rw [IntKind.wrap_u64]; omega
set_option maxHeartbeats 4000000 in
set_option maxRecDepth 100000 in
theorem REncode_calls (seq batch : Int) (A B : Option Addr) (n c k d : Nat) (m er : List Int) (w : World) (hs : 0 ≤ seq ∧ seq < 4294967296) (hb : 0 ≤ batch ∧ batch < 4294967296) (hA : Rd .i64 w A n m) (hm : InR 4294967296 m) (hB : Rd .i64 w B k er) (he : InR 4294967296 er) (hn : n ≤ 100000) (hk : k ≤ 100000) :
    Calls Try.prog 33 #[.agg #[.int .i64 seq, .int .i64 batch, .slice A n c, .slice B k d]] w fun e w' => ∃ v, e = .returned v ∧ Row 5 .u8 w' w.heap.size v (encB seq batch m er) ∧ Fr None_ w w' := by
  have HE : As (encB seq batch m er = les 4 ([seq] ++ [batch] ++ [(n : Int)] ++ [(k : Int)] ++ m ++ er)) := ⟨by unfold encB les; rw [hA.1, hB.1]; simp⟩
  have HA := As.mk hA
  have HB := As.mk hB
  have HM := As.mk hm
  have HMN := As.mk hA.1
  have HER := As.mk he
  have HBY := As.mk (fun (v : Int) (w : World) (h0 : 0 ≤ v) (h1 : v < 18446744073709551616) => Bytes_calls v 4 w h0 h1 (by decide) (by decide))
  generalize encB seq batch m er = res at *
  obtain ⟨hs0, hs1⟩ := hs
  obtain ⟨hb0, hb1⟩ := hb
  have ww1 := wrap64 hs0 hs1
  have ww2 := wrap64 hb0 hb1
  have ww3 : IntKind.u64.wrap (n : Int) = n := wrap64 (by omega) (by omega)
  have ww4 : IntKind.u64.wrap (k : Int) = k := wrap64 (by omega) (by omega)
  have HX := As.mk (heap_alloc_new w (.cells #[.int .i64 seq, .int .i64 batch, .slice A n c, .slice B k d] 82))
  clear hA hB hm he
  go_enter Try.func33, Try.ntmps33
  go_wp2_with fail
  ((with_reducible refine (HBY.out seq _ (by omega) (by omega)).mono ?_); rintro e wa ⟨va, rfl, hra, hfa⟩)
  obtain ⟨A3, n3, c3, ea, _, _, _⟩ := hra.rd
  subst ea
  have HRW : As (Row 5 .u8 wa w.heap.size (.slice A3 n3 c3) (les 4 ([seq]))) := ⟨by have h := hra.lower ((Fr.refl None_ w).alloc (.cells #[.int .i64 seq, .int .i64 batch, .slice A n c, .slice B k d] 82)).size; rw [show les 4 [seq] = le seq 4 by simp [les]]; exact h⟩
  have HF := As.mk (((Fr.refl None_ w).alloc (.cells #[.int .i64 seq, .int .i64 batch, .slice A n c, .slice B k d] 82)).after hfa (fun _ _ h => h))
  have HBX := As.mk (hfa.heap HX.out (fun h => h))
  clear hra hfa HX
  have b0 := cell_is (i := 0) HBX.out rfl
  have b1 := cell_is (i := 1) HBX.out rfl
  have b2 := cell_is (i := 2) HBX.out rfl
  have b3 := cell_is (i := 3) HBX.out rfl
  go_wp2_with fail
  ((with_reducible refine (HBY.out (batch) _ (by omega) (by omega)).mono ?_); rintro e wb ⟨vb, rfl, hrb, hfb⟩)
  obtain ⟨Ab, nb, cb, eb, _, hdb, _⟩ := hrb.rd
  subst eb
  have HDB := As.mk hdb.out
  have hlb : nb = 4 := by rw [← hdb.out.1, le_length]; rfl
  subst hlb
  have HRb := As.mk (HRW.out.none_ hfb)
  have HFb := As.mk (HF.out.after hfb (fun _ _ h => h))
  have HXb := As.mk (hfb.heap HBX.out (fun h => h))
  clear hrb hfb hdb HRW HF HBX b0 b1 b2 b3
  go_wp2_with (at_builtin; (with_reducible refine appendRow w.heap.size rfl _ _ 23 5 .u8 1 rfl Try.underlying23 infoByte (by decide) (.slice A3 n3 c3) (les 4 ([seq])) (le (batch) (Int.toNat 4)) Ab 4 cb rfl rfl HRb.out HDB.out ?k0 ?k1 ?_); (case k0 => exact HFb.out.size); (case k1 => simp [les_length] <;> omega); intro v1 w1 hrow1 hfr1 hat1; have HR1 := As.mk hrow1; have HF1 := As.mk (row_grow HRb.out HFb.out hfr1); have HX1 := As.mk (hfr1.heap HXb.out (Row.ne HRb.out HXb.out (by decide))); have b0 := cell_is (i := 0) HX1.out rfl; have b1 := cell_is (i := 1) HX1.out rfl; have b2 := cell_is (i := 2) HX1.out rfl; have b3 := cell_is (i := 3) HX1.out rfl; clear hrow1 hfr1 hat1; obtain ⟨A4, n4, c4, e9, _, _, _⟩ := HR1.out.rd; subst e9)
  have HRW : As (Row 5 .u8 w1 w.heap.size (.slice A4 n4 c4) (les 4 ([seq] ++ [batch]))) := ⟨by have h := HR1.out; rw [show Int.toNat 4 = 4 from rfl, les_app] at h; exact h⟩
  have HF := HF1
  have HBX := HX1
  clear HR1 HF1 HX1 HRb HFb HXb HDB
  ((with_reducible refine (HBY.out ((n : Int)) _ (by omega) (by omega)).mono ?_); rintro e wb ⟨vb, rfl, hrb, hfb⟩)
  obtain ⟨Ab, nb, cb, eb, _, hdb, _⟩ := hrb.rd
  subst eb
  have HDB := As.mk hdb.out
  have hlb : nb = 4 := by rw [← hdb.out.1, le_length]; rfl
  subst hlb
  have HRb := As.mk (HRW.out.none_ hfb)
  have HFb := As.mk (HF.out.after hfb (fun _ _ h => h))
  have HXb := As.mk (hfb.heap HBX.out (fun h => h))
  clear hrb hfb hdb HRW HF HBX b0 b1 b2 b3
  go_wp2_with (at_builtin; (with_reducible refine appendRow w.heap.size rfl _ _ 23 5 .u8 1 rfl Try.underlying23 infoByte (by decide) (.slice A4 n4 c4) (les 4 ([seq] ++ [batch])) (le ((n : Int)) (Int.toNat 4)) Ab 4 cb rfl rfl HRb.out HDB.out ?k0 ?k1 ?_); (case k0 => exact HFb.out.size); (case k1 => simp [les_length] <;> omega); intro v1 w1 hrow1 hfr1 hat1; have HR1 := As.mk hrow1; have HF1 := As.mk (row_grow HRb.out HFb.out hfr1); have HX1 := As.mk (hfr1.heap HXb.out (Row.ne HRb.out HXb.out (by decide))); have b0 := cell_is (i := 0) HX1.out rfl; have b1 := cell_is (i := 1) HX1.out rfl; have b2 := cell_is (i := 2) HX1.out rfl; have b3 := cell_is (i := 3) HX1.out rfl; clear hrow1 hfr1 hat1; obtain ⟨A5, n5, c5, e9, _, _, _⟩ := HR1.out.rd; subst e9)
  have HRW : As (Row 5 .u8 w1 w.heap.size (.slice A5 n5 c5) (les 4 ([seq] ++ [batch] ++ [(n : Int)]))) := ⟨by have h := HR1.out; rw [show Int.toNat 4 = 4 from rfl, les_app] at h; exact h⟩
  have HF := HF1
  have HBX := HX1
  clear HR1 HF1 HX1 HRb HFb HXb HDB
  ((with_reducible refine (HBY.out ((k : Int)) _ (by omega) (by omega)).mono ?_); rintro e wb ⟨vb, rfl, hrb, hfb⟩)
  obtain ⟨Ab, nb, cb, eb, _, hdb, _⟩ := hrb.rd
  subst eb
  have HDB := As.mk hdb.out
  have hlb : nb = 4 := by rw [← hdb.out.1, le_length]; rfl
  subst hlb
  have HRb := As.mk (HRW.out.none_ hfb)
  have HFb := As.mk (HF.out.after hfb (fun _ _ h => h))
  have HXb := As.mk (hfb.heap HBX.out (fun h => h))
  clear hrb hfb hdb HRW HF HBX b0 b1 b2 b3
  go_wp2_with (at_builtin; (with_reducible refine appendRow w.heap.size rfl _ _ 23 5 .u8 1 rfl Try.underlying23 infoByte (by decide) (.slice A5 n5 c5) (les 4 ([seq] ++ [batch] ++ [(n : Int)])) (le ((k : Int)) (Int.toNat 4)) Ab 4 cb rfl rfl HRb.out HDB.out ?k0 ?k1 ?_); (case k0 => exact HFb.out.size); (case k1 => simp [les_length] <;> omega); intro v1 w1 hrow1 hfr1 hat1; have HR1 := As.mk hrow1; have HF1 := As.mk (row_grow HRb.out HFb.out hfr1); have HX1 := As.mk (hfr1.heap HXb.out (Row.ne HRb.out HXb.out (by decide))); have b0 := cell_is (i := 0) HX1.out rfl; have b1 := cell_is (i := 1) HX1.out rfl; have b2 := cell_is (i := 2) HX1.out rfl; have b3 := cell_is (i := 3) HX1.out rfl; clear hrow1 hfr1 hat1; obtain ⟨A6, n6, c6, e9, _, _, _⟩ := HR1.out.rd; subst e9)
  have HRW : As (Row 5 .u8 w1 w.heap.size (.slice A6 n6 c6) (les 4 ([seq] ++ [batch] ++ [(n : Int)] ++ [(k : Int)]))) := ⟨by have h := HR1.out; rw [show Int.toNat 4 = 4 from rfl, les_app] at h; exact h⟩
  have HF := HF1
  have HBX := HX1
  clear HR1 HF1 HX1 HRb HFb HXb HDB
  clear b0 b1 b2 b3
  go_loopw [3, 4] (fun v3 vS w' => ∃ i : Int, vS = .int .i64 i ∧ 0 ≤ i ∧ i ≤ (n : Int) ∧ As (Row 5 .u8 w' w.heap.size v3 (les 4 ([seq] ++ [batch] ++ [(n : Int)] ++ [(k : Int)] ++ m.take i.toNat))) ∧ As (Fr None_ w w') ∧ As (w'.heap[w.heap.size]? = some (.cells #[.int .i64 seq, .int .i64 batch, .slice A n c, .slice B k d] 82 (0, 0)))) (fun _ vS _ => n - (intOf vS).toNat)
  case atStart => exact ⟨0, rfl, by omega, by omega, ⟨by simpa using HRW.out⟩, HF, HBX⟩
  case round =>
    clear HRW HF HBX
    obtain ⟨i, rfl, hi0, hi, HRW, HF, HBX⟩ := hrel
    obtain ⟨A3, n3, c3, e3, _, _, _⟩ := HRW.out.rd
    subst e3
    have b2 := cell_is (i := 2) HBX.out rfl
    have b3 := cell_is (i := 3) HBX.out rfl
    by_cases hlt : i < (n : Int)
    · obtain ⟨ad, e, hc⟩ := (HA.out.none_ HF.out).at_ i hi0 hlt
      have hil : i.toNat < m.length := by have := HA.out.1; omega
      have hcm := inR_at HM.out hil
      have HTK := As.mk (take_snoc 0 hil)
      have hle := HA.out.1
      have hmn : m.length = n := HMN.out
      rw [e] at b2 b3
      generalize m.getD i.toNat 0 = y at *
      obtain ⟨hy0, hy1⟩ := hcm
      have hwy := wrap64 hy0 hy1
      clear hil e
      go_wp2_with fail
      ((with_reducible refine (HBY.out (y) _ (by omega) (by omega)).mono ?_); rintro e wb ⟨vb, rfl, hrb, hfb⟩)
      obtain ⟨Ab, nb, cb, eb, _, hdb, _⟩ := hrb.rd
      subst eb
      have HDB := As.mk hdb.out
      have hlb : nb = 4 := by rw [← hdb.out.1, le_length]; rfl
      subst hlb
      have HRb := As.mk (HRW.out.none_ hfb)
      have HFb := As.mk (HF.out.after hfb (fun _ _ h => h))
      have HXb := As.mk (hfb.heap HBX.out (fun h => h))
      clear hrb hfb hdb HRW HF HBX
      go_wp2_with (at_builtin; (with_reducible refine appendRow w.heap.size rfl _ _ 23 5 .u8 1 rfl Try.underlying23 infoByte (by decide) (.slice A3 n3 c3) (les 4 ([seq] ++ [batch] ++ [(n : Int)] ++ [(k : Int)] ++ m.take i.toNat)) (le (y) (Int.toNat 4)) Ab 4 cb rfl rfl HRb.out HDB.out ?k0 ?k1 ?_); (case k0 => exact HFb.out.size); (case k1 => simp [les_length] <;> omega); intro v1 w1 hrow1 hfr1 hat1; have HR1 := As.mk hrow1; have HF1 := As.mk (row_grow HRb.out HFb.out hfr1); have HX1 := As.mk (hfr1.heap HXb.out (Row.ne HRb.out HXb.out (by decide))); clear hrow1 hfr1 hat1; obtain ⟨A9, n9, c9, e9, _, _, _⟩ := HR1.out.rd; subst e9)
      have HRW : As (Row 5 .u8 w1 w.heap.size (.slice A9 n9 c9) (les 4 ([seq] ++ [batch] ++ [(n : Int)] ++ [(k : Int)] ++ m.take i.toNat ++ [y]))) := ⟨by have h := HR1.out; rw [show Int.toNat 4 = 4 from rfl, les_app] at h; exact h⟩
      have HF := HF1
      have HBX := HX1
      clear HR1 HF1 HX1 HRb HFb HXb HDB
      have hn1 : (i + 1).toNat = i.toNat + 1 := by omega
      exact ⟨⟨i + 1, rfl, by omega, by omega, ⟨by rw [hn1, HTK.out, ← List.append_assoc]; exact HRW.out⟩, HF, HBX⟩, by simp [intOf]; omega⟩
    · have hin : m.take i.toNat = m := List.take_of_length_le (by have := HA.out.1; omega)
      rw [hin] at HRW
      clear hin
      go_wp2_with fail
      go_loopw [3, 5] (fun v3 vS w' => ∃ i : Int, vS = .int .i64 i ∧ 0 ≤ i ∧ i ≤ (k : Int) ∧ As (Row 5 .u8 w' w.heap.size v3 (les 4 ([seq] ++ [batch] ++ [(n : Int)] ++ [(k : Int)] ++ m ++ er.take i.toNat))) ∧ As (Fr None_ w w') ∧ As (w'.heap[w.heap.size]? = some (.cells #[.int .i64 seq, .int .i64 batch, .slice A n c, .slice B k d] 82 (0, 0)))) (fun _ vS _ => k - (intOf vS).toNat)
      case atStart => exact ⟨0, rfl, by omega, by omega, ⟨by simpa using HRW.out⟩, HF, HBX⟩
      case round =>
        clear HRW HF HBX
        obtain ⟨i, rfl, hi0, hi, HRW, HF, HBX⟩ := hrel
        obtain ⟨A3, n3, c3, e3, _, _, _⟩ := HRW.out.rd
        subst e3
        have b2 := cell_is (i := 2) HBX.out rfl
        have b3 := cell_is (i := 3) HBX.out rfl
        by_cases hlt : i < (k : Int)
        · obtain ⟨ad, e, hc⟩ := (HB.out.none_ HF.out).at_ i hi0 hlt
          have hil : i.toNat < er.length := by have := HB.out.1; omega
          have hcm := inR_at HER.out hil
          have HTK := As.mk (take_snoc 0 hil)
          have hle := HB.out.1
          have hmn : m.length = n := HMN.out
          rw [e] at b2 b3
          generalize er.getD i.toNat 0 = y at *
          obtain ⟨hy0, hy1⟩ := hcm
          have hwy := wrap64 hy0 hy1
          clear hil e
          go_wp2_with fail
          ((with_reducible refine (HBY.out (y) _ (by omega) (by omega)).mono ?_); rintro e wb ⟨vb, rfl, hrb, hfb⟩)
          obtain ⟨Ab, nb, cb, eb, _, hdb, _⟩ := hrb.rd
          subst eb
          have HDB := As.mk hdb.out
          have hlb : nb = 4 := by rw [← hdb.out.1, le_length]; rfl
          subst hlb
          have HRb := As.mk (HRW.out.none_ hfb)
          have HFb := As.mk (HF.out.after hfb (fun _ _ h => h))
          have HXb := As.mk (hfb.heap HBX.out (fun h => h))
          clear hrb hfb hdb HRW HF HBX
          go_wp2_with (at_builtin; (with_reducible refine appendRow w.heap.size rfl _ _ 23 5 .u8 1 rfl Try.underlying23 infoByte (by decide) (.slice A3 n3 c3) (les 4 ([seq] ++ [batch] ++ [(n : Int)] ++ [(k : Int)] ++ m ++ er.take i.toNat)) (le (y) (Int.toNat 4)) Ab 4 cb rfl rfl HRb.out HDB.out ?k0 ?k1 ?_); (case k0 => exact HFb.out.size); (case k1 => simp [les_length] <;> omega); intro v1 w1 hrow1 hfr1 hat1; have HR1 := As.mk hrow1; have HF1 := As.mk (row_grow HRb.out HFb.out hfr1); have HX1 := As.mk (hfr1.heap HXb.out (Row.ne HRb.out HXb.out (by decide))); clear hrow1 hfr1 hat1; obtain ⟨A9, n9, c9, e9, _, _, _⟩ := HR1.out.rd; subst e9)
          have HRW : As (Row 5 .u8 w1 w.heap.size (.slice A9 n9 c9) (les 4 ([seq] ++ [batch] ++ [(n : Int)] ++ [(k : Int)] ++ m ++ er.take i.toNat ++ [y]))) := ⟨by have h := HR1.out; rw [show Int.toNat 4 = 4 from rfl, les_app] at h; exact h⟩
          have HF := HF1
          have HBX := HX1
          clear HR1 HF1 HX1 HRb HFb HXb HDB
          have hn1 : (i + 1).toNat = i.toNat + 1 := by omega
          exact ⟨⟨i + 1, rfl, by omega, by omega, ⟨by rw [hn1, HTK.out, ← List.append_assoc]; exact HRW.out⟩, HF, HBX⟩, by simp [intOf]; omega⟩
        · have hin : er.take i.toNat = er := List.take_of_length_le (by have := HB.out.1; omega)
          rw [hin] at HRW
          clear hin
          have HRES : As (Row 5 .u8 wr w.heap.size (.slice A3 n3 c3) res) := ⟨by rw [HE.out]; exact HRW.out⟩
          go_wp2_with fail
          go_ret
          exact ⟨_, rfl, HRES.out, HF.out⟩
end Go.Proofs.Ytlhgbamajabnfaa.Point3

/- point.Write: the walk. -/
import Derived.Test.YtlhgbamajabnfaaPoint7
namespace Go.Proofs.Ytlhgbamajabnfaa.Point8
open Go.RowKit Go.Proofs.Ytlhgbamajabnfaa.Gab Go.Proofs.Ytlhgbamajabnfaa.Wr Go.Proofs.Ytlhgbamajabnfaa.Geom Go.Proofs.Ytlhgbamajabnfaa.Ref Go.Proofs.Ytlhgbamajabnfaa.Par Go.Proofs.Ytlhgbamajabnfaa.Point1 Go.Proofs.Ytlhgbamajabnfaa.Point4 Go.Proofs.Ytlhgbamajabnfaa.Point6 Go.Proofs.Ytlhgbamajabnfaa.Point7 Go.Proofs.Ytlhgbamajabnfaa.Fields Go.Proofs.Ytlhgbamajabnfaa.Stripe Go.Proofs.Ytlhgbamajabnfaa.Write Go.Proofs.Ytlhgbamajabnfaa.Ord Go.Proofs.Ytlhgbamajabnfaa.Kept Go.Proofs.Ytlhgbamajabnfaa.Case
open Go.Proofs.Ytlhgbamajabnfaa.Ram (RamE Geo_calls Erase_calls Off RdO)
open Go.Proofs.Ytlhgbamajabnfaa.Str (pcells take_snoc)
set_option linter.unusedVariables false
set_option linter.unusedSimpArgs false

/-- What Write leaves of a point that fits. -/
def WritePost (s : Ram.St) (p S : Nat) (seq : Int) (B : List Int) (w : World) (e : Ending) (w' : World) : Prop :=
  ∃ s' R, e = .returned (.int .i64 0) ∧ R = (pagesOf S B.length + (s.g.c - 1).toNat - 1) / (s.g.c - 1).toNat ∧ RamE w' p s' ∧ Wrote s s' (2 + seq % 2) (ptRow S (pagesOf S B.length) seq B (s.g.c - 1).toNat) R ∧ Ram.Step p w w'

set_option maxHeartbeats 8000000 in
set_option maxRecDepth 100000 in
theorem Write_calls (p : Nat) (s : Ram.St) (x : Pt) (m er : List Int) (w : World) (S : Nat) (hS : s.g.s = S) (hR : RamE w p s) (hx : PtAt w x m er) (hm : x.mn ≤ 100000) (he : x.en ≤ 100000) (hgn : ∀ m, ¬ 0 < s.gone m) (hcnt : s.cnt ≤ 400000000) :
    Calls Try.prog 39 #[dev p, .agg x.cells] w fun e w' =>
      (¬ ((pagesOf S (encB x.seq x.batch m er).length : Int) ≤ s.g.p * (s.g.c - 1)) ∧ e = .returned (.int .i64 28) ∧ Fr None_ w w') ∨ ((pagesOf S (encB x.seq x.batch m er).length : Int) ≤ s.g.p * (s.g.c - 1) ∧ WritePost s p S x.seq (encB x.seq x.batch m er) w e w') := by
  have hok : s.g.Ok := by obtain ⟨_, _, _, _, _, h⟩ := hR; exact h.ok
  have hp : p < w.heap.size := hR.lt
  have HR := As.mk hR
  have hs1 := hok.s
  have HG := As.mk (fun w' (hf : Fr None_ w w') => Geo_calls p s w' (hR.none_ hf))
  have HEN := As.mk (fun w' (hf : Fr None_ w w') => Encode_calls x m er w' (hx.none_ hf) hm he)
  have HPA := As.mk (fun w => Pages_calls s.g w hok)
  have HLN : As ((encB x.seq x.batch m er).length ≤ 900000) := ⟨by rw [encB_len]; have := hx.map.1; have := hx.ers.1; omega⟩
  have HBR := As.mk (encB_range x.seq x.batch m er)
  have hsq := hx.seq
  generalize encB x.seq x.batch m er = B at *
  have HFI := As.mk (fun w => Fill_calls s.g x.seq 0 S w hok hS)
  unfold Geo.val at HG HPA HFI
  unfold fillHead pcells at HFI
  rw [hS] at HG HPA HFI hs1
  unfold Pt.cells at *
  unfold dev at *
  have HGN := As.mk hgn
  have HOK := As.mk hok
  have hc1 := hok.c
  have hp1 := hok.p
  clear hR hx hok hgn
  go_enter Try.func39, Try.ntmps39
  go_wp2_with fail
  ((with_reducible refine (HG.out _ ((Fr.refl None_ w).alloc _)).mono ?_); rintro e w1 ⟨rfl, hf1⟩)
  have HB1 := As.mk (hf1.heap (heap_alloc_new w (.cells #[.int .u32 x.seq, .int .u32 x.batch, .slice x.MA x.mn x.mc, .slice x.EA x.en x.ec] 73)) (fun h => h))
  have HF1 := As.mk (((Fr.refl None_ w).alloc _).after hf1 (fun _ _ h => h))
  clear hf1
  have b0 := cell_is (i := 0) HB1.out rfl
  have b1 := cell_is (i := 1) HB1.out rfl
  have b2 := cell_is (i := 2) HB1.out rfl
  have b3 := cell_is (i := 3) HB1.out rfl
  have lb : w.heap.size < w1.heap.size := (Array.getElem?_eq_some_iff.1 HB1.out).1
  go_wp2_with fail
  ((with_reducible refine (HEN.out _ (HF1.out.alloc _)).mono ?_); rintro e w2 ⟨vB, rfl, hrB, hf2⟩)
  have HB2 := As.mk (hf2.heap (at_old _ HB1.out) (fun h => h))
  have HF2 := As.mk ((HF1.out.alloc _).after hf2 (fun _ _ h => h))
  have HGE2 := As.mk (hf2.heap (heap_alloc_new w1 (.cells #[.int .i64 s.g.c, .int .i64 s.g.b, .int .i64 s.g.p, .int .i64 (S : Int)] 28)) (fun h => h))
  have HRB := As.mk (hrB.lower (base' := w.heap.size) (HF1.out.alloc _).size)
  obtain ⟨AB, nB, cB, eB, hcB, hdB, hoB⟩ := hrB.rd
  subst eB
  obtain rfl : B.length = nB := hdB.out.1
  have hz1 : w.heap.size + 1 ≤ w1.heap.size := by omega
  clear hf2 hrB lb b0 b1 b2 b3
  generalize hg9 : w1.heap.size = g9 at *
  clear hg9
  have g0 := cell_is (i := 0) HGE2.out rfl
  have g1 := cell_is (i := 1) HGE2.out rfl
  have g2 := cell_is (i := 2) HGE2.out rfl
  have g3 := cell_is (i := 3) HGE2.out rfl
  have hS0 : (S : Int) ≠ 0 := by omega
  have hln := HLN.out
  have hq0 : IntKind.i64.wrap ((B.length : Int) + S) = B.length + S := i64_in _ (by omega) (by omega)
  have hq1 : IntKind.i64.wrap ((B.length : Int) + S - 1) = B.length + S - 1 := i64_in _ (by omega) (by omega)
  have hN1 : (Int.tdiv ((B.length : Int) + S - 1) S) = ((pagesOf S B.length : Nat) : Int) := by
    unfold pagesOf
    rw [Int.tdiv_eq_ediv_of_nonneg (by omega)]
    rw [show (B.length : Int) + S - 1 = ((B.length + S - 1 : Nat) : Int) by omega]
    norm_cast
  have hN2 : pagesOf S B.length ≤ 900000 + 1024 := Nat.le_trans (Nat.div_le_self _ _) (by omega)
  have hq2 : IntKind.i64.wrap (Int.tdiv ((B.length : Int) + S - 1) S) = ((pagesOf S B.length : Nat) : Int) := by rw [hN1]; exact i64_in _ (by omega) (by omega)
  have HNL := As.mk (show B.length ≤ pagesOf S B.length * S from pages_le (by omega))
  generalize hNN : pagesOf S B.length = N at *
  have HNN := As.mk hNN
  clear hNN
  go_wp2_with fail
  ((with_reducible refine (HPA.out _).mono ?_); rintro e w3 ⟨rfl, hf3⟩)
  have HB3 := As.mk (hf3.heap HB2.out (fun h => h))
  have HGE3 := As.mk (hf3.heap HGE2.out (fun h => h))
  have HF3 := As.mk (HF2.out.after hf3 (fun _ _ h => h))
  have HRB3 := As.mk (HRB.out.none_ hf3)
  have HDB3 := As.mk (hdB.out.none_ hf3)
  clear hf3 g0 g1 g2 g3 hq0 hq1 hq2 hN1 hdB HRB HB2 HGE2 HF2 HB1 HF1
  by_cases hfit : (N : Int) ≤ s.g.p * (s.g.c - 1)
  · have hd : decide (s.g.p * (s.g.c - 1) < (N : Int)) = false := decide_eq_false (by omega)
    have b0 := cell_is (i := 0) HB3.out rfl
    have ht : IntKind.u32.wrap (Int.tmod x.seq 2) = x.seq % 2 := by rw [Int.tmod_eq_emod_of_nonneg hsq.1, IntKind.wrap_u32]; omega
    have hsg0 : 0 ≤ x.seq % 2 := by omega
    have hsg1 : x.seq % 2 < 2 := by omega
    go_wp2_with fail
    ((with_reducible refine (Erase_calls p s (2 + x.seq % 2) w3 (HR.out.none_ HF3.out) ⟨by omega, by omega⟩).mono ?_); rintro e w4 ⟨rfl, hR4, hS4⟩)
    have HFT := As.mk hfit
    have HOB := As.mk (HR.out.off_new HF3.out (Nat.le_refl _) (Array.getElem?_eq_some_iff.1 HB3.out).1)
    have HOG := As.mk (HR.out.off_new HF3.out (show w.heap.size ≤ g9 by omega) (Array.getElem?_eq_some_iff.1 HGE3.out).1)
    have HB4 := As.mk (HOB.out.blk hS4 HB3.out)
    have HGE4 := As.mk (HOG.out.blk hS4 HGE3.out)
    have HOB4 := As.mk (HOB.out.step hS4)
    have HOG4 := As.mk (HOG.out.step hS4)
    have HDB4 := As.mk ((RdO.of_new HR.out HF3.out HDB3.out (fun ad e => (HRB3.out.blk _ (hoB.out ad e)).1)).step hS4)
    have HST4 := As.mk ((Ram.Step.none_ hp HF3.out).trans hS4)
    have HR4 := As.mk hR4
    have HWR4 := As.mk (Wrote.erased s (2 + x.seq % 2) (ptRow S N x.seq B (s.g.c - 1).toNat))
    have hz4 : w.heap.size ≤ w4.heap.size := HST4.out.fr.size
    have hp4 := HR4.out.lt
    clear hS4 hR4 HOB HOG HRB3 HDB3 HB3 HGE3 b0 hoB
    generalize s.erase (2 + x.seq % 2) = s4 at *
    have g3 := cell_is (i := 3) HGE4.out rfl
    have hm0 : 0 ≤ (N : Int) * S := Int.mul_nonneg (by omega) (by omega)
    have hm1 : (N : Int) * S ≤ 901024 * 1024 := Int.mul_le_mul (by omega) (by omega) (by omega) (by omega)
    have hmw : IntKind.i64.wrap ((N : Int) * S) = (N : Int) * S := i64_in _ (by omega) (by omega)
    go_upto_region 12 with fail
    have HW5 : As (Wr (w4.alloc (.cells #[.slice none 0 0] 129)).drew w4.heap.size w4.heap.size []) := ⟨Wr.new (show (w4.alloc (.cells #[.slice none 0 0] 129)).drew.heap[w4.heap.size]? = _ from heap_alloc_new w4 _) _ (Nat.le_refl _)⟩
    have HF45 := As.mk (((Fr.refl None_ w4).alloc (.cells #[.slice none 0 0] 129)).drew)
    have HD5 := As.mk (HDB4.out.1.none_ HF45.out)
    have HG5 := As.mk (HF45.out.heap HGE4.out (fun h => h))
    have hz5 := HF45.out.size
    have hz9 : g9 < w4.heap.size := (Array.getElem?_eq_some_iff.1 HGE4.out).1
    have ks4 := cell_is (i := 3) HG5.out rfl
    have HPL : As ((padTo ([] ++ B) ((N : Int) * S).toNat) = padTo B (N * S)) := ⟨by rw [List.nil_append, show ((N : Int) * S).toNat = N * S by omega]⟩
    have HPN : As ((padTo B (N * S)).length = N * S) := ⟨padTo_len HNL.out⟩
    go_region_held3 (fun w' => w'.cell? ⟨g9, 3, none⟩ = some (.int .i64 (S : Int))) (first | go_keep | exact ks4 | exact ks6 | exact ks7 | (refine Fr.cell ‹Fr None_ _ _› ?_ (fun h => h); go_keep)) (first
    | (go_at_call 68; (with_reducible refine (Raw_calls w4.heap.size w4.heap.size [] B AB B.length cB _ HW5.out hz5 HD5.out ?r1).mono ?_); (case r1 => simp; omega); rintro e w6 ⟨rfl, hw6, hs6⟩; have HW6 := As.mk hw6; have HF46 := As.mk (HW5.out.fr hs6 (Nat.le_refl _) HF45.out); have HG6 := As.mk (HF46.out.heap HGE4.out (fun h => h)); have ks6 := cell_is (i := 3) HG6.out rfl; have hz6 := HF46.out.size; clear hw6 hs6)
    | (go_at_call 69; (with_reducible refine (Pad_calls w4.heap.size w4.heap.size ([] ++ B) ((N : Int) * S) w6 HW6.out hz6 ?r2 ?r3).mono ?_); (case r2 => omega); (case r3 => rw [List.nil_append]; omega); rintro e w7 ⟨rfl, hw7, hs7⟩; have HW7 := As.mk hw7; have HF47 := As.mk (HW6.out.fr hs7 (Nat.le_refl _) HF46.out); have HG7 := As.mk (HF47.out.heap HGE4.out (fun h => h)); have ks7 := cell_is (i := 3) HG7.out rfl; rw [HPL.out] at HW7; clear hw7 hs7)
    | (go_at_call 59; (with_reducible refine (Bytes_calls w4.heap.size w4.heap.size (padTo B (N * S)) w7 HW7.out ?r4).mono ?_); (case r4 => rw [HPN.out]; omega); rintro e w8 ⟨v8, rfl, hr8, hf8⟩)
    | fail)
    have HF48 := As.mk (HF47.out.after hf8 (fun _ _ h => h))
    have HSL := As.mk (SlO.of_row (HR4.out.none_ HF47.out) hf8 hr8 (Nat.le_refl _))
    have HB8 := As.mk (HF48.out.heap HB4.out (fun h => h))
    have HGE8 := As.mk (HF48.out.heap HGE4.out (fun h => h))
    have HST8 := As.mk (Ram.Step.none_ hp4 HF48.out)
    obtain ⟨A8, n8, c8, e8, hc8, hd8, _⟩ := hr8.rd
    subst e8
    have HP8 := As.mk (show n8 = N * S by have h1 := hd8.out.1; rw [HPN.out] at h1; exact h1.symm)
    have HR8 := As.mk (HR4.out.none_ HF48.out)
    have HOB8 := As.mk (HOB4.out.step HST8.out)
    have HOG8 := As.mk (HOG4.out.step HST8.out)
    have HST := As.mk (HST4.out.trans HST8.out)
    clear hr8 hf8 hd8 g3 ks4 ks6 ks7 HW6 HW7 HF46 HF47 HG6 HG7 hz6 HW5 HF45 HD5 HG5 hz5 HDB4 HB4 HGE4 HOB4 HOG4 HST8 HR4 HF48 HST4
    have g0 := cell_is (i := 0) HGE8.out rfl
    have g1 := cell_is (i := 1) HGE8.out rfl
    have g2 := cell_is (i := 2) HGE8.out rfl
    have g3 := cell_is (i := 3) HGE8.out rfl
    obtain ⟨W, hW⟩ : ∃ W : Nat, (W : Int) = s.g.c - 1 := ⟨(s.g.c - 1).toNat, by omega⟩
    have hW2 : 2 ≤ W ∧ W ≤ 15 := by omega
    have HWD := As.mk (fun w => Width_calls s.g w HOK.out)
    have hWt : (s.g.c - 1).toNat = W := by omega
    unfold Geo.val at HWD
    rw [hS, ← hW] at HWD
    rw [hWt] at HWR4
    have HWT := As.mk hWt
    have HW := As.mk hW
    have hNm : N ≤ 480 := by
      have h1 : s.g.p * (s.g.c - 1) ≤ 32 * 15 := Int.mul_le_mul (by omega) (by omega) (by omega) (by omega)
      omega
    have hfW : (N : Int) ≤ s.g.p * W := by rw [hW]; exact hfit
    have HFW := As.mk hfW
    clear hWt hfW hfit hm0 hm1 hmw hW
    go_wp2_with fail
    ((with_reducible refine (HWD.out _).mono ?_); rintro e w9 ⟨rfl, hf9⟩)
    have HB9 := As.mk (hf9.heap HB8.out (fun h => h))
    have HGE9 := As.mk (hf9.heap HGE8.out (fun h => h))
    have HST9' := As.mk (Ram.Step.none_ HR8.out.lt hf9)
    have HR9 := As.mk (HR8.out.none_ hf9)
    have HOB9 := As.mk (HOB8.out.step HST9'.out)
    have HOG9 := As.mk (HOG8.out.step HST9'.out)
    have HST9 := As.mk (HST.out.trans HST9'.out)
    have HSL9 := As.mk (HSL.out.step HST9'.out)
    clear hf9 g0 g1 g2 g3 HB8 HGE8 HST9' HR8 HOB8 HOG8 HST HSL
    go_wp2_with fail
    go_loopw [11, 12, 13, 14, 15, 16] (fun v11 v12 v13 v14 v15 v16 w' => ∃ r : Nat, v11 = .int .i64 (r : Int) ∧ r ≤ N ∧ As (∀ q, q < r → q * W < N) ∧ As (∃ s', RamE w' p s' ∧ Wrote s s' (2 + x.seq % 2) (ptRow S N x.seq B W) r) ∧ As (Ram.Step p w9 w')) (fun v11 _ _ _ _ _ _ => N - (intOf v11).toNat)
    case atStart => exact ⟨0, rfl, by omega, ⟨fun q h => by omega⟩, ⟨_, HR9.out, HWR4.out⟩, ⟨Ram.Step.refl _ _⟩⟩
    case round =>
      obtain ⟨r, rfl, hr, HLT, HE, HT⟩ := hrel
      have hz9r := HT.out.fr.size
      have HGEr := As.mk (HOG9.out.blk HT.out HGE9.out)
      have HBr := As.mk (HOB9.out.blk HT.out HB9.out)
      have HSLr := As.mk (HSL9.out.step HT.out)
      have HSTr := As.mk (HST9.out.trans HT.out)
      have hrW0 : 0 ≤ (r : Int) * W := Int.mul_nonneg (by omega) (by omega)
      have hrW1 : (r : Int) * W ≤ 480 * 15 := Int.mul_le_mul (by omega) (by omega) (by omega) (by omega)
      have hrw : IntKind.i64.wrap ((r : Int) * W) = (r : Int) * W := i64_in _ (by omega) (by omega)
      by_cases hlt : r * W < N
      · have hltI : (r : Int) * W < N := by exact_mod_cast hlt
        have dl : decide ((r : Int) * W < (N : Int)) = true := decide_eq_true hltI
        obtain ⟨s', hRs, hws⟩ := HE.out
        clear HE
        have HRs := As.mk hRs
        have HWs := As.mk hws
        have hpr := hRs.lt
        have hrp : (r : Int) < s.g.p := by
          rcases Int.lt_or_le (r : Int) s.g.p with h | h
          · exact h
          · have h1 : s.g.p * (W : Int) ≤ (r : Int) * W := Int.mul_le_mul_of_nonneg_right h (by omega)
            have := HFW.out
            omega
        obtain ⟨ad8, ead8, _⟩ : ∃ ad, A8 = some ad ∧ True := by
          obtain ⟨⟨A', n', c', e, h1, h2⟩, h3⟩ := HSLr.out
          injection e with e1 e2 e3
          have hNS : 1 * 1 ≤ N * S := Nat.mul_le_mul (by omega) (by omega)
          obtain ⟨ad, e, _⟩ := h2.2.2 (by rw [← e2, HP8.out]; omega)
          exact ⟨ad, e1.trans e, trivial⟩
        subst ead8
        clear hRs hws
        rename World => wo
        go_wp2_with fail
        go_loopw [12, 13, 14, 15, 67] (fun v12 v13 v14 v15 v67 w' => ∃ k : Nat, ∃ vs : List Value, v67 = .int .i64 (k : Int) ∧ k ≤ W ∧ As (RowV 56 8 w' wo.heap.size v12 k vs) ∧ As (SPs w' p vs ((ptRow S N x.seq B W r).take k)) ∧ As (Fr None_ wo w')) (fun _ _ _ _ v67 _ => W - (intOf v67).toNat)
        case atStart => exact ⟨0, [], rfl, by omega, ⟨RowV.nil _ _ _ _⟩, ⟨SPs.nil _ _⟩, ⟨Fr.refl _ _⟩⟩
        case round =>
          obtain ⟨k, vs, rfl, hk, HX, HP, HQ⟩ := hrel
          obtain ⟨A1, cap1, e1, _, _, _⟩ := HX.out.rd
          subst e1
          by_cases hkl : k < W
          · have hkI : (k : Int) < (W : Int) := by omega
            have HTK := As.mk (take_snoc noPage (show k < (ptRow S N x.seq B W r).length by rw [ptRow_len]; exact hkl))
            rw [ptRow_get hkl] at HTK
            by_cases hin : r * W + k < N
            · have hinI : (r : Int) * W + k < N := by exact_mod_cast hin
              have dn : decide ((N : Int) ≤ ((r * W + k : Nat) : Int)) = false := decide_eq_false (by omega)
              have hcast : (r : Int) * W + k = ((r * W + k : Nat) : Int) := by push_cast; rfl
              have hpage : ptPage S N x.seq B (r * W + k) = (⟨3, x.seq, 0, ((r * W + k : Nat) : Int), N, 0, 0⟩, ((padTo B (N * S)).drop ((r * W + k) * S)).take S) := by unfold ptPage; rw [if_pos hin]
              have HPG := As.mk (ptPage_ok hsq HBR.out HNL.out (show N < 65536 by omega) (r * W + k))
              rw [hpage] at HTK HPG
              clear hpage
              generalize r * W + k = i at *
              have hu1 : IntKind.u16.wrap (i : Int) = i := by rw [IntKind.wrap_u16]; omega
              have hu2 : IntKind.u16.wrap (N : Int) = N := by rw [IntKind.wrap_u16]; omega
              have hiS : i * S ≤ 480 * 1024 := Nat.mul_le_mul (by omega) (by omega)
              have hNS : (i + 1) * S ≤ N * S := Nat.mul_le_mul_right _ hin
              rw [Nat.add_mul, Nat.one_mul] at hNS
              have hv0 : IntKind.i64.wrap ((i : Int) + 1) = (i : Int) + 1 := i64_in _ (by omega) (by omega)
              have hv1 : IntKind.i64.wrap ((i : Int) * S) = ((i * S : Nat) : Int) := by
                rw [show (i : Int) * S = ((i * S : Nat) : Int) by push_cast; rfl]
                exact i64_in _ (by omega) (by omega)
              have hv2 : IntKind.i64.wrap (((i : Int) + 1) * S) = ((i * S + S : Nat) : Int) := by
                rw [show ((i : Int) + 1) * S = ((i * S + S : Nat) : Int) by push_cast; rw [Int.add_mul, Int.one_mul]]
                exact i64_in _ (by omega) (by omega)
              generalize hoS : i * S = o at *
              generalize heS : o + S = e at *
              have HOE := As.mk (show o + S = e from heS)
              have b0 := cell_is (i := 0) (HQ.out.heap HBr.out (fun h => h)) rfl
              have lb : w.heap.size < wr.heap.size := (Array.getElem?_eq_some_iff.1 (HQ.out.heap HBr.out (fun h => h))).1
              go_upto_region 25 with fail
              have hnew := heap_alloc_new wr (.cells #[.int .u8 3, .int .u32 x.seq, .int .u32 0, .int .u16 (i : Int), .int .u16 (N : Int), .int .u32 0, .int .u32 0] 54)
              have hgk := at_old (.cells #[.int .u8 3, .int .u32 x.seq, .int .u32 0, .int .u16 (i : Int), .int .u16 (N : Int), .int .u32 0, .int .u32 0] 54) (HQ.out.heap HGEr.out (fun h => h))
              have hf0 : Fr None_ wr (wr.alloc (.cells #[.int .u8 3, .int .u32 x.seq, .int .u32 0, .int .u16 (i : Int), .int .u16 (N : Int), .int .u32 0, .int .u32 0] 54)) := (Fr.refl _ wr).alloc _
              generalize wr.alloc (.cells #[.int .u8 3, .int .u32 x.seq, .int .u32 0, .int .u16 (i : Int), .int .u16 (N : Int), .int .u32 0, .int .u32 0] 54) = wa at *
              have HF0 := As.mk hf0
              have HXa := As.mk (HX.out.none_ hf0)
              have HSa := As.mk ((HSLr.out.none_ hpr HQ.out).none_ (Nat.lt_of_lt_of_le hpr HQ.out.size) hf0)
              have h0 := cell_is (i := 0) hnew rfl
              have h1 := cell_is (i := 1) hnew rfl
              have h2 := cell_is (i := 2) hnew rfl
              have h3 := cell_is (i := 3) hnew rfl
              have h4 := cell_is (i := 4) hnew rfl
              have h5 := cell_is (i := 5) hnew rfl
              have h6 := cell_is (i := 6) hnew rfl
              have g3 := cell_is (i := 3) hgk rfl
              have hcc : n8 ≤ c8 := hc8.out
              have hn8 := HP8.out
              have hsl := fun (W' : World) => run_part ad8 n8 c8 o e S W' (by omega) (by omega) (by omega) (by omega)
              have HNE := As.mk (show e ≤ n8 by omega)
              clear hnew hgk hf0 b0 lb dn hoS heS hcc hn8 hNS hiS
              have hcd : (wa.alloc (.cells #[.int .u8 3, .int .u32 x.seq, .int .u32 0, .int .u16 (i : Int), .int .u16 (N : Int), .int .u32 0, .int .u32 0, .slice (some (ad8.add o)) S (c8 - o)] 56)).drew.heap[wa.heap.size]? = some (.cells #[.int .u8 3, .int .u32 x.seq, .int .u32 0, .int .u16 (i : Int), .int .u16 (N : Int), .int .u32 0, .int .u32 0, .slice (some (ad8.add o)) S (c8 - o)] 56 (0, 0)) := heap_alloc_new wa _
              have hfd : Fr None_ wa (wa.alloc (.cells #[.int .u8 3, .int .u32 x.seq, .int .u32 0, .int .u16 (i : Int), .int .u16 (N : Int), .int .u32 0, .int .u32 0, .slice (some (ad8.add o)) S (c8 - o)] 56)).drew := ((Fr.refl None_ wa).alloc _).drew
              have HFD := As.mk hfd
              have hXd := HXa.out.none_ hfd
              have hzd : wo.heap.size ≤ (wa.alloc (.cells #[.int .u8 3, .int .u32 x.seq, .int .u32 0, .int .u16 (i : Int), .int .u16 (N : Int), .int .u32 0, .int .u32 0, .slice (some (ad8.add o)) S (c8 - o)] 56)).drew.heap.size := Nat.le_trans (Nat.le_trans HQ.out.size HF0.out.size) hfd.size
              have HCD := As.mk hcd
              have HXD := As.mk hXd
              clear hcd hfd hXd
              go_region_law (first | ((with_reducible refine step_appendV wo.heap.size rfl _ _ 34 56 (.agg #[.int .u8 0, .int .u32 0, .int .u32 0, .int .u16 0, .int .u16 0, .int .u32 0, .int .u32 0, .slice none 0 0]) 8 48 rfl Try.underlying34 infoSP rfl (by decide) (by decide) (.slice A1 k cap1) k vs #[.int .u8 3, .int .u32 x.seq, .int .u32 0, .int .u16 (i : Int), .int .u16 (N : Int), .int .u32 0, .int .u32 0, .slice (some (ad8.add o)) S (c8 - o)] wa.heap.size rfl rfl rfl ?o0 HCD.out HXD.out hzd ?o3 ?_); (case o0 => intro u hu; simp at hu; rcases hu with rfl | rfl | rfl | rfl | rfl | rfl | rfl | rfl <;> rfl); (case o3 => omega); intro v6 w6 hrow6 hfr6 hat6; have HR6 := As.mk hrow6; have HF6 := As.mk hfr6; clear hrow6 hfr6 hat6; obtain ⟨A6, c6, e6, _, _, _⟩ := HR6.out.rd; subst e6))
              all_goals
                go_wp2_with fail
                have hpa : p < wr.heap.size := Nat.lt_of_lt_of_le hpr HQ.out.size
                have hpa2 : p < wa.heap.size := Nat.lt_of_lt_of_le hpa HF0.out.size
                have hFa : Fr None_ wr (wa.alloc (.cells #[.int .u8 3, .int .u32 x.seq, .int .u32 0, .int .u16 (i : Int), .int .u16 (N : Int), .int .u32 0, .int .u32 0, .slice (some (ad8.add o)) S (c8 - o)] 56)).drew := HF0.out.after HFD.out (fun _ _ h => h)
                have hXd := HXD.out
                have hsd := SlO.none_ (SlO.sub HSa.out o S (by have h1 := HOE.out; have h2 := HNE.out; omega) (by omega)) hpa2 HFD.out
                have hpp := (HP.out.none_ hpa hFa).snoc (hd := ⟨3, x.seq, 0, (i : Int), (N : Int), 0, 0⟩) hsd HPG.out.1.1
                have hFw := HQ.out.after hFa (fun _ _ h => h)
                refine ⟨⟨k + 1, vs ++ (pcells ⟨3, x.seq, 0, (i : Int), (N : Int), 0, 0⟩ (.slice (some (ad8.add o)) S (c8 - o))).toList, rfl, by omega, ⟨HR6.out⟩, ⟨?_⟩, ⟨RowV.grow hXd hFw HF6.out⟩⟩, by simp [intOf]; omega⟩
                rw [HTK.out]
                exact Case.SPs.fr hpp HF6.out (fun b cs hb hb2 => Go.Proofs.Ytlhgbamajabnfaa.Str.RowV.ne hXd hb (by decide) hb2) (by
                  obtain ⟨bp, bg, vo, f, fg, h9⟩ := HRs.out
                  have hb := hFw.heap h9.blk (fun h => h)
                  rw [hb]
                  exact HF6.out.heap hb (Go.Proofs.Ytlhgbamajabnfaa.Str.RowV.ne hXd hb (by decide)))
            · have hinI : ¬ ((r : Int) * W + k < N) := by exact_mod_cast hin
              have dn : decide ((N : Int) ≤ (r : Int) * W + k) = true := decide_eq_true (by omega)
              have hpage : ptPage S N x.seq B (r * W + k) = (fillHead x.seq 0, List.replicate S 0) := by unfold ptPage; rw [if_neg hin]
              have HPG := As.mk (ptPage_ok hsq HBR.out HNL.out (show N < 65536 by omega) (r * W + k))
              rw [hpage] at HTK HPG
              clear hpage
              have b0 := cell_is (i := 0) (HQ.out.heap HBr.out (fun h => h)) rfl
              have g0 := cell_is (i := 0) (HQ.out.heap HGEr.out (fun h => h)) rfl
              have g1 := cell_is (i := 1) (HQ.out.heap HGEr.out (fun h => h)) rfl
              have g2 := cell_is (i := 2) (HQ.out.heap HGEr.out (fun h => h)) rfl
              have g3 := cell_is (i := 3) (HQ.out.heap HGEr.out (fun h => h)) rfl
              go_wp2_with fail
              ((with_reducible refine (HFI.out _).mono ?_); rintro e w5 ⟨v5, rfl, hr5, hf5⟩)
              obtain ⟨A5, n5, c5, e5, _, _, _⟩ := hr5.rd
              subst e5
              have HR5 := As.mk hr5
              have HF5 := As.mk hf5
              have hXd := HX.out.none_ hf5
              have hz5 := Nat.le_trans HQ.out.size hf5.size
              clear hr5 hf5 dn b0 g0 g1 g2 g3
              go_wp2_with (at_builtin; (with_reducible refine appendV wo.heap.size rfl _ _ 34 56 (.agg #[.int .u8 0, .int .u32 0, .int .u32 0, .int .u16 0, .int .u16 0, .int .u32 0, .int .u32 0, .slice none 0 0]) 8 48 rfl Try.underlying34 infoSP rfl (by decide) (by decide) (.slice A1 k cap1) k vs #[.int .u8 6, .int .u32 x.seq, .int .u32 0, .int .u16 0, .int .u16 0, .int .u32 0, .int .u32 0, .slice A5 n5 c5] _ rfl rfl rfl rfl ?o0 hXd ?o2 ?o3 ?_); (case o0 => intro u hu; simp at hu; rcases hu with rfl | rfl | rfl | rfl | rfl | rfl | rfl | rfl <;> rfl); (case o2 => exact hz5); (case o3 => omega); intro v6 w6 hrow6 hfr6 hat6; have HR6 := As.mk hrow6; have HF6 := As.mk hfr6; clear hrow6 hfr6 hat6; obtain ⟨A6, c6, e6, _, _, _⟩ := HR6.out.rd; subst e6)
              have hpa : p < wr.heap.size := Nat.lt_of_lt_of_le hpr HQ.out.size
              have hsd := SlO.of_row (HRs.out.none_ HQ.out) HF5.out HR5.out (Nat.le_refl _)
              have hpp := (HP.out.none_ hpa HF5.out).snoc (hd := fillHead x.seq 0) hsd HPG.out.1.1
              have hFw := HQ.out.after HF5.out (fun _ _ h => h)
              refine ⟨⟨k + 1, vs ++ (pcells (fillHead x.seq 0) (.slice A5 n5 c5)).toList, rfl, by omega, ⟨HR6.out⟩, ⟨?_⟩, ⟨RowV.grow hXd hFw HF6.out⟩⟩, by simp [intOf]; omega⟩
              rw [HTK.out]
              exact Case.SPs.fr hpp HF6.out (fun b cs hb hb2 => Go.Proofs.Ytlhgbamajabnfaa.Str.RowV.ne hXd hb (by decide) hb2) (by
                obtain ⟨bp, bg, vo, f, fg, h9⟩ := HRs.out
                have hb := hFw.heap h9.blk (fun h => h)
                rw [hb]
                exact HF6.out.heap hb (Go.Proofs.Ytlhgbamajabnfaa.Str.RowV.ne hXd hb (by decide)))
          · have hkI : ¬ (k : Int) < (W : Int) := by omega
            obtain rfl : k = W := by omega
            have HSP : As (SPs wr p vs (ptRow S N x.seq B k r)) := ⟨by have h := HP.out; rwa [List.take_of_length_le (by rw [ptRow_len]; exact Nat.le_refl _)] at h⟩
            have HLK := As.mk (ptRow_ok (g := s.g) hS hsq HBR.out HNL.out (show N < 65536 by omega) HW.out r)
            have hws := HWs.out
            have hw := Write.Write_calls p s' (2 + x.seq % 2) r A1 k cap1 vs (ptRow S N x.seq B k r) wr (HRs.out.none_ HQ.out) (by rw [hws.geo]; exact ⟨by have := HOK.out.b; omega, by omega⟩) (by rw [hws.geo]; exact HW.out) (RdCO.of_rowV HRs.out HQ.out HX.out (Nat.le_refl _)) HSP.out (fun q hq => by rw [hws.geo]; exact HLK.out.data q hq) (by have := hws.cnt; omega)
            rw [hws.geo, hws.first, hws.err (fun m => Int.not_lt.2 (HGN.out m))] at hw
            have HWR := As.mk hw
            have HWS1 := As.mk (hws.step HOK.out (fun m => Int.not_lt.2 (HGN.out m)))
            clear hw hws
            unfold dev at HWR
            have hrN : r + 1 ≤ N := by
              have := Nat.le_mul_of_pos_right r (show 0 < k by omega)
              omega
            have dk : decide ((k : Int) < (k : Int)) = false := decide_eq_false hkI
            go_wp2_with fail
            ((with_reducible refine (HWR.out).mono ?_); rintro e w6 ⟨rfl, hR6, hS6⟩)
            have HR6 := As.mk hR6
            have HT6 := As.mk ((HT.out.trans (Ram.Step.none_ hpr HQ.out)).trans hS6)
            clear hR6 hS6
            go_wp2_with fail
            exact ⟨⟨r + 1, rfl, hrN, ⟨fun q hq => by
              rcases Nat.lt_or_ge q r with h | h
              · exact HLT.out q h
              · obtain rfl : q = r := by omega
                exact hlt⟩, ⟨_, HR6.out, HWS1.out⟩, HT6⟩, by simp [intOf]; omega⟩
      · have hltI : ¬ (r : Int) * W < N := by exact_mod_cast hlt
        have dl : decide ((r : Int) * W < (N : Int)) = false := decide_eq_false hltI
        go_wp2_with fail
        go_ret
        obtain ⟨s', hRs, hws⟩ := HE.out
        refine .inr ⟨by rw [HNN.out]; exact HFT.out, s', r, rfl, ?_, hRs, ?_, HSTr.out⟩
        · rw [HNN.out, HWT.out]
          rcases Nat.eq_zero_or_pos r with h | h
          · subst h
            rw [Nat.zero_mul] at hlt
            obtain rfl : N = 0 := by omega
            symm
            exact Nat.div_eq_of_lt (by omega)
          · obtain ⟨q, rfl⟩ : ∃ q, r = q + 1 := ⟨r - 1, by omega⟩
            have h1 := HLT.out q (by omega)
            rw [Nat.add_mul, Nat.one_mul] at hlt
            symm
            apply Nat.div_eq_of_lt_le
            · rw [Nat.add_mul, Nat.one_mul]; omega
            · rw [Nat.add_mul, Nat.add_mul]; omega
        · rw [HNN.out, HWT.out]
          exact hws
  · have hd : decide (s.g.p * (s.g.c - 1) < (N : Int)) = true := decide_eq_true (by omega)
    go_wp2_with fail
    go_ret
    exact .inl ⟨by rw [HNN.out]; exact hfit, rfl, HF3.out⟩
end Go.Proofs.Ytlhgbamajabnfaa.Point8

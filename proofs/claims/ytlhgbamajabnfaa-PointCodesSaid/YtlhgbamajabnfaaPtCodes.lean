/- The law PointCodes: its walk. -/
import Derived.Test.YtlhgbamajabnfaaPtAgain
namespace Go.Proofs.Ytlhgbamajabnfaa.PtCodes
open Go.RowKit Go.Proofs.Ytlhgbamajabnfaa.Ord Go.Proofs.Ytlhgbamajabnfaa.Write Go.Proofs.Ytlhgbamajabnfaa.Gab Go.Proofs.Ytlhgbamajabnfaa.Wr Go.Proofs.Ytlhgbamajabnfaa.Geom Go.Proofs.Ytlhgbamajabnfaa.Fields Go.Proofs.Ytlhgbamajabnfaa.Ref Go.Proofs.Ytlhgbamajabnfaa.Last Go.Proofs.Ytlhgbamajabnfaa.Point1 Go.Proofs.Ytlhgbamajabnfaa.Point2 Go.Proofs.Ytlhgbamajabnfaa.Point4 Go.Proofs.Ytlhgbamajabnfaa.Point5 Go.Proofs.Ytlhgbamajabnfaa.Point7 Go.Proofs.Ytlhgbamajabnfaa.PtLaw Go.Proofs.Ytlhgbamajabnfaa.Kept Go.Proofs.Ytlhgbamajabnfaa.Written Go.Proofs.Ytlhgbamajabnfaa.PtAgain
open Go.Proofs.Ytlhgbamajabnfaa.Case (u64of)
open Go.Proofs.Ytlhgbamajabnfaa.Dec5 (DecPost Decode_calls)
set_option linter.unusedVariables false
set_option linter.unusedSimpArgs false

/-- What Decode hands back of a point's bytes with noughts behind. -/
theorem decode_enc (A : Option Addr) (n c : Nat) (x : Num) (z : Nat) (w : World) (hx : x.Ok) (hA : Rd .u8 w A n (x.b ++ List.replicate z 0)) (hc : n ≤ c) (hn : n ≤ 1000000) :
    Calls Try.prog 31 #[.slice A n c] w fun e w' => ∃ A1 n1 c1 B1 k1 d1, e = .returned (.tuple #[.agg #[.int .u32 x.seq, .int .u32 x.batch, .slice A1 n1 c1, .slice B1 k1 d1], .int .i64 0]) ∧ PtAt w' ⟨x.seq, x.batch, A1, n1, c1, B1, k1, d1⟩ x.m x.er ∧ Fr None_ w w' := by
  obtain ⟨h1, h2, h3, h4, h5⟩ := encB_pt z hx.seq hx.batch hx.m hx.er hx.ml hx.el
  have hr : InR 256 (x.b ++ List.replicate z 0) := fun y hy => by
    rcases List.mem_append.1 hy with hy | hy
    · exact encB_range _ _ _ _ y hy
    · obtain ⟨_, rfl⟩ := List.mem_replicate.1 hy
      decide
  refine (Decode_calls A n c _ w hA hr hc hn).mono fun e w' h => ?_
  unfold Num.b at h
  rcases h with ⟨_, vM, vE, rfl, hM, hE, hf⟩ | ⟨hn, _⟩
  · rw [h2, h3]
    rw [h4] at hM
    rw [h5] at hE
    obtain ⟨A1, n1, c1, rfl, hc1, hA1, _⟩ := hM.rd
    obtain ⟨B1, k1, d1, rfl, hd1, hB1, _⟩ := hE.rd
    exact ⟨A1, n1, c1, B1, k1, d1, rfl, ⟨hx.seq, hx.batch, hA1.out, hx.m, hc1.out, hB1.out, hx.er, hd1.out⟩, hf⟩
  · exact absurd h1 hn

theorem enc_at {seq batch : Int} {A B : Option Addr} {n c k d : Nat} {m er : List Int} {w : World} (hx : RPtAt w ⟨seq, batch, A, n, c, B, k, d⟩ m er) :
    Calls Try.prog 33 #[.agg #[.int .i64 seq, .int .i64 batch, .slice A n c, .slice B k d]] w fun e w' => ∃ A1 n1 c1, e = .returned (.slice A1 n1 c1) ∧ Rd .u8 w' A1 n1 (encB seq batch m er) ∧ Fr None_ w w' :=
  hx.enc.mono fun e w' h => by
    obtain ⟨v, rfl, hr, hf⟩ := h
    obtain ⟨A1, n1, c1, rfl, _, hd, _⟩ := hr.rd
    exact ⟨A1, n1, c1, rfl, hd.out, hf⟩
theorem sameb_at {A B : Option Addr} {n c k d : Nat} {xs : List Int} {w : World} (hA : Rd .u8 w A n xs) (hB : Rd .u8 w B k xs) (hr : InR 256 xs) :
    Calls Try.prog 22 #[.slice A n c, .slice B k d] w fun e w' => e = .returned (.bool true) ∧ Fr None_ w w' :=
  (Same_calls A B n c k d xs xs w hA hB hr hr).mono fun e w' h => ⟨by rw [h.1, decide_eq_true rfl], by rw [h.2]; exact Fr.refl _ _⟩

set_option maxHeartbeats 8000000 in
set_option maxRecDepth 100000 in
theorem small_calls (x : Pt) (zeros : Int) (w : World) (h : ¬ (x.mn ≤ 900 ∧ x.en ≤ 100)) :
    Calls Try.prog 6 #[.agg x.cells, .int .i64 zeros] w fun e w' => e = .returned (.bool true) ∧ Fr None_ w w' := by
  have HK := As.mk (fun w => written_calls w)
  have HLI := As.mk (fun w => light_calls x w)
  rw [decide_eq_false h] at HLI
  unfold Pt.cells at *
  have HBX := As.mk (heap_alloc_new w (.cells #[.int .u32 x.seq, .int .u32 x.batch, .slice x.MA x.mn x.mc, .slice x.EA x.en x.ec] 73))
  clear h
  go_enter Try.func6, Try.ntmps6
  go_wp2_with fail
  ((with_reducible refine (HK.out _).mono ?_); rintro e w1 ⟨rfl, hf1⟩)
  have HB1 := As.mk (hf1.heap HBX.out (fun h => h))
  have HF1 := As.mk (((Fr.refl None_ w).alloc _).after hf1 (fun _ _ h => h))
  have b0 := cell_is (i := 0) HB1.out rfl
  have b1 := cell_is (i := 1) HB1.out rfl
  have b2 := cell_is (i := 2) HB1.out rfl
  have b3 := cell_is (i := 3) HB1.out rfl
  try dsimp only at b0 b1 b2 b3
  clear hf1 HBX
  go_wp2_with fail
  ((with_reducible refine (HLI.out _).mono ?_); rintro e w2 ⟨rfl, hf2⟩)
  have HF2 := As.mk (HF1.out.after hf2 (fun _ _ h => h))
  clear hf2
  go_wp2_with fail
  ((with_reducible refine (HK.out _).mono ?_); rintro e w3 ⟨rfl, hf3⟩)
  have HF3 := As.mk (HF2.out.after hf3 (fun _ _ h => h))
  go_wp2_with fail
  go_ret
  exact ⟨rfl, HF3.out⟩

set_option maxHeartbeats 8000000 in
set_option maxRecDepth 100000 in
theorem codes_calls (x : Pt) (zeros : Int) (m er : List Int) (w : World) (hx : PtAt w x m er) (h1 : x.mn ≤ 900) (h2 : x.en ≤ 100) :
    Calls Try.prog 6 #[.agg x.cells, .int .i64 zeros] w fun e w' => e = .returned (.bool true) ∧ Fr None_ w w' := by
  have HK := As.mk (fun w => written_calls w)
  have HLI := As.mk (fun w => light_calls x w)
  rw [decide_eq_true ⟨h1, h2⟩] at HLI
  have HX := As.mk hx
  have hml := hx.map.1
  have hel := hx.ers.1
  have HNO := As.mk (show (Num.mk x.seq x.batch m er).Ok from ⟨hx.seq, hx.batch, hx.mapR, hx.ersR, by show m.length ≤ 100000; omega, by show er.length ≤ 100000; omega⟩)
  have HEN := As.mk (fun (w' : World) (hf : Fr None_ w w') => Encode_calls x m er w' (hx.none_ hf) (by omega) (by omega))
  have HLE := As.mk (show (encB x.seq x.batch m er).length ≤ 5000 from by rw [encB_len]; omega)
  have HER := As.mk (encB_range x.seq x.batch m er)
  obtain ⟨z, hz, hz3⟩ : ∃ z : Nat, (z : Int) = u64of zeros % 300 ∧ z < 300 := ⟨(u64of zeros % 300).toNat, by unfold u64of; omega, by unfold u64of; omega⟩
  have u0 : IntKind.u64.wrap zeros = u64of zeros := IntKind.wrap_u64 _
  have u1 : 0 ≤ u64of zeros := by unfold u64of; omega
  have u2 : u64of zeros < 18446744073709551616 := by unfold u64of; omega
  generalize u64of zeros = uz at *
  have hZ := fun w => Zeros_calls z w (by omega)
  simp only [hz] at hZ
  have HZ := As.mk hZ
  clear hZ
  have HZ3 := As.mk hz3
  have HDE := As.mk (fun (A : Option Addr) (n c : Nat) (w : World) (hA : Rd .u8 w A n (encB x.seq x.batch m er ++ List.replicate z 0)) (hc : n ≤ c) (hn : n ≤ 1000000) => decode_enc A n c ⟨x.seq, x.batch, m, er⟩ z w HNO.out hA hc hn)
  have HLM := As.mk (And.intro (And.intro h1 h2) (And.intro hml hel))
  unfold Pt.cells at *
  dsimp only at HDE
  have HBX := As.mk (heap_alloc_new w (.cells #[.int .u32 x.seq, .int .u32 x.batch, .slice x.MA x.mn x.mc, .slice x.EA x.en x.ec] 73))
  clear hx hml hel h1 h2 hz hz3
  go_enter Try.func6, Try.ntmps6
  go_wp2_with fail
  ((with_reducible refine (HK.out _).mono ?_); rintro e w1 ⟨rfl, hf1⟩)
  have HB1 := As.mk (hf1.heap HBX.out (fun h => h))
  have HF1 := As.mk (((Fr.refl None_ w).alloc _).after hf1 (fun _ _ h => h))
  have b0 := cell_is (i := 0) HB1.out rfl
  have b1 := cell_is (i := 1) HB1.out rfl
  have b2 := cell_is (i := 2) HB1.out rfl
  have b3 := cell_is (i := 3) HB1.out rfl
  try dsimp only at b0 b1 b2 b3
  clear hf1 HBX
  go_wp2_with fail
  ((with_reducible refine (HLI.out _).mono ?_); rintro e w2 ⟨rfl, hf2⟩)
  have HF2 := As.mk (HF1.out.after hf2 (fun _ _ h => h))
  have HB2 := As.mk (hf2.heap HB1.out (fun h => h))
  clear hf2 HF1 HB1 b0 b1 b2 b3 HK HLI
  have b0 := cell_is (i := 0) HB2.out rfl
  have b1 := cell_is (i := 1) HB2.out rfl
  have b2 := cell_is (i := 2) HB2.out rfl
  have b3 := cell_is (i := 3) HB2.out rfl
  try dsimp only at b0 b1 b2 b3
  go_wp2_with fail
  ((with_reducible refine (HEN.out _ HF2.out).mono ?_); rintro e w3 ⟨v3, rfl, hr3, hf3⟩)
  obtain ⟨A3, n3, c3, e3, hnc3, hd3, _⟩ := hr3.rd
  subst e3
  have HR3 := As.mk hr3
  have HF3 := As.mk (HF2.out.after hf3 (fun _ _ h => h))
  have HB3 := As.mk (hf3.heap HB2.out (fun h => h))
  have HS3 := As.mk (And.intro (show w.heap.size + 1 ≤ w2.heap.size from (Array.getElem?_eq_some_iff.1 HB2.out).1) hf3.size)
  clear hf3 hr3 hnc3 hd3 b0 b1 b2 b3 HB2 HF2
  go_wp2_with fail
  ((with_reducible refine (HZ.out _).mono ?_); rintro e w4 ⟨v4, rfl, hr4, hf4⟩)
  obtain ⟨A4, n4, c4, e4, hnc4, hd4, _⟩ := hr4.rd
  subst e4
  have hn4 : n4 = z := by have := hd4.out.1; simpa using this.symm
  have HD4 := As.mk hd4.out
  have HR4 := As.mk (HR3.out.none_ hf4)
  have HF4 := As.mk (HF3.out.after hf4 (fun _ _ h => h))
  have HB4 := As.mk (hf4.heap HB3.out (fun h => h))
  have HZ4 := As.mk (show w2.heap.size ≤ w4.heap.size from Nat.le_trans HS3.out.2 hf4.size)
  subst hn4
  clear hf4 hr4 hnc4 hd4 HR3 HF3 HB3
  go_wp2_with (at_builtin; (with_reducible refine appendRow w2.heap.size rfl _ _ 23 5 .u8 1 rfl Try.underlying23 infoByte (by decide) (.slice A3 n3 c3) (encB x.seq x.batch m er) (List.replicate n4 0) A4 n4 c4 rfl rfl HR4.out HD4.out HZ4.out ?c1 ?_); (case c1 => have := HLE.out; have := HZ3.out; omega); intro v5 w5 hrow5 hfr5 hat5; have HR5 := As.mk hrow5; have HF5 := As.mk (Fr.after HF4.out hfr5 (fun b hb hh => by have := (HR4.out.blk b hh).1; have := HS3.out.1; omega)); have HB5 := As.mk (hfr5.heap HB4.out (fun hh => by have := (HR4.out.blk _ hh).1; have := HS3.out.1; omega)); clear hrow5 hfr5 hat5; obtain ⟨A5, n5, c5, e5, hnc5, hd5, _⟩ := HR5.out.rd; subst e5)
  have HD5 := As.mk (And.intro hd5.out hnc5.out)
  have HN5 := As.mk (show n5 ≤ 1000000 from by have h1 := hd5.out.1; have h2 := HLE.out; have h3 := HZ3.out; simp only [List.length_append, List.length_replicate] at h1; omega)
  clear hnc5 hd5 HR5 HR4 HD4 HF4 HB4 HZ4 HS3
  go_wp2_with fail
  ((with_reducible refine (HDE.out A5 n5 c5 _ HD5.out.1 HD5.out.2 HN5.out).mono ?_); rintro e w6 ⟨A6, n6, c6, B6, k6, d6, rfl, hp6, hf6⟩)
  have HP6 := As.mk hp6
  have HF6 := As.mk (HF5.out.after hf6 (fun _ _ h => h))
  have HB6 := As.mk (hf6.heap HB5.out (fun h => h))
  have HL6 := As.mk (show n6 ≤ 100000 ∧ k6 ≤ 100000 from by have h1 := hp6.map.1; have h2 := hp6.ers.1; have h3 := HLM.out; simp only at h1 h2; omega)
  have hfn : Fr None_ w6 (w6.alloc (.cells #[.int .u32 x.seq, .int .u32 x.batch, .slice A6 n6 c6, .slice B6 k6 d6] 73)) := (Fr.refl None_ w6).alloc _
  have HQ7 := As.mk (heap_alloc_new w6 (.cells #[.int .u32 x.seq, .int .u32 x.batch, .slice A6 n6 c6, .slice B6 k6 d6] 73))
  clear hp6 hf6 HF5 HB5 HD5 HN5 HDE HZ
  go_upto_region 5 with fail
  generalize w6.alloc (.cells #[.int .u32 x.seq, .int .u32 x.batch, .slice A6 n6 c6, .slice B6 k6 d6] 73) = w7 at *
  generalize w6.heap.size = q at *
  have HB7 := As.mk (hfn.heap HB6.out (fun h => h))
  have HF7 := As.mk (HF6.out.after hfn (fun _ _ h => h))
  have HOQ := As.mk (fun (w' : World) (hf : Fr None_ w7 w') => of_at w' ((HP6.out.none_ hfn).none_ hf) HL6.out.1 HL6.out.2)
  have HOP := As.mk (fun (w' : World) (hf : Fr None_ w7 w') => of_at w' (HX.out.none_ (HF7.out.after hf (fun _ _ h => h))) (by have := HLM.out; omega) (by have := HLM.out; omega))
  have HEP := As.mk (fun (w' : World) (hf : Fr None_ w7 w') => HEN.out w' (HF7.out.after hf (fun _ _ h => h)))
  have b0 := cell_is (i := 0) HB7.out rfl
  have b1 := cell_is (i := 1) HB7.out rfl
  have b2 := cell_is (i := 2) HB7.out rfl
  have b3 := cell_is (i := 3) HB7.out rfl
  have q0 := cell_is (i := 0) HQ7.out rfl
  have q1 := cell_is (i := 1) HQ7.out rfl
  have q2 := cell_is (i := 2) HQ7.out rfl
  have q3 := cell_is (i := 3) HQ7.out rfl
  try dsimp only at b0 b1 b2 b3 q0 q1 q2 q3
  have HF := As.mk ((Fr.refl None_ w7).drew)
  clear hfn HB6 HQ7 HB7 HP6 HF6 HEN
  go_region_held3 (fun w' => w'.cell? ⟨w.heap.size, 0, none⟩ = some (.int .u32 x.seq) ∧ w'.cell? ⟨w.heap.size, 1, none⟩ = some (.int .u32 x.batch) ∧ w'.cell? ⟨w.heap.size, 2, none⟩ = some (.slice x.MA x.mn x.mc) ∧ w'.cell? ⟨w.heap.size, 3, none⟩ = some (.slice x.EA x.en x.ec) ∧ w'.cell? ⟨q, 0, none⟩ = some (.int .u32 x.seq) ∧ w'.cell? ⟨q, 1, none⟩ = some (.int .u32 x.batch) ∧ w'.cell? ⟨q, 2, none⟩ = some (.slice A6 n6 c6) ∧ w'.cell? ⟨q, 3, none⟩ = some (.slice B6 k6 d6)) (first | go_keep | (refine ⟨?_, ?_, ?_, ?_, ?_, ?_, ?_, ?_⟩ <;> (refine Fr.cell ‹Fr None_ _ _› ?_ (fun h => h); go_keep))) (first
    | ((with_reducible refine (HEP.out _ HF.out).mono ?_); rintro e we ⟨ve, rfl, hre, hfe⟩; obtain ⟨AE, nE, cE, eE, _, hdE, _⟩ := hre.rd; subst eE; have HRE := As.mk hdE.out; have HF := As.mk (Fr.after (T := None_) HF.out hfe (fun _ _ h => h)); (try have HQP := As.mk (HQP.out.none_ hfe)); (try have HRR := As.mk (HRR.out.none_ hfe)); clear hre hdE)
    | ((with_reducible refine (HOP.out _ HF.out).mono ?_); rintro e wp ⟨A1, n1, k1, B1, m1, j1, rfl, hq1, hfp⟩; have HF := As.mk (Fr.after (T := None_) HF.out hfp (fun _ _ h => h)); have HQP := As.mk hq1; (try have HQQ := As.mk (HQQ.out.none_ hfp)); (try have HRE := As.mk (HRE.out.none_ hfp)); clear hq1)
    | ((with_reducible refine (HOQ.out _ HF.out).mono ?_); rintro e wq ⟨A2, n2, k2, B2, m2, j2, rfl, hq2, hfq⟩; have HF := As.mk (Fr.after (T := None_) HF.out hfq (fun _ _ h => h)); have HQQ := As.mk hq2; (try have HQP := As.mk (HQP.out.none_ hfq)); clear hq2)
    | ((with_reducible refine (enc_at HQP.out).mono ?_); rintro e wr ⟨AR, nR, cR, rfl, hrr, hfr⟩; have HF := As.mk (Fr.after (T := None_) HF.out hfr (fun _ _ h => h)); have HRR := As.mk hrr; (try have HRE := As.mk (HRE.out.none_ hfr)); clear hrr)
    | ((with_reducible refine (sameb_at HRE.out HRR.out HER.out).mono ?_); rintro e ws ⟨rfl, hfs⟩; have HF := As.mk (Fr.after (T := None_) HF.out hfs (fun _ _ h => h)))
    | ((with_reducible refine (same_at HQQ.out HQP.out).mono ?_); rintro e w9 ⟨rfl, hf9⟩; have HF9 := As.mk (HF7.out.after (HF.out.after hf9 (fun _ _ h => h)) (fun _ _ h => h)))
    | fail)
  all_goals
    go_wp2_with fail
    go_ret
    exact ⟨rfl, HF9.out⟩
end Go.Proofs.Ytlhgbamajabnfaa.PtCodes

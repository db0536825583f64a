/- The law PointSpoilt: its walk. -/
import Derived.Test.YtlhgbamajabnfaaPtTorn
namespace Go.Proofs.Ytlhgbamajabnfaa.PtSpoilt
open Go.RowKit Go.Proofs.Ytlhgbamajabnfaa.Ord Go.Proofs.Ytlhgbamajabnfaa.Write Go.Proofs.Ytlhgbamajabnfaa.Gab Go.Proofs.Ytlhgbamajabnfaa.Wr Go.Proofs.Ytlhgbamajabnfaa.Geom Go.Proofs.Ytlhgbamajabnfaa.Fields Go.Proofs.Ytlhgbamajabnfaa.Ref Go.Proofs.Ytlhgbamajabnfaa.Last Go.Proofs.Ytlhgbamajabnfaa.Point1 Go.Proofs.Ytlhgbamajabnfaa.Point2 Go.Proofs.Ytlhgbamajabnfaa.Point4 Go.Proofs.Ytlhgbamajabnfaa.Point5 Go.Proofs.Ytlhgbamajabnfaa.Point7 Go.Proofs.Ytlhgbamajabnfaa.PtLaw Go.Proofs.Ytlhgbamajabnfaa.Kept Go.Proofs.Ytlhgbamajabnfaa.Written Go.Proofs.Ytlhgbamajabnfaa.PtAgain Go.Proofs.Ytlhgbamajabnfaa.Opens Go.Proofs.Ytlhgbamajabnfaa.PtTorn
open Go.Proofs.Ytlhgbamajabnfaa.Ram (RamE New_calls Foot)
open Go.Proofs.Ytlhgbamajabnfaa.Case (u64of)
set_option linter.unusedVariables false
set_option linter.unusedSimpArgs false

theorem enc_at {seq batch : Int} {A B : Option Addr} {n c k d : Nat} {m er : List Int} {w : World} (hx : RPtAt w ⟨seq, batch, A, n, c, B, k, d⟩ m er) :
    Calls Try.prog 33 #[.agg #[.int .i64 seq, .int .i64 batch, .slice A n c, .slice B k d]] w fun e w' => ∃ A1 n1 c1, e = .returned (.slice A1 n1 c1) ∧ Rd .u8 w' A1 n1 (encB seq batch m er) ∧ Fr None_ w w' :=
  hx.enc.mono fun e w' h => by
    obtain ⟨v, rfl, hr, hf⟩ := h
    obtain ⟨A1, n1, c1, rfl, _, hd, _⟩ := hr.rd
    exact ⟨A1, n1, c1, rfl, hd.out, hf⟩
theorem rows_int {c : Int} {Wd : Nat} (hW : 0 < Wd) (hc : c - 1 = (Wd : Int)) (n : Nat) : (((n : Int) + 255) / 256 + (c - 1) - 1) / (c - 1) = ((rowsOf Wd (pagesOf 256 n) : Nat) : Int) := by
  have h1 : ((pagesOf 256 n : Nat) : Int) = ((n : Int) + 255) / 256 := by unfold pagesOf; omega
  rw [hc, ← h1]
  unfold rowsOf
  rw [Int.natCast_ediv]
  congr 1
  omega
theorem rows_range {c : Int} (hc : 3 ≤ c) {n : Nat} (h0 : 16 ≤ n) (h1 : n ≤ 896) : 1 ≤ (((n : Int) + 255) / 256 + (c - 1) - 1) / (c - 1) ∧ (((n : Int) + 255) / 256 + (c - 1) - 1) / (c - 1) ≤ 6 := by
  constructor
  · exact (Int.le_ediv_iff_mul_le (by omega)).2 (by omega)
  · exact Int.ediv_le_of_le_mul (by omega) (by omega)
theorem r0_is {a r : Int} (ha : 0 ≤ a) (hr : 0 < r) (h6 : r ≤ 6) : ∃ r0 : Nat, wrap64 (Int.tmod a r) = (r0 : Int) ∧ (r0 : Int) < r := by
  have h0 := Int.emod_nonneg a (show r ≠ 0 by omega)
  have h1 := Int.emod_lt_of_pos a hr
  refine ⟨(a % r).toNat, ?_, by omega⟩
  rw [Int.tmod_eq_emod_of_nonneg ha, IntWalk.wrap64_in _ (by omega)]
  omega
/-- What the law is given. -/
structure Sp where
  chips : Int
  x : Pt
  y : Pt
  at_ : Int
  CA : Option Addr
  cn : Nat
  cc : Nat
def Sp.cells (s : Sp) : Array Value := #[.int .i64 s.chips, .int .u32 s.x.seq, .int .u32 s.x.batch, .slice s.x.MA s.x.mn s.x.mc, .slice s.x.EA s.x.en s.x.ec, .int .u32 s.y.seq, .int .u32 s.y.batch, .slice s.y.MA s.y.mn s.y.mc, .slice s.y.EA s.y.en s.y.ec, .int .i64 s.at_, .slice s.CA s.cn s.cc]

/-- The law's own two points, behind the first line. -/
structure Own (w wx : World) (x y : Pt) (qa qb : Nat) : Prop where
  ne : qa ≠ qb
  la : w.heap.size ≤ qa
  lb : w.heap.size ≤ qb
  fr : Fr None_ w wx
  ha : wx.heap[qa]? = some (.cells #[.int .u32 x.seq, .int .u32 x.batch, .slice x.MA x.mn x.mc, .slice x.EA x.en x.ec] 73 (0, 0))
  hb : wx.heap[qb]? = some (.cells #[.int .u32 y.seq, .int .u32 y.batch, .slice y.MA y.mn y.mc, .slice y.EA y.en y.ec] 73 (0, 0))
theorem own_ab (w : World) (x y : Pt) (o : Obj) : Own w (((w.alloc o).alloc (.cells #[.int .u32 x.seq, .int .u32 x.batch, .slice x.MA x.mn x.mc, .slice x.EA x.en x.ec] 73)).alloc (.cells #[.int .u32 y.seq, .int .u32 y.batch, .slice y.MA y.mn y.mc, .slice y.EA y.en y.ec] 73)).drew x y (w.heap.size + 1) (w.heap.size + 1 + 1) :=
  ⟨by omega, by omega, by omega, ((((Fr.refl None_ w).alloc _).alloc _).alloc _).drew, at_old (.cells #[.int .u32 y.seq, .int .u32 y.batch, .slice y.MA y.mn y.mc, .slice y.EA y.en y.ec] 73) (at_new (.cells #[.int .u32 x.seq, .int .u32 x.batch, .slice x.MA x.mn x.mc, .slice x.EA x.en x.ec] 73) (size_new o rfl)), at_new (.cells #[.int .u32 y.seq, .int .u32 y.batch, .slice y.MA y.mn y.mc, .slice y.EA y.en y.ec] 73) (size_new (.cells #[.int .u32 x.seq, .int .u32 x.batch, .slice x.MA x.mn x.mc, .slice x.EA x.en x.ec] 73) (size_new o rfl))⟩
theorem own_ba (w : World) (x y : Pt) (o : Obj) : Own w (((w.alloc o).alloc (.cells #[.int .u32 y.seq, .int .u32 y.batch, .slice y.MA y.mn y.mc, .slice y.EA y.en y.ec] 73)).alloc (.cells #[.int .u32 x.seq, .int .u32 x.batch, .slice x.MA x.mn x.mc, .slice x.EA x.en x.ec] 73)).drew x y (w.heap.size + 1 + 1) (w.heap.size + 1) :=
  ⟨by omega, by omega, by omega, ((((Fr.refl None_ w).alloc _).alloc _).alloc _).drew, at_new (.cells #[.int .u32 x.seq, .int .u32 x.batch, .slice x.MA x.mn x.mc, .slice x.EA x.en x.ec] 73) (size_new (.cells #[.int .u32 y.seq, .int .u32 y.batch, .slice y.MA y.mn y.mc, .slice y.EA y.en y.ec] 73) (size_new o rfl)), at_old (.cells #[.int .u32 x.seq, .int .u32 x.batch, .slice x.MA x.mn x.mc, .slice x.EA x.en x.ec] 73) (at_new (.cells #[.int .u32 y.seq, .int .u32 y.batch, .slice y.MA y.mn y.mc, .slice y.EA y.en y.ec] 73) (size_new o rfl))⟩

set_option maxHeartbeats 8000000 in
set_option maxRecDepth 100000 in
theorem spoilt_calls (chips : Int) (x y : Pt) (at_ : Int) (CA : Option Addr) (cn cc : Nat) (m er m' er' cs : List Int) (w : World) (hx : PtAt w x m er) (hy : PtAt w y m' er') (hC : Rd .u8 w CA cn cs) (hCr : InR 256 cs) (hcc : cn ≤ cc) :
    Calls Try.prog 9 #[.agg (Sp.mk chips x y at_ CA cn cc).cells] w fun e w' => e = .returned (.bool true) ∧ Fr None_ w w' := by
  have HK := As.mk (fun w => written_calls w)
  have HX := As.mk hx
  have HY := As.mk hy
  have HCC := As.mk (And.intro hC (And.intro hCr hcc))
  unfold Sp.cells
  dsimp only
  have HBX := As.mk (heap_alloc_new w (.cells #[.int .i64 chips, .int .u32 x.seq, .int .u32 x.batch, .slice x.MA x.mn x.mc, .slice x.EA x.en x.ec, .int .u32 y.seq, .int .u32 y.batch, .slice y.MA y.mn y.mc, .slice y.EA y.en y.ec, .int .i64 at_, .slice CA cn cc] 98))
  have b0 := cell_is (i := 0) HBX.out rfl
  have b1 := cell_is (i := 1) HBX.out rfl
  have b2 := cell_is (i := 2) HBX.out rfl
  have b3 := cell_is (i := 3) HBX.out rfl
  have b4 := cell_is (i := 4) HBX.out rfl
  have b5 := cell_is (i := 5) HBX.out rfl
  have b6 := cell_is (i := 6) HBX.out rfl
  have b7 := cell_is (i := 7) HBX.out rfl
  have b8 := cell_is (i := 8) HBX.out rfl
  have b9 := cell_is (i := 9) HBX.out rfl
  have b10 := cell_is (i := 10) HBX.out rfl
  clear hx hy hC hCr hcc HBX
  go_enter Try.func9, Try.ntmps9
  go_upto_region 1 with fail
  go_cut [3, 4, 5, 6, 7] (fun v3 v4 v5 v6 v7 wx => ∃ qa qb : Nat, v3 = .int .i64 chips ∧ v4 = .pointer (some ⟨qa, 0, none⟩) ∧ v5 = .pointer (some ⟨qb, 0, none⟩) ∧ v6 = .int .i64 at_ ∧ v7 = .slice CA cn cc ∧ As (Own w wx x y qa qb))
  case first =>
    go_region
    all_goals
      go_wp2_with fail
      go_meet
      case rel =>
        first
        | exact ⟨_, _, rfl, rfl, rfl, rfl, rfl, ⟨own_ab w x y _⟩⟩
        | exact ⟨_, _, rfl, rfl, rfl, rfl, rfl, ⟨own_ba w x y _⟩⟩
  case rest =>
    obtain ⟨qa, qb, rfl, rfl, rfl, rfl, rfl, HO⟩ := hcut
    have HA0 := As.mk HO.out.ha
    have HB0 := As.mk HO.out.hb
    have HF0 := As.mk HO.out.fr
    have HQ := As.mk (And.intro HO.out.ne (And.intro HO.out.la HO.out.lb))
    clear HO b0 b1 b2 b3 b4 b5 b6 b7 b8 b9 b10
    rename World => wz
    go_wp2_with fail
    ((with_reducible refine (HK.out _).mono ?_); rintro e w1 ⟨rfl, hf1⟩)
    have HA1 := As.mk (hf1.heap HA0.out (fun h => h))
    have HB1 := As.mk (hf1.heap HB0.out (fun h => h))
    have HF1 := As.mk (HF0.out.after hf1 (fun _ _ h => h))
    clear HA0 HB0 HF0 hf1
    have a2 := cell_is (i := 2) HA1.out rfl
    have a3 := cell_is (i := 3) HA1.out rfl
    have b2 := cell_is (i := 2) HB1.out rfl
    have b3 := cell_is (i := 3) HB1.out rfl
    try dsimp only at a2 a3 b2 b3
    by_cases hs : 200 < x.mn ∨ 20 < x.en ∨ 200 < y.mn ∨ 20 < y.en ∨ cn < 1 ∨ 300 < cn
    · have hh : (decide ((200 : Int) < (x.mn : Int)) = true) ∨ (decide ((200 : Int) < (x.mn : Int)) = false ∧ decide ((20 : Int) < (x.en : Int)) = true) ∨ (decide ((200 : Int) < (x.mn : Int)) = false ∧ decide ((20 : Int) < (x.en : Int)) = false ∧ decide ((200 : Int) < (y.mn : Int)) = true) ∨ (decide ((200 : Int) < (x.mn : Int)) = false ∧ decide ((20 : Int) < (x.en : Int)) = false ∧ decide ((200 : Int) < (y.mn : Int)) = false ∧ decide ((20 : Int) < (y.en : Int)) = true) ∨ (decide ((200 : Int) < (x.mn : Int)) = false ∧ decide ((20 : Int) < (x.en : Int)) = false ∧ decide ((200 : Int) < (y.mn : Int)) = false ∧ decide ((20 : Int) < (y.en : Int)) = false ∧ decide ((cn : Int) < 1) = true) ∨ (decide ((200 : Int) < (x.mn : Int)) = false ∧ decide ((20 : Int) < (x.en : Int)) = false ∧ decide ((200 : Int) < (y.mn : Int)) = false ∧ decide ((20 : Int) < (y.en : Int)) = false ∧ decide ((cn : Int) < 1) = false ∧ decide ((300 : Int) < (cn : Int)) = true) := by
        simp only [decide_eq_true_eq, decide_eq_false_iff_not]
        omega
      clear hs
      rcases hh with d1 | ⟨d1, d2⟩ | ⟨d1, d2, d3⟩ | ⟨d1, d2, d3, d4⟩ | ⟨d1, d2, d3, d4, d5⟩ | ⟨d1, d2, d3, d4, d5, d6⟩
      all_goals
        go_wp2_with fail
        ((with_reducible refine (HK.out _).mono ?_); rintro e w2 ⟨rfl, hf2⟩)
        have HF2 := As.mk (HF1.out.after hf2 (fun _ _ h => h))
        go_wp2_with fail
        go_ret
        exact ⟨rfl, HF2.out⟩
    · have d1 : decide ((200 : Int) < (x.mn : Int)) = false := decide_eq_false (by omega)
      have d2 : decide ((20 : Int) < (x.en : Int)) = false := decide_eq_false (by omega)
      have d3 : decide ((200 : Int) < (y.mn : Int)) = false := decide_eq_false (by omega)
      have d4 : decide ((20 : Int) < (y.en : Int)) = false := decide_eq_false (by omega)
      have d5 : decide ((cn : Int) < 1) = false := decide_eq_false (by omega)
      have d6 : decide ((300 : Int) < (cn : Int)) = false := decide_eq_false (by omega)
      have HLE := As.mk (show x.mn ≤ 200 ∧ x.en ≤ 20 ∧ y.mn ≤ 200 ∧ y.en ≤ 20 ∧ 1 ≤ cn ∧ cn ≤ 300 from by omega)
      clear hs HK
      have hok := shape_ok chips
      have hcc := shape_c chips
      have hgs : (shapeOf chips).s = 256 := rfl
      have hgp : (shapeOf chips).p = 6 := rfl
      have HSH := As.mk (fun w => shape_calls chips w)
      generalize shapeOf chips = g at *
      have HNW := As.mk (fun w => New_calls g w hok)
      obtain ⟨Wd, hWd⟩ : ∃ Wd : Nat, (Wd : Int) = g.c - 1 := ⟨(g.c - 1).toNat, by omega⟩
      have HGK := As.mk (And.intro hok (And.intro hgs (And.intro hgp hWd)))
      have HML := As.mk (show m.length = x.mn ∧ er.length = x.en ∧ m'.length = y.mn ∧ er'.length = y.en from ⟨HX.out.map.1, HX.out.ers.1, HY.out.map.1, HY.out.ers.1⟩)
      have HXQ : As (∀ w', Fr None_ w w' → PtAt w' { x with seq := 4 } m er) := ⟨fun w' hf => ⟨by show (0 : Int) ≤ 4 ∧ (4 : Int) < 4294967296; decide, HX.out.batch, HX.out.map.none_ hf, HX.out.mapR, HX.out.mapC, HX.out.ers.none_ hf, HX.out.ersR, HX.out.ersC⟩⟩
      have HYQ : As (∀ w', Fr None_ w w' → PtAt w' { y with seq := 5 } m' er') := ⟨fun w' hf => ⟨by show (0 : Int) ≤ 5 ∧ (5 : Int) < 4294967296; decide, HY.out.batch, HY.out.map.none_ hf, HY.out.mapR, HY.out.mapC, HY.out.ers.none_ hf, HY.out.ersR, HY.out.ersC⟩⟩
      have hf1 : ((Num.mk 4 x.batch m er).n 256 : Int) ≤ g.p * (g.c - 1) := by
        have := n_small (x := Num.mk 4 x.batch m er) (by show m.length ≤ 200; have := HML.out; have := HLE.out; omega) (by show er.length ≤ 20; have := HML.out; have := HLE.out; omega)
        rw [hgp]
        omega
      have hf2 : ((Num.mk 5 y.batch m' er').n 256 : Int) ≤ g.p * (g.c - 1) := by
        have := n_small (x := Num.mk 5 y.batch m' er') (by show m'.length ≤ 200; have := HML.out; have := HLE.out; omega) (by show er'.length ≤ 20; have := HML.out; have := HLE.out; omega)
        rw [hgp]
        omega
      have HW1 := As.mk (fun (p : Nat) (w : World) (hR : RamE w p (Ram.St.new g)) (h : PtAt w { x with seq := 4 } m er) => Write_fits p (Ram.St.new g) g 256 Wd 0 { x with seq := 4 } m er w (fun _ => none) hR (Both.new g 256 Wd) hok hgs hWd h (by show x.mn ≤ 100000; have := HLE.out; omega) (by show x.en ≤ 100000; have := HLE.out; omega) (fun m => by show ¬ (0 : Int) < 0; decide) (by decide) hf1)
      have HW2 := As.mk (fun (p : Nat) (s : Ram.St) (w : World) (hR : RamE w p s) (hB : Both s g 256 Wd (-1) (putO (fun _ => none) ⟨4, x.batch, m, er⟩) 1) (hg : ∀ m, ¬ 0 < s.gone m) (h : PtAt w { y with seq := 5 } m' er') => Write_fits p s g 256 Wd 1 { y with seq := 5 } m' er' w _ hR hB hok hgs hWd h (by show y.mn ≤ 100000; have := HLE.out; omega) (by show y.en ≤ 100000; have := HLE.out; omega) hg (by decide) hf2)
      unfold Pt.cells dev Geo.val at *
      dsimp only at HW1 HW2 HSH HNW
      clear hok hgs hgp hf1 hf2 hWd
      go_wp2_with fail
      ((with_reducible refine (HSH.out _).mono ?_); rintro e w2 ⟨rfl, hf2⟩)
      have HA2 := As.mk (hf2.heap HA1.out (fun h => h))
      have HB2 := As.mk (hf2.heap HB1.out (fun h => h))
      have HF2 := As.mk (HF1.out.after hf2 (fun _ _ h => h))
      clear hf2 HF1 HA1 HB1 a2 a3 b2 b3 d1 d2 d3 d4 d5 d6 HSH
      have hfg : Fr None_ w2 (w2.alloc (.cells #[.int .i64 g.c, .int .i64 g.b, .int .i64 g.p, .int .i64 g.s] 28)) := (Fr.refl None_ w2).alloc _
      have HG3 := As.mk (heap_alloc_new w2 (.cells #[.int .i64 g.c, .int .i64 g.b, .int .i64 g.p, .int .i64 g.s] 28))
      go_wp2_with fail
      generalize w2.alloc (.cells #[.int .i64 g.c, .int .i64 g.b, .int .i64 g.p, .int .i64 g.s] 28) = w3 at *
      have HGB := As.mk (show w.heap.size ≤ w2.heap.size ∧ qa < w2.heap.size ∧ qb < w2.heap.size from ⟨HF2.out.size, (Array.getElem?_eq_some_iff.1 HA2.out).1, (Array.getElem?_eq_some_iff.1 HB2.out).1⟩)
      generalize w2.heap.size = gb at *
      have HA3 := As.mk (hfg.heap HA2.out (fun h => h))
      have HB3 := As.mk (hfg.heap HB2.out (fun h => h))
      have HF3 := As.mk (HF2.out.after hfg (fun _ _ h => h))
      clear hfg HA2 HB2 HF2
      ((with_reducible refine (HNW.out _).mono ?_); rintro e w4 ⟨p, rfl, hR4, hf4, hn4⟩)
      have HF4 := As.mk (show Fr None_ w w4 ∧ ∀ b, Foot w4 p b → w.heap.size ≤ b from ⟨HF3.out.after hf4 (fun _ _ h => h), fun b hb => Nat.le_trans HF3.out.size (hn4 b hb)⟩)
      have HA4 := As.mk (hf4.heap HA3.out (fun h => h))
      have HB4 := As.mk (hf4.heap HB3.out (fun h => h))
      have HG4 := As.mk (hf4.heap HG3.out (fun h => h))
      have HR4 := As.mk hR4
      have HNF := As.mk (show (¬ Foot w4 p qa) ∧ (¬ Foot w4 p qb) ∧ (¬ Foot w4 p gb) from by
        have h1 := (Array.getElem?_eq_some_iff.1 HA3.out).1
        have h2 := (Array.getElem?_eq_some_iff.1 HB3.out).1
        have h3 := (Array.getElem?_eq_some_iff.1 HG3.out).1
        exact ⟨fun h => by have := hn4 _ h; omega, fun h => by have := hn4 _ h; omega, fun h => by have := hn4 _ h; omega⟩)
      clear hf4 hn4 hR4 HA3 HB3 HG3 HF3 HNW
      have a0 := cell_is (i := 0) HA4.out rfl
      have b0 := cell_is (i := 0) HB4.out rfl
      have af0 := free_of (i := 0) HA4.out
      have bf0 := free_of (i := 0) HB4.out
      try dsimp only at a0 b0
      have hq := HQ.out.1
      go_upto_region 7 with fail
      have hsA := PRead1.Fr.set1 (w' := w4) (b := qa) (.int .u32 4)
      have hsB := PRead1.Fr.set1 (w' := w4.setCell ⟨qa, 0, none⟩ (.int .u32 4)) (b := qb) (.int .u32 5)
      have HA5 := As.mk (hsB.heap (Case.heap_set HA4.out 0 (.int .u32 4)) hq)
      have HB5 := As.mk (Case.heap_set (hsA.heap HB4.out (fun e => hq e.symm)) 0 (.int .u32 5))
      have HG5 := As.mk (hsB.heap (hsA.heap HG4.out (fun e => by have := HGB.out; omega)) (fun e => by have := HGB.out; omega))
      obtain ⟨hr5, hft5⟩ := new_set HR4.out HNF.out.1 hsA
      obtain ⟨hr6, hft6⟩ := new_set hr5 (fun h => HNF.out.2.1 (hft5 _ h)) hsB
      have HR5 := As.mk hr6
      have HF5 := As.mk (show Fr None_ w ((w4.setCell ⟨qa, 0, none⟩ (.int .u32 4)).setCell ⟨qb, 0, none⟩ (.int .u32 5)) ∧ ∀ b, Foot ((w4.setCell ⟨qa, 0, none⟩ (.int .u32 4)).setCell ⟨qb, 0, none⟩ (.int .u32 5)) p b → w.heap.size ≤ b from ⟨(HF4.out.1.after hsA (fun i hi e => by subst e; have := HQ.out; omega)).after hsB (fun i hi e => by subst e; have := HQ.out; omega), fun b hb => HF4.out.2 b (hft5 b (hft6 b hb))⟩)
      have HO5 := As.mk (show Ram.Off ((w4.setCell ⟨qa, 0, none⟩ (.int .u32 4)).setCell ⟨qb, 0, none⟩ (.int .u32 5)) p qa ∧ Ram.Off ((w4.setCell ⟨qa, 0, none⟩ (.int .u32 4)).setCell ⟨qb, 0, none⟩ (.int .u32 5)) p qb ∧ Ram.Off ((w4.setCell ⟨qa, 0, none⟩ (.int .u32 4)).setCell ⟨qb, 0, none⟩ (.int .u32 5)) p gb from ⟨⟨(Array.getElem?_eq_some_iff.1 HA5.out).1, fun h => HNF.out.1 (hft5 _ (hft6 _ h))⟩, ⟨(Array.getElem?_eq_some_iff.1 HB5.out).1, fun h => HNF.out.2.1 (hft5 _ (hft6 _ h))⟩, ⟨(Array.getElem?_eq_some_iff.1 HG5.out).1, fun h => HNF.out.2.2 (hft5 _ (hft6 _ h))⟩⟩)
      clear hsA hsB hr5 hr6 hft5 hft6 HR4 HF4 HNF HA4 HB4 HG4 a0 b0 af0 bf0
      generalize (w4.setCell ⟨qa, 0, none⟩ (.int .u32 4)).setCell ⟨qb, 0, none⟩ (.int .u32 5) = w5 at *
      have a0 := cell_is (i := 0) HA5.out rfl
      have a1 := cell_is (i := 1) HA5.out rfl
      have a2 := cell_is (i := 2) HA5.out rfl
      have a3 := cell_is (i := 3) HA5.out rfl
      try dsimp only at a0 a1 a2 a3
      have HWA := As.mk (HW1.out p w5 HR5.out (HXQ.out w5 HF5.out.1))
      go_wp2_with fail
      ((with_reducible refine (HWA.out).mono ?_); rintro e w6 ⟨rfl, s6, hR6, hB6, hg6, hS6⟩)
      have HA6 := As.mk (HO5.out.1.blk hS6 HA5.out)
      have HB6 := As.mk (HO5.out.2.1.blk hS6 HB5.out)
      have HG6 := As.mk (HO5.out.2.2.blk hS6 HG5.out)
      have HO6 := As.mk (And.intro (HO5.out.1.step hS6) (And.intro (HO5.out.2.1.step hS6) (HO5.out.2.2.step hS6)))
      have HF6 := As.mk (step_new HF5.out.1 HF5.out.2 hS6)
      have HR6 := As.mk (And.intro hR6 (And.intro (show Both s6 g 256 Wd (-1) (putO (fun _ => none) ⟨4, x.batch, m, er⟩) 1 from hB6) hg6))
      clear hR6 hB6 hg6 hS6 a0 a1 a2 a3 HA5 HB5 HG5 HO5 HF5 HR5 HWA HW1
      have b0 := cell_is (i := 0) HB6.out rfl
      have b1 := cell_is (i := 1) HB6.out rfl
      have b2 := cell_is (i := 2) HB6.out rfl
      have b3 := cell_is (i := 3) HB6.out rfl
      try dsimp only at b0 b1 b2 b3
      have HWB := As.mk (HW2.out p s6 w6 HR6.out.1 HR6.out.2.1 HR6.out.2.2 (HYQ.out w6 HF6.out.1))
      go_wp2_with fail
      ((with_reducible refine (HWB.out).mono ?_); rintro e w7 ⟨rfl, s7, hR7, hB7, hg7, hS7⟩)
      have HA7 := As.mk (HO6.out.1.blk hS7 HA6.out)
      have HB7 := As.mk (HO6.out.2.1.blk hS7 HB6.out)
      have HG7 := As.mk (HO6.out.2.2.blk hS7 HG6.out)
      have HO7 := As.mk (And.intro (HO6.out.1.step hS7) (And.intro (HO6.out.2.1.step hS7) (HO6.out.2.2.step hS7)))
      have HF7 := As.mk (step_new HF6.out.1 HF6.out.2 hS7)
      have HR7 := As.mk (And.intro hR7 (And.intro (show Both s7 g 256 Wd (-1) (putO (putO (fun _ => none) ⟨4, x.batch, m, er⟩) ⟨5, y.batch, m', er'⟩) 2 from hB7) hg7))
      clear hR7 hB7 hg7 hS7 b0 b1 b2 b3 HA6 HB6 HG6 HO6 HF6 HR6 HWB HW2
      have b0 := cell_is (i := 0) HB7.out rfl
      have b1 := cell_is (i := 1) HB7.out rfl
      have b2 := cell_is (i := 2) HB7.out rfl
      have b3 := cell_is (i := 3) HB7.out rfl
      try dsimp only at b0 b1 b2 b3
      have HOB := As.mk (of_at w7 (HYQ.out w7 HF7.out.1) (by have := HLE.out; omega) (by have := HLE.out; omega))
      go_wp2_with fail
      ((with_reducible refine (HOB.out).mono ?_); rintro e w8 ⟨A8, n8, k8, B8, m8, j8, rfl, hq8, hf8⟩)
      have HQ8 := As.mk hq8
      have HF8 := As.mk hf8
      clear hq8 hf8 HOB
      go_wp2_with fail
      ((with_reducible refine (enc_at HQ8.out).mono ?_); rintro e w9 ⟨A9, n9, c9, rfl, hr9, hf9⟩)
      have HL9 := As.mk (show (encB 5 y.batch m' er').length = n9 from hr9.1)
      have hn9 : 16 ≤ n9 ∧ n9 ≤ 896 := by
        have h1 := HL9.out
        rw [encB_len] at h1
        have h2 := HML.out
        have h3 := HLE.out
        omega
      have HF9 := As.mk (show Fr None_ w7 w9 from HF8.out.after hf9 (fun _ _ h => h))
      clear hr9 hf9 HF8 HQ8 b0 b1 b2 b3
      have g0 := cell_is (i := 0) (HF9.out.heap HG7.out (fun h => h)) rfl
      try dsimp only at g0
      have hgc := HGK.out.1.c
      go_upto_region 12 with fail
      obtain ⟨rw_, hrw⟩ : ∃ r : Int, (((n9 : Int) + 255) / 256 + (g.c - 1) - 1) / (g.c - 1) = r := ⟨_, rfl⟩
      rw [hrw]
      have HRW := As.mk hrw
      have hre : rw_ = ((rowsOf Wd ((Num.mk 5 y.batch m' er').n 256) : Nat) : Int) := by
        rw [← hrw, show (Num.mk 5 y.batch m' er').n 256 = pagesOf 256 n9 from by unfold Num.n Num.b; rw [HL9.out]]
        exact rows_int (by have := HGK.out.2.2.2; omega) HGK.out.2.2.2.symm n9
      have hrw1 : 1 ≤ rw_ ∧ rw_ ≤ 6 := by
        rw [← hrw]
        exact rows_range hgc.1 hn9.1 hn9.2
      have HRE := As.mk hre
      clear hre
      have ua0 : IntKind.u64.wrap at_ = u64of at_ := IntKind.wrap_u64 _
      have ua1 : 0 ≤ u64of at_ := by unfold u64of; omega
      have ua2 : u64of at_ < 18446744073709551616 := by unfold u64of; omega
      generalize u64of at_ = ua at *
      have um0 : 0 ≤ ua % g.c := Int.emod_nonneg _ (by omega)
      have um1 : ua % g.c < g.c := Int.emod_lt_of_pos _ (by omega)
      have hc0 : ¬ g.c = 0 := by omega
      have hr0 : ¬ rw_ = 0 := by omega
      have um : Int.tmod ua g.c = ua % g.c := Int.tmod_eq_emod_of_nonneg ua1
      have uc : IntKind.u64.wrap g.c = g.c := by rw [IntKind.wrap_u64]; omega
      have ur : IntKind.u64.wrap rw_ = rw_ := by rw [IntKind.wrap_u64]; omega
      have uw1 : IntKind.u64.wrap (ua % g.c) = ua % g.c := by rw [IntKind.wrap_u64]; omega
      have uw2 : IntKind.i64.wrap (ua % g.c) = ua % g.c := i64_in _ (by omega) (by omega)
      have g0b := cell_is (i := 0) (at_old (.cells #[.int .i64 0, .int .i64 0, .int .i64 0] 45) (HF9.out.heap HG7.out (fun h => h))) rfl
      try dsimp only at g0b
      clear hrw
      go_region
      obtain ⟨r0, hr0e, hr0l⟩ := r0_is (a := IntKind.u64.wrap (wrap64 (Int.tdiv at_ 8))) (by rw [IntKind.wrap_u64]; omega) (by omega : 0 < rw_) (by omega : rw_ ≤ 6)
      rw [hr0e]
      have HR0 := As.mk (show r0 < rowsOf Wd ((Num.mk 5 y.batch m' er').n 256) from by rw [HRE.out] at hr0l; exact_mod_cast hr0l)
      have hr6 : (r0 : Int) < 6 := by omega
      have hfk : Fr None_ w9 (w9.alloc (.cells #[.int .i64 (ua % g.c), .int .i64 3, .int .i64 (r0 : Int)] 45)).drew := ((Fr.refl None_ w9).alloc _).drew
      have HK10 := As.mk (heap_alloc_new w9 (.cells #[.int .i64 (ua % g.c), .int .i64 3, .int .i64 (r0 : Int)] 45))
      have HKS := As.mk (show w7.heap.size ≤ w9.heap.size from HF9.out.size)
      change As ((w9.alloc (.cells #[.int .i64 (ua % g.c), .int .i64 3, .int .i64 (r0 : Int)] 45)).drew.heap[w9.heap.size]? = _) at HK10
      go_upto_region 13 with fail
      generalize (w9.alloc (.cells #[.int .i64 (ua % g.c), .int .i64 3, .int .i64 (r0 : Int)] 45)).drew = w10 at *
      generalize w9.heap.size = kb at *
      generalize ua % g.c = km at *
      have HF10 := As.mk (HF9.out.after hfk (fun _ _ h => h))
      clear hfk um uc ur uw1 uw2 ua0 ua1 ua2 hc0 hr0 hr0e hr0l HRW HRE hn9 HL9 HF9 g0 g0b hrw1
      have HR10 := As.mk (HR7.out.1.none_ HF10.out)
      obtain ⟨bp, bg, vo, f, fg, h10⟩ := HR10.out
      have c4 := cell_is (i := 4) h10.blk rfl
      have H10 := As.mk h10
      have hB1 := HR7.out.2.1.one
      rw [(o_two (x := ⟨4, x.batch, m, er⟩) (y := ⟨5, y.batch, m', er'⟩) rfl rfl).2] at hB1
      have hpl := Reads.Stands.page (hB1.1.rows r0 HR0.out) (m := km) um0 (by rw [HR7.out.2.1.geo]; exact um1)
      obtain ⟨Ap, np, cp, ep, hncp, hrdp, hirp, _, _⟩ := h10.pages km 3 r0
      have HEP := As.mk ep
      have HIP := As.mk hirp
      have HLP := As.mk (show ((s7.pages km 3 r0).length : Int) = 320 from by rw [hpl, HR7.out.2.1.geo, HGK.out.2.1]; rfl)
      have HRDP := As.mk (And.intro hrdp hncp)
      clear h10 hpl ep hirp hrdp hncp hB1
      have HNP := As.mk HRDP.out.1.1
      have hnp : np = 320 := by have := HLP.out; have := HNP.out; omega
      subst hnp
      have HCB := As.mk (HCC.out.1.none_ (HF7.out.1.after HF10.out (fun _ _ h => h)))
      have HWI := As.mk (fun (w' : World) (hf : Fr None_ w10 w') => show Calls Try.prog 23 #[.slice Ap 320 cp, .int .i64 0, .slice CA cn cc] w' fun e w'' => ∃ v, e = .returned v ∧ Row 5 .u8 w'' w'.heap.size v (withAt (s7.pages km 3 r0) 0 cs) ∧ Fr None_ w' w'' from With_calls Ap CA 320 cp cn cc (s7.pages km 3 r0) cs 0 w' (HRDP.out.1.none_ hf) (HCB.out.none_ hf) HRDP.out.2 HCC.out.2.2 (by decide) (by have := HLE.out; omega))
      have HWL := As.mk (show (withAt (s7.pages km 3 r0) 0 cs).length = 320 from by rw [Reads.with_len (by have := HLP.out; have := HCC.out.1.1; have := HLE.out; omega)]; have := HLP.out; omega)
      have HWR := As.mk (Reads.with_range HIP.out HCC.out.2.1)
      generalize withAt (s7.pages km 3 r0) 0 cs = xs at *
      have HWL2 := HWL
      have HLK := As.mk (fun (w' : World) (hf : Fr None_ w10 w') => show (Instr.lookup 37 (.map (some bp)) (.agg #[.int .i64 km, .int .i64 3, .int .i64 (r0 : Int)]) false).run Try.prog w' = .ok (.slice Ap 320 cp) w' from by
        obtain ⟨kl, hkl⟩ := Map.keyOf_3 (m := km) (b := 3) (q := (r0 : Int)) ⟨by omega, by omega⟩ ⟨by decide, by decide⟩ ⟨by omega, by omega⟩
        have hlook := (H10.out.none_ hf).mp.look Map.law3 Try.underlying37 (Map.zeroB _) hkl
        rw [HEP.out] at hlook
        exact hlook)
      have hlook := HLK.out w10.drew (Fr.refl None_ w10).drew
      have k0 := cell_is (i := 0) HK10.out rfl
      have k1 := cell_is (i := 1) HK10.out rfl
      have k2 := cell_is (i := 2) HK10.out rfl
      try dsimp only at k0 k1 k2
      go_still_tail 7, (by kernel_rfl)
      change wpList _ _ _ _ _ w10.drew
      go_wp2_with ((with_reducible refine (HWI.out _ ((Fr.refl None_ w10).drew)).mono ?_); rintro e w11 ⟨v11, rfl, hrow11, hf11⟩)
      clear hlook k0 k1 k2 c4 HWI HWL HCB HEP HCC
      obtain ⟨A11, n11, c11, e11, hm11, hd11, _⟩ := hrow11.rd
      subst e11
      have hn11 : n11 = 320 := by rw [← hd11.out.1]; exact HWL2.out
      subst hn11
      obtain ⟨ad, ead, _⟩ := hd11.out.2.2 (by decide)
      subst ead
      have HRW11 := As.mk hrow11
      have HD11 := As.mk (And.intro hd11.out hm11.out)
      have HF11 := As.mk (show Fr None_ w10 w11 from (Fr.refl None_ w10).drew.after hf11 (fun _ _ h => h))
      clear hrow11 hm11 hd11 hf11
      have hlook := HLK.out w11.drew HF11.out.drew
      have c4 := cell_is (i := 4) (HF11.out.heap H10.out.blk (fun h => h)) rfl
      have k0 := cell_is (i := 0) (HF11.out.heap HK10.out (fun h => h)) rfl
      have k1 := cell_is (i := 1) (HF11.out.heap HK10.out (fun h => h)) rfl
      have k2 := cell_is (i := 2) (HF11.out.heap HK10.out (fun h => h)) rfl
      try dsimp only at k0 k1 k2
      have HSA := As.mk (fun (w' : World) (hf : Fr None_ w11 w') => Same_calls (some ad) Ap 320 c11 320 cp xs (s7.pages km 3 r0) w' (HD11.out.1.none_ hf) ((HRDP.out.1.none_ HF11.out).none_ hf) HWR.out HIP.out)
      generalize decide (xs = s7.pages km 3 r0) = sm at *
      cases sm
      rotate_left
      · go_upto_region 14 with fail
        go_still_tail 7, (by kernel_rfl)
        change wpList _ _ _ _ _ w11.drew
        go_wp2_with ((with_reducible refine (HSA.out _ ((Fr.refl None_ w11).drew)).mono ?_); rintro e w12 ⟨rfl, rfl⟩)
        clear hlook k0 k1 k2 c4 HSA HLK HRDP HIP HLP HNP
        go_ret
        exact ⟨rfl, ((HF7.out.1.after HF10.out (fun _ _ h => h)).after HF11.out (fun _ _ h => h)).drew⟩
      · go_upto_region 14 with fail
        go_still_tail 7, (by kernel_rfl)
        change wpList _ _ _ _ _ w11.drew
        go_wp2_with ((with_reducible refine (HSA.out _ ((Fr.refl None_ w11).drew)).mono ?_); rintro e w12 ⟨rfl, rfl⟩)
        clear hlook k0 k1 k2 c4 HSA HLK HRDP HIP HLP HNP
        have HOP := As.mk (Opens_calls ad c11 xs w11.drew (HD11.out.1.none_ (Fr.refl None_ w11).drew) HWR.out HD11.out.2)
        generalize hok : (Open.openOf (xs.take 256) (xs.drop 256)).2 = ok at *
        have HOK := As.mk hok
        clear hok
        go_wp2_with fail
        ((with_reducible refine (HOP.out).mono ?_); rintro e w13 ⟨rfl, hf13⟩)
        have HF13 := As.mk (show Fr None_ w10 w13 from HF11.out.drew.after hf13 (fun _ _ h => h))
        have HR13 := As.mk (HRW11.out.none_ ((Fr.refl None_ w11).drew.after hf13 (fun _ _ h => h)))
        clear hf13 HOP HF11 HRW11 HD11
        cases ok
        rotate_left
        · go_wp2_with fail
          go_ret
          exact ⟨rfl, (HF7.out.1.after HF10.out (fun _ _ h => h)).after HF13.out (fun _ _ h => h)⟩
        · have c4 := cell_is (i := 4) (HF13.out.heap H10.out.blk (fun h => h)) rfl
          have k0 := cell_is (i := 0) (HF13.out.heap HK10.out (fun h => h)) rfl
          have k1 := cell_is (i := 1) (HF13.out.heap HK10.out (fun h => h)) rfl
          have k2 := cell_is (i := 2) (HF13.out.heap HK10.out (fun h => h)) rfl
          try dsimp only at k0 k1 k2
          have HM13 := As.mk (H10.out.none_ HF13.out.drew)
          have HR13d := As.mk (HR13.out.none_ (Fr.refl None_ w13).drew)
          go_upto_region 18 with fail
          go_still_tail 6, (by kernel_rfl)
          change wpList _ _ _ _ _ w13.drew
          go_wp2_with (at_mapUpdate; (with_reducible refine Map.wp_store _ rfl _ _ _ 37 rfl 45 23 Map.law3 Try.underlying37 (.slice none 0 0) bp s7.cnt f rfl HM13.out.mp ?hn (Map.key3 km 3 (r0 : Int)) (.slice (some ad) 320 c11) rfl rfl (Map.keyOf_3 ⟨by omega, by omega⟩ ⟨by decide, by decide⟩ ⟨by omega, by omega⟩) ?_); (case hn => have := HR7.out.2.1.cnt; unfold maxLen; omega); intro w14 hm14 hf14; have HK14 := As.mk (Ram.Ram.lay HM13.out km 3 (r0 : Int) (.slice (some ad) 320 c11) xs HR13d.out HWR.out (by rw [HR7.out.2.1.geo, HGK.out.2.1]; have := HWL2.out; omega) hm14 hf14); clear hm14 hf14)
          have HT14 := torn_last p s7 g Wd w14 ⟨4, x.batch, m, er⟩ ⟨5, y.batch, m', er'⟩ km r0 xs HR7.out.2.1 HGK.out.1 HGK.out.2.1 HGK.out.2.2.2 rfl rfl (fun m => Int.not_lt.2 (HR7.out.2.2 m)) ⟨um0, um1⟩ HR0.out (by have := HWL2.out; omega) HOK.out ⟨_, _, _, _, _, HK14.out.1⟩
          obtain ⟨mo, hmo, hT14⟩ := HT14
          have HT14 := As.mk hT14
          clear hT14
          have hfd := HF10.out.after HF13.out.drew (fun _ _ h => h)
          have hst := Ram.Step.none_ HR7.out.1.lt hfd
          have hfn := step_new HF7.out.1 HF7.out.2 hst
          have HF14 := As.mk (step_new hfn.1 hfn.2 HK14.out.2).1
          have HA14 := As.mk ((HO7.out.1.step hst).blk HK14.out.2 (hfd.heap HA7.out (fun h => h)))
          clear hfd hst hfn HK14 HM13 HR13d HR13 HF13 HOK HR0 HF7 HR7 HO7 HA7 HB7 HG7 H10 HK10 HR10 HF10 k0 k1 k2 c4 HWL2 HWR
          unfold ReadIs dev at HT14
          dsimp only at HT14
          have dm : decide ((4 : Int) ≤ mo) = true := decide_eq_true hmo
          go_wp2_with fail
          ((with_reducible refine (HT14.out).mono ?_); rintro e w15 ⟨vM, vE, rfl, hrM, hrE, hf15⟩)
          obtain ⟨AM, nM, cM, eM, hcM, hdM, _⟩ := hrM.rd
          subst eM
          obtain ⟨AE, nE, cE, eE, hcE, hdE, _⟩ := hrE.rd
          subst eE
          have HA15 := As.mk (hf15.heap HA14.out (fun h => h))
          have HF15 := As.mk (HF14.out.after hf15 (fun _ _ h => h))
          have HP15 := As.mk (show PtAt w15 ⟨4, x.batch, AM, nM, cM, AE, nE, cE⟩ m er from ⟨by show (0 : Int) ≤ 4 ∧ (4 : Int) < 4294967296; decide, HX.out.batch, hdM.out, HX.out.mapR, hcM.out, hdE.out, HX.out.ersR, hcE.out⟩)
          have HLN := As.mk (show nM ≤ 200 ∧ nE ≤ 20 from by have h1 := hdM.out.1; have h2 := hdE.out.1; have h3 := HML.out; have h4 := HLE.out; omega)
          clear hrM hrE hf15 HT14 HA14 HF14 hcM hdM hcE hdE
          have hfn : Fr None_ w15 (w15.alloc (.cells #[.int .u32 4, .int .u32 x.batch, .slice AM nM cM, .slice AE nE cE] 73)) := (Fr.refl None_ w15).alloc _
          have HQ16 := As.mk (heap_alloc_new w15 (.cells #[.int .u32 4, .int .u32 x.batch, .slice AM nM cM, .slice AE nE cE] 73))
          go_upto_region 20 with fail
          generalize w15.alloc (.cells #[.int .u32 4, .int .u32 x.batch, .slice AM nM cM, .slice AE nE cE] 73) = w16 at *
          generalize w15.heap.size = q at *
          have HA16 := As.mk (hfn.heap HA15.out (fun h => h))
          have HF16 := As.mk (HF15.out.after hfn (fun _ _ h => h))
          have HP16 := As.mk (HP15.out.none_ hfn)
          have HOQ := As.mk (fun (w' : World) (hf : Fr None_ w16 w') => of_at w' (HP16.out.none_ hf) (by have := HLN.out; omega) (by have := HLN.out; omega))
          have HOA := As.mk (fun (w' : World) (hf : Fr None_ w16 w') => of_at w' (HXQ.out w' (HF16.out.after hf (fun _ _ h => h))) (by have := HLE.out; omega) (by have := HLE.out; omega))
          have a0 := cell_is (i := 0) HA16.out rfl
          have a1 := cell_is (i := 1) HA16.out rfl
          have a2 := cell_is (i := 2) HA16.out rfl
          have a3 := cell_is (i := 3) HA16.out rfl
          have q0 := cell_is (i := 0) HQ16.out rfl
          have q1 := cell_is (i := 1) HQ16.out rfl
          have q2 := cell_is (i := 2) HQ16.out rfl
          have q3 := cell_is (i := 3) HQ16.out rfl
          try dsimp only at a0 a1 a2 a3 q0 q1 q2 q3
          have HF := As.mk ((Fr.refl None_ w16).drew)
          clear hfn HA15 HF15 HP15 HQ16 HA16
          go_region_held3 (fun w' => w'.cell? ⟨qa, 0, none⟩ = some (.int .u32 4) ∧ w'.cell? ⟨qa, 1, none⟩ = some (.int .u32 x.batch) ∧ w'.cell? ⟨qa, 2, none⟩ = some (.slice x.MA x.mn x.mc) ∧ w'.cell? ⟨qa, 3, none⟩ = some (.slice x.EA x.en x.ec) ∧ w'.cell? ⟨q, 0, none⟩ = some (.int .u32 4) ∧ w'.cell? ⟨q, 1, none⟩ = some (.int .u32 x.batch) ∧ w'.cell? ⟨q, 2, none⟩ = some (.slice AM nM cM) ∧ w'.cell? ⟨q, 3, none⟩ = some (.slice AE nE cE)) (first | go_keep | (refine ⟨?_, ?_, ?_, ?_, ?_, ?_, ?_, ?_⟩ <;> (refine Fr.cell ‹Fr None_ _ _› ?_ (fun h => h); go_keep))) (first
            | ((with_reducible refine (HOQ.out _ HF.out).mono ?_); rintro e wp ⟨A1, n1, k1, B1, m1, j1, rfl, hq1, hfp⟩; have HF := As.mk (Fr.after (T := None_) HF.out hfp (fun _ _ h => h)); have HQP := As.mk hq1; (try have HQQ := As.mk (HQQ.out.none_ hfp)); clear hq1)
            | ((with_reducible refine (HOA.out _ HF.out).mono ?_); rintro e wq ⟨A2, n2, k2, B2, m2, j2, rfl, hq2, hfq⟩; have HF := As.mk (Fr.after (T := None_) HF.out hfq (fun _ _ h => h)); have HQQ := As.mk hq2; (try have HQP := As.mk (HQP.out.none_ hfq)); clear hq2)
            | ((with_reducible refine (same_at HQP.out HQQ.out).mono ?_); rintro e w17 ⟨rfl, hf17⟩; have HF17 := As.mk (HF16.out.after (HF.out.after hf17 (fun _ _ h => h)) (fun _ _ h => h)))
            | fail)
          all_goals
            go_wp2_with fail
            go_ret
            exact ⟨rfl, HF17.out⟩
end Go.Proofs.Ytlhgbamajabnfaa.PtSpoilt

/- The law PointAgain: its walk. -/
import Derived.Test.YtlhgbamajabnfaaWritten
namespace Go.Proofs.Ytlhgbamajabnfaa.PtAgain
open Go.RowKit Go.Proofs.Ytlhgbamajabnfaa.Ord Go.Proofs.Ytlhgbamajabnfaa.Write Go.Proofs.Ytlhgbamajabnfaa.Gab Go.Proofs.Ytlhgbamajabnfaa.Wr Go.Proofs.Ytlhgbamajabnfaa.Geom Go.Proofs.Ytlhgbamajabnfaa.Fields Go.Proofs.Ytlhgbamajabnfaa.Last Go.Proofs.Ytlhgbamajabnfaa.Point1 Go.Proofs.Ytlhgbamajabnfaa.Point2 Go.Proofs.Ytlhgbamajabnfaa.Point4 Go.Proofs.Ytlhgbamajabnfaa.Point5 Go.Proofs.Ytlhgbamajabnfaa.Point7 Go.Proofs.Ytlhgbamajabnfaa.PtLaw Go.Proofs.Ytlhgbamajabnfaa.Kept Go.Proofs.Ytlhgbamajabnfaa.Written
open Go.Proofs.Ytlhgbamajabnfaa.Ram (RamE New_calls Foot)
open Go.Proofs.Ytlhgbamajabnfaa.Case (u64of)
set_option linter.unusedVariables false
set_option linter.unusedSimpArgs false

/-- What `of` hands back, as a point. -/
theorem of_pt {x : Pt} {m er : List Int} {w w' : World} {e : Ending} (hx : PtAt w x m er) (hm : x.mn ≤ 100000) (he : x.en ≤ 100000) (h : OfPost x m er w e w') :
    ∃ A n c B k d, e = .returned (.agg #[.int .i64 x.seq, .int .i64 x.batch, .slice A n c, .slice B k d]) ∧ RPtAt w' ⟨x.seq, x.batch, A, n, c, B, k, d⟩ m er ∧ Fr None_ w w' := by
  obtain ⟨vM, vE, rfl, h1, h2, h3⟩ := h
  obtain ⟨A, n, c, rfl, _, hA, _⟩ := h1.rd
  obtain ⟨B, k, d, rfl, _, hB, _⟩ := h2.rd
  have e1 := hA.out.1
  have e2 := hx.map.1
  have e3 := hB.out.1
  have e4 := hx.ers.1
  exact ⟨A, n, c, B, k, d, rfl, ⟨hx.seq, hx.batch, hA.out, hx.mapR, by show n ≤ 100000; omega, hB.out, hx.ersR, by show k ≤ 100000; omega⟩, h3⟩
theorem of_at {seq batch : Int} {MA EA : Option Addr} {mn mc en ec : Nat} {m er : List Int} (w : World) (hx : PtAt w ⟨seq, batch, MA, mn, mc, EA, en, ec⟩ m er) (hm : mn ≤ 100000) (he : en ≤ 100000) :
    Calls Try.prog 34 #[.agg #[.int .u32 seq, .int .u32 batch, .slice MA mn mc, .slice EA en ec]] w fun e w' => ∃ A n c B k d, e = .returned (.agg #[.int .i64 seq, .int .i64 batch, .slice A n c, .slice B k d]) ∧ RPtAt w' ⟨seq, batch, A, n, c, B, k, d⟩ m er ∧ Fr None_ w w' :=
  (of_calls ⟨seq, batch, MA, mn, mc, EA, en, ec⟩ m er w hx hm he).mono fun e w' h => of_pt hx hm he h
theorem same_at {seq batch : Int} {A B A' B' : Option Addr} {n c k d n' c' k' d' : Nat} {m er : List Int} {w : World} (hx : RPtAt w ⟨seq, batch, A, n, c, B, k, d⟩ m er) (hy : RPtAt w ⟨seq, batch, A', n', c', B', k', d'⟩ m er) :
    Calls Try.prog 35 #[.agg #[.int .i64 seq, .int .i64 batch, .slice A n c, .slice B k d], .agg #[.int .i64 seq, .int .i64 batch, .slice A' n' c', .slice B' k' d']] w fun e w' => e = .returned (.bool true) ∧ Fr None_ w w' :=
  (same_calls ⟨seq, batch, A, n, c, B, k, d⟩ ⟨seq, batch, A', n', c', B', k', d'⟩ m er m er w hx hy).mono fun e w' h => ⟨by rw [h.1, decide_eq_true rfl], h.2⟩
/-- What stands where two points with one number were written. -/
theorem last_again {a b : Num} (h : a.seq = b.seq) (hb : 0 ≤ b.seq) : lastOf (putO (putO (fun _ => none) a) b) = b.res := by
  unfold lastOf
  show (Res.step (Res.step Res.none (resO (putO (putO (fun _ => none) a) b ((0 : Nat) : Int)))) (resO (putO (putO (fun _ => none) a) b ((1 : Nat) : Int)))) = b.res
  unfold putO
  rw [h]
  rcases (show b.seq % 2 = 0 ∨ b.seq % 2 = 1 by omega) with e | e
  · rw [e, if_pos (by rfl), if_neg (by decide), if_neg (by decide)]
    rw [step_yes (P := Res.none) (q := resO (some b)) rfl, step_no (by rfl)]
    show Res.mk true (if (if (0 : Int) < b.seq then b.seq else 0) < 0 then 0 else (if (0 : Int) < b.seq then b.seq else 0)) b.seq b.batch b.m b.er = _
    have : (if (if (0 : Int) < b.seq then b.seq else 0) < 0 then 0 else (if (0 : Int) < b.seq then b.seq else 0)) = b.seq := by split <;> split <;> omega
    rw [this]
    rfl
  · rw [e, if_neg (by decide), if_neg (by decide), if_pos (by rfl)]
    rw [step_no (P := Res.none) (q := resO none) rfl, step_yes (q := resO (some b)) (by rfl)]
    show Res.mk true (if (if (0 : Int) < 0 then (0 : Int) else 0) < b.seq then b.seq else (if (0 : Int) < 0 then (0 : Int) else 0)) b.seq b.batch b.m b.er = _
    have : (if (if (0 : Int) < 0 then (0 : Int) else 0) < b.seq then b.seq else (if (0 : Int) < 0 then (0 : Int) else 0)) = b.seq := by split <;> omega
    rw [this]
    rfl
/-- New members, where a block that is none of theirs is turned. -/
theorem new_set {w w' : World} {p b : Nat} {g : Geo} (h : RamE w p (Ram.St.new g)) (hb : ¬ Foot w p b) (hf : Fr (fun i => i = b) w w') : RamE w' p (Ram.St.new g) ∧ ∀ i, Foot w' p i → Foot w p i := by
  have hp : p ≠ b := fun e => hb (.inl e.symm)
  have hfs := fun i => (Ram.Foot.same (hf.block p h.lt hp) i).1
  obtain ⟨bp, bg, vo, f, fg, h⟩ := h
  refine ⟨⟨bp, bg, vo, f, fg, h.fr hf (fun i hi => hb (by rw [h.foot]; rw [← hi.2]; exact hi.1)) (fun m b' q ad n c e hn => ?_)⟩, hfs⟩
  obtain ⟨A, n', c', e', _, h2, _⟩ := h.pages m b' q
  rw [e] at e'
  injection e' with e1 e2 e3
  have h3 : (0 : Nat) = n' := h2.1
  omega
theorem n_small {x : Num} (h1 : x.m.length ≤ 200) (h2 : x.er.length ≤ 20) : x.n 256 ≤ 4 := by
  unfold Num.n Num.b pagesOf
  rw [encB_len]
  omega
theorem shape_c (chips : Int) : 3 ≤ (shapeOf chips).c ∧ (shapeOf chips).c ≤ 5 := by
  show 3 ≤ 3 + u64of chips % 3 ∧ 3 + u64of chips % 3 ≤ 5
  have : 0 ≤ u64of chips := by unfold u64of; omega
  omega

set_option maxHeartbeats 8000000 in
set_option maxRecDepth 100000 in
theorem small_calls (chips : Int) (x y : Pt) (w : World) (h : 200 < x.mn ∨ 20 < x.en ∨ 200 < y.mn ∨ 20 < y.en) :
    Calls Try.prog 11 #[.int .i64 chips, .agg x.cells, .agg y.cells] w fun e w' => e = .returned (.bool true) ∧ Fr None_ w w' := by
  have HK := As.mk (fun w => written_calls w)
  unfold Pt.cells at *
  have HBX := As.mk (at_old (.cells #[.int .u32 y.seq, .int .u32 y.batch, .slice y.MA y.mn y.mc, .slice y.EA y.en y.ec] 73) (heap_alloc_new w (.cells #[.int .u32 x.seq, .int .u32 x.batch, .slice x.MA x.mn x.mc, .slice x.EA x.en x.ec] 73)))
  have HBY := As.mk (at_new (.cells #[.int .u32 y.seq, .int .u32 y.batch, .slice y.MA y.mn y.mc, .slice y.EA y.en y.ec] 73) (size_new (w := w) (.cells #[.int .u32 x.seq, .int .u32 x.batch, .slice x.MA x.mn x.mc, .slice x.EA x.en x.ec] 73) rfl))
  go_enter Try.func11, Try.ntmps11
  go_wp2_with fail
  ((with_reducible refine (HK.out _).mono ?_); rintro e w1 ⟨rfl, hf1⟩)
  have HB1 := As.mk (hf1.heap HBX.out (fun h => h))
  have HC1 := As.mk (hf1.heap HBY.out (fun h => h))
  have HF1 := As.mk ((((Fr.refl None_ w).alloc _).alloc _).after hf1 (fun _ _ h => h))
  clear HBX HBY
  have b2 := cell_is (i := 2) HB1.out rfl
  have b3 := cell_is (i := 3) HB1.out rfl
  have c2 := cell_is (i := 2) HC1.out rfl
  have c3 := cell_is (i := 3) HC1.out rfl
  try dsimp only at b2 b3 c2 c3
  clear hf1
  have hh : (decide ((200 : Int) < (x.mn : Int)) = true) ∨ (decide ((200 : Int) < (x.mn : Int)) = false ∧ decide ((20 : Int) < (x.en : Int)) = true) ∨ (decide ((200 : Int) < (x.mn : Int)) = false ∧ decide ((20 : Int) < (x.en : Int)) = false ∧ decide ((200 : Int) < (y.mn : Int)) = true) ∨ (decide ((200 : Int) < (x.mn : Int)) = false ∧ decide ((20 : Int) < (x.en : Int)) = false ∧ decide ((200 : Int) < (y.mn : Int)) = false ∧ decide ((20 : Int) < (y.en : Int)) = true) := by
    simp only [decide_eq_true_eq, decide_eq_false_iff_not]
    omega
  clear h
  rcases hh with d1 | ⟨d1, d2⟩ | ⟨d1, d2, d3⟩ | ⟨d1, d2, d3, d4⟩
  all_goals
    go_wp2_with fail
    ((with_reducible refine (HK.out _).mono ?_); rintro e w2 ⟨rfl, hf2⟩)
    have HF2 := As.mk (HF1.out.after hf2 (fun _ _ h => h))
    go_wp2_with fail
    go_ret
    exact ⟨rfl, HF2.out⟩

set_option maxHeartbeats 8000000 in
set_option maxRecDepth 100000 in
theorem again_calls (chips : Int) (x y : Pt) (m er m' er' : List Int) (w : World) (hx : PtAt w x m er) (hy : PtAt w y m' er') (h1 : x.mn ≤ 200) (h2 : x.en ≤ 20) (h3 : y.mn ≤ 200) (h4 : y.en ≤ 20) :
    Calls Try.prog 11 #[.int .i64 chips, .agg x.cells, .agg y.cells] w fun e w' => e = .returned (.bool true) ∧ Fr None_ w w' := by
  have HK := As.mk (fun w => written_calls w)
  have HX := As.mk hx
  have HY := As.mk hy
  have hml := hx.map.1
  have hel := hx.ers.1
  have hml' := hy.map.1
  have hel' := hy.ers.1
  have HSH := As.mk (fun w => shape_calls chips w)
  have hok := shape_ok chips
  have hcc := shape_c chips
  have hgs : (shapeOf chips).s = 256 := rfl
  have hgp : (shapeOf chips).p = 6 := rfl
  generalize shapeOf chips = g at *
  have HNW := As.mk (fun w => New_calls g w hok)
  obtain ⟨Wd, hWd⟩ : ∃ Wd : Nat, (Wd : Int) = g.c - 1 := ⟨(g.c - 1).toNat, by omega⟩
  have hf1 : ((Num.mk x.seq x.batch m er).n 256 : Int) ≤ g.p * (g.c - 1) := by
    have := n_small (x := Num.mk x.seq x.batch m er) (by show m.length ≤ 200; omega) (by show er.length ≤ 20; omega)
    rw [hgp]
    omega
  have hf2 : ((Num.mk x.seq y.batch m' er').n 256 : Int) ≤ g.p * (g.c - 1) := by
    have := n_small (x := Num.mk x.seq y.batch m' er') (by show m'.length ≤ 200; omega) (by show er'.length ≤ 20; omega)
    rw [hgp]
    omega
  have HW1 := As.mk (fun (p : Nat) (w : World) (hR : RamE w p (Ram.St.new g)) (h : PtAt w x m er) => Write_fits p (Ram.St.new g) g 256 Wd 0 x m er w (fun _ => none) hR (Both.new g 256 Wd) hok hgs hWd h (by omega) (by omega) (fun m => by show ¬ (0 : Int) < 0; decide) (by decide) hf1)
  have HW2 := As.mk (fun (p : Nat) (s : Ram.St) (w : World) (hR : RamE w p s) (hB : Both s g 256 Wd (-1) (putO (fun _ => none) ⟨x.seq, x.batch, m, er⟩) 1) (hg : ∀ m, ¬ 0 < s.gone m) (h : PtAt w { y with seq := x.seq } m' er') => Write_fits p s g 256 Wd 1 { y with seq := x.seq } m' er' w _ hR hB hok hgs hWd h (by show y.mn ≤ 100000; omega) (by show y.en ≤ 100000; omega) hg (by decide) hf2)
  have hOk : ∀ i z, putO (putO (fun _ => none) ⟨x.seq, x.batch, m, er⟩) ⟨x.seq, y.batch, m', er'⟩ i = some z → z.Ok := fun i z hz => by
    unfold putO at hz
    split at hz
    · injection hz with hz; subst hz; exact ⟨hx.seq, hy.batch, hy.mapR, hy.ersR, by show m'.length ≤ 100000; omega, by show er'.length ≤ 100000; omega⟩
    · cases hz
  have HLA := As.mk (fun (p : Nat) (s : Ram.St) (w : World) (hR : RamE w p s) (hB : Both s g 256 Wd (-1) (putO (putO (fun _ => none) ⟨x.seq, x.batch, m, er⟩) ⟨x.seq, y.batch, m', er'⟩) 2) (hg : ∀ m, ¬ 0 < s.gone m) => Last_any p s g 256 Wd 2 w _ (-1) hR hB hgs hWd (dead_none hg (by rw [hB.geo]; omega)) hOk)
  rw [last_again (a := ⟨x.seq, x.batch, m, er⟩) (b := ⟨x.seq, y.batch, m', er'⟩) rfl hx.seq.1] at HLA
  unfold Num.res ReadIs at HLA
  have HYQ : As (∀ w', Fr None_ w w' → PtAt w' { y with seq := x.seq } m' er') := ⟨fun w' hf => ⟨hx.seq, hy.batch, hy.map.none_ hf, hy.mapR, hy.mapC, hy.ers.none_ hf, hy.ersR, hy.ersC⟩⟩
  have hsq := hx.seq
  have HRG := As.mk (And.intro (And.intro hy.batch hy.mapR) hy.ersR)
  unfold Pt.cells dev Geo.val at *
  dsimp only at HW1 HW2 HLA HSH HNW
  have HBX := As.mk (at_old (.cells #[.int .u32 y.seq, .int .u32 y.batch, .slice y.MA y.mn y.mc, .slice y.EA y.en y.ec] 73) (heap_alloc_new w (.cells #[.int .u32 x.seq, .int .u32 x.batch, .slice x.MA x.mn x.mc, .slice x.EA x.en x.ec] 73)))
  have HBY := As.mk (at_new (.cells #[.int .u32 y.seq, .int .u32 y.batch, .slice y.MA y.mn y.mc, .slice y.EA y.en y.ec] 73) (size_new (w := w) (.cells #[.int .u32 x.seq, .int .u32 x.batch, .slice x.MA x.mn x.mc, .slice x.EA x.en x.ec] 73) rfl))
  have d1 : decide ((200 : Int) < (x.mn : Int)) = false := decide_eq_false (by omega)
  have d2 : decide ((20 : Int) < (x.en : Int)) = false := decide_eq_false (by omega)
  have d3 : decide ((200 : Int) < (y.mn : Int)) = false := decide_eq_false (by omega)
  have d4 : decide ((20 : Int) < (y.en : Int)) = false := decide_eq_false (by omega)
  have HNS := As.mk (And.intro (And.intro h3 h4) (And.intro hml' hel'))
  clear hx hy hml hel hml' hel' hok hgs hgp hf1 hf2 hOk h1 h2 h3 h4 hWd
  go_enter Try.func11, Try.ntmps11
  go_wp2_with fail
  ((with_reducible refine (HK.out _).mono ?_); rintro e w1 ⟨rfl, hf1⟩)
  have HB1 := As.mk (hf1.heap HBX.out (fun h => h))
  have HC1 := As.mk (hf1.heap HBY.out (fun h => h))
  have HF1 := As.mk ((((Fr.refl None_ w).alloc _).alloc _).after hf1 (fun _ _ h => h))
  clear HBX HBY
  have b2 := cell_is (i := 2) HB1.out rfl
  have b3 := cell_is (i := 3) HB1.out rfl
  have c2 := cell_is (i := 2) HC1.out rfl
  have c3 := cell_is (i := 3) HC1.out rfl
  try dsimp only at b2 b3 c2 c3
  clear hf1
  go_wp2_with fail
  ((with_reducible refine (HSH.out _).mono ?_); rintro e w2 ⟨rfl, hf2⟩)
  have HF2 := As.mk (HF1.out.after hf2 (fun _ _ h => h))
  have HB2 := As.mk (hf2.heap HB1.out (fun h => h))
  have HC2 := As.mk (hf2.heap HC1.out (fun h => h))
  clear hf2 HF1 HB1 HC1 b2 b3 c2 c3 d1 d2 d3 d4
  go_wp2_with fail
  ((with_reducible refine (HNW.out _).mono ?_); rintro e w3 ⟨p, rfl, hR3, hf3, hn3⟩)
  have HF3 := As.mk (show Fr None_ w w3 ∧ ∀ b, Foot w3 p b → w.heap.size ≤ b from ⟨HF2.out.after hf3 (fun _ _ h => h), fun b hb => Nat.le_trans HF2.out.size (hn3 b hb)⟩)
  have HB3 := As.mk (hf3.heap HB2.out (fun h => h))
  have HC3 := As.mk (hf3.heap HC2.out (fun h => h))
  have HR3 := As.mk hR3
  have HNF := As.mk (show ∀ b, b ≤ w.heap.size + 1 → ¬ Foot w3 p b from fun b hb hF => by
    have h1 := hn3 _ hF
    have h2 := (Array.getElem?_eq_some_iff.1 HC2.out).1
    omega)
  clear hf3 hn3 hR3 HB2 HC2
  have b0 := cell_is (i := 0) HB3.out rfl
  have c0 := cell_is (i := 0) HC3.out rfl
  have cf0 := free_of (i := 0) HC3.out
  try dsimp only at b0 c0 cf0
  have hS3 := PRead1.Fr.set1 (w' := w3) (b := w.heap.size + 1) (.int .u32 x.seq)
  have HC4 := As.mk (Case.heap_set HC3.out 0 (.int .u32 x.seq))
  have HB4 := As.mk (hS3.heap HB3.out (by omega))
  obtain ⟨hr4, hft4⟩ := new_set HR3.out (HNF.out _ (Nat.le_refl _)) hS3
  have HR4 := As.mk hr4
  have HF4 := As.mk (show Fr None_ w (w3.setCell ⟨w.heap.size + 1, 0, none⟩ (.int .u32 x.seq)) ∧ ∀ b, Foot (w3.setCell ⟨w.heap.size + 1, 0, none⟩ (.int .u32 x.seq)) p b → w.heap.size ≤ b from ⟨HF3.out.1.after hS3 (fun i hi e => by subst e; omega), fun b hb => HF3.out.2 b (hft4 b hb)⟩)
  have HO4 := As.mk (show Ram.Off (w3.setCell ⟨w.heap.size + 1, 0, none⟩ (.int .u32 x.seq)) p w.heap.size ∧ Ram.Off (w3.setCell ⟨w.heap.size + 1, 0, none⟩ (.int .u32 x.seq)) p (w.heap.size + 1) from ⟨⟨(Array.getElem?_eq_some_iff.1 HB4.out).1, fun h => HNF.out _ (by omega) (hft4 _ h)⟩, ⟨(Array.getElem?_eq_some_iff.1 HC4.out).1, fun h => HNF.out _ (by omega) (hft4 _ h)⟩⟩)
  clear hS3 hr4 hft4 HR3 HF3 HNF HB3 HC3
  go_upto_region 5 with fail
  generalize w3.setCell ⟨w.heap.size + 1, 0, none⟩ (.int .u32 x.seq) = w4 at *
  clear b0 c0 cf0
  have b0 := cell_is (i := 0) HB4.out rfl
  have b1 := cell_is (i := 1) HB4.out rfl
  have b2 := cell_is (i := 2) HB4.out rfl
  have b3 := cell_is (i := 3) HB4.out rfl
  try dsimp only at b0 b1 b2 b3
  go_wp2_with fail
  ((with_reducible refine (HW1.out p _ HR4.out (HX.out.none_ HF4.out.1)).mono ?_); rintro e w5 ⟨rfl, s5, hR5, hB5, hg5, hS5⟩)
  have HB5 := As.mk (HO4.out.1.blk hS5 HB4.out)
  have HC5 := As.mk (HO4.out.2.blk hS5 HC4.out)
  have HO5 := As.mk (And.intro (HO4.out.1.step hS5) (HO4.out.2.step hS5))
  have HF5 := As.mk (step_new HF4.out.1 HF4.out.2 hS5)
  have HR5 := As.mk (And.intro hR5 (And.intro (show Both s5 g 256 Wd (-1) (putO (fun _ => none) ⟨x.seq, x.batch, m, er⟩) 1 from hB5) hg5))
  clear hR5 hB5 hg5 hS5 b0 b1 b2 b3 HB4 HC4 HO4 HF4 HR4
  have c0 := cell_is (i := 0) HC5.out rfl
  have c1 := cell_is (i := 1) HC5.out rfl
  have c2 := cell_is (i := 2) HC5.out rfl
  have c3 := cell_is (i := 3) HC5.out rfl
  try dsimp only at c0 c1 c2 c3
  have HWB := As.mk (HW2.out p s5 w5 HR5.out.1 HR5.out.2.1 HR5.out.2.2 (HYQ.out w5 HF5.out.1))
  go_wp2_with fail
  ((with_reducible refine (HWB.out).mono ?_); rintro e w6 ⟨rfl, s6, hR6, hB6, hg6, hS6⟩)
  have HB6 := As.mk (HO5.out.1.blk hS6 HB5.out)
  have HC6 := As.mk (HO5.out.2.blk hS6 HC5.out)
  have HF6 := As.mk (step_new HF5.out.1 HF5.out.2 hS6).1
  have HLB := As.mk (HLA.out p s6 w6 hR6 hB6 hg6)
  clear hR6 hB6 hg6 hS6 c0 c1 c2 c3 HB5 HC5 HO5 HF5 HR5 HWB HLA HW1 HW2
  go_wp2_with fail
  ((with_reducible refine (HLB.out).mono ?_); rintro e w7 ⟨vM, vE, rfl, hrM, hrE, hf7⟩)
  obtain ⟨AM, nM, cM, eM, hcM, hdM, _⟩ := hrM.rd
  subst eM
  obtain ⟨AE, nE, cE, eE, hcE, hdE, _⟩ := hrE.rd
  subst eE
  have HB7 := As.mk (hf7.heap HB6.out (fun h => h))
  have HC7 := As.mk (hf7.heap HC6.out (fun h => h))
  have HF7 := As.mk (HF6.out.after hf7 (fun _ _ h => h))
  have HP7 := As.mk (show PtAt w7 ⟨x.seq, y.batch, AM, nM, cM, AE, nE, cE⟩ m' er' from ⟨hsq, HRG.out.1.1, hdM.out, HRG.out.1.2, hcM.out, hdE.out, HRG.out.2, hcE.out⟩)
  have HLN := As.mk (show nM ≤ 200 ∧ nE ≤ 20 from by have h1 := hdM.out.1; have h2 := hdE.out.1; have h3 := HNS.out; omega)
  clear hrM hrE hf7 HLB HB6 HC6 HF6 hcM hdM hcE hdE
  have hfn : Fr None_ w7 (w7.alloc (.cells #[.int .u32 x.seq, .int .u32 y.batch, .slice AM nM cM, .slice AE nE cE] 73)) := (Fr.refl None_ w7).alloc _
  have HQ8 := As.mk (heap_alloc_new w7 (.cells #[.int .u32 x.seq, .int .u32 y.batch, .slice AM nM cM, .slice AE nE cE] 73))
  go_upto_region 8 with fail
  generalize w7.alloc (.cells #[.int .u32 x.seq, .int .u32 y.batch, .slice AM nM cM, .slice AE nE cE] 73) = w8 at *
  generalize w7.heap.size = q at *
  have HB8 := As.mk (hfn.heap HB7.out (fun h => h))
  have HC8 := As.mk (hfn.heap HC7.out (fun h => h))
  have HF8 := As.mk (HF7.out.after hfn (fun _ _ h => h))
  have HP8 := As.mk (HP7.out.none_ hfn)
  have HOP := As.mk (fun (w' : World) (hf : Fr None_ w8 w') => of_at w' (HP8.out.none_ hf) (by have := HLN.out; omega) (by have := HLN.out; omega))
  have HOB := As.mk (fun (w' : World) (hf : Fr None_ w8 w') => of_at w' (HYQ.out w' (HF8.out.after hf (fun _ _ h => h))) (by have := HNS.out; omega) (by have := HNS.out; omega))
  have b0 := cell_is (i := 0) HB8.out rfl
  have c0 := cell_is (i := 0) HC8.out rfl
  have c1 := cell_is (i := 1) HC8.out rfl
  have c2 := cell_is (i := 2) HC8.out rfl
  have c3 := cell_is (i := 3) HC8.out rfl
  have q0 := cell_is (i := 0) HQ8.out rfl
  have q1 := cell_is (i := 1) HQ8.out rfl
  have q2 := cell_is (i := 2) HQ8.out rfl
  have q3 := cell_is (i := 3) HQ8.out rfl
  try dsimp only at b0 c0 c1 c2 c3 q0 q1 q2 q3
  clear hfn HB7 HC7 HF7 HP7 HQ8 HB8 HC8
  go_region_held3 (fun w' => w'.cell? ⟨w.heap.size, 0, none⟩ = some (.int .u32 x.seq) ∧ w'.cell? ⟨w.heap.size + 1, 0, none⟩ = some (.int .u32 x.seq) ∧ w'.cell? ⟨w.heap.size + 1, 1, none⟩ = some (.int .u32 y.batch) ∧ w'.cell? ⟨w.heap.size + 1, 2, none⟩ = some (.slice y.MA y.mn y.mc) ∧ w'.cell? ⟨w.heap.size + 1, 3, none⟩ = some (.slice y.EA y.en y.ec) ∧ w'.cell? ⟨q, 0, none⟩ = some (.int .u32 x.seq) ∧ w'.cell? ⟨q, 1, none⟩ = some (.int .u32 y.batch) ∧ w'.cell? ⟨q, 2, none⟩ = some (.slice AM nM cM) ∧ w'.cell? ⟨q, 3, none⟩ = some (.slice AE nE cE)) (first | go_keep | (refine ⟨?_, ?_, ?_, ?_, ?_, ?_, ?_, ?_, ?_⟩ <;> (refine Fr.cell ‹Fr None_ _ _› ?_ (fun h => h); go_keep))) (first | ((with_reducible refine (HOP.out _ (Fr.refl None_ w8).drew).mono ?_); rintro e wp ⟨A1, n1, k1, B1, m1, j1, rfl, hq1, hfp⟩; have HFP := As.mk ((Fr.refl None_ w8).drew.after hfp (fun _ _ h => h)); have HQP := As.mk hq1; clear hq1) | ((with_reducible refine (HOB.out _ (Fr.refl None_ w8).drew).mono ?_); rintro e wb ⟨A2, n2, k2, B2, m2, j2, rfl, hq2, hfb⟩; have HFB := As.mk ((Fr.refl None_ w8).drew.after hfb (fun _ _ h => h)); have HQB := As.mk hq2; clear hq2) | ((with_reducible refine (HOB.out _ HFP.out).mono ?_); rintro e wc ⟨A2, n2, k2, B2, m2, j2, rfl, hq2, hfb⟩; have HFC := As.mk (HFP.out.after hfb (fun _ _ h => h)); have HQ2 := As.mk hq2; have HQ1 := As.mk (HQP.out.none_ hfb); clear hq2) | ((with_reducible refine (HOP.out _ HFB.out).mono ?_); rintro e wc ⟨A1, n1, k1, B1, m1, j1, rfl, hq1, hfp⟩; have HFC := As.mk (HFB.out.after hfp (fun _ _ h => h)); have HQ1 := As.mk hq1; have HQ2 := As.mk (HQB.out.none_ hfp); clear hq1) | ((with_reducible refine (same_at HQ1.out HQ2.out).mono ?_); rintro e w9 ⟨rfl, hf9⟩; have HF9 := As.mk (HF8.out.after (HFC.out.after hf9 (fun _ _ h => h)) (fun _ _ h => h))))
  all_goals
    go_wp2_with fail
    go_ret
    exact ⟨rfl, HF9.out⟩
end Go.Proofs.Ytlhgbamajabnfaa.PtAgain

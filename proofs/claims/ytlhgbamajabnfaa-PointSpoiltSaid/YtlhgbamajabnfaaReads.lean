/- gabionlaw10.StripeReads: whichever one member is bad, all pages of a stripe are read as they were written. -/
import Derived.Test.YtlhgbamajabnfaaKept
import Derived.Test.YtlhgbamajabnfaaOpenR
namespace Go.Proofs.Ytlhgbamajabnfaa.Reads
open Go.RowKit Go.Proofs.Ytlhgbamajabnfaa.Gab Go.Proofs.Ytlhgbamajabnfaa.Map Go.Proofs.Ytlhgbamajabnfaa.Geom Go.Proofs.Ytlhgbamajabnfaa.Ram Go.Proofs.Ytlhgbamajabnfaa.Par Go.Proofs.Ytlhgbamajabnfaa.Fields Go.Proofs.Ytlhgbamajabnfaa.Ord Go.Proofs.Ytlhgbamajabnfaa.Write Go.Proofs.Ytlhgbamajabnfaa.Stripe Go.Proofs.Ytlhgbamajabnfaa.Ref Go.Proofs.Ytlhgbamajabnfaa.Case Go.Proofs.Ytlhgbamajabnfaa.SRead Go.Proofs.Ytlhgbamajabnfaa.Again Go.Proofs.Ytlhgbamajabnfaa.Kept
open Go.Proofs.Ytlhgbamajabnfaa.Wr (InR)
open Go.Proofs.Ytlhgbamajabnfaa.Open (openOf)
open Go.Proofs.Ytlhgbamajabnfaa.OpenR (Open_calls)
open Go.Proofs.Ytlhgbamajabnfaa.Str (pcells take_snoc add_next)
set_option linter.unusedVariables false
set_option linter.unusedSimpArgs false

/-! ### plain -/
/-- Members of which one at most is bad. -/
def Bad (s : Ram.St) (l : List (Head × List Int)) (seg row : Int) : Prop := ∃ m, Stands s l seg row m ∧ ∀ sl : Nat, sl < l.length → s.g.mem seg row sl = m → 0 < s.gone m ∨ (openOf (pD s seg row m) (pO s seg row m)).2 = false
theorem Bad.reads {s : Ram.St} {l : List (Head × List Int)} {seg row : Int} (h : Bad s l seg row) {i : Int} (h0 : 0 ≤ i) (h1 : i.toNat < l.length) : SRead.Reads s seg row i (l.getD i.toNat noPage).1 (l.getD i.toNat noPage).2 := by
  obtain ⟨m, hs, hb⟩ := h
  have hr := Stripe.reads h1 hs (hb i.toNat h1)
  rwa [show ((i.toNat : Nat) : Int) = i by omega] at hr
theorem Bad.none_ {s : Ram.St} {l : List (Head × List Int)} {seg row : Int} (h : Stands s l seg row (-1)) : Bad s l seg row := ⟨-1, h, fun sl hsl e => by
  have hc := h.ok.c
  have hl := h.lok.len
  have := mem_range h.ok seg row sl (by omega) (by omega)
  omega⟩
theorem Bad.kill {s : Ram.St} {l : List (Head × List Int)} {seg row : Int} (h : Stands s l seg row (-1)) (x : Int) : Bad (s.kill x) l seg row := ⟨x, Stands.kill h x, fun sl hsl e => .inl (by show (0 : Int) < if x = x then 1 else s.gone x; rw [if_pos rfl]; decide)⟩
theorem with_len {xs ys : List Int} (h : ys.length ≤ xs.length) : (withAt xs 0 ys).length = xs.length := by
  unfold withAt
  simp
  omega
theorem with_range {xs ys : List Int} (hx : InR 256 xs) (hy : InR 256 ys) : InR 256 (withAt xs 0 ys) := by
  unfold withAt
  intro x h
  simp only [List.take_zero, List.nil_append, List.mem_append] at h
  rcases h with h | h
  · exact hy x h
  · exact hx x (List.mem_of_mem_drop h)
theorem Bad.lay {s : Ram.St} {l : List (Head × List Int)} {seg row : Int} (h : Stands s l seg row (-1)) (x : Int) (xs : List Int) (hl : (xs.length : Int) = s.g.s + 64) (ho : (openOf (xs.take s.g.s.toNat) (xs.drop s.g.s.toNat)).2 = false) : Bad (s.lay x seg row xs) l seg row := by
  have hgs := h.ok.s
  refine ⟨x, ⟨h.ok, h.at_, h.lok, fun m m0 m1 hm => h.gone m m0 m1 (by omega), fun m m0 m1 hm => ?_⟩, fun sl hsl e => .inr ?_⟩
  · show (if m = x ∧ seg = seg ∧ row = row then xs else s.pages m seg row) = _
    rw [if_neg (fun h => hm h.1)]
    exact h.pages m m0 m1 (by omega)
  · have hp : (s.lay x seg row xs).pages x seg row = xs.take s.g.s.toNat ++ xs.drop s.g.s.toNat := by
      show (if x = x ∧ seg = seg ∧ row = row then xs else s.pages x seg row) = _
      rw [if_pos ⟨rfl, rfl, rfl⟩, List.take_append_drop]
    obtain ⟨e1, e2⟩ := parts_of (s := s.lay x seg row xs) (m := x) (seg := seg) (row := row) hp (by show ((xs.take s.g.s.toNat).length : Int) = s.g.s; rw [List.length_take]; omega) (by rw [List.length_drop]; omega)
    rw [e1, e2]
    exact ho
/-- A page as it lies behind a write. -/
theorem Stands.page {s : Ram.St} {l : List (Head × List Int)} {seg row m : Int} (h : Stands s l seg row (-1)) (m0 : 0 ≤ m) (m1 : m < s.g.c) : ((s.pages m seg row).length : Int) = s.g.s + 64 := by
  rw [h.pages m m0 m1 (by omega)]
  obtain ⟨h1, h2, _⟩ := page_ok h.ok h.lok h.at_ m0 m1 (seg := seg) (row := row)
  rw [List.length_append]
  omega

/-! ### the law's short way -/
set_option maxHeartbeats 4000000 in
set_option maxRecDepth 100000 in
theorem small_calls (x : Cs) (w : World) (h : 10 < x.hn ∨ 320 < x.bn) : Calls Try.prog 4 #[.agg x.cells] w fun e w' => e = .returned (.bool true) ∧ Fr None_ w w' := by
  have HK := As.mk (fun w => kept_calls w)
  unfold Cs.cells at *
  have HBX := As.mk (heap_alloc_new w (.cells #[.int .i64 x.chips, .int .i64 x.seg, .int .i64 x.row, .slice x.HA x.hn x.hc, .slice x.FA x.fn x.fc, .int .i64 x.dead, .int .i64 x.spoilt, .slice x.BA x.bn x.bc] 25))
  by_cases h1 : 10 < x.hn
  · have d1 : decide ((10 : Int) < (x.hn : Int)) = true := decide_eq_true (by omega)
    go_enter Try.func4, Try.ntmps4
    go_wp2_with fail
    ((with_reducible refine (HK.out _).mono ?_); rintro e w1 ⟨rfl, hf1⟩)
    have HB1 := As.mk (hf1.heap HBX.out (fun h => h))
    have HF1 := As.mk (((Fr.refl None_ w).alloc _).after hf1 (fun _ _ h => h))
    have b3 := cell_is (i := 3) HB1.out rfl
    have b7 := cell_is (i := 7) HB1.out rfl
    clear hf1
    go_wp2_with fail
    ((with_reducible refine (HK.out _).mono ?_); rintro e w2 ⟨rfl, hf2⟩)
    have HF2 := As.mk (HF1.out.after hf2 (fun _ _ h => h))
    go_wp2_with fail
    go_ret
    exact ⟨rfl, HF2.out⟩
  · have d1 : decide ((10 : Int) < (x.hn : Int)) = false := decide_eq_false (by omega)
    have d2 : decide ((320 : Int) < (x.bn : Int)) = true := decide_eq_true (by omega)
    go_enter Try.func4, Try.ntmps4
    go_wp2_with fail
    ((with_reducible refine (HK.out _).mono ?_); rintro e w1 ⟨rfl, hf1⟩)
    have HB1 := As.mk (hf1.heap HBX.out (fun h => h))
    have HF1 := As.mk (((Fr.refl None_ w).alloc _).after hf1 (fun _ _ h => h))
    have b3 := cell_is (i := 3) HB1.out rfl
    have b7 := cell_is (i := 7) HB1.out rfl
    clear hf1
    go_wp2_with fail
    ((with_reducible refine (HK.out _).mono ?_); rintro e w2 ⟨rfl, hf2⟩)
    have HF2 := As.mk (HF1.out.after hf2 (fun _ _ h => h))
    go_wp2_with fail
    go_ret
    exact ⟨rfl, HF2.out⟩

/-! ### the law's way -/
set_option maxHeartbeats 16000000 in
set_option maxRecDepth 100000 in
theorem reads_calls (x : Cs) (heads : List Head) (first bytes : List Int) (w : World) (hH : Heads w x.HA x.hn heads) (hF : Rd .u8 w x.FA x.fn first) (hFr : InR 256 first) (hB : Rd .u8 w x.BA x.bn bytes) (hBr : InR 256 bytes) (hbc : x.bn ≤ x.bc) (hh10 : x.hn ≤ 10) (hb320 : x.bn ≤ 320) :
    Calls Try.prog 4 #[.agg x.cells] w fun e w' => e = .returned (.bool true) ∧ Fr None_ w w' := by
  have HK := As.mk (fun w => kept_calls w)
  have HSH := As.mk (fun w => shape_calls x w)
  have HPL := As.mk (fun w => place_calls x w)
  have HMB := As.mk (fun n w => member_calls x n w)
  have hok := x.geo_ok
  have HNW := As.mk (fun w => New_calls x.geo w hok)
  have HPG := As.mk (fun (p : Nat) (s : Ram.St) (w' : World) (hR : RamE w' p s) (hf : Fr None_ w w') => pages_calls x p s heads first w' hR (hH.none_ hf) hh10 (hF.none_ hf) hFr)
  have HBY := As.mk hB
  have HBYR := As.mk hBr
  have hat : x.geo.At (u64of x.seg % 15) (u64of x.row % 6) := ⟨by show 0 ≤ u64of x.seg % 15 ∧ u64of x.seg % 15 < 20 - 5; omega, by show 0 ≤ u64of x.row % 6 ∧ u64of x.row % 6 < 6; omega⟩
  have hsg : 0 ≤ u64of x.seg % 15 ∧ u64of x.seg % 15 < 15 := by omega
  have hrw : 0 ≤ u64of x.row % 6 ∧ u64of x.row % 6 < 6 := by omega
  have hgs : x.geo.s = 256 := rfl
  have hc7 : x.geo.c ≤ 7 := by show 3 + u64of x.chips % 5 ≤ 7; omega
  have hc3 : 3 ≤ x.geo.c := by show 3 ≤ 3 + u64of x.chips % 5; omega
  have hdr := x.member_range x.dead
  have hsr := x.member_range x.spoilt
  have d1 : decide ((10 : Int) < (x.hn : Int)) = false := decide_eq_false (by omega)
  have d2 : decide ((320 : Int) < (x.bn : Int)) = false := decide_eq_false (by omega)
  unfold Geo.val at HSH HNW
  unfold Cs.cells at *
  generalize hge : x.geo = g at *
  generalize u64of x.seg % 15 = seg at *
  generalize u64of x.row % 6 = row at *
  have HMD := As.mk (fun w => HMB.out x.dead w)
  have HMS := As.mk (fun w => HMB.out x.spoilt w)
  clear HMB
  have HOK := As.mk hok
  have HAT := As.mk hat
  have HGS := As.mk hgs
  have HBX := As.mk (heap_alloc_new w (.cells #[.int .i64 x.chips, .int .i64 x.seg, .int .i64 x.row, .slice x.HA x.hn x.hc, .slice x.FA x.fn x.fc, .int .i64 x.dead, .int .i64 x.spoilt, .slice x.BA x.bn x.bc] 25))
  clear hge hok hH hF hFr hB hBr hat hgs hh10
  go_enter Try.func4, Try.ntmps4
  go_wp2_with fail
  ((with_reducible refine (HK.out _).mono ?_); rintro e w1 ⟨rfl, hf1⟩)
  have HB1 := As.mk (hf1.heap HBX.out (fun h => h))
  have HF1 := As.mk (((Fr.refl None_ w).alloc _).after hf1 (fun _ _ h => h))
  have b0 := cell_is (i := 0) HB1.out rfl
  have b1 := cell_is (i := 1) HB1.out rfl
  have b2 := cell_is (i := 2) HB1.out rfl
  have b3 := cell_is (i := 3) HB1.out rfl
  have b4 := cell_is (i := 4) HB1.out rfl
  have b5 := cell_is (i := 5) HB1.out rfl
  have b6 := cell_is (i := 6) HB1.out rfl
  have b7 := cell_is (i := 7) HB1.out rfl
  clear hf1
  go_wp2_with fail
  ((with_reducible refine (HSH.out _).mono ?_); rintro e w2 ⟨rfl, hf2⟩)
  have HB2 := As.mk (hf2.heap HB1.out (fun h => h))
  have HF2 := As.mk (HF1.out.after hf2 (fun _ _ h => h))
  clear hf2 b0 b1 b2 b3 b4 b5 b6 b7
  go_wp2_with fail
  ((with_reducible refine (HNW.out _).mono ?_); rintro e w3 ⟨p, rfl, hR3, hf3, hn3⟩)
  have HB3 := As.mk (hf3.heap (at_old _ HB2.out) (fun h => h))
  have HR3 := As.mk hR3
  have HF3 := As.mk (show Fr None_ w w3 ∧ ∀ b, Foot w3 p b → w.heap.size ≤ b from ⟨(HF2.out.alloc _).after hf3 (fun _ _ h => h), fun b hb => Nat.le_trans (HF2.out.alloc _).size (hn3 b hb)⟩)
  have HO3 := As.mk (show Off w3 p w.heap.size from ⟨(Array.getElem?_eq_some_iff.1 HB3.out).1, fun hb => by
    have h1 := hn3 _ hb
    have h2 := (Array.getElem?_eq_some_iff.1 HB2.out).1
    simp only [World.size_alloc] at h1
    omega⟩)
  clear hf3 hn3 hR3
  have b0 := cell_is (i := 0) HB3.out rfl
  have b1 := cell_is (i := 1) HB3.out rfl
  have b2 := cell_is (i := 2) HB3.out rfl
  have b3 := cell_is (i := 3) HB3.out rfl
  have b4 := cell_is (i := 4) HB3.out rfl
  have b5 := cell_is (i := 5) HB3.out rfl
  have b6 := cell_is (i := 6) HB3.out rfl
  have b7 := cell_is (i := 7) HB3.out rfl
  go_wp2_with fail
  ((with_reducible refine (HPL.out _).mono ?_); rintro e w4 ⟨rfl, hf4⟩)
  have HB4 := As.mk (hf4.heap HB3.out (fun h => h))
  have HF4 := As.mk (step_new HF3.out.1 HF3.out.2 (Ram.Step.none_ HR3.out.lt hf4))
  have HO4 := As.mk (HO3.out.step (Ram.Step.none_ HR3.out.lt hf4))
  have HR4 := As.mk (HR3.out.none_ hf4)
  clear hf4 b0 b1 b2 b3 b4 b5 b6 b7
  have b0 := cell_is (i := 0) HB4.out rfl
  have b1 := cell_is (i := 1) HB4.out rfl
  have b2 := cell_is (i := 2) HB4.out rfl
  have b3 := cell_is (i := 3) HB4.out rfl
  have b4 := cell_is (i := 4) HB4.out rfl
  have b5 := cell_is (i := 5) HB4.out rfl
  have b6 := cell_is (i := 6) HB4.out rfl
  have b7 := cell_is (i := 7) HB4.out rfl
  go_wp2_with fail
  ((with_reducible refine (HPG.out p _ _ HR4.out HF4.out.1).mono ?_); rintro e w5 ⟨A, c, n, vs, l, rfl, hn, hC, hS, hl, hf5⟩)
  have HF5 := As.mk (step_new HF4.out.1 HF4.out.2 (Ram.Step.none_ HR4.out.lt hf5))
  have HO5 := As.mk (HO4.out.step (Ram.Step.none_ HR4.out.lt hf5))
  have HB5 := As.mk (hf5.heap HB4.out (fun h => h))
  have HN := As.mk hn
  have HC := As.mk hC
  have HS := As.mk hS
  have HL := As.mk hl
  have HR5 := As.mk (HR4.out.none_ hf5)
  clear b0 b1 b2 b3 b4 b5 b6 b7 hf5 hn hC hS hl HPG
  have HWR := As.mk (Write_calls p (Ram.St.new g) seg row A n c vs l w5 HR5.out HAT.out HN.out HC.out HS.out (fun q hq => HL.out.data q hq) (by show 0 ≤ 500000000; decide))
  rw [show errOf (goneIn (Ram.St.new g) (orderOf (Ram.St.new g).first (Ram.St.new g).g.c)) = 0 from by rw [show goneIn (Ram.St.new g) (orderOf (Ram.St.new g).first (Ram.St.new g).g.c) = 0 from goneIn_none _ _ (fun m _ => by show ¬ (0 : Int) < 0; decide)]; rfl] at HWR
  have HST := As.mk (stands_written (s := Ram.St.new g) (l := l) HOK.out HAT.out HL.out (fun m _ _ => by show ¬ (0 : Int) < 0; decide))
  have HPF := As.mk (progs_gone seg row (fun m => (pageOf (Ram.St.new g).g l seg row m).1 ++ (pageOf (Ram.St.new g).g l seg row m).2) (orderOf (Ram.St.new g).first (Ram.St.new g).g.c) (Ram.St.new g))
  have HOL := As.mk (orderOf_len (Ram.St.new g).first (Ram.St.new g).g.c)
  unfold dev at HWR
  go_wp2_with fail
  ((with_reducible refine (HWR.out).mono ?_); rintro e w6 ⟨rfl, hR6, hS6⟩)
  have HR6 := As.mk hR6
  have HF6 := As.mk (step_new HF5.out.1 HF5.out.2 hS6)
  have HO6 := As.mk (HO5.out.step hS6)
  have HB6 := As.mk (HO5.out.blk hS6 HB5.out)
  have HC6 := As.mk (HC.out.step hS6)
  have HS6 := As.mk (SPs.step HS.out hS6)
  clear hR6 hS6 HWR
  generalize hs1 : (Ram.St.new g).progs seg row (fun m => (pageOf (Ram.St.new g).g l seg row m).1 ++ (pageOf (Ram.St.new g).g l seg row m).2) (orderOf (Ram.St.new g).first (Ram.St.new g).g.c) = s1 at *
  have HG1 : As (s1.g = g) := ⟨HPF.out.2.1⟩
  have HCN : As (s1.cnt ≤ 100) := ⟨by have h1 := HPF.out.2.2.2.2; have h2 := HOL.out; have h3 : (Ram.St.new g).cnt = 0 := rfl; have h4 : (Ram.St.new g).g.c = g.c := rfl; omega⟩
  clear hs1 HPF HOL
  have b0 := cell_is (i := 0) HB6.out rfl
  have b1 := cell_is (i := 1) HB6.out rfl
  have b2 := cell_is (i := 2) HB6.out rfl
  have b3 := cell_is (i := 3) HB6.out rfl
  have b4 := cell_is (i := 4) HB6.out rfl
  have b5 := cell_is (i := 5) HB6.out rfl
  have b6 := cell_is (i := 6) HB6.out rfl
  have b7 := cell_is (i := 7) HB6.out rfl
  generalize x.member x.dead = dm at *
  generalize x.member x.spoilt = sp at *
  go_upto_region 9 with fail
  go_cut [8, 9] (fun v8 v9 wx => v8 = .int .i64 dm ∧ v9 = .int .i64 sp ∧ As (Fr None_ w6 wx))
  case first =>
    go_region_held3 (fun w' => w'.cell? ⟨w.heap.size, 0, none⟩ = some (.int .i64 x.chips) ∧ w'.cell? ⟨w.heap.size, 1, none⟩ = some (.int .i64 x.seg) ∧ w'.cell? ⟨w.heap.size, 2, none⟩ = some (.int .i64 x.row) ∧ w'.cell? ⟨w.heap.size, 3, none⟩ = some (.slice x.HA x.hn x.hc) ∧ w'.cell? ⟨w.heap.size, 4, none⟩ = some (.slice x.FA x.fn x.fc) ∧ w'.cell? ⟨w.heap.size, 5, none⟩ = some (.int .i64 x.dead) ∧ w'.cell? ⟨w.heap.size, 6, none⟩ = some (.int .i64 x.spoilt) ∧ w'.cell? ⟨w.heap.size, 7, none⟩ = some (.slice x.BA x.bn x.bc)) (first | go_keep | (refine ⟨?_, ?_, ?_, ?_, ?_, ?_, ?_, ?_⟩ <;> (refine Fr.cell ‹Fr None_ _ _› ?_ (fun h => h); go_keep))) (first | ((with_reducible refine (HMD.out _).mono ?_); rintro e w7 ⟨rfl, hf7⟩) | ((with_reducible refine (HMS.out _).mono ?_); rintro e w8 ⟨rfl, hf8⟩))
    all_goals
      go_wp2_with fail
      go_meet
      case rel =>
        first
        | exact ⟨rfl, rfl, ⟨((Fr.refl None_ w6).drew.after hf7 (fun _ _ h => h)).after hf8 (fun _ _ h => h)⟩⟩
        | exact ⟨rfl, rfl, ⟨((Fr.refl None_ w6).drew.after hf8 (fun _ _ h => h)).after hf7 (fun _ _ h => h)⟩⟩
  case rest =>
    obtain ⟨rfl, rfl, HF7⟩ := hcut
    have HR7 := As.mk (HR6.out.none_ HF7.out)
    have HB7 := As.mk (HF7.out.heap HB6.out (fun h => h))
    have HT7 := As.mk (Ram.Step.none_ HR6.out.lt HF7.out)
    clear b0 b1 b2 b3 b4 b5 b6 b7
    have b7 := cell_is (i := 7) HB7.out rfl
    obtain ⟨bp, bg, vo, f, fg, h7⟩ := HR7.out
    have c4 := cell_is (i := 4) h7.blk rfl
    have c5 := cell_is (i := 5) h7.blk rfl
    have H7 := As.mk h7
    clear h7
    rename World => wz
    go_upto_if 58 with fail
    go_cut [] (fun wx => ∃ s2, As (RamE wx p s2 ∧ s2.g = g) ∧ As (Bad s2 l seg row) ∧ As (Ram.Step p wz wx))
    case first =>
      by_cases hdm : 0 ≤ dm
      · have dd : decide (0 ≤ dm) = true := decide_eq_true hdm
        go_wp2_with (at_mapUpdate; (with_reducible refine wp_store _ rfl _ _ _ 38 rfl 3 3 lawI Try.underlying38 (.int .i64 0) bg s1.cnt fg rfl H7.out.mg ?hn (.int .i64 dm) (.int .i64 1) rfl rfl (keyOf_i ⟨by omega, by omega⟩) ?_); (case hn => unfold maxLen; have := HCN.out; omega); intro w8 hm8 hf8; have HK8 := As.mk (Ram.kill H7.out dm hm8 hf8); clear hm8 hf8)
        go_meet
        case rel => exact ⟨_, ⟨⟨_, _, _, _, _, HK8.out.1⟩, HG1.out⟩, ⟨Bad.kill HST.out dm⟩, ⟨HK8.out.2⟩⟩
      · have dd : decide (0 ≤ dm) = false := decide_eq_false hdm
        by_cases hsp : 0 ≤ sp
        · have ds : decide (0 ≤ sp) = true := decide_eq_true hsp
          obtain ⟨Ap, np, cp, ep, hncp, hrdp, hirp, _, _⟩ := H7.out.pages sp seg row
          have HEP := As.mk ep
          have HIP := As.mk hirp
          have HLP := As.mk (show ((s1.pages sp seg row).length : Int) = 320 from by rw [Stands.page HST.out hsp (by rw [HG1.out]; omega), HG1.out, HGS.out]; rfl)
          have HNP := As.mk hrdp.1
          have HLB := As.mk HBY.out.1
          have hbyr := HBY.out.none_ (HF6.out.1.after HF7.out (fun _ _ h => h))
          have HWI := As.mk (fun (w' : World) (hf : Fr None_ wz w') => show Calls Try.prog 23 #[.slice Ap np cp, .int .i64 0, .slice x.BA x.bn x.bc] w' fun e w'' => ∃ v, e = .returned v ∧ Row 5 .u8 w'' w'.heap.size v (withAt (s1.pages sp seg row) 0 bytes) ∧ Fr None_ w' w'' from With_calls Ap x.BA np cp x.bn x.bc (s1.pages sp seg row) bytes 0 w' (hrdp.none_ hf) (hbyr.none_ hf) hncp hbc (by have := HLP.out; have := HNP.out; omega) (by have := HLP.out; have := HNP.out; omega))
          have HWL := As.mk (show (withAt (s1.pages sp seg row) 0 bytes).length = 320 from by rw [with_len (by have := HLP.out; have := HLB.out; omega)]; have := HLP.out; omega)
          have HWR := As.mk (with_range HIP.out HBYR.out)
          have HMP := As.mk (H7.out.none_ (Fr.refl None_ wz).drew).mp
          clear ep hirp hrdp hbyr
          generalize withAt (s1.pages sp seg row) 0 bytes = xs at *
          obtain ⟨kl, hkl⟩ := keyOf_3 (m := sp) (b := seg) (q := row) ⟨by omega, by omega⟩ ⟨by omega, by omega⟩ ⟨by omega, by omega⟩
          have hlook := HMP.out.look law3 Try.underlying37 (zeroB _) hkl
          rw [HEP.out] at hlook
          have hlook2 : (Instr.lookup 37 (.map (some bp)) (.agg #[.int .i64 sp, .int .i64 seg, .int .i64 row]) false).run Try.prog wz.drew = .ok (.slice Ap np cp) wz.drew := hlook
          clear hlook
          go_upto_region 13 with fail
          go_still_tail 11, (by kernel_rfl)
          change wpList _ _ _ _ _ wz.drew
          go_wp2_with ((with_reducible refine (HWI.out _ ((Fr.refl None_ wz).drew)).mono ?_); rintro e w8 ⟨v8, rfl, hrow8, hf8⟩)
          clear hlook2
          have HF89 := As.mk ((Fr.refl None_ wz).drew.after hf8 (fun _ _ h => h))
          have HRW8 := As.mk hrow8
          obtain ⟨A8, n8, c8, e8, hm8, hd8, ha8⟩ := HRW8.out.rd
          subst e8
          have hn8 : n8 = 320 := by rw [← hd8.out.1]; exact HWL.out
          subst hn8
          obtain ⟨ad8, e8, _⟩ := hd8.out.2.2 (by decide)
          subst e8
          have hc8 : 320 ≤ c8 := hm8.out
          have hc8b : ¬ c8 = 256 := by omega
          have hc8i : (256 : Int) ≤ c8 := by omega
          have hc8j : (0 : Int) ≤ c8 := by omega
          have hc8k : (320 : Int) ≤ c8 := by omega
          have hdr8 := hd8.out.drop 256 (by decide) hc8
          rw [if_neg hc8b] at hdr8
          change Rd .u8 w8 (some ⟨ad8.block, ad8.off + 256, none⟩) 64 (xs.drop 256) at hdr8
          have HOP := As.mk (fun (w' : World) (hf : Fr None_ w8 w') => Open_calls (some ⟨ad8.block, ad8.off + 256, none⟩) (some ad8) 64 (c8 - 256) 256 c8 (xs.drop 256) (xs.take 256) w' (hdr8.none_ hf) ((hd8.out.take 256 (by decide)).none_ hf) (fun y hy => HWR.out y (List.mem_of_mem_drop hy)) (fun y hy => HWR.out y (List.mem_of_mem_take hy)) (by omega) (by omega) (by decide) (by decide))
          have HR8 := As.mk (H7.out.none_ HF89.out)
          unfold Go.Proofs.Ytlhgbamajabnfaa.Ref5.rvals at HOP
          clear hdr8 hf8 hrow8
          go_upto_region 14 with fail
          go_cut [12] (fun v12 wx => v12 = .bool (openOf (xs.take 256) (xs.drop 256)).2 ∧ As (Fr None_ w8 wx))
          case first =>
            go_region_held3 (fun w' => True) (exact True.intro) (first | ((with_reducible refine (HOP.out _ ?_).mono ?_); (focus repeat (first | exact Fr.refl _ _ | apply Fr.drew | apply Fr.drewN | apply Fr.alloc)); rintro e w9 ⟨rfl, hf9⟩; try (have hb9 := hf9.heap (heap_alloc_new _ _) (fun h => h); have r0 := cell_is (i := 0) hb9 rfl; have q0 := free_of (i := 0) hb9; have r1 := cell_is (i := 1) hb9 rfl; have q1 := free_of (i := 1) hb9; have r2 := cell_is (i := 2) hb9 rfl; have q2 := free_of (i := 2) hb9; have r3 := cell_is (i := 3) hb9 rfl; have q3 := free_of (i := 3) hb9; have r4 := cell_is (i := 4) hb9 rfl; have q4 := free_of (i := 4) hb9; have r5 := cell_is (i := 5) hb9 rfl; have q5 := free_of (i := 5) hb9; have r6 := cell_is (i := 6) hb9 rfl; have q6 := free_of (i := 6) hb9; clear hb9)))
            all_goals
              go_wp2_with fail
              go_meet
              case rel =>
                refine ⟨rfl, ⟨?_⟩⟩
                first
                | ((with_reducible refine Fr.alloc ?_ _); exact (Fr.refl None_ w8).drew.after hf9 (fun _ _ h => h))
                | ((with_reducible refine fr_set7 ?_ ?_ _ _ _ _ _ _ _); exact (((Fr.refl None_ w8).drew.alloc _).after hf9 (fun _ _ h => h)); exact (fun h => absurd h (Nat.lt_irrefl _)))
          case rest =>
            obtain ⟨rfl, HFX⟩ := hcut
            have HOB : As ((openOf (xs.take 256) (xs.drop 256)).2 = false → Bad (s1.lay sp seg row xs) l seg row) := ⟨fun h => Bad.lay HST.out sp xs (by rw [HG1.out, HGS.out]; have := HWL.out; omega) (by rw [HG1.out, HGS.out]; exact h)⟩
            generalize (openOf (xs.take 256) (xs.drop 256)).2 = ok at *
            have HR9 := As.mk (HR8.out.none_ HFX.out)
            have c4 := cell_is (i := 4) HR9.out.blk rfl
            cases ok
            · go_wp2_with (at_mapUpdate; (with_reducible refine wp_store _ rfl _ _ _ 37 rfl 45 23 law3 Try.underlying37 (.slice none 0 0) bp s1.cnt f rfl HR9.out.mp ?hn (key3 sp seg row) (.slice (some ad8) 320 c8) rfl rfl (keyOf_3 ⟨by omega, by omega⟩ ⟨by omega, by omega⟩ ⟨by omega, by omega⟩) ?_); (case hn => unfold maxLen; have := HCN.out; omega); intro w10 hm10 hf10; have HK9 := As.mk (Ram.lay HR9.out sp seg row (.slice (some ad8) 320 c8) xs (HRW8.out.none_ HFX.out) HWR.out (by rw [HG1.out, HGS.out]; have := HWL.out; omega) hm10 hf10); clear hm10 hf10)
              go_meet
              case rel => exact ⟨_, ⟨⟨_, _, _, _, _, HK9.out.1⟩, HG1.out⟩, ⟨HOB.out (by trivial)⟩, ⟨(Ram.Step.none_ HR7.out.lt (HF89.out.after HFX.out (fun _ _ h => h))).trans HK9.out.2⟩⟩
            · go_wp2_with fail
              go_ret
              exact ⟨rfl, ((HF6.out.1.after HF7.out (fun _ _ h => h)).after HF89.out (fun _ _ h => h)).after HFX.out (fun _ _ h => h)⟩
        · have ds : decide (0 ≤ sp) = false := decide_eq_false hsp
          go_wp2_with fail
          go_meet
          case rel => exact ⟨s1, ⟨HR7.out, HG1.out⟩, ⟨Bad.none_ HST.out⟩, ⟨Ram.Step.refl _ _⟩⟩
    case rest =>
      obtain ⟨s2, HR8, HBD, HT8⟩ := hcut
      have HF8 := As.mk (show Fr None_ w wc from by
        have h7 := step_new HF6.out.1 HF6.out.2 HT7.out
        exact (step_new h7.1 h7.2 HT8.out).1)
      have HC8 := As.mk ((HC6.out.step HT7.out).step HT8.out)
      have HS8 := As.mk (SPs.step (SPs.step HS6.out HT7.out) HT8.out)
      have hln : (l.length : Int) = n := by have h1 := HL.out.len; have h2 := HN.out; have h3 : (Ram.St.new g).g.c = g.c := rfl; omega
      have hn0 : n ≤ 100 := by have h2 := HN.out; omega
      clear b7 c4 c5
      go_wp2_with fail
      go_loopw [13, 14, 15] (fun v13 v14 v15 w' => ∃ i : Int, v13 = .int .i64 i ∧ 0 ≤ i ∧ i ≤ (n : Int) ∧ As (Fr None_ wc w')) (fun v13 _ _ _ => n - (intOf v13).toNat)
      case atStart => exact ⟨0, rfl, by omega, by omega, ⟨Fr.refl _ _⟩⟩
      case round =>
        obtain ⟨i, rfl, hi0, hi, HF⟩ := hrel
        by_cases hlt : i < (n : Int)
        · have hil : i.toNat < l.length := by omega
          have HRD := As.mk (SRead.Read_calls p s2 seg row i wr (l.getD i.toNat noPage).1 (l.getD i.toNat noPage).2 (HR8.out.1.none_ HF.out) (by rw [HR8.out.2]; exact HAT.out) hi0 (by rw [HR8.out.2]; have := HN.out; omega) (HBD.out.reads hi0 hil))
          obtain ⟨ad, ax, D, nd, cd, hA, hax, l0, l1, l2, l3, l4, l5, l6, l7, HDD, _, _⟩ := SPs.at_ (HC8.out.none_ HR8.out.1.lt HF.out).1 (HS8.out.none_ HR8.out.1.lt HF.out) i hi0 hlt
          have HRG : As (InR 256 (l.getD i.toNat noPage).2) := ⟨(HL.out.data _ (getD_mem hil _)).2⟩
          generalize l.getD i.toNat noPage = q at *
          subst hA
          have HL0 := As.mk (And.intro l0 (And.intro l1 (And.intro l2 (And.intro l3 (And.intro l4 (And.intro l5 (And.intro l6 l7)))))))
          clear l0 l1 l2 l3 l4 l5 l6 l7 hil
          unfold dev pcells at HRD
          go_wp2_with fail
          ((with_reducible refine (HRD.out).mono ?_); rintro e w5 ⟨v5, rfl, hrow5, hf5⟩)
          have HF5 := As.mk hf5
          obtain ⟨A5, n5, c5, e5, hm5, hd5, _⟩ := hrow5.rd
          subst e5
          clear hrow5 hf5
          go_upto_region 22 with fail
          have hnew := heap_alloc_new w5 (.cells #[.int .u8 q.1.kind, .int .u32 q.1.epoch, .int .u32 q.1.batch, .int .u16 q.1.index, .int .u16 q.1.count, .int .u32 q.1.block, .int .u32 q.1.more, .slice A5 n5 c5] 56)
          have HF6 := As.mk (HF5.out.alloc (.cells #[.int .u8 q.1.kind, .int .u32 q.1.epoch, .int .u32 q.1.batch, .int .u16 q.1.index, .int .u16 q.1.count, .int .u32 q.1.block, .int .u32 q.1.more, .slice A5 n5 c5] 56))
          have hd6 := hd5.out.none_ ((Fr.refl None_ w5).alloc (.cells #[.int .u8 q.1.kind, .int .u32 q.1.epoch, .int .u32 q.1.batch, .int .u16 q.1.index, .int .u16 q.1.count, .int .u32 q.1.block, .int .u32 q.1.more, .slice A5 n5 c5] 56))
          generalize w5.alloc (.cells #[.int .u8 q.1.kind, .int .u32 q.1.epoch, .int .u32 q.1.batch, .int .u16 q.1.index, .int .u16 q.1.count, .int .u32 q.1.block, .int .u32 q.1.more, .slice A5 n5 c5] 56) = w6 at *
          generalize hgt : w5.heap.size = gt at *
          clear hgt
          have k0 := cell_is (i := 0) hnew rfl
          have k1 := cell_is (i := 1) hnew rfl
          have k2 := cell_is (i := 2) hnew rfl
          have k3 := cell_is (i := 3) hnew rfl
          have k4 := cell_is (i := 4) hnew rfl
          have k5 := cell_is (i := 5) hnew rfl
          have k6 := cell_is (i := 6) hnew rfl
          have k7 := cell_is (i := 7) hnew rfl
          obtain ⟨l0, l1, l2, l3, l4, l5, l6, l7⟩ := HL0.out
          replace l0 := HF6.out.cell l0 (fun h => h)
          replace l1 := HF6.out.cell l1 (fun h => h)
          replace l2 := HF6.out.cell l2 (fun h => h)
          replace l3 := HF6.out.cell l3 (fun h => h)
          replace l4 := HF6.out.cell l4 (fun h => h)
          replace l5 := HF6.out.cell l5 (fun h => h)
          replace l6 := HF6.out.cell l6 (fun h => h)
          replace l7 := HF6.out.cell l7 (fun h => h)
          have HD6 := As.mk hd6
          have HDD6 := As.mk (HDD.out.2.1.none_ HF6.out)
          have HSM := As.mk (fun (w' : World) (hf : Fr None_ w6 w') => same_calls q.1 A5 D n5 c5 nd cd q.2 w' (HD6.out.none_ hf) (HDD6.out.none_ hf) HRG.out)
          unfold pcells at HSM
          clear hnew hd6
          go_region_held3 (fun w' => w'.cell? ⟨gt, 0, none⟩ = some (.int .u8 q.1.kind) ∧ w'.cell? ⟨gt, 1, none⟩ = some (.int .u32 q.1.epoch) ∧ w'.cell? ⟨gt, 2, none⟩ = some (.int .u32 q.1.batch) ∧ w'.cell? ⟨gt, 3, none⟩ = some (.int .u16 q.1.index) ∧ w'.cell? ⟨gt, 4, none⟩ = some (.int .u16 q.1.count) ∧ w'.cell? ⟨gt, 5, none⟩ = some (.int .u32 q.1.block) ∧ w'.cell? ⟨gt, 6, none⟩ = some (.int .u32 q.1.more) ∧ w'.cell? ⟨gt, 7, none⟩ = some (.slice A5 n5 c5) ∧ w'.cell? ax = some (.int .u8 q.1.kind) ∧ w'.cell? ⟨ax.block, ax.off + 1, none⟩ = some (.int .u32 q.1.epoch) ∧ w'.cell? ⟨ax.block, ax.off + 2, none⟩ = some (.int .u32 q.1.batch) ∧ w'.cell? ⟨ax.block, ax.off + 3, none⟩ = some (.int .u16 q.1.index) ∧ w'.cell? ⟨ax.block, ax.off + 4, none⟩ = some (.int .u16 q.1.count) ∧ w'.cell? ⟨ax.block, ax.off + 5, none⟩ = some (.int .u32 q.1.block) ∧ w'.cell? ⟨ax.block, ax.off + 6, none⟩ = some (.int .u32 q.1.more) ∧ w'.cell? ⟨ax.block, ax.off + 7, none⟩ = some (.slice D nd cd)) (first | go_keep | (refine ⟨?_, ?_, ?_, ?_, ?_, ?_, ?_, ?_, ?_, ?_, ?_, ?_, ?_, ?_, ?_, ?_⟩ <;> (refine Fr.cell ‹Fr None_ w6.drew _› ?_ (fun h => h); go_keep))) (first | ((with_reducible refine (HSM.out _ ((Fr.refl None_ w6).drew)).mono ?_); rintro e w7 ⟨rfl, hf7⟩))
          all_goals
            go_wp2_with fail
            have hF7 : Fr None_ wc w7 := (HF.out.after HF6.out (fun _ _ h => h)).after ((Fr.refl None_ w6).drew.after hf7 (fun _ _ h => h)) (fun _ _ h => h)
            exact ⟨⟨i + 1, rfl, by omega, by omega, ⟨hF7⟩⟩, by simp [intOf]; omega⟩
        · have dl : decide (i < (n : Int)) = false := decide_eq_false hlt
          go_wp2_with fail
          go_ret
          exact ⟨rfl, HF8.out.after HF.out (fun _ _ h => h)⟩
end Go.Proofs.Ytlhgbamajabnfaa.Reads

/- gabionlaw10.StripeWrites: a stripe that is written is the pages that the chapter says, each on its member, in order; a dead one is passed over. -/
import Derived.Test.YtlhgbamajabnfaaR8
import Derived.Test.YtlhgbamajabnfaaOpenR
namespace Go.Proofs.Ytlhgbamajabnfaa.Writes
open Go.RowKit Go.Proofs.Ytlhgbamajabnfaa.Gab Go.Proofs.Ytlhgbamajabnfaa.Map Go.Proofs.Ytlhgbamajabnfaa.Geom Go.Proofs.Ytlhgbamajabnfaa.Ram Go.Proofs.Ytlhgbamajabnfaa.Par Go.Proofs.Ytlhgbamajabnfaa.Fields Go.Proofs.Ytlhgbamajabnfaa.Ord Go.Proofs.Ytlhgbamajabnfaa.Write Go.Proofs.Ytlhgbamajabnfaa.Stripe Go.Proofs.Ytlhgbamajabnfaa.Ref Go.Proofs.Ytlhgbamajabnfaa.Case Go.Proofs.Ytlhgbamajabnfaa.Kept Go.Proofs.Ytlhgbamajabnfaa.R8
open Go.Proofs.Ytlhgbamajabnfaa.Wr (InR)
open Go.Proofs.Ytlhgbamajabnfaa.Open (openOf)
open Go.Proofs.Ytlhgbamajabnfaa.OpenR (Open_calls)
open Go.Proofs.Ytlhgbamajabnfaa.Str (pcells take_snoc add_next)
set_option linter.unusedVariables false
set_option linter.unusedSimpArgs false

/-! ### plain -/
/-- Members of which none is written; dm is gone. -/
structure Start (s : Ram.St) (g : Geo) (dm : Int) : Prop where
  geo : s.g = g
  order : s.order = []
  cnt : s.cnt ≤ 10
  pages : ∀ m b q, s.pages m b q = []
  gone : ∀ m, 0 < s.gone m ↔ (m = dm ∧ 0 ≤ dm)
theorem Start.new (g : Geo) {dm : Int} (h : ¬ 0 ≤ dm) : Start (Ram.St.new g) g dm :=
  ⟨rfl, rfl, by show 0 ≤ 10; decide, fun _ _ _ => rfl, fun m => ⟨fun h => absurd h (by show ¬ (0 : Int) < 0; decide), fun h2 => absurd h2.2 h⟩⟩
theorem Start.kill (g : Geo) {dm : Int} (h : 0 ≤ dm) : Start ((Ram.St.new g).kill dm) g dm :=
  ⟨rfl, rfl, by show 0 + 1 ≤ 10; decide, fun _ _ _ => rfl, fun m => by
    show 0 < (if m = dm then (1 : Int) else 0) ↔ _
    by_cases e : m = dm
    · rw [if_pos e]; exact ⟨fun _ => ⟨e, h⟩, fun _ => by decide⟩
    · rw [if_neg e]; exact ⟨fun h => absurd h (by decide), fun h => absurd h.1 e⟩⟩
theorem Start.lead {s : Ram.St} {g : Geo} {dm : Int} (h : Start s g dm) (sp : Int) : Start (s.lead sp) g dm := ⟨h.geo, h.order, h.cnt, h.pages, h.gone⟩
/-- A stripe that was written. -/
structure Written (s : Ram.St) (g : Geo) (l : List (Head × List Int)) (seg row dm sp : Int) : Prop where
  geo : s.g = g
  order : s.order = orderOf sp g.c
  dead : ∀ m, 0 ≤ m → m < g.c → m = dm → s.pages m seg row = []
  pages : ∀ m, 0 ≤ m → m < g.c → m ≠ dm → s.pages m seg row = (pageOf g l seg row m).1 ++ (pageOf g l seg row m).2
theorem Start.written {s : Ram.St} {g : Geo} {dm : Int} (h : Start s g dm) (l : List (Head × List Int)) (seg row sp : Int) : Written (s.progs seg row (fun m => (pageOf g l seg row m).1 ++ (pageOf g l seg row m).2) (orderOf sp g.c)) g l seg row dm sp := by
  obtain ⟨a1, a2, a3, a4, a5⟩ := progs_gone seg row (fun m => (pageOf g l seg row m).1 ++ (pageOf g l seg row m).2) (orderOf sp g.c) s
  refine ⟨by rw [a2]; exact h.geo, by rw [a4, h.order, List.nil_append], fun m m0 m1 e => ?_, fun m m0 m1 e => ?_⟩
  · rw [progs_pages, if_neg (fun hh => hh.2.2.2 ((h.gone m).2 ⟨e, by omega⟩)), h.pages]
  · rw [progs_pages, if_pos ⟨mem_order m0 m1, rfl, rfl, fun hh => e ((h.gone m).1 hh).1⟩]
theorem Start.err {s : Ram.St} {g : Geo} {dm : Int} (h : Start s g dm) (first c : Int) : errOf (goneIn s (orderOf first c)) = 0 := err_none (d := dm) (fun m hm hg => hm ((h.gone m).1 hg).1) first c
theorem page_take {x y : List Int} {n : Nat} (h : x.length = n) : (x ++ y).take n = x ∧ (x ++ y).drop n = y := by
  subst h
  exact ⟨List.take_left, List.drop_left⟩

theorem posOf_next {sp k : Int} (e : k ≠ sp) : posOf sp (k + 1) = posOf sp k + 1 := by
  unfold posOf
  by_cases h0 : 0 ≤ sp
  · rw [if_pos h0, if_pos h0]
    by_cases h1 : k ≤ sp
    · rw [if_pos h1, if_pos (by omega)]
    · rw [if_neg h1, if_neg (by omega)]
  · rw [if_neg h0, if_neg h0]
theorem posOf_same {sp k : Int} (h0 : 0 ≤ k) (e : k = sp) : posOf sp (k + 1) = posOf sp k := by
  subst e
  unfold posOf
  rw [if_pos h0, if_pos h0, if_neg (by omega), if_pos (Int.le_refl _)]

/-- A region that only reads, whose callees leave what was there: one walk. -/
theorem wp_region_class {P : Program} {id : Nat} {Q : Exit → Act → World → Prop} {a : Act} {w : World} {l : List Oper} (C : World → Prop) (hm : P.follows .mixedOrders = true) (hB : Region.lexB .any l.toArray = true) (hC : C w.drew)
    (h : wpQuiet P l.toArray C (fun a' => ∀ w', C w' → Q .normal a' w') l a) : (Code.region id l.toArray true).wp P Q a w := wp_region_quiet hm hB hC (by simpa using h)

/-! ### the law's short way -/
set_option maxHeartbeats 4000000 in
set_option maxRecDepth 100000 in
theorem small_calls (x : Cs) (w : World) (h1 : 10 < x.hn) : Calls Try.prog 3 #[.agg x.cells] w fun e w' => e = .returned (.bool true) ∧ Fr None_ w w' := by
  have HK := As.mk (fun w => kept_calls w)
  unfold Cs.cells at *
  have HBX := As.mk (heap_alloc_new w (.cells #[.int .i64 x.chips, .int .i64 x.seg, .int .i64 x.row, .slice x.HA x.hn x.hc, .slice x.FA x.fn x.fc, .int .i64 x.dead, .int .i64 x.spoilt, .slice x.BA x.bn x.bc] 25))
  have d1 : decide ((10 : Int) < (x.hn : Int)) = true := decide_eq_true (by omega)
  go_enter Try.func3, Try.ntmps3
  go_wp2_with fail
  ((with_reducible refine (HK.out _).mono ?_); rintro e w1 ⟨rfl, hf1⟩)
  have HB1 := As.mk (hf1.heap HBX.out (fun h => h))
  have HF1 := As.mk (((Fr.refl None_ w).alloc _).after hf1 (fun _ _ h => h))
  have b3 := cell_is (i := 3) HB1.out rfl
  clear hf1
  go_wp2_with fail
  ((with_reducible refine (HK.out _).mono ?_); rintro e w2 ⟨rfl, hf2⟩)
  have HF2 := As.mk (HF1.out.after hf2 (fun _ _ h => h))
  go_wp2_with fail
  go_ret
  exact ⟨rfl, HF2.out⟩

/-! ### the law's way -/
/-- What is proved in a later declaration (nothing else has this form, so no tactic takes it for something else). -/
structure Later (p : Prop) : Prop where mk :: (out : p)

set_option maxHeartbeats 16000000 in
set_option maxRecDepth 100000 in
def part1 : { T : Prop // Later T → ∀ (x : Cs) (heads : List Head) (first : List Int) (w : World) (hH : Heads w x.HA x.hn heads) (hF : Rd .u8 w x.FA x.fn first) (hFr : InR 256 first) (hh10 : x.hn ≤ 10),
    Calls Try.prog 3 #[.agg x.cells] w fun e w' => e = .returned (.bool true) ∧ Fr None_ w w' } := by
  refine ⟨?T, fun hT => ?X⟩
  case X =>
    intro x heads first w hH hF hFr hh10
    have HK := As.mk (fun w => kept_calls w)
    have HSH := As.mk (fun w => shape_calls x w)
    have HPL := As.mk (fun w => place_calls x w)
    have HMB := As.mk (fun n w => member_calls x n w)
    have hok := x.geo_ok
    have HNW := As.mk (fun w => New_calls x.geo w hok)
    have HPG := As.mk (fun (p : Nat) (s : Ram.St) (w' : World) (hR : RamE w' p s) (hf : Fr None_ w w') => pages_calls x p s heads first w' hR (hH.none_ hf) hh10 (hF.none_ hf) hFr)
    have hat : x.geo.At (u64of x.seg % 15) (u64of x.row % 6) := ⟨by show 0 ≤ u64of x.seg % 15 ∧ u64of x.seg % 15 < 20 - 5; omega, by show 0 ≤ u64of x.row % 6 ∧ u64of x.row % 6 < 6; omega⟩
    have hsg : 0 ≤ u64of x.seg % 15 ∧ u64of x.seg % 15 < 15 := by omega
    have hrw : 0 ≤ u64of x.row % 6 ∧ u64of x.row % 6 < 6 := by omega
    have hgs : x.geo.s = 256 := rfl
    have hc7 : x.geo.c ≤ 7 := by show 3 + u64of x.chips % 5 ≤ 7; omega
    have hc3 : 3 ≤ x.geo.c := by show 3 ≤ 3 + u64of x.chips % 5; omega
    have hdr := x.member_range x.dead
    have hsr := x.member_range x.spoilt
    have d1 : decide ((10 : Int) < (x.hn : Int)) = false := decide_eq_false (by omega)
    unfold Geo.val at HSH HNW
    unfold Cs.cells at *
    generalize hge : x.geo = g at *
    generalize u64of x.seg % 15 = seg at *
    generalize u64of x.row % 6 = row at *
    have HMD := As.mk (fun w => HMB.out x.dead w)
    have HMS := As.mk (fun w => HMB.out x.spoilt w)
    clear HMB
    have HOK := As.mk hok
    have HAT := As.mk hat
    have HGS := As.mk hgs
    have HBX := As.mk (heap_alloc_new w (.cells #[.int .i64 x.chips, .int .i64 x.seg, .int .i64 x.row, .slice x.HA x.hn x.hc, .slice x.FA x.fn x.fc, .int .i64 x.dead, .int .i64 x.spoilt, .slice x.BA x.bn x.bc] 25))
    clear hge hok hH hF hFr hat hgs hh10
    go_enter Try.func3, Try.ntmps3
    go_wp2_with fail
    ((with_reducible refine (HK.out _).mono ?_); rintro e w1 ⟨rfl, hf1⟩)
    have HB1 := As.mk (hf1.heap HBX.out (fun h => h))
    have HF1 := As.mk (((Fr.refl None_ w).alloc _).after hf1 (fun _ _ h => h))
    have b0 := cell_is (i := 0) HB1.out rfl
    have b1 := cell_is (i := 1) HB1.out rfl
    have b2 := cell_is (i := 2) HB1.out rfl
    have b3 := cell_is (i := 3) HB1.out rfl
    have b4 := cell_is (i := 4) HB1.out rfl
    have b5 := cell_is (i := 5) HB1.out rfl
    have b6 := cell_is (i := 6) HB1.out rfl
    have b7 := cell_is (i := 7) HB1.out rfl
    clear hf1
    go_wp2_with fail
    ((with_reducible refine (HSH.out _).mono ?_); rintro e w2 ⟨rfl, hf2⟩)
    have HB2 := As.mk (hf2.heap HB1.out (fun h => h))
    have HF2 := As.mk (HF1.out.after hf2 (fun _ _ h => h))
    clear hf2 b0 b1 b2 b3 b4 b5 b6 b7
    go_wp2_with fail
    ((with_reducible refine (HNW.out _).mono ?_); rintro e w3 ⟨p, rfl, hR3, hf3, hn3⟩)
    have HB3 := As.mk (hf3.heap (at_old _ HB2.out) (fun h => h))
    have HR3 := As.mk hR3
    have HF3 := As.mk (show Fr None_ w w3 ∧ ∀ b, Foot w3 p b → w.heap.size ≤ b from ⟨(HF2.out.alloc _).after hf3 (fun _ _ h => h), fun b hb => Nat.le_trans (HF2.out.alloc _).size (hn3 b hb)⟩)
    have HO3 := As.mk (show Off w3 p w.heap.size from ⟨(Array.getElem?_eq_some_iff.1 HB3.out).1, fun hb => by
      have h1 := hn3 _ hb
      have h2 := (Array.getElem?_eq_some_iff.1 HB2.out).1
      simp only [World.size_alloc] at h1
      omega⟩)
    have HG3 := As.mk (hf3.heap (at_new _ rfl) (fun h => h) : w3.heap[w2.heap.size]? = some (.cells #[.int .i64 g.c, .int .i64 g.b, .int .i64 g.p, .int .i64 g.s] 28 (0, 0)))
    have HQ3 := As.mk (show Off w3 p w2.heap.size from ⟨(Array.getElem?_eq_some_iff.1 HG3.out).1, fun hb => by
      have h1 := hn3 _ hb
      simp only [World.size_alloc] at h1
      omega⟩)
    generalize hgb : w2.heap.size = gb at *
    clear hgb
    clear hf3 hn3 hR3
    have b0 := cell_is (i := 0) HB3.out rfl
    have b1 := cell_is (i := 1) HB3.out rfl
    have b2 := cell_is (i := 2) HB3.out rfl
    have b3 := cell_is (i := 3) HB3.out rfl
    have b4 := cell_is (i := 4) HB3.out rfl
    have b5 := cell_is (i := 5) HB3.out rfl
    have b6 := cell_is (i := 6) HB3.out rfl
    have b7 := cell_is (i := 7) HB3.out rfl
    go_wp2_with fail
    ((with_reducible refine (HPL.out _).mono ?_); rintro e w4 ⟨rfl, hf4⟩)
    have HB4 := As.mk (hf4.heap HB3.out (fun h => h))
    have HF4 := As.mk (step_new HF3.out.1 HF3.out.2 (Ram.Step.none_ HR3.out.lt hf4))
    have HO4 := As.mk (HO3.out.step (Ram.Step.none_ HR3.out.lt hf4))
    have HQ4 := As.mk (HQ3.out.step (Ram.Step.none_ HR3.out.lt hf4))
    have HG4 := As.mk (hf4.heap HG3.out (fun h => h))
    have HR4 := As.mk (HR3.out.none_ hf4)
    clear hf4 b0 b1 b2 b3 b4 b5 b6 b7
    have b0 := cell_is (i := 0) HB4.out rfl
    have b1 := cell_is (i := 1) HB4.out rfl
    have b2 := cell_is (i := 2) HB4.out rfl
    have b3 := cell_is (i := 3) HB4.out rfl
    have b4 := cell_is (i := 4) HB4.out rfl
    have b5 := cell_is (i := 5) HB4.out rfl
    have b6 := cell_is (i := 6) HB4.out rfl
    have b7 := cell_is (i := 7) HB4.out rfl
    go_wp2_with fail
    ((with_reducible refine (HPG.out p _ _ HR4.out HF4.out.1).mono ?_); rintro e w5 ⟨A, c, n, vs, l, rfl, hn, hC, hS, hl, hf5⟩)
    have HF5 := As.mk (step_new HF4.out.1 HF4.out.2 (Ram.Step.none_ HR4.out.lt hf5))
    have HO5 := As.mk (HO4.out.step (Ram.Step.none_ HR4.out.lt hf5))
    have HQ5 := As.mk (HQ4.out.step (Ram.Step.none_ HR4.out.lt hf5))
    have HG5 := As.mk (hf5.heap HG4.out (fun h => h))
    have HB5 := As.mk (hf5.heap HB4.out (fun h => h))
    have HN := As.mk hn
    have HC := As.mk hC
    have HS := As.mk hS
    have HL := As.mk hl
    have HR5 := As.mk (HR4.out.none_ hf5)
    clear b0 b1 b2 b3 b4 b5 b6 b7 hf5 hn hC hS hl HPG
    have b0 := cell_is (i := 0) HB5.out rfl
    have b1 := cell_is (i := 1) HB5.out rfl
    have b2 := cell_is (i := 2) HB5.out rfl
    have b3 := cell_is (i := 3) HB5.out rfl
    have b4 := cell_is (i := 4) HB5.out rfl
    have b5 := cell_is (i := 5) HB5.out rfl
    have b6 := cell_is (i := 6) HB5.out rfl
    have b7 := cell_is (i := 7) HB5.out rfl
    generalize x.member x.dead = dm at *
    generalize x.member x.spoilt = sp at *
    go_upto_region 7 with fail
    go_cut [8, 9] (fun v8 v9 wx => v8 = .int .i64 dm ∧ v9 = .int .i64 sp ∧ As (Fr None_ w5 wx))
    case first =>
      go_region_held3 (fun w' => w'.cell? ⟨w.heap.size, 0, none⟩ = some (.int .i64 x.chips) ∧ w'.cell? ⟨w.heap.size, 1, none⟩ = some (.int .i64 x.seg) ∧ w'.cell? ⟨w.heap.size, 2, none⟩ = some (.int .i64 x.row) ∧ w'.cell? ⟨w.heap.size, 3, none⟩ = some (.slice x.HA x.hn x.hc) ∧ w'.cell? ⟨w.heap.size, 4, none⟩ = some (.slice x.FA x.fn x.fc) ∧ w'.cell? ⟨w.heap.size, 5, none⟩ = some (.int .i64 x.dead) ∧ w'.cell? ⟨w.heap.size, 6, none⟩ = some (.int .i64 x.spoilt) ∧ w'.cell? ⟨w.heap.size, 7, none⟩ = some (.slice x.BA x.bn x.bc)) (first | go_keep | (refine ⟨?_, ?_, ?_, ?_, ?_, ?_, ?_, ?_⟩ <;> (refine Fr.cell ‹Fr None_ _ _› ?_ (fun h => h); go_keep))) (first | ((with_reducible refine (HMD.out _).mono ?_); rintro e w7 ⟨rfl, hf7⟩) | ((with_reducible refine (HMS.out _).mono ?_); rintro e w8 ⟨rfl, hf8⟩))
      all_goals
        go_wp2_with fail
        go_meet
        case rel =>
          first
          | exact ⟨rfl, rfl, ⟨((Fr.refl None_ w5).drew.after hf7 (fun _ _ h => h)).after hf8 (fun _ _ h => h)⟩⟩
          | exact ⟨rfl, rfl, ⟨((Fr.refl None_ w5).drew.after hf8 (fun _ _ h => h)).after hf7 (fun _ _ h => h)⟩⟩
    case rest =>
      obtain ⟨rfl, rfl, HF6⟩ := hcut
      have HR6 := As.mk (HR5.out.none_ HF6.out)
      have HT6 := As.mk (Ram.Step.none_ HR5.out.lt HF6.out)
      clear b0 b1 b2 b3 b4 b5 b6 b7
      obtain ⟨bp, bg, vo, f, fg, h6⟩ := HR6.out
      have c5 := cell_is (i := 5) h6.blk rfl
      have H6 := As.mk h6
      clear h6
      rename World => wy
      go_upto_if 47 with fail
      go_cut [] (fun wx => ∃ s1, As (RamE wx p s1) ∧ As (Start s1 g dm) ∧ As (Ram.Step p wy wx))
      case first =>
        by_cases hdm : 0 ≤ dm
        · have dd : decide (0 ≤ dm) = true := decide_eq_true hdm
          go_wp2_with (at_mapUpdate; (with_reducible refine wp_store _ rfl _ _ _ 38 rfl 3 3 lawI Try.underlying38 (.int .i64 0) bg (Ram.St.new g).cnt fg rfl H6.out.mg ?hn (.int .i64 dm) (.int .i64 1) rfl rfl (keyOf_i ⟨by omega, by omega⟩) ?_); (case hn => show 0 < maxLen; unfold maxLen; decide); intro w8 hm8 hf8; have HK8 := As.mk (Ram.kill H6.out dm hm8 hf8); clear hm8 hf8)
          go_meet
          case rel => exact ⟨_, ⟨_, _, _, _, _, HK8.out.1⟩, ⟨Start.kill g hdm⟩, ⟨HK8.out.2⟩⟩
        · have dd : decide (0 ≤ dm) = false := decide_eq_false hdm
          go_wp2_with fail
          go_meet
          case rel => exact ⟨_, HR6, ⟨Start.new g (by omega)⟩, ⟨Ram.Step.refl _ _⟩⟩
      case rest =>
        obtain ⟨s1, HR7, HS7, HT7⟩ := hcut
        clear c5
        rename World => wz
        obtain ⟨bp', bg', vo', f', fg', h7⟩ := HR7.out
        have HF7 := As.mk (by
          have h1 := step_new HF5.out.1 HF5.out.2 HT6.out
          exact step_new h1.1 h1.2 HT7.out)
        have HT57 := As.mk (HT6.out.trans HT7.out)
        have HGB7 := As.mk (HQ5.out.blk HT57.out HG5.out)
        have c6 := cell_is (i := 6) h7.blk rfl
        have q6 := free_of (i := 6) h7.blk
        have HLD := As.mk (Ram.lead h7 sp)
        clear h7
        go_upto_region 11 with fail
        generalize wz.setCell ⟨p, 6, none⟩ (.int .i64 sp) = wq at *
        have HR8 := As.mk (show RamE wq p (s1.lead sp) from ⟨_, _, _, _, _, HLD.out.1⟩)
        have HQ7 := As.mk ((HQ5.out.step HT57.out).step HLD.out.2)
        have HGB8 := As.mk ((HQ5.out.step HT57.out).blk HLD.out.2 HGB7.out)
        have HC8 := As.mk ((HC.out.step HT57.out).step HLD.out.2)
        have HS8 := As.mk (SPs.step (SPs.step HS.out HT57.out) HLD.out.2)
        have HF8 := As.mk (step_new HF7.out.1 HF7.out.2 HLD.out.2)
        have hs2 := HS7.out.lead sp
        have hw := fun (w' : World) (hf : Fr None_ wq w') => Write_calls p (s1.lead sp) seg row A n c vs l w' (HR8.out.none_ hf) (by rw [hs2.geo]; exact HAT.out) (by rw [hs2.geo]; exact HN.out) (HC8.out.none_ HR8.out.lt hf) (HS8.out.none_ HR8.out.lt hf) (fun q hq => by rw [hs2.geo]; exact HL.out.data q hq) (by have := hs2.cnt; omega)
        rw [hs2.geo, show (s1.lead sp).first = sp from rfl, hs2.err] at hw
        have HWT := As.mk (hs2.written l seg row sp)
        generalize (s1.lead sp).progs seg row (fun m => (pageOf g l seg row m).1 ++ (pageOf g l seg row m).2) (orderOf sp g.c) = s3 at *
        have HWR := As.mk hw
        clear hw hs2 c6 q6 HS7
        unfold dev at HWR
        have g0 := cell_is (i := 0) HGB8.out rfl
        have HOLN := As.mk (order_len' (first := sp) (c := g.c) (by omega) (by omega))
        go_cut [73] (fun v73 wx => v73 = .bool false ∧ As (RamE wx p s3) ∧ As (Ram.Step p wq wx))
        case first =>
          go_region_with (first | ((with_reducible refine (HWR.out _ ((Fr.refl None_ wq).drew)).mono ?_); rintro e w9 ⟨rfl, hR9, hS9⟩; have hst9 : Ram.Step p wq w9 := (Ram.Step.none_ HR8.out.lt ((Fr.refl None_ wq).drew)).trans hS9; have hg9 := cell_is (i := 0) (HQ7.out.blk hst9 HGB8.out) rfl; have HST9 := As.mk hst9; have HR9 := As.mk hR9; obtain ⟨bp9, bg9, vo9, f9, fg9, h9⟩ := HR9.out; obtain ⟨Ao, no, co, eo, _, hdo, _⟩ := h9.row.rd; have c7 := cell_is (i := 7) h9.blk rfl; rw [eo] at c7; have hno : ((no : Int) != g.c) = false := (by have h1 := hdo.out.1; rw [HWT.out.order] at h1; have h2 := HOLN.out; rw [bne_eq_false_iff_eq]; omega); clear hR9 hS9 hst9 eo hdo h9))
          all_goals
            go_wp2_with fail
            go_meet
            case rel => exact ⟨rfl, HR9, HST9⟩
        case rest =>
          obtain ⟨rfl, HR9, HT9⟩ := hcut
          clear g0
          rename World => wk
          clear HWR
          clear HK HSH HNW HMD HMS HR3 HF3 HO3 HG3 HQ3 HF4 HO4 HQ4 HG4 HR4 HF5 HO5 HQ5 HG5 HB5 HR5 HR6 HT6 HR7 HT7 HF7 HT57 HGB7 HLD HR8 HB1 HB2 HB3 HB4 HBX HF1 HF2 H6 HC HS
          revert x heads first w g seg row dm sp w1 w2 w3 p w4 w5 A c n vs l gb s1 bp bg vo f fg bp' bg' vo' f' fg' wq s3 wk wz wy
          repeat (rename_i z; revert z)
          repeat (rename Value => z; revert z)
          exact hT.out
set_option maxHeartbeats 16000000 in
set_option maxRecDepth 100000 in
theorem part2 : part1.1 := by
  unfold part1
  dsimp only
  unhygienic intros
  have HF9 := As.mk (step_new HF8.out.1 HF8.out.2 HT9.out)
  have HGB9 := As.mk (HQ7.out.blk HT9.out HGB8.out)
  have HC9 := As.mk (HC8.out.step HT9.out)
  have HS9 := As.mk (SPs.step HS8.out HT9.out)
  obtain ⟨bp9, bg9, vo9, f9, fg9, h9⟩ := HR9.out
  obtain ⟨Ao, no, co, eo, _, hdo, _⟩ := h9.row.rd
  have hno : (no : Int) = g.c := by have h1 := hdo.out.1; rw [HWT.out.order] at h1; have h2 := HOLN.out; omega
  obtain ⟨ao, eA, hkk⟩ := hdo.out.2.2 (by omega)
  subst eA
  rw [HWT.out.order] at hkk
  have HKK := As.mk hkk
  have H9 := As.mk h9
  have HEO := As.mk eo
  obtain ⟨al, ax, D0, nd0, cd0, hA, hax, _, le1, _, _, _, _, _, _, _, _, HH0⟩ := SPs.at_ HC9.out.1 HS9.out 0 (Int.le_refl _) (by have := HN.out; omega)
  subst hA
  have hax0 : al = ax := by rw [← hax]; rfl
  subst hax0
  have hep := HH0.out.epoch
  have HEP : As ((parHead l seg row).epoch = (l.getD (Int.toNat 0) noPage).1.epoch) := ⟨rfl⟩
  generalize (l.getD (Int.toNat 0) noPage).1.epoch = ep at *
  have HLE := As.mk le1
  have c7 := cell_is (i := 7) h9.blk rfl
  rw [eo] at c7
  have g0 := cell_is (i := 0) HGB9.out rfl
  have g1 := cell_is (i := 1) HGB9.out rfl
  have g2 := cell_is (i := 2) HGB9.out rfl
  have g3 := cell_is (i := 3) HGB9.out rfl
  have HMM := As.mk (fun w => R8.Members_calls g seg row w HOK.out HAT.out)
  have HPR := As.mk (fun w => R8.Parity_calls g seg row w HOK.out HAT.out)
  have HMP := As.mk (fun (wx : World) (hf : Fr None_ wk wx) => (H9.out.none_ hf).mp)
  unfold Geo.val at HMM HPR
  have ho0 : 0 ≤ sp → wk.cell? ao = some (.int .i64 sp) := fun hsp => by
    have h := hkk 0 (by omega)
    rw [order_first hsp (by omega)] at h
    exact h
  have hlt9 : p < wk.heap.size := HR9.out.lt
  clear eo hdo h9 hkk le1 HR9 HC8 HS8 HGB8
  go_upto_if 75 with fail
  go_cut [10] (fun v10 wx => v10 = .int .i64 (posOf sp 0) ∧ wk = wx)
  case first =>
    by_cases hsp : 0 ≤ sp
    · have ds : decide (0 ≤ sp) = true := decide_eq_true hsp
      have HP0 : As (posOf sp 0 = 1) := ⟨by unfold posOf; rw [if_pos hsp, if_pos hsp]; rfl⟩
      have hk0 := ho0 hsp
      clear ho0
      go_wp2_with fail
      go_meet
      case rel => exact ⟨by rw [HP0.out], rfl⟩
    · have ds : decide (0 ≤ sp) = false := decide_eq_false hsp
      have HP0 : As (posOf sp 0 = 0) := ⟨by unfold posOf; rw [if_neg hsp]⟩
      go_wp2_with fail
      go_meet
      case rel => exact ⟨by rw [HP0.out], rfl⟩
  case rest =>
    obtain ⟨rfl, hwk⟩ := hcut
    subst hwk
    go_wp2_with fail
    ((with_reducible refine (HMM.out _).mono ?_); rintro e w10 ⟨vm, rfl, hrow10, hf10⟩)
    obtain ⟨Am, nm, cm, em, _, hdm, _⟩ := hrow10.rd
    subst em
    have HDM := As.mk hdm.out
    have hnm : (nm : Int) = g.c - 1 := by rw [← membersOf_len HOK.out seg row, HDM.out.1]
    have HF10 := As.mk hf10
    clear hrow10 hdm hf10 c7 g0 g1 g2 g3 ho0
    go_wp2_with fail
    go_loopw [10, 12, 13, 14, 15] (fun v10 v12 v13 v14 v15 w' => ∃ k : Int, v12 = .int .i64 k ∧ v10 = .int .i64 (posOf sp k) ∧ 0 ≤ k ∧ k ≤ g.c ∧ As (Fr None_ w10 w')) (fun _ v12 _ _ _ _ => (g.c - intOf v12).toNat)
    case atStart => exact ⟨0, rfl, rfl, by omega, by omega, ⟨Fr.refl _ _⟩⟩
    case round =>
      obtain ⟨k, rfl, rfl, hk0, hk1, HFR⟩ := hrel
      have HF11 := As.mk (HF10.out.after HFR.out (fun _ _ h => h))
      have HGB11 := As.mk (HF11.out.heap HGB9.out (fun h => h))
      have g0 := cell_is (i := 0) HGB11.out rfl
      have g1 := cell_is (i := 1) HGB11.out rfl
      have g2 := cell_is (i := 2) HGB11.out rfl
      have g3 := cell_is (i := 3) HGB11.out rfl
      by_cases hlt : k < g.c
      · have H11 := As.mk (H9.out.none_ HF11.out)
        have c4 := cell_is (i := 4) H11.out.blk rfl
        have c7 := cell_is (i := 7) H11.out.blk rfl
        rw [HEO.out] at c7
        go_upto_if 96 with fail
        go_cut [10] (fun v10 wx => v10 = .int .i64 (posOf sp (k + 1)) ∧ wr = wx)
        case first =>
          by_cases e : k = sp
          · have hb : (k != sp) = false := by simp [e]
            have HP : As (posOf sp (k + 1) = posOf sp k) := ⟨posOf_same hk0 e⟩
            clear e
            go_wp2_with fail
            go_meet
            case rel => exact ⟨by rw [HP.out], rfl⟩
          · have hb : (k != sp) = true := by simp [e]
            have HP : As (posOf sp (k + 1) = posOf sp k + 1) := ⟨posOf_next e⟩
            have hpk : 0 ≤ posOf sp k ∧ posOf sp k < g.c := by unfold posOf; split; (split <;> omega); omega
            have hck := HF11.out.cell (HKK.out (posOf sp k).toNat (by omega)) (fun h => h)
            rw [order_at (by omega) hk0 hlt e] at hck
            generalize posOf sp k = pk at *
            obtain ⟨hpk0, hpk1⟩ := hpk
            clear e
            go_wp2_with fail
            go_meet
            case rel => exact ⟨by rw [HP.out], rfl⟩
        case rest =>
          obtain ⟨rfl, hwr⟩ := hcut
          subst hwr
          clear c7
          obtain ⟨Ap, np, cp, ep', hncp, hrdp, hirp, hlp, _⟩ := H11.out.pages k seg row
          have HEP' := As.mk ep'
          by_cases hd : k = dm
          · have hb : (k == dm) = true := by simp [hd]
            have hnp : np = 0 := by rw [← hrdp.1, HWT.out.dead k hk0 hlt hd]; rfl
            subst hnp
            clear ep' hd hirp hlp hrdp
            go_wp2_with (at_lookup; (with_reducible refine wp_look _ rfl _ _ 37 rfl 45 23 law3 Try.underlying37 (.slice none 0 0) (zeroB _) bp9 s3.cnt f9 rfl H11.out.mp (key3 k seg row) rfl (keyOf_3 ⟨by omega, by omega⟩ ⟨by omega, by omega⟩ ⟨by omega, by omega⟩) (.slice Ap 0 cp) HEP'.out ?_))
            exact ⟨⟨k + 1, rfl, rfl, by omega, by omega, HFR⟩, by simp [intOf]; omega⟩
          · have hb : (k == dm) = false := by simp [hd]
            have HPG := As.mk (HWT.out.pages k hk0 hlt hd)
            obtain ⟨hp1, hp2, h, hho⟩ := page_ok HOK.out HL.out HAT.out hk0 hlt (seg := seg) (row := row)
            have hp1' : (pageOf g l seg row k).1.length = 256 := by have := HGS.out; omega
            have hnp : np = 320 := by rw [← hrdp.1, HPG.out, List.length_append, hp1', hp2]
            have HHP : As (k = g.par seg row → h.kind = 5 ∧ h.epoch = ep ∧ h.index = row ∧ h.count = seg) := ⟨fun e => by
              rw [e, par_page, par_open HOK.out HL.out HAT.out] at hho
              injection hho with hho
              subst hho
              exact ⟨rfl, HEP.out, rfl, rfl⟩⟩
            subst hnp
            obtain ⟨ap, eap, _⟩ := hrdp.2.2 (by decide)
            subst eap
            have hcp : ¬ cp = 256 := by omega
            have hcpi : (256 : Int) ≤ cp := by omega
            have hcpj : (0 : Int) ≤ cp := by omega
            have hcpk : (320 : Int) ≤ cp := by omega
            have hdr := hrdp.drop 256 (by decide) hncp
            have htk := hrdp.take 256 (by decide)
            rw [if_neg hcp] at hdr
            change Rd .u8 wr (some ⟨ap.block, ap.off + 256, none⟩) 64 _ at hdr
            have hiD := inR_drop hirp 256
            have hiT := inR_take hirp 256
            rw [HPG.out, (page_take hp1').1] at htk hiT
            rw [HPG.out, (page_take hp1').2] at hdr hiD
            have hop := fun (w' : World) (hf : Fr None_ wr w') => Open_calls (some ⟨ap.block, ap.off + 256, none⟩) (some ap) 64 (cp - 256) 256 cp _ _ w' (hdr.none_ hf) (htk.none_ hf) hiD hiT (by omega) (by omega) (by decide) (by decide)
            rw [hho] at hop
            unfold Go.Proofs.Ytlhgbamajabnfaa.Ref5.rvals at hop
            have HOP := As.mk hop
            clear hop hdr htk hiD hiT hho hp1 hp2 hp1' hd hirp hlp ep'
            go_upto_region 32 with (at_lookup; (with_reducible refine wp_look _ rfl _ _ 37 rfl 45 23 law3 Try.underlying37 (.slice none 0 0) (zeroB _) bp9 s3.cnt f9 rfl H11.out.mp (key3 k seg row) rfl (keyOf_3 ⟨by omega, by omega⟩ ⟨by omega, by omega⟩ ⟨by omega, by omega⟩) (.slice (some ap) 320 cp) HEP'.out ?_))
            go_cut [14, 15] (fun v14 v15 wx => ∃ hb, v14 = .pointer (some ⟨hb, 0, none⟩) ∧ v15 = .bool true ∧ As (wx.heap[hb]? = some (.cells #[.int .i64 h.kind, .int .i64 h.epoch, .int .i64 h.batch, .int .i64 h.index, .int .i64 h.count, .int .i64 h.block, .int .i64 h.more] 47 (0, 0))) ∧ As (Fr None_ wr wx))
            case first =>
              go_region_held3 (fun w' => True) (exact True.intro) (first | ((with_reducible refine (HOP.out _ ?_).mono ?_); (focus repeat (first | exact Fr.refl _ _ | apply Fr.drew | apply Fr.drewN | apply Fr.alloc)); rintro e w12 ⟨rfl, hf12⟩; try (have hb9 := hf12.heap (heap_alloc_new _ _) (fun h => h); have r0 := cell_is (i := 0) hb9 rfl; have q0 := free_of (i := 0) hb9; have r1 := cell_is (i := 1) hb9 rfl; have q1 := free_of (i := 1) hb9; have r2 := cell_is (i := 2) hb9 rfl; have q2 := free_of (i := 2) hb9; have r3 := cell_is (i := 3) hb9 rfl; have q3 := free_of (i := 3) hb9; have r4 := cell_is (i := 4) hb9 rfl; have q4 := free_of (i := 4) hb9; have r5 := cell_is (i := 5) hb9 rfl; have q5 := free_of (i := 5) hb9; have r6 := cell_is (i := 6) hb9 rfl; have q6 := free_of (i := 6) hb9)))
              all_goals
                go_wp2_with fail
                go_meet
                case rel =>
                  refine ⟨_, rfl, rfl, ⟨?_⟩, ⟨?_⟩⟩
                  · first
                    | (with_reducible exact heap_alloc_new _ _)
                    | (with_reducible exact heap_set7 hb9 _ _ _ _ _ _ _)
                  · first
                    | ((with_reducible refine Fr.alloc ?_ _); exact (Fr.refl None_ wr).drew.after hf12 (fun _ _ h => h))
                    | ((with_reducible refine fr_set7 ?_ ?_ _ _ _ _ _ _ _); exact (((Fr.refl None_ wr).drew.alloc _).after hf12 (fun _ _ h => h)); exact (fun h => absurd h (Nat.lt_irrefl _)))
            case rest =>
              obtain ⟨hb, rfl, rfl, HHB, HF12⟩ := hcut
              have HG12 := As.mk (HF12.out.heap HGB11.out (fun h => h))
              clear g0 g1 g2 g3 c4
              have g0 := cell_is (i := 0) HG12.out rfl
              have g1 := cell_is (i := 1) HG12.out rfl
              have g2 := cell_is (i := 2) HG12.out rfl
              have g3 := cell_is (i := 3) HG12.out rfl
              by_cases e : k = g.par seg row
              · obtain ⟨e1, e2, e3, e4⟩ := HHP.out e
                have hb1 : (k == g.par seg row) = true := by simp [e]
                have hbb := HHB.out
                rw [e1, e2, e3, e4] at hbb
                have r0 := cell_is (i := 0) hbb rfl
                have r1 := cell_is (i := 1) hbb rfl
                have r3 := cell_is (i := 3) hbb rfl
                have r4 := cell_is (i := 4) hbb rfl
                have la := HF12.out.cell (HF11.out.cell HLE.out (fun h => h)) (fun h => h)
                have hn0 : (0 : Int) < (n : Int) := by have := HN.out; omega
                have hwep : IntKind.i64.wrap ep = ep := i64_in _ (by omega) (by omega)
                clear e hbb e1 e2 e3 e4
                generalize g.par seg row = par at *
                go_upto_region 33 with fail
                refine wp_region_class (C := fun w' => Fr None_ wc w') (by kernel_rfl) (by kernel_rfl) ((Fr.refl None_ wc).drew) ?_
                repeat (first
                  | go_big_quiet_skip
                  | (go_big_quiet_want; go_big_quiet_op; go_big_quiet_on)
                  | (go_big_quiet_want; go_big_quiet_op; apply Exists.intro; refine ⟨fun _ _ => rfl, ?_⟩; go_big_quiet_on)
                  | (go_big_quiet_want; refine ⟨.agg #[.int .i64 g.c, .int .i64 g.b, .int .i64 g.p, .int .i64 g.s], fun w hw => ?_, ?_⟩; (focus (have z0 := Fr.cell hw g0 (fun h => h); have z1 := Fr.cell hw g1 (fun h => h); have z2 := Fr.cell hw g2 (fun h => h); have z3 := Fr.cell hw g3 (fun h => h); go_simp; done)); (simp only [Act.put, List.setIfInBounds_toArray, List.set_cons_zero, List.set_cons_succ]); go_big_quiet_on)
                  | (go_big_quiet_want; refine ⟨.int .i64 5, fun w hw => ?_, ?_⟩; (focus (have z0 := Fr.cell hw r0 (fun h => h); go_simp; done)); (simp only [Act.put, List.setIfInBounds_toArray, List.set_cons_zero, List.set_cons_succ]); go_big_quiet_on)
                  | (go_big_quiet_want; refine ⟨.int .i64 ep, fun w hw => ?_, ?_⟩; (focus (have z0 := Fr.cell hw r1 (fun h => h); go_simp; done)); (simp only [Act.put, List.setIfInBounds_toArray, List.set_cons_zero, List.set_cons_succ]); go_big_quiet_on)
                  | (go_big_quiet_want; refine ⟨.int .u32 ep, fun w hw => ?_, ?_⟩; (focus (have z0 := Fr.cell hw la (fun h => h); go_simp; done)); (simp only [Act.put, List.setIfInBounds_toArray, List.set_cons_zero, List.set_cons_succ]); go_big_quiet_on)
                  | (go_big_quiet_want; refine ⟨.int .i64 row, fun w hw => ?_, ?_⟩; (focus (have z0 := Fr.cell hw r3 (fun h => h); go_simp; done)); (simp only [Act.put, List.setIfInBounds_toArray, List.set_cons_zero, List.set_cons_succ]); go_big_quiet_on)
                  | (go_big_quiet_want; refine ⟨.int .i64 seg, fun w hw => ?_, ?_⟩; (focus (have z0 := Fr.cell hw r4 (fun h => h); go_simp; done)); (simp only [Act.put, List.setIfInBounds_toArray, List.set_cons_zero, List.set_cons_succ]); go_big_quiet_on)
                  | (go_big_quiet_want; go_big_quiet_op; apply Exists.intro; refine ⟨fun _ => ?_, ?_⟩; (focus (intro hw; exact (HPR.out _).mono (fun e w' h => ⟨h.1, Fr.after hw h.2 (fun _ _ h => h)⟩))); go_big_quiet_on))
                refine wpQuiet_nil ?_
                intro w13 hf13
                go_wp2_with fail
                have hF13 : Fr None_ w10 w13 := (HFR.out.after HF12.out (fun _ _ h => h)).after hf13 (fun _ _ h => h)
                exact ⟨⟨k + 1, rfl, rfl, by omega, by omega, ⟨hF13⟩⟩, by simp [intOf]; omega⟩
              · have hb1 : (k == g.par seg row) = false := by simp [e]
                have hb2 : decide (k = g.par seg row) = false := decide_eq_false e
                generalize g.par seg row = par at *
                go_upto_region 33 with fail
                refine wp_region_class (C := fun w' => Fr None_ wc w') (by kernel_rfl) (by kernel_rfl) ((Fr.refl None_ wc).drew) ?_
                repeat (first
                  | go_big_quiet_skip
                  | (go_big_quiet_want; go_big_quiet_op; go_big_quiet_on)
                  | (go_big_quiet_want; go_big_quiet_op; apply Exists.intro; refine ⟨fun _ _ => rfl, ?_⟩; go_big_quiet_on)
                  | (go_big_quiet_want; refine ⟨.agg #[.int .i64 g.c, .int .i64 g.b, .int .i64 g.p, .int .i64 g.s], fun w hw => ?_, ?_⟩; (focus (have z0 := Fr.cell hw g0 (fun h => h); have z1 := Fr.cell hw g1 (fun h => h); have z2 := Fr.cell hw g2 (fun h => h); have z3 := Fr.cell hw g3 (fun h => h); go_simp; done)); (simp only [Act.put, List.setIfInBounds_toArray, List.set_cons_zero, List.set_cons_succ]); go_big_quiet_on)
                  | (go_big_quiet_want; go_big_quiet_op; apply Exists.intro; refine ⟨fun _ => ?_, ?_⟩; (focus (intro hw; exact (HPR.out _).mono (fun e w' h => ⟨h.1, Fr.after hw h.2 (fun _ _ h => h)⟩))); go_big_quiet_on))
                refine wpQuiet_nil ?_
                intro w13 hf13
                go_wp2_with fail
                have hF13 : Fr None_ w10 w13 := (HFR.out.after HF12.out (fun _ _ h => h)).after hf13 (fun _ _ h => h)
                exact ⟨⟨k + 1, rfl, rfl, by omega, by omega, ⟨hF13⟩⟩, by simp [intOf]; omega⟩
      · have dl : decide (k < g.c) = false := decide_eq_false hlt
        clear g1 g2 g3
        go_wp2_with fail
        go_loopw [16, 17] (fun v16 v17 w' => ∃ s : Int, v16 = .int .i64 s ∧ 0 ≤ s ∧ s ≤ (nm : Int) ∧ As (Fr None_ w10 w')) (fun v16 _ _ => nm - (intOf v16).toNat)
        case atStart => exact ⟨0, rfl, by omega, by omega, HFR⟩
        case round =>
          obtain ⟨s, rfl, hs0, hs1, HFS⟩ := hrel
          have HF13 := As.mk (HF10.out.after HFS.out (fun _ _ h => h))
          by_cases hlt2 : s < (nm : Int)
          · have H13 := As.mk (H9.out.none_ HF13.out)
            have c4 := cell_is (i := 4) H13.out.blk rfl
            have hnn := HN.out
            obtain ⟨am, eam, hms⟩ := HDM.out.at_ s hs0 hlt2
            subst eam
            rw [membersOf_get HOK.out seg row s hs0 (by omega)] at hms
            replace hms := HFS.out.cell hms (fun h => h)
            obtain ⟨m0, m1, m2⟩ := Go.Proofs.Ytlhgbamajabnfaa.SRead.mem_range HOK.out seg row s hs0 (by omega)
            obtain ⟨al', ax, D, nd, cd, hA, hax, lx0, lx1, lx2, lx3, lx4, lx5, lx6, lx7, HDD, _, _⟩ := SPs.at_ (HC9.out.none_ hlt9 HF13.out).1 (HS9.out.none_ hlt9 HF13.out) s hs0 (by omega)
            injection hA with hA
            subst hA
            have hsl : s.toNat < l.length := by have := HL.out.len; omega
            have HPE : As ((pageOf g l seg row (g.mem seg row s)).1 = (l.getD s.toNat noPage).2) := ⟨by
              obtain ⟨sl, h1, h2, h3⟩ := data_page HOK.out HL.out (seg := seg) (row := row) m0 m1 m2
              rw [slot_mem HOK.out seg row s hs0] at h2
              rw [h3]
              have : sl = s.toNat := by omega
              rw [this]⟩
            have hrg := (HL.out.data _ (getD_mem hsl noPage)).2
            have hp1 := (page_ok HOK.out HL.out HAT.out m0 m1 (seg := seg) (row := row)).1
            have hp2 := (page_ok HOK.out HL.out HAT.out m0 m1 (seg := seg) (row := row)).2.1
            generalize l.getD s.toNat noPage = q at *
            generalize g.mem seg row s = mm at *
            clear m2 hsl lx0 lx1 lx2 lx3 lx4 lx5 lx6
            obtain ⟨Ap, np, cp, ep', hncp, hrdp, hirp, hlp, _⟩ := H13.out.pages mm seg row
            obtain ⟨kl, hkl⟩ := keyOf_3 (m := mm) (b := seg) (q := row) ⟨by omega, by omega⟩ ⟨by omega, by omega⟩ ⟨by omega, by omega⟩
            have hlook := (H13.out.none_ (Fr.refl None_ wr).drew).mp.look law3 Try.underlying37 (zeroB _) hkl
            rw [ep'] at hlook
            have hlook2 : (Instr.lookup 37 (.map (some bp9)) (.agg #[.int .i64 mm, .int .i64 seg, .int .i64 row]) false).run Try.prog wr.drew = .ok (.slice Ap np cp) wr.drew := hlook
            clear hlook hkl ep' hlp
            by_cases hd : mm = dm
            · have hb : (mm != dm) = false := by simp [hd]
              clear hd hrdp hirp hrg
              go_upto_region 38 with fail
              go_still_tail 12, (by kernel_rfl)
              change wpList _ _ _ _ _ wr.drew
              go_upto_region 39 with fail
              clear hlook2 c4
              go_quiet (fail)
              go_wp2_with fail
              exact ⟨⟨s + 1, rfl, by omega, by omega, ⟨HFS.out.drewN _⟩⟩, by simp [intOf]; omega⟩
            · have hb : (mm != dm) = true := by simp [hd]
              have HPG := As.mk (HWT.out.pages mm m0 m1 hd)
              have hp1' : (pageOf g l seg row mm).1.length = 256 := by have := HGS.out; omega
              have hnp : np = 320 := by rw [← hrdp.1, HPG.out, List.length_append, hp1', hp2]
              subst hnp
              obtain ⟨ap, eap, _⟩ := hrdp.2.2 (by decide)
              subst eap
              have hcpi : (256 : Int) ≤ cp := by omega
              have hcpj : (0 : Int) ≤ cp := by omega
              have htk := hrdp.take 256 (by decide)
              rw [HPG.out, (page_take hp1').1, HPE.out] at htk
              have hsm := fun (w' : World) (hf : Fr None_ wr w') => Same_calls (some ap) D 256 cp nd cd q.2 q.2 w' (htk.none_ hf) (HDD.out.2.1.none_ hf) hrg hrg
              simp only [decide_true] at hsm
              have HSM := As.mk hsm
              clear hsm htk hp1' hp1 hp2 hd hrdp hirp hrg
              go_upto_region 38 with fail
              go_still_tail 12, (by kernel_rfl)
              change wpList _ _ _ _ _ wr.drew
              go_upto_region 39 with fail
              clear hlook2 c4
              go_region_held3 (fun w' => w'.cell? (am.add s.toNat) = some (.int .i64 mm) ∧ w'.cell? ⟨ax.block, ax.off + 7, none⟩ = some (.slice D nd cd)) (go_keep) (first | ((with_reducible refine (HSM.out _ ((Fr.refl None_ wr).drew.drew)).mono ?_); rintro e w14 ⟨rfl, rfl⟩))
              all_goals
                go_wp2_with fail
                exact ⟨⟨s + 1, rfl, by omega, by omega, ⟨(HFS.out.drew).drew⟩⟩, by simp [intOf]; omega⟩
          · have dl2 : decide (s < (nm : Int)) = false := decide_eq_false hlt2
            go_wp2_with fail
            go_ret
            exact ⟨rfl, HF9.out.1.after HF13.out (fun _ _ h => h)⟩
theorem writes_calls (x : Cs) (heads : List Head) (first : List Int) (w : World) (hH : Heads w x.HA x.hn heads) (hF : Rd .u8 w x.FA x.fn first) (hFr : InR 256 first) (hh10 : x.hn ≤ 10) :
    Calls Try.prog 3 #[.agg x.cells] w fun e w' => e = .returned (.bool true) ∧ Fr None_ w w' := part1.2 ⟨part2⟩ x heads first w hH hF hFr hh10
end Go.Proofs.Ytlhgbamajabnfaa.Writes

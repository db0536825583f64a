/- gabionlaw10.StripeMany: stripes that are written one behind the other are each whole, and even, and read as they were. -/
import Derived.Test.YtlhgbamajabnfaaEven
import Derived.StillTailTactics
namespace Go.Proofs.Ytlhgbamajabnfaa.Many
open Go.RowKit Go.Proofs.Ytlhgbamajabnfaa.Gab Go.Proofs.Ytlhgbamajabnfaa.Map Go.Proofs.Ytlhgbamajabnfaa.Geom Go.Proofs.Ytlhgbamajabnfaa.Ram Go.Proofs.Ytlhgbamajabnfaa.Par Go.Proofs.Ytlhgbamajabnfaa.Fields Go.Proofs.Ytlhgbamajabnfaa.Ord Go.Proofs.Ytlhgbamajabnfaa.Write Go.Proofs.Ytlhgbamajabnfaa.Stripe Go.Proofs.Ytlhgbamajabnfaa.Ref Go.Proofs.Ytlhgbamajabnfaa.Case Go.Proofs.Ytlhgbamajabnfaa.SRead Go.Proofs.Ytlhgbamajabnfaa.Again Go.Proofs.Ytlhgbamajabnfaa.Kept Go.Proofs.Ytlhgbamajabnfaa.SRow Go.Proofs.Ytlhgbamajabnfaa.Even
open Go.Proofs.Ytlhgbamajabnfaa.Wr (InR)
open Go.Proofs.Ytlhgbamajabnfaa.Str (pcells take_snoc add_next)
set_option linter.unusedVariables false
set_option linter.unusedSimpArgs false

/-! ### plain -/
/-- Members on which the first i stripes were written. -/
structure Lots (s : Ram.St) (g : Geo) (l : List (Head × List Int)) (i : Int) : Prop where
  geo : s.g = g
  first : s.first = -1
  gone : ∀ m, ¬ 0 < s.gone m
  cnt : (s.cnt : Int) ≤ 100 * i
  done : ∀ j, 0 ≤ j → j < i → ∀ m, 0 ≤ m → m < g.c → s.pages m (6 + j / 6) (j % 6) = (pageOf g l (6 + j / 6) (j % 6) m).1 ++ (pageOf g l (6 + j / 6) (j % 6) m).2
  todo : ∀ j, i ≤ j → j < 18 → ∀ m, 0 ≤ m → m < g.c → s.pages m (6 + j / 6) (j % 6) = []
theorem Lots.new (g : Geo) (l : List (Head × List Int)) : Lots (Ram.St.new g) g l 0 :=
  ⟨rfl, rfl, fun _ => by show ¬ (0 : Int) < 0; decide, by show ((0 : Nat) : Int) ≤ 100 * 0; decide, fun j h0 h1 => by omega, fun _ _ _ _ _ _ => rfl⟩
theorem Lots.step {s : Ram.St} {g : Geo} {l : List (Head × List Int)} {i : Int} (h : Lots s g l i) (hg : g.Ok) (h0 : 0 ≤ i) (h1 : i < 18) :
    Lots (s.progs (6 + i / 6) (i % 6) (fun m => (pageOf g l (6 + i / 6) (i % 6) m).1 ++ (pageOf g l (6 + i / 6) (i % 6) m).2) (orderOf (-1) g.c)) g l (i + 1) := by
  obtain ⟨a1, a2, a3, a4, a5⟩ := progs_gone (6 + i / 6) (i % 6) (fun m => (pageOf g l (6 + i / 6) (i % 6) m).1 ++ (pageOf g l (6 + i / 6) (i % 6) m).2) (orderOf (-1) g.c) s
  have hc := hg.c
  have ho : (orderOf (-1) g.c).length = g.c.toNat := order_len (fun h => by omega)
  refine ⟨by rw [a2]; exact h.geo, by rw [a3]; exact h.first, fun m => by rw [a1]; exact h.gone m, ?_, fun j j0 j1 m m0 m1 => ?_, fun j j0 j1 m m0 m1 => ?_⟩
  · have h2 := h.cnt
    rw [ho] at a5
    omega
  · rw [progs_pages]
    by_cases e : j = i
    · subst e
      rw [if_pos ⟨mem_order m0 m1, rfl, rfl, h.gone m⟩]
    · rw [if_neg (fun hh => e (by have h2 := hh.2.1; have h3 := hh.2.2.1; omega))]
      exact h.done j j0 (by omega) m m0 m1
  · rw [progs_pages, if_neg (fun hh => by have h2 := hh.2.1; have h3 := hh.2.2.1; omega)]
    exact h.todo j (by omega) j1 m m0 m1
theorem at_many {g : Geo} (hb : g.b = 20) (hp : g.p = 6) {j : Int} (h0 : 0 ≤ j) (h1 : j < 18) : g.At (6 + j / 6) (j % 6) := ⟨by omega, by omega⟩
theorem Lots.stands {s : Ram.St} {g : Geo} {l : List (Head × List Int)} {i : Int} (h : Lots s g l i) (hg : g.Ok) (hl : LOk g l) (hb : g.b = 20) (hp : g.p = 6) {j : Int} (h0 : 0 ≤ j) (h1 : j < i) (h2 : j < 18) : Stands s l (6 + j / 6) (j % 6) (-1) :=
  ⟨by rw [h.geo]; exact hg, by rw [h.geo]; exact at_many hb hp h0 h2, by rw [h.geo]; exact hl, fun m _ _ _ => h.gone m, fun m m0 m1 _ => by rw [h.geo] at m1 ⊢; exact h.done j h0 h1 m m0 m1⟩

/-- A region that only reads, whose callees leave what was there: one walk. -/
theorem wp_region_class {P : Program} {id : Nat} {Q : Exit → Act → World → Prop} {a : Act} {w : World} {l : List Oper} (C : World → Prop) (hm : P.follows .mixedOrders = true) (hB : Region.lexB .any l.toArray = true) (hC : C w.drew)
    (h : wpQuiet P l.toArray C (fun a' => ∀ w', C w' → Q .normal a' w') l a) : (Code.region id l.toArray true).wp P Q a w := wp_region_quiet hm hB hC (by simpa using h)

/-! ### the law's short way -/
set_option maxHeartbeats 4000000 in
set_option maxRecDepth 100000 in
theorem small_calls (x : Cs) (N : Int) (w : World) (h1 : 10 < x.hn) : Calls Try.prog 5 #[.agg x.cells, .int .i64 N] w fun e w' => e = .returned (.bool true) ∧ Fr None_ w w' := by
  have HK := As.mk (fun w => kept_calls w)
  unfold Cs.cells at *
  have HBX := As.mk (heap_alloc_new w (.cells #[.int .i64 x.chips, .int .i64 x.seg, .int .i64 x.row, .slice x.HA x.hn x.hc, .slice x.FA x.fn x.fc, .int .i64 x.dead, .int .i64 x.spoilt, .slice x.BA x.bn x.bc] 25))
  have d1 : decide ((10 : Int) < (x.hn : Int)) = true := decide_eq_true (by omega)
  go_enter Try.func5, Try.ntmps5
  go_wp2_with fail
  ((with_reducible refine (HK.out _).mono ?_); rintro e w1 ⟨rfl, hf1⟩)
  have HB1 := As.mk (hf1.heap HBX.out (fun h => h))
  have HF1 := As.mk (((Fr.refl None_ w).alloc _).after hf1 (fun _ _ h => h))
  have b3 := cell_is (i := 3) HB1.out rfl
  clear hf1
  go_wp2_with fail
  ((with_reducible refine (HK.out _).mono ?_); rintro e w2 ⟨rfl, hf2⟩)
  have HF2 := As.mk (HF1.out.after hf2 (fun _ _ h => h))
  go_wp2_with fail
  go_ret
  exact ⟨rfl, HF2.out⟩

/-! ### the law's way -/
set_option maxHeartbeats 16000000 in
set_option maxRecDepth 100000 in
theorem many_calls (x : Cs) (N : Int) (heads : List Head) (first : List Int) (w : World) (hH : Heads w x.HA x.hn heads) (hF : Rd .u8 w x.FA x.fn first) (hFr : InR 256 first) (hh10 : x.hn ≤ 10) :
    Calls Try.prog 5 #[.agg x.cells, .int .i64 N] w fun e w' => e = .returned (.bool true) ∧ Fr None_ w w' := by
  have HK := As.mk (fun w => kept_calls w)
  have HSH := As.mk (fun w => shape_calls x w)
  have hok := x.geo_ok
  have HNW := As.mk (fun w => New_calls x.geo w hok)
  have HPG := As.mk (fun (p : Nat) (s : Ram.St) (w' : World) (hR : RamE w' p s) (hf : Fr None_ w w') => pages_calls x p s heads first w' hR (hH.none_ hf) hh10 (hF.none_ hf) hFr)
  have hgs : x.geo.s = 256 := rfl
  have hgb : x.geo.b = 20 := rfl
  have hgp : x.geo.p = 6 := rfl
  have hc7 : x.geo.c ≤ 7 := by show 3 + u64of x.chips % 5 ≤ 7; omega
  have hc3 : 3 ≤ x.geo.c := by show 3 ≤ 3 + u64of x.chips % 5; omega
  have d1 : decide ((10 : Int) < (x.hn : Int)) = false := decide_eq_false (by omega)
  have u0 : IntKind.u64.wrap N = u64of N := IntKind.wrap_u64 _
  have u1 : 0 ≤ u64of N := by unfold u64of; omega
  have u2 : u64of N < 18446744073709551616 := by unfold u64of; omega
  have u3 : IntKind.u64.wrap (Int.tmod (u64of N) 18) = u64of N % 18 := by rw [Int.tmod_eq_emod_of_nonneg u1, IntKind.wrap_u64]; omega
  have u4 : IntKind.i64.wrap (u64of N % 18) = u64of N % 18 := i64_in _ (by omega) (by omega)
  unfold Geo.val at HSH HNW
  unfold Cs.cells at *
  generalize hge : x.geo = g at *
  generalize u64of N = u at *
  have HOK := As.mk hok
  have HGS := As.mk hgs
  have HGB := As.mk hgb
  have HGP := As.mk hgp
  have HBX := As.mk (heap_alloc_new w (.cells #[.int .i64 x.chips, .int .i64 x.seg, .int .i64 x.row, .slice x.HA x.hn x.hc, .slice x.FA x.fn x.fc, .int .i64 x.dead, .int .i64 x.spoilt, .slice x.BA x.bn x.bc] 25))
  clear hge hok hH hF hFr hgs hh10 hgb hgp
  go_enter Try.func5, Try.ntmps5
  go_wp2_with fail
  ((with_reducible refine (HK.out _).mono ?_); rintro e w1 ⟨rfl, hf1⟩)
  have HB1 := As.mk (hf1.heap HBX.out (fun h => h))
  have HF1 := As.mk (((Fr.refl None_ w).alloc _).after hf1 (fun _ _ h => h))
  have b0 := cell_is (i := 0) HB1.out rfl
  have b1 := cell_is (i := 1) HB1.out rfl
  have b2 := cell_is (i := 2) HB1.out rfl
  have b3 := cell_is (i := 3) HB1.out rfl
  have b4 := cell_is (i := 4) HB1.out rfl
  have b5 := cell_is (i := 5) HB1.out rfl
  have b6 := cell_is (i := 6) HB1.out rfl
  have b7 := cell_is (i := 7) HB1.out rfl
  clear hf1
  go_wp2_with fail
  ((with_reducible refine (HSH.out _).mono ?_); rintro e w2 ⟨rfl, hf2⟩)
  have HB2 := As.mk (hf2.heap HB1.out (fun h => h))
  have HF2 := As.mk (HF1.out.after hf2 (fun _ _ h => h))
  clear hf2 b0 b1 b2 b3 b4 b5 b6 b7
  go_wp2_with fail
  ((with_reducible refine (HNW.out _).mono ?_); rintro e w3 ⟨p, rfl, hR3, hf3, hn3⟩)
  have HB3 := As.mk (hf3.heap (at_old _ HB2.out) (fun h => h))
  have HR3 := As.mk hR3
  have HF3 := As.mk (show Fr None_ w w3 ∧ ∀ b, Foot w3 p b → w.heap.size ≤ b from ⟨(HF2.out.alloc _).after hf3 (fun _ _ h => h), fun b hb => Nat.le_trans (HF2.out.alloc _).size (hn3 b hb)⟩)
  clear hf3 hn3 hR3
  have b0 := cell_is (i := 0) HB3.out rfl
  have b1 := cell_is (i := 1) HB3.out rfl
  have b2 := cell_is (i := 2) HB3.out rfl
  have b3 := cell_is (i := 3) HB3.out rfl
  have b4 := cell_is (i := 4) HB3.out rfl
  have b5 := cell_is (i := 5) HB3.out rfl
  have b6 := cell_is (i := 6) HB3.out rfl
  have b7 := cell_is (i := 7) HB3.out rfl
  have hn18 : 0 ≤ u % 18 ∧ u % 18 < 18 := by omega
  obtain ⟨hn18a, hn18b⟩ := hn18
  go_wp2_with fail
  ((with_reducible refine (HPG.out p _ _ HR3.out HF3.out.1).mono ?_); rintro e w5 ⟨A, c, n, vs, l, rfl, hn, hC, hS, hl, hf5⟩)
  have HF5 := As.mk (step_new HF3.out.1 HF3.out.2 (Ram.Step.none_ HR3.out.lt hf5))
  have HN := As.mk hn
  have HC := As.mk hC
  have HS := As.mk hS
  have HL := As.mk hl
  have HR5 := As.mk (HR3.out.none_ hf5)
  have hp5 := HR5.out.lt
  clear b0 b1 b2 b3 b4 b5 b6 b7 hf5 hn hC hS hl HPG u0 u1 u2 u3 u4
  generalize u % 18 = k at *
  go_wp2_with fail
  go_loopw [8] (fun v8 w' => ∃ i : Int, v8 = .int .i64 i ∧ 0 ≤ i ∧ i ≤ k ∧ As (∃ s, RamE w' p s ∧ Lots s g l i) ∧ As (Ram.Step p w5 w')) (fun v8 _ => (k - intOf v8).toNat)
  case atStart => exact ⟨0, rfl, by omega, by omega, ⟨_, HR5.out, Lots.new g l⟩, ⟨Ram.Step.refl _ _⟩⟩
  case round =>
    obtain ⟨i, rfl, hi0, hi, HE, HT⟩ := hrel
    obtain ⟨s, hRs, hls⟩ := HE.out
    clear HE
    by_cases hlt : i < k
    · have hw := Write_calls p s (6 + i / 6) (i % 6) A n c vs l wr hRs (by rw [hls.geo]; exact at_many HGB.out HGP.out hi0 (by omega)) (by rw [hls.geo]; exact HN.out) (HC.out.step HT.out) (SPs.step HS.out HT.out) (fun q hq => by rw [hls.geo]; exact HL.out.data q hq) (by have := hls.cnt; omega)
      rw [hls.geo, hls.first, show errOf (goneIn s (orderOf (-1) g.c)) = 0 from by rw [show goneIn s (orderOf (-1) g.c) = 0 from goneIn_none _ _ (fun m _ => hls.gone m)]; rfl] at hw
      have HWL := As.mk (hls.step HOK.out hi0 (by omega))
      have HWR := As.mk hw
      clear hw hRs hls
      have q1 : IntKind.i64.wrap (Int.tdiv i 6) = i / 6 := by rw [Int.tdiv_eq_ediv_of_nonneg hi0]; exact i64_in _ (by omega) (by omega)
      have q2 : IntKind.i64.wrap (6 + i / 6) = 6 + i / 6 := i64_in _ (by omega) (by omega)
      have q3 : IntKind.i64.wrap (Int.tmod i 6) = i % 6 := by rw [Int.tmod_eq_emod_of_nonneg hi0]; exact i64_in _ (by omega) (by omega)
      unfold dev at HWR
      go_wp2_with fail
      ((with_reducible refine (HWR.out).mono ?_); rintro e w6 ⟨rfl, hR6, hS6⟩)
      have HR6 := As.mk hR6
      have HT6 := As.mk (HT.out.trans hS6)
      clear hR6 hS6
      go_wp2_with fail
      exact ⟨⟨i + 1, rfl, by omega, by omega, ⟨_, HR6.out, HWL.out⟩, HT6⟩, by simp [intOf]; omega⟩
    · obtain rfl : i = k := by omega
      clear hlt hi
      have HRS := As.mk hRs
      have HLS := As.mk hls
      have HCr := As.mk (HC.out.step HT.out)
      have HSr := As.mk (SPs.step HS.out HT.out)
      have HFr := As.mk (step_new HF5.out.1 HF5.out.2 HT.out)
      have hpr := hRs.lt
      clear hRs hls
      rename World => wl
      have HRW := As.mk (fun (j : Int) (h0 : 0 ≤ j) (h1 : j < i) (h2 : j < 18) (w' : World) (hf : Fr None_ wl w') => SRow.Row_whole p s (6 + j / 6) (j % 6) w' l (HRS.out.none_ hf) (by rw [HLS.out.geo]; exact at_many HGB.out HGP.out h0 h2) (HLS.out.stands HOK.out HL.out HGB.out HGP.out h0 h1 h2) (fun m _ _ => HLS.out.gone m))
      have HRB := As.mk (fun (j : Int) (h0 : 0 ≤ j) (h1 : i ≤ j) (h2 : j < 18) (w' : World) (hf : Fr None_ wl w') => SRow.Row_blank p s (6 + j / 6) (j % 6) w' (HRS.out.none_ hf) (by rw [HLS.out.geo]; exact at_many HGB.out HGP.out h0 h2) (fun m m0 m1 => HLS.out.todo j h1 h2 m m0 (by rw [← HLS.out.geo]; exact m1)) (fun m _ _ => HLS.out.gone m))
      have HEW := As.mk (fun (j : Int) (h0 : 0 ≤ j) (h1 : j < i) (h2 : j < 18) (w' : World) (hf : Fr None_ wl w') => Even.Even_whole p s (6 + j / 6) (j % 6) w' l (HRS.out.none_ hf) (by rw [HLS.out.geo]; exact at_many HGB.out HGP.out h0 h2) (HLS.out.stands HOK.out HL.out HGB.out HGP.out h0 h1 h2) (fun m _ _ => HLS.out.gone m))
      have HEB := As.mk (fun (j : Int) (h0 : 0 ≤ j) (h1 : i ≤ j) (h2 : j < 18) (w' : World) (hf : Fr None_ wl w') => Even.Even_blank p s (6 + j / 6) (j % 6) w' (HRS.out.none_ hf) (by rw [HLS.out.geo]; exact at_many HGB.out HGP.out h0 h2) (fun m m0 m1 => HLS.out.todo j h1 h2 m m0 (by rw [← HLS.out.geo]; exact m1)) (fun m _ _ => HLS.out.gone m))
      have HGO : As (s.g = g) := ⟨HLS.out.geo⟩
      unfold dev at HRW HRB HEW HEB
      go_wp2_with fail
      go_loopw [9, 10, 11, 12, 13, 14, 15] (fun v9 v10 v11 v12 v13 v14 v15 w' => ∃ j : Int, v9 = .int .i64 j ∧ 0 ≤ j ∧ j ≤ 18 ∧ As (Fr None_ wl w')) (fun v9 _ _ _ _ _ _ _ => (18 - intOf v9).toNat)
      case atStart => exact ⟨0, rfl, by omega, by omega, ⟨Fr.refl _ _⟩⟩
      case round =>
        obtain ⟨j, rfl, hj0, hj1, HJ⟩ := hrel
        by_cases hj18 : j < 18
        · have q1 : IntKind.i64.wrap (Int.tdiv j 6) = j / 6 := by rw [Int.tdiv_eq_ediv_of_nonneg hj0]; exact i64_in _ (by omega) (by omega)
          have q2 : IntKind.i64.wrap (6 + j / 6) = 6 + j / 6 := i64_in _ (by omega) (by omega)
          have q3 : IntKind.i64.wrap (Int.tmod j 6) = j % 6 := by rw [Int.tmod_eq_emod_of_nonneg hj0]; exact i64_in _ (by omega) (by omega)
          by_cases hji : j < i
          · have dj : decide (j < i) = true := decide_eq_true hji
            go_wp2_with fail
            ((with_reducible refine (HRW.out j hj0 hji hj18 _ HJ.out).mono ?_); rintro e w6 ⟨A6, c6, n6, vs6, rfl, hn6, hC6, hS6, hf6⟩)
            have HC6 := As.mk hC6
            have HS6 := As.mk hS6
            have HN6 := As.mk hn6
            have HF6 := As.mk (HJ.out.after hf6 (fun _ _ h => h))
            clear hC6 hS6 hf6 hn6
            go_wp2_with fail
            ((with_reducible refine (HEW.out j hj0 hji hj18 _ HF6.out).mono ?_); rintro e w7 ⟨rfl, hf7⟩)
            have HF7 := As.mk hf7
            have HF17 := As.mk (HF6.out.after hf7 (fun _ _ h => h))
            clear hf7
            have hn66 : (n6 : Int) = (n : Int) := by have h1 := HN6.out; have h2 := HN.out; rw [HGO.out] at h1; omega
            have hnn : (n : Int) = g.c - 1 := HN.out
            have hln : (l.length : Int) = n := by have h1 := HL.out.len; omega
            go_wp2_with fail
            go_loopw [15] (fun v15 w' => ∃ t : Int, v15 = .int .i64 t ∧ 0 ≤ t ∧ t ≤ (n6 : Int) ∧ As (Fr None_ w7 w')) (fun v15 _ => n6 - (intOf v15).toNat)
            case atStart => exact ⟨0, rfl, by omega, by omega, ⟨Fr.refl _ _⟩⟩
            case round =>
              obtain ⟨t, rfl, ht0, ht1, HT3⟩ := hrel
              by_cases htn : t < (n6 : Int)
              · have hF6w := HF7.out.after HT3.out (fun _ _ h => h)
                have hFlw := HF17.out.after HT3.out (fun _ _ h => h)
                have hp6 : p < w6.heap.size := Nat.lt_of_lt_of_le hpr HF6.out.size
                have htl : t.toNat < l.length := by omega
                obtain ⟨al, ay, D1, nd1, cd1, hA1, hay, m0, m1, m2, m3, m4, m5, m6, m7, HD1, _, _⟩ := SPs.at_ (HC6.out.none_ hF6w) (HS6.out.none_ hp6 hF6w) t ht0 htn
                obtain ⟨am, ax, D, nd, cd, hA2, hax, l0, l1, l2, l3, l4, l5, l6, l7, HDD, _, _⟩ := SPs.at_ (HCr.out.none_ hpr hFlw).1 (HSr.out.none_ hpr hFlw) t ht0 (by omega)
                have HRG : As (InR 256 (l.getD t.toNat noPage).2) := ⟨(HL.out.data _ (getD_mem htl _)).2⟩
                generalize l.getD t.toNat noPage = q at *
                subst hA1 hA2
                have HSM := As.mk (fun (w' : World) (hf : Fr None_ wr w') => same_calls q.1 D1 D nd1 cd1 nd cd q.2 w' (HD1.out.2.1.none_ hf) (HDD.out.2.1.none_ hf) HRG.out)
                unfold pcells at HSM
                have htn2 : t < (n : Int) := by omega
                clear htl hF6w hFlw
                go_upto_region 22 with fail
                have dt : decide ((n : Int) ≤ t) = false := decide_eq_false (by omega)
                have dt2 : ¬ ((n : Int) ≤ t) := by omega
                refine wp_region_class (C := fun w' => Fr None_ wr w') (by kernel_rfl) (by kernel_rfl) ((Fr.refl None_ wr).drew) ?_
                repeat (first
                  | go_big_quiet_skip
                  | (go_big_quiet_want; go_big_quiet_op; go_big_quiet_on)
                  | (go_big_quiet_want; refine ⟨.bool false, fun w hw => ?_, ?_⟩; (focus (go_simp; first | done | omega)); (simp only [Act.put, List.setIfInBounds_toArray, List.set_cons_zero, List.set_cons_succ]); go_big_quiet_on)
                  | (go_big_quiet_want; go_big_quiet_op; apply Exists.intro; refine ⟨fun _ _ => rfl, ?_⟩; go_big_quiet_on)
                  | (go_big_quiet_want; refine ⟨.agg #[.int .u8 q.1.kind, .int .u32 q.1.epoch, .int .u32 q.1.batch, .int .u16 q.1.index, .int .u16 q.1.count, .int .u32 q.1.block, .int .u32 q.1.more, .slice D1 nd1 cd1], fun w hw => ?_, ?_⟩; (focus (have z0 := Fr.cell hw m0 (fun h => h); have z1 := Fr.cell hw m1 (fun h => h); have z2 := Fr.cell hw m2 (fun h => h); have z3 := Fr.cell hw m3 (fun h => h); have z4 := Fr.cell hw m4 (fun h => h); have z5 := Fr.cell hw m5 (fun h => h); have z6 := Fr.cell hw m6 (fun h => h); have z7 := Fr.cell hw m7 (fun h => h); go_simp; done)); (simp only [Act.put, List.setIfInBounds_toArray, List.set_cons_zero, List.set_cons_succ]); go_big_quiet_on)
                  | (go_big_quiet_want; refine ⟨.agg #[.int .u8 q.1.kind, .int .u32 q.1.epoch, .int .u32 q.1.batch, .int .u16 q.1.index, .int .u16 q.1.count, .int .u32 q.1.block, .int .u32 q.1.more, .slice D nd cd], fun w hw => ?_, ?_⟩; (focus (have z0 := Fr.cell hw l0 (fun h => h); have z1 := Fr.cell hw l1 (fun h => h); have z2 := Fr.cell hw l2 (fun h => h); have z3 := Fr.cell hw l3 (fun h => h); have z4 := Fr.cell hw l4 (fun h => h); have z5 := Fr.cell hw l5 (fun h => h); have z6 := Fr.cell hw l6 (fun h => h); have z7 := Fr.cell hw l7 (fun h => h); go_simp; done)); (simp only [Act.put, List.setIfInBounds_toArray, List.set_cons_zero, List.set_cons_succ]); go_big_quiet_on)
                  | (go_big_quiet_want; go_big_quiet_op; apply Exists.intro; refine ⟨fun _ => ?_, ?_⟩; (focus (intro hw; exact (HSM.out _ hw).mono (fun e w' h => ⟨h.1, Fr.after hw h.2 (fun _ _ h => h)⟩))); go_big_quiet_on))
                refine wpQuiet_nil ?_
                intro w8 hf8
                go_wp2_with fail
                have hF8 : Fr None_ w7 w8 := HT3.out.after hf8 (fun _ _ h => h)
                exact ⟨⟨t + 1, rfl, by omega, by omega, ⟨hF8⟩⟩, by simp [intOf]; omega⟩
              · have dt : decide (t < (n6 : Int)) = false := decide_eq_false htn
                go_wp2_with fail
                exact ⟨⟨j + 1, rfl, by omega, by omega, ⟨HF17.out.after HT3.out (fun _ _ h => h)⟩⟩, by simp [intOf]; omega⟩
          · have dj : decide (j < i) = false := decide_eq_false hji
            have dj2 : decide (i ≤ j) = true := decide_eq_true (by omega)
            go_wp2_with fail
            ((with_reducible refine (HRB.out j hj0 (by omega) hj18 _ HJ.out).mono ?_); rintro e w6 ⟨rfl, hf6⟩)
            have HF6 := As.mk (HJ.out.after hf6 (fun _ _ h => h))
            clear hf6
            go_wp2_with fail
            ((with_reducible refine (HEB.out j hj0 (by omega) hj18 _ HF6.out).mono ?_); rintro e w7 ⟨rfl, hf7⟩)
            have HF7 := As.mk (HF6.out.after hf7 (fun _ _ h => h))
            clear hf7
            go_wp2_with fail
            go_loopw [15] (fun v15 w' => ∃ t : Int, v15 = .int .i64 t ∧ t = 0 ∧ As (Fr None_ wl w')) (fun v15 _ => 0)
            case atStart => exact ⟨0, rfl, rfl, HF7⟩
            case round =>
              obtain ⟨t, rfl, rfl, HT3⟩ := hrel
              go_wp2_with fail
              exact ⟨⟨j + 1, rfl, by omega, by omega, HT3⟩, by simp [intOf]; omega⟩
        · have dj : decide (j < 18) = false := decide_eq_false hj18
          go_wp2_with fail
          go_ret
          exact ⟨rfl, HFr.out.1.after HJ.out (fun _ _ h => h)⟩
end Go.Proofs.Ytlhgbamajabnfaa.Many

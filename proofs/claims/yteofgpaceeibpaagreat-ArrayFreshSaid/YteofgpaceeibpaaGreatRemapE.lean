/- remap: Decode's closure, where there are bytes enough. -/
import Derived.Test.YteofgpaceeibpaaGreatRemapD
import Derived.Test.YteofgpaceeibpaaGreatRdz
namespace Go.Proofs.YteofgpaceeibpaaGreat.RemapE
open Go.RowKit Go.Proofs.YteofgpaceeibpaaGreat.Gab Go.Proofs.YteofgpaceeibpaaGreat.Wr Go.Proofs.YteofgpaceeibpaaGreat.Rdr Go.Proofs.YteofgpaceeibpaaGreat.Rdz Go.Proofs.YteofgpaceeibpaaGreat.Geom Go.Proofs.YteofgpaceeibpaaGreat.RemapA Go.Proofs.YteofgpaceeibpaaGreat.RemapB Go.Proofs.YteofgpaceeibpaaGreat.RemapC Go.Proofs.YteofgpaceeibpaaGreat.RemapD
open Go.Proofs.YteofgpaceeibpaaGreat.Heap (cell_is heap_set)
open Go.Proofs.YteofgpaceeibpaaGreat.Step (step_appendRow)
set_option linter.unusedVariables false
set_option linter.unusedSimpArgs false

abbrev TT : TypeId := 135
/-- What the closure leaves. -/
def ByOk (w : World) (p tb zb : Nat) (A : Option Addr) (n c N M : Nat) (bs : List Int) (e : Ending) (w' : World) : Prop :=
  e = .returned (.tuple #[]) ∧ ∃ v1 v2 i, In TT w w' p tb zb A n c i #[.int .u32 (nb bs 0), v1, v2, .int .i64 (bt bs (6 + N + M)), .int .i64 (bt bs (7 + N + M))] ((bs.drop (8 + N + M)).all (· == 0)) ∧
    Row 3 .i64 w' w.heap.size v1 (bts bs 5 N) ∧ Row 3 .i64 w' w.heap.size v2 (bts bs (6 + N) M)

set_option maxHeartbeats 8000000 in
set_option maxRecDepth 100000 in
theorem by_ok (p tb zb : Nat) (A : Option Addr) (n c N M : Nat) (bs : List Int) (w : World) (h : In TT w w p tb zb A n c 0 #[.int .u32 0, .slice none 0 0, .slice none 0 0, .int .i64 0, .int .i64 0] false) (hA : Rd .u8 w A n bs) (hr : InR 256 bs) (hc : n ≤ c)
    (hS : ∀ ad, A = some ad → 0 < n → ¬ (ad.block = p ∨ ad.block = tb ∨ ad.block = zb)) (hN : bt bs 4 = N) (hM : bt bs (5 + N) = M) (hfit : 8 + N + M ≤ n) (hn : n ≤ 1000000) :
    Calls Tryz.prog 123 #[.pointer (some ⟨p, 0, none⟩), .pointer (some ⟨tb, 0, none⟩), .pointer (some ⟨zb, 0, none⟩)] w (ByOk w p tb zb A n c N M bs) := by
  have hSp : ∀ ad, A = some ad → 0 < n → ad.block ≠ p := fun ad e hp h => hS ad e hp (.inl h)
  have HU := As.mk (fun (i : Nat) (w' : World) (cs : Array Value) (h' : In TT w w' p tb zb A n c i cs false) (hk : (i : Int) + 1 ≤ (n : Int)) => U8_calls p A n c i bs w' h'.rd (h'.rdA hA hS) hSp hr (by omega) hk hc)
  change As (∀ (i : Nat) (w' : World) (cs : Array Value) (h' : In TT w w' p tb zb A n c i cs false) (hk : (i : Int) + 1 ≤ (n : Int)), Calls Tryz.prog 69 #[.pointer (some ⟨p, 0, none⟩)] w' fun e w'' => e = .returned (.int .u8 (bt bs i)) ∧ Rr w'' p A n c ((i : Int) + 1) ∧ Fr (fun b => b = p) w' w'') at HU
  have HU4 := As.mk (U32_calls p A n c 0 bs w h.rd hA hSp hr (by omega) (by omega) hc)
  change As (Calls Tryz.prog 68 #[.pointer (some ⟨p, 0, none⟩)] w fun e w'' => e = .returned (.int .u32 (nb bs 0)) ∧ Rr w'' p A n c (((4 : Nat) : Int)) ∧ Fr (fun b => b = p) w w'') at HU4
  have HZR := As.mk (fun (i : Nat) (w' : World) (cs : Array Value) (h' : In TT w w' p tb zb A n c i cs false) (hk : (i : Int) ≤ (n : Int)) => Zero_calls p A n c i bs w' h'.rd (h'.rdA hA hS) (by omega) hk hc)
  have hEU : ∀ args w, (callFunc 69 args).run Tryz.prog w = .ok (.enter 69 args) w := fun _ _ => rfl
  have H0 := As.mk h
  have hrN := bt_range bs 4
  have hrM := bt_range bs (5 + N)
  rw [hN] at hrN
  rw [hM] at hrM
  have hwN : IntKind.i64.wrap (N : Int) = N := i64_in _ (by omega) (by omega)
  have hwM : IntKind.i64.wrap (M : Int) = M := i64_in _ (by omega) (by omega)
  have HNM := As.mk (And.intro hN hM)
  clear h hA hS hSp hr hN hM
  go_enter Tryz.func123, Tryz.ntmps123
  go_wp2_with fail
  ((with_reducible refine (HU4.out).mono ?_); rintro e w1 ⟨rfl, hr1, hf1⟩)
  have H1 := As.mk (H0.out.read hr1 hf1)
  clear hr1 hf1
  have c0 := cell_is (i := 0) H1.out.pt rfl
  have f0 := free_of (i := 0) H1.out.pt
  have H2 := As.mk (H1.out.set 0 (.int .u32 (nb bs 0)))
  simp only [List.setIfInBounds_toArray, List.set_cons_zero, List.set_cons_succ] at H2
  go_upto_region 1 with fail
  generalize w1.setCell ⟨tb, 0, none⟩ (.int .u32 (nb bs 0)) = w2 at *
  clear c0 f0
  have HUN := As.mk (HU.out 4 w2 _ H2.out (by omega))
  rw [HNM.out.1] at HUN
  go_wp2_with fail
  ((with_reducible refine (HUN.out).mono ?_); rintro e w3 ⟨rfl, hr3, hf3⟩)
  have H3 := As.mk (H2.out.read (j := ((5 : Nat) : Int)) hr3 hf3)
  clear hr3 hf3 HUN
  go_wp2_with fail
  go_loopw [10] (fun vS w' => ∃ (j : Nat) (vM : Value), vS = .int .i64 (j : Int) ∧ j ≤ N ∧ As (In TT w w' p tb zb A n c ((5 + j : Nat) : Int) #[.int .u32 (nb bs 0), vM, .slice none 0 0, .int .i64 0, .int .i64 0] false) ∧ As (Row 3 .i64 w' w.heap.size vM (bts bs 5 j))) (fun vS _ => N - (intOf vS).toNat)
  case atStart => exact ⟨0, _, rfl, by omega, H3, ⟨Row.nil _ _ _ _⟩⟩
  case round =>
    obtain ⟨j, vM, rfl, hj, HI, HX⟩ := hrel
    obtain ⟨A1, n1, c1, e1, _, hd1, _⟩ := HX.out.rd
    subst e1
    have hn1 : j = n1 := by rw [← hd1.out.1, bts_len]
    subst hn1
    clear hd1
    by_cases hlt : j < N
    · have hltI : (j : Int) < (N : Int) := by omega
      have HUc := As.mk (HU.out (5 + j) wr.drew _ (HI.out.none_ (Fr.refl None_ wr).drew) (by omega))
      have k2 := cell_is (i := 1) HI.out.pt rfl
      change wr.cell? ⟨tb, 1, none⟩ = some (.slice A1 j c1) at k2
      have HSC := As.mk (bts_succ bs 5 j)
      have HLE := As.mk (bts_len bs 5 j)
      have hxr := bt_range bs (5 + j)
      generalize bt bs (5 + j) = x at *
      generalize bts bs 5 j = xs at *
      have hwx : IntKind.i64.wrap x = x := i64_in _ (by omega) (by omega)
      go_upto_region 3 with fail
      go_region_law (first
        | ((with_reducible refine step_callee rfl 69 _ _ rfl (.pointer (some ⟨p, 0, none⟩)) rfl hEU HUc.out (fun e w' h => ⟨_, h.1⟩) ?_); rintro v w1 ⟨hv, hr1, hf1⟩; injection hv with hv; subst hv; have H1 := As.mk ((HI.out.none_ (Fr.refl None_ wr).drew).read (j := ((5 + (j + 1) : Nat) : Int)) (by rw [show ((5 + (j + 1) : Nat) : Int) = ((5 + j : Nat) : Int) + 1 by omega]; exact hr1) hf1); have HX1 := As.mk (row_inread (HI.out.none_ (Fr.refl None_ wr).drew) (HX.out.none_ (Fr.refl None_ wr).drew) hf1); have hfa : Fr None_ w1 (w1.alloc (.cells #[.int .i64 x] 3)) := (Fr.refl None_ w1).alloc _; have H1a := As.mk (H1.out.none_ hfa); have HX1a := As.mk (HX1.out.none_ hfa); have HRx : As (Rd .i64 (w1.alloc (.cells #[.int .i64 x] 3)) (some ⟨w1.heap.size, 0, none⟩) 1 [x]) := ⟨rfl, by decide, fun _ => ⟨_, rfl, fun i hi => by have hi0 : i = 0 := (by omega); subst hi0; exact cell_is (i := 0) (heap_alloc_new w1 _) rfl⟩⟩; have k21 := cell_is (i := 1) H1.out.pt rfl; have k22 := cell_is (i := 1) H1a.out.pt rfl; change w1.cell? ⟨tb, 1, none⟩ = some (.slice A1 j c1) at k21; change (w1.alloc (.cells #[.int .i64 x] 3)).cell? ⟨tb, 1, none⟩ = some (.slice A1 j c1) at k22; have hzb : w.heap.size ≤ (w1.alloc (.cells #[.int .i64 x] 3)).heap.size := H1a.out.fr.size; clear hr1 hf1 hfa)
        | ((with_reducible refine step_appendRow w.heap.size rfl _ _ 38 3 .i64 8 rfl Tryz.underlying38 infoIn (by decide) (.slice A1 j c1) xs [x] (some ⟨w1.heap.size, 0, none⟩) 1 1 rfl rfl HX1a.out HRx.out hzb ?k1 ?_); (case k1 => rw [HLE.out]; omega); intro v9 w9 hrow9 hfr9 hat9; have H9 := As.mk (H1a.out.grow (Nat.le_refl _) HX1a.out hfr9); have HX9 := As.mk hrow9; have k29 := cell_is (i := 1) H9.out.pt rfl; have f29 := free_of (i := 1) H9.out.pt; change w9.cell? ⟨tb, 1, none⟩ = some (.slice A1 j c1) at k29; clear hrow9 hfr9 hat9; obtain ⟨A9, n9, c9, e9, _, _, _⟩ := HX9.out.rd; subst e9)
        | fail)
      all_goals
        go_wp2_with fail
        have hS9 := H9.out.set 1 (.slice A9 n9 c9)
        simp only [List.setIfInBounds_toArray, List.set_cons_zero, List.set_cons_succ] at hS9
        refine ⟨⟨j + 1, _, rfl, by omega, ⟨hS9⟩, ⟨?_⟩⟩, by simp [intOf]; omega⟩
        rw [HSC.out]
        exact row_inset H9.out HX9.out 1 _
    · have hltI : ¬ (j : Int) < (N : Int) := by omega
      obtain rfl : N = j := by omega
      clear hlt hj
      have HUM := As.mk (HU.out (5 + N) wr _ HI.out (by omega))
      rw [HNM.out.2] at HUM
      go_wp2_with fail
      ((with_reducible refine (HUM.out).mono ?_); rintro e wL ⟨rfl, hr3, hf3⟩)
      have HIL := As.mk (HI.out.read (j := ((6 + N : Nat) : Int)) (by rw [show ((6 + N : Nat) : Int) = ((5 + N : Nat) : Int) + 1 by omega]; exact hr3) hf3)
      have HXL := As.mk (row_inread HI.out HX.out hf3)
      clear hr3 hf3 HUM
      have hwL : w.heap.size ≤ wL.heap.size := HIL.out.fr.size
      have HML := As.mk (fun b (hb : (Value.slice A1 N c1).ownBlock = some b) => (HXL.out.blk b hb).2.1)
      rename Option Addr => AM
      rename Nat => cM
      clear HX HI
      go_wp2_with fail
      go_loopw [24] (fun vS w' => ∃ (j : Nat) (vM : Value), vS = .int .i64 (j : Int) ∧ j ≤ M ∧ As (In TT w w' p tb zb A n c ((6 + N + j : Nat) : Int) #[.int .u32 (nb bs 0), .slice AM N cM, vM, .int .i64 0, .int .i64 0] false) ∧ As (Row 3 .i64 w' wL.heap.size vM (bts bs (6 + N) j)) ∧ As (Row 3 .i64 w' w.heap.size (.slice AM N cM) (bts bs 5 N)) ∧ wL.heap.size ≤ w'.heap.size) (fun vS _ => M - (intOf vS).toNat)
      case atStart => exact ⟨0, _, rfl, by omega, HIL, ⟨Row.nil _ _ _ _⟩, HXL, Nat.le_refl _⟩
      case round =>
        obtain ⟨j, vM, rfl, hj, HI, HX, HXm, hzL⟩ := hrel
        obtain ⟨A1, n1, c1, e1, _, hd1, _⟩ := HX.out.rd
        subst e1
        have hn1 : j = n1 := by rw [← hd1.out.1, bts_len]
        subst hn1
        clear hd1
        by_cases hlt : j < M
        · have hltI : (j : Int) < (M : Int) := by omega
          have HUc := As.mk (HU.out (6 + N + j) wr.drew _ (HI.out.none_ (Fr.refl None_ wr).drew) (by omega))
          have k2 := cell_is (i := 2) HI.out.pt rfl
          change wr.cell? ⟨tb, 2, none⟩ = some (.slice A1 j c1) at k2
          have HSC := As.mk (bts_succ bs (6 + N) j)
          have HLE := As.mk (bts_len bs (6 + N) j)
          have hxr := bt_range bs (6 + N + j)
          generalize bt bs (6 + N + j) = x at *
          generalize bts bs (6 + N) j = xs at *
          have hwx : IntKind.i64.wrap x = x := i64_in _ (by omega) (by omega)
          go_upto_region 7 with fail
          go_region_law (first
            | ((with_reducible refine step_callee rfl 69 _ _ rfl (.pointer (some ⟨p, 0, none⟩)) rfl hEU HUc.out (fun e w' h => ⟨_, h.1⟩) ?_); rintro v w1 ⟨hv, hr1, hf1⟩; injection hv with hv; subst hv; have H1 := As.mk ((HI.out.none_ (Fr.refl None_ wr).drew).read (j := ((6 + N + (j + 1) : Nat) : Int)) (by rw [show ((6 + N + (j + 1) : Nat) : Int) = ((6 + N + j : Nat) : Int) + 1 by omega]; exact hr1) hf1); have HX1 := As.mk (row_inread (HI.out.none_ (Fr.refl None_ wr).drew) (HX.out.none_ (Fr.refl None_ wr).drew) hf1); have HM1 := As.mk (row_inread (HI.out.none_ (Fr.refl None_ wr).drew) (HXm.out.none_ (Fr.refl None_ wr).drew) hf1); have hfa : Fr None_ w1 (w1.alloc (.cells #[.int .i64 x] 3)) := (Fr.refl None_ w1).alloc _; have H1a := As.mk (H1.out.none_ hfa); have HX1a := As.mk (HX1.out.none_ hfa); have HM1a := As.mk (HM1.out.none_ hfa); have hzl : wr.heap.size ≤ w1.heap.size := hf1.size; have HRx : As (Rd .i64 (w1.alloc (.cells #[.int .i64 x] 3)) (some ⟨w1.heap.size, 0, none⟩) 1 [x]) := ⟨rfl, by decide, fun _ => ⟨_, rfl, fun i hi => by have hi0 : i = 0 := (by omega); subst hi0; exact cell_is (i := 0) (heap_alloc_new w1 _) rfl⟩⟩; have k21 := cell_is (i := 2) H1.out.pt rfl; have k22 := cell_is (i := 2) H1a.out.pt rfl; change w1.cell? ⟨tb, 2, none⟩ = some (.slice A1 j c1) at k21; change (w1.alloc (.cells #[.int .i64 x] 3)).cell? ⟨tb, 2, none⟩ = some (.slice A1 j c1) at k22; have hzb : wL.heap.size ≤ (w1.alloc (.cells #[.int .i64 x] 3)).heap.size := (by simp; omega); clear hr1 hf1 hfa)
            | ((with_reducible refine step_appendRow wL.heap.size rfl _ _ 38 3 .i64 8 rfl Tryz.underlying38 infoIn (by decide) (.slice A1 j c1) xs [x] (some ⟨w1.heap.size, 0, none⟩) 1 1 rfl rfl HX1a.out HRx.out hzb ?k1 ?_); (case k1 => rw [HLE.out]; omega); intro v9 w9 hrow9 hfr9 hat9; have H9 := As.mk (H1a.out.grow hwL HX1a.out hfr9); have HX9 := As.mk hrow9; have hfz9 := hfr9.size; have HM9 := As.mk (row_apart HM1a.out HML.out HX1a.out hfr9); have k29 := cell_is (i := 2) H9.out.pt rfl; have f29 := free_of (i := 2) H9.out.pt; change w9.cell? ⟨tb, 2, none⟩ = some (.slice A1 j c1) at k29; clear hrow9 hfr9 hat9; obtain ⟨A9, n9, c9, e9, _, _, _⟩ := HX9.out.rd; subst e9)
            | fail)
          all_goals
            go_wp2_with fail
            have hS9 := H9.out.set 2 (.slice A9 n9 c9)
            simp only [List.setIfInBounds_toArray, List.set_cons_zero, List.set_cons_succ] at hS9
            refine ⟨⟨j + 1, _, rfl, by omega, ⟨hS9⟩, ⟨?_⟩, ⟨row_inset H9.out HM9.out 2 _⟩, by have h1 := hfz9; simp only [World.size_alloc] at h1; simp [World.setCell]; omega⟩, by simp [intOf]; omega⟩
            rw [HSC.out]
            exact row_inset H9.out HX9.out 2 _
        · have hltI : ¬ (j : Int) < (M : Int) := by omega
          obtain rfl : M = j := by omega
          clear hlt hj
          have HU0 := As.mk (HU.out (6 + N + M) wr _ HI.out (by omega))
          have hx0 := bt_range bs (6 + N + M)
          have hx1 := bt_range bs (7 + N + M)
          have hw0 : IntKind.i64.wrap (bt bs (6 + N + M)) = bt bs (6 + N + M) := i64_in _ (by omega) (by omega)
          have hw1 : IntKind.i64.wrap (bt bs (7 + N + M)) = bt bs (7 + N + M) := i64_in _ (by omega) (by omega)
          go_wp2_with fail
          ((with_reducible refine (HU0.out).mono ?_); rintro e w5 ⟨rfl, hr5, hf5⟩)
          have H5 := As.mk (HI.out.read (j := ((7 + N + M : Nat) : Int)) (by rw [show ((7 + N + M : Nat) : Int) = ((6 + N + M : Nat) : Int) + 1 by omega]; exact hr5) hf5)
          have HX5 := As.mk (row_inread HI.out HX.out hf5)
          have HM5 := As.mk (row_inread HI.out HXm.out hf5)
          have HU1 := As.mk (HU.out (7 + N + M) w5 _ H5.out (by omega))
          clear hr5 hf5 HU0
          go_wp2_with fail
          ((with_reducible refine (HU1.out).mono ?_); rintro e w6 ⟨rfl, hr6, hf6⟩)
          have H6 := As.mk (H5.out.read (j := ((8 + N + M : Nat) : Int)) (by rw [show ((8 + N + M : Nat) : Int) = ((7 + N + M : Nat) : Int) + 1 by omega]; exact hr6) hf6)
          have HX6 := As.mk (row_inread H5.out HX5.out hf6)
          have HM6 := As.mk (row_inread H5.out HM5.out hf6)
          clear hr6 hf6 HU1
          have c3 := cell_is (i := 3) H6.out.pt rfl
          have f3 := free_of (i := 3) H6.out.pt
          have c4 := cell_is (i := 4) H6.out.pt rfl
          have f4 := free_of (i := 4) H6.out.pt
          have H7 := As.mk ((H6.out.set 3 (.int .i64 (bt bs (6 + N + M)))).set 4 (.int .i64 (bt bs (7 + N + M))))
          have HX7 := As.mk (row_inset (H6.out.set 3 (.int .i64 (bt bs (6 + N + M)))) (row_inset H6.out HX6.out 3 (.int .i64 (bt bs (6 + N + M)))) 4 (.int .i64 (bt bs (7 + N + M))))
          have HM7 := As.mk (row_inset (H6.out.set 3 (.int .i64 (bt bs (6 + N + M)))) (row_inset H6.out HM6.out 3 (.int .i64 (bt bs (6 + N + M)))) 4 (.int .i64 (bt bs (7 + N + M))))
          simp only [List.setIfInBounds_toArray, List.set_cons_zero, List.set_cons_succ] at H7
          go_upto_region 10 with fail
          generalize (w6.setCell ⟨tb, 3, none⟩ (.int .i64 (bt bs (6 + N + M)))).setCell ⟨tb, 4, none⟩ (.int .i64 (bt bs (7 + N + M))) = w7 at *
          clear c3 f3 c4 f4
          go_wp2_with fail
          ((with_reducible refine (HZR.out _ w7 _ H7.out (by omega)).mono ?_); rintro e w8 ⟨rfl, hf8⟩)
          have H8 := As.mk (H7.out.none_ hf8)
          have HX8 := As.mk (HX7.out.none_ hf8)
          have HM8 := As.mk (HM7.out.none_ hf8)
          clear hf8
          have z8 := cell_of H8.out.z
          have y8 := free_of (i := 0) H8.out.z
          rw [show Int.toNat ((8 + N + M : Nat) : Int) = 8 + N + M by omega]
          generalize hzz : (bs.drop (8 + N + M)).all (· == 0) = zz at *
          have HZZ := As.mk hzz
          clear hzz
          go_wp2_with fail
          go_end0
          refine ⟨rfl, .slice AM N cM, .slice A1 M c1, ((8 + N + M : Nat) : Int), ?_, ?_, ?_⟩
          · rw [HZZ.out]
            exact H8.out.setz zz
          · exact HM8.out.fr (S := fun b => b = zb) ((Fr.refl (fun b => b = zb) w8).setCell (p := ⟨zb, 0, none⟩) (fun _ => rfl) (.bool zz)) (fun b hb e => by subst e; exact Row.ne HM8.out H8.out.z (by decide) hb)
          · exact (HX8.out.lower hwL).fr (S := fun b => b = zb) ((Fr.refl (fun b => b = zb) w8).setCell (p := ⟨zb, 0, none⟩) (fun _ => rfl) (.bool zz)) (fun b hb e => by subst e; exact Row.ne HX8.out H8.out.z (by decide) hb)
end Go.Proofs.YteofgpaceeibpaaGreat.RemapE

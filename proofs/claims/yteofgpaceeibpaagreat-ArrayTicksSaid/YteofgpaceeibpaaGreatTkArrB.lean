/- member: Parse's closure, of a good set's bytes. | member: Parse, of a good set's page, or of one that is none. | array: an array in memory; Geo, Lost, Ahead, Set. | array: Set, in, gone, died. -/
import Derived.Test.YteofgpaceeibpaaGreatTkMemD
import Derived.Test.YteofgpaceeibpaaGreatTkRemapE
import Derived.Test.YteofgpaceeibpaaGreatTkOpen
import Derived.Test.YteofgpaceeibpaaGreatTkVolG
namespace Go.Proofs.YteofgpaceeibpaaGreat.MemE
open Go.RowKit Gab Wr Rdr Rdz Geom MemA MemB MemC
open Heap (cell_is heap_set)
open Step (step_appendRow)
set_option linter.unusedVariables false
set_option linter.unusedSimpArgs false

theorem in_keep {T : TypeId} {w w' : World} {p pb zb : Nat} {A : Option Addr} {n c : Nat} {i i2 : Int} {cs cs2 : Array Value} {z z2 : Bool} (h0 : In T w w p pb zb A n c i cs z) (h : In T w w' p pb zb A n c i2 cs2 z2) {b : Nat} {ds : Array Value} {T2 : TypeId} {fr : Nat × Nat} (hb : w.heap[b]? = some (.cells ds T2 fr)) (hT : T2 ≠ 196 ∧ T2 ≠ T ∧ T2 ≠ 4) : w'.heap[b]? = some (.cells ds T2 fr) := by
  refine h.fr.heap hb (fun e => ?_)
  have hr := h0.rd
  unfold Rr at hr
  rcases e with e | e | e
  · subst e; rw [hb] at hr; injection hr with hr; injection hr with _ hr; exact hT.1 hr
  · have := h0.pt; subst e; rw [hb] at this; injection this with this; injection this with _ this; exact hT.2.1 this
  · have := h0.z; subst e; rw [hb] at this; injection this with this; injection this with _ this; exact hT.2.2 this
/-- What the closure leaves. -/
def ByOk (w : World) (p tb zb : Nat) (A : Option Addr) (n c N : Nat) (bs : List Int) (e : Ending) (w' : World) : Prop :=
  e = .returned (.tuple #[]) ∧ ∃ v1 i, In ST w w' p tb zb A n c i #[.int .u32 (nb bs 0), v1, .int .i64 (bt bs (5 + N)), .int .i64 (bt bs (6 + N)), .int .i64 (bt bs (7 + N))] true ∧ Row 3 .i64 w' w.heap.size v1 (bts bs 5 N)

set_option maxHeartbeats 8000000 in
set_option maxRecDepth 100000 in
theorem by_ok (p tb zb gb hb0 : Nat) (A : Option Addr) (n c N : Nat) (bs : List Int) (g : Geo) (h : Fields.Head) (w : World) (h0 : In ST w w p tb zb A n c 0 zs false) (hA : Rd .u8 w A n bs) (hr : InR 256 bs) (hc : n ≤ c)
    (hG : w.heap[gb]? = some (.cells #[.int .i64 g.c, .int .i64 g.b, .int .i64 g.p, .int .i64 g.s] 24 (0, 0))) (hH : w.heap[hb0]? = some (.cells #[.int .u8 h.kind, .int .u32 h.epoch, .int .u32 h.batch, .int .u16 h.index, .int .u16 h.count, .int .u32 h.block, .int .u32 h.more] 112 (0, 0)))
    (hS : ∀ ad, A = some ad → 0 < n → ¬ (ad.block = p ∨ ad.block = tb ∨ ad.block = zb)) (hN : bt bs 4 = N) (hfit : 14 + N ≤ n) (hn : n ≤ 1000000) (e1 : hb bs (8 + N) = g.b) (e2 : hb bs (10 + N) = g.p) (e3 : hb bs (12 + N) = g.s) (e4 : (bs.drop (14 + N)).all (· == 0) = true) (e5 : nb bs 0 = h.epoch) :
    Calls Tryz.prog 67 #[.pointer (some ⟨p, 0, none⟩), .pointer (some ⟨tb, 0, none⟩), .pointer (some ⟨gb, 0, none⟩), .pointer (some ⟨hb0, 0, none⟩), .pointer (some ⟨zb, 0, none⟩)] w (ByOk w p tb zb A n c N bs) := by
  have hSp : ∀ ad, A = some ad → 0 < n → ad.block ≠ p := fun ad e hp h => hS ad e hp (.inl h)
  have HU := As.mk (fun (i : Nat) (w' : World) (cs : Array Value) (h' : In ST w w' p tb zb A n c i cs false) (hk : (i : Int) + 1 ≤ (n : Int)) => U8_calls p A n c i bs w' h'.rd (h'.rdA hA hS) hSp hr (by omega) hk hc)
  change As (∀ (i : Nat) (w' : World) (cs : Array Value) (h' : In ST w w' p tb zb A n c i cs false) (hk : (i : Int) + 1 ≤ (n : Int)), Calls Tryz.prog 69 #[.pointer (some ⟨p, 0, none⟩)] w' fun e w'' => e = .returned (.int .u8 (bt bs i)) ∧ Rr w'' p A n c ((i : Int) + 1) ∧ Fr (fun b => b = p) w' w'') at HU
  have HU4 := As.mk (U32_calls p A n c 0 bs w h0.rd hA hSp hr (by omega) (by omega) hc)
  change As (Calls Tryz.prog 68 #[.pointer (some ⟨p, 0, none⟩)] w fun e w'' => e = .returned (.int .u32 (nb bs 0)) ∧ Rr w'' p A n c (((4 : Nat) : Int)) ∧ Fr (fun b => b = p) w w'') at HU4
  have HZR := As.mk (fun (i : Nat) (w' : World) (cs : Array Value) (h' : In ST w w' p tb zb A n c i cs false) (hk : (i : Int) ≤ (n : Int)) => Zero_calls p A n c i bs w' h'.rd (h'.rdA hA hS) (by omega) hk hc)
  have hEU : ∀ args w, (callFunc 69 args).run Tryz.prog w = .ok (.enter 69 args) w := fun _ _ => rfl
  have H0 := As.mk h0
  have hrN := bt_range bs 4
  rw [hN] at hrN
  have hwN : IntKind.i64.wrap (N : Int) = N := i64_in _ (by omega) (by omega)
  have HU2 := As.mk (fun (i : Nat) (w' : World) (cs : Array Value) (h' : In ST w w' p tb zb A n c i cs false) (hk : (i : Int) + 2 ≤ (n : Int)) => U16_calls p A n c i bs w' h'.rd (h'.rdA hA hS) hSp hr (by omega) hk hc)
  change As (∀ (i : Nat) (w' : World) (cs : Array Value) (h' : In ST w w' p tb zb A n c i cs false) (hk : (i : Int) + 2 ≤ (n : Int)), Calls Tryz.prog 70 #[.pointer (some ⟨p, 0, none⟩)] w' fun e w'' => e = .returned (.int .u16 (hb bs i)) ∧ Rr w'' p A n c ((i : Int) + 2) ∧ Fr (fun b => b = p) w' w'') at HU2
  have HNM := As.mk hN
  have HGG := As.mk hG
  have HHH := As.mk hH
  have HEE := As.mk (And.intro e1 (And.intro e2 (And.intro e3 (And.intro e4 e5))))
  clear h0 hA hS hSp hr hN hG hH e1 e2 e3 e4 e5
  go_enter Tryz.func67, Tryz.ntmps67
  go_wp2_with fail
  ((with_reducible refine (HU4.out).mono ?_); rintro e w1 ⟨rfl, hr1, hf1⟩)
  have H1 := As.mk (H0.out.read hr1 hf1)
  clear hr1 hf1
  have c0 := cell_is (i := 0) H1.out.pt rfl
  have f0 := free_of (i := 0) H1.out.pt
  have H2 := As.mk (H1.out.set 0 (.int .u32 (nb bs 0)))
  simp only [List.setIfInBounds_toArray, List.set_cons_zero, List.set_cons_succ] at H2
  go_upto_region 1 with fail
  generalize w1.setCell ⟨tb, 0, none⟩ (.int .u32 (nb bs 0)) = w2 at *
  clear c0 f0
  have HUN := As.mk (HU.out 4 w2 _ H2.out (by omega))
  rw [HNM.out] at HUN
  go_wp2_with fail
  ((with_reducible refine (HUN.out).mono ?_); rintro e w3 ⟨rfl, hr3, hf3⟩)
  have H3 := As.mk (H2.out.read (j := ((5 : Nat) : Int)) hr3 hf3)
  clear hr3 hf3 HUN
  go_wp2_with fail
  go_loopw [12] (fun vS w' => ∃ (j : Nat) (vM : Value), vS = .int .i64 (j : Int) ∧ j ≤ N ∧ As (In ST w w' p tb zb A n c ((5 + j : Nat) : Int) #[.int .u32 (nb bs 0), vM, .int .i64 0, .int .i64 0, .int .i64 0] false) ∧ As (Row 3 .i64 w' w.heap.size vM (bts bs 5 j))) (fun vS _ => N - (intOf vS).toNat)
  case atStart => exact ⟨0, _, rfl, by omega, H3, ⟨Row.nil _ _ _ _⟩⟩
  case round =>
    obtain ⟨j, vM, rfl, hj, HI, HX⟩ := hrel
    obtain ⟨A1, n1, c1, e1, _, hd1, _⟩ := HX.out.rd
    subst e1
    have hn1 : j = n1 := by rw [← hd1.out.1, bts_len]
    subst hn1
    clear hd1
    by_cases hlt : j < N
    · have hltI : (j : Int) < (N : Int) := by omega
      have HUc := As.mk (HU.out (5 + j) wr.drew _ (HI.out.none_ (Fr.refl None_ wr).drew) (by omega))
      have k2 := cell_is (i := 1) HI.out.pt rfl
      change wr.cell? ⟨tb, 1, none⟩ = some (.slice A1 j c1) at k2
      have HSC := As.mk (bts_succ bs 5 j)
      have HLE := As.mk (bts_len bs 5 j)
      have hxr := bt_range bs (5 + j)
      generalize bt bs (5 + j) = x at *
      generalize bts bs 5 j = xs at *
      have hwx : IntKind.i64.wrap x = x := i64_in _ (by omega) (by omega)
      go_upto_region 3 with fail
      go_region_law (first
        | ((with_reducible refine step_callee rfl 69 _ _ rfl (.pointer (some ⟨p, 0, none⟩)) rfl hEU HUc.out (fun e w' h => ⟨_, h.1⟩) ?_); rintro v w1 ⟨hv, hr1, hf1⟩; injection hv with hv; subst hv; have H1 := As.mk ((HI.out.none_ (Fr.refl None_ wr).drew).read (j := ((5 + (j + 1) : Nat) : Int)) (by rw [show ((5 + (j + 1) : Nat) : Int) = ((5 + j : Nat) : Int) + 1 by omega]; exact hr1) hf1); have HX1 := As.mk (row_inread (HI.out.none_ (Fr.refl None_ wr).drew) (HX.out.none_ (Fr.refl None_ wr).drew) hf1); have hfa : Fr None_ w1 (w1.alloc (.cells #[.int .i64 x] 3)) := (Fr.refl None_ w1).alloc _; have H1a := As.mk (H1.out.none_ hfa); have HX1a := As.mk (HX1.out.none_ hfa); have HRx : As (Rd .i64 (w1.alloc (.cells #[.int .i64 x] 3)) (some ⟨w1.heap.size, 0, none⟩) 1 [x]) := ⟨rfl, by decide, fun _ => ⟨_, rfl, fun i hi => by have hi0 : i = 0 := (by omega); subst hi0; exact cell_is (i := 0) (heap_alloc_new w1 _) rfl⟩⟩; have k21 := cell_is (i := 1) H1.out.pt rfl; have k22 := cell_is (i := 1) H1a.out.pt rfl; change w1.cell? ⟨tb, 1, none⟩ = some (.slice A1 j c1) at k21; change (w1.alloc (.cells #[.int .i64 x] 3)).cell? ⟨tb, 1, none⟩ = some (.slice A1 j c1) at k22; have hzb : w.heap.size ≤ (w1.alloc (.cells #[.int .i64 x] 3)).heap.size := H1a.out.fr.size; clear hr1 hf1 hfa)
        | ((with_reducible refine step_appendRow w.heap.size rfl _ _ 38 3 .i64 8 rfl Tryz.underlying38 Rdz.infoIn (by decide) (.slice A1 j c1) xs [x] (some ⟨w1.heap.size, 0, none⟩) 1 1 rfl rfl HX1a.out HRx.out hzb ?k1 ?_); (case k1 => rw [HLE.out]; omega); intro v9 w9 hrow9 hfr9 hat9; have H9 := As.mk (H1a.out.grow (Nat.le_refl _) HX1a.out hfr9); have HX9 := As.mk hrow9; have k29 := cell_is (i := 1) H9.out.pt rfl; have f29 := free_of (i := 1) H9.out.pt; change w9.cell? ⟨tb, 1, none⟩ = some (.slice A1 j c1) at k29; clear hrow9 hfr9 hat9; obtain ⟨A9, n9, c9, e9, _, _, _⟩ := HX9.out.rd; subst e9)
        | fail)
      all_goals
        go_wp2_with fail
        have hS9 := H9.out.set 1 (.slice A9 n9 c9)
        simp only [List.setIfInBounds_toArray, List.set_cons_zero, List.set_cons_succ] at hS9
        refine ⟨⟨j + 1, _, rfl, by omega, ⟨hS9⟩, ⟨?_⟩⟩, by simp [intOf]; omega⟩
        rw [HSC.out]
        exact row_inset H9.out HX9.out 1 _
    · have hltI : ¬ (j : Int) < (N : Int) := by omega
      obtain rfl : N = j := by omega
      clear hlt hj
      have hx0 := bt_range bs (5 + N)
      have hx1 := bt_range bs (6 + N)
      have hx2 := bt_range bs (7 + N)
      have hw0 : IntKind.i64.wrap (bt bs (5 + N)) = bt bs (5 + N) := i64_in _ (by omega) (by omega)
      have hw1 : IntKind.i64.wrap (bt bs (6 + N)) = bt bs (6 + N) := i64_in _ (by omega) (by omega)
      have hw2 : IntKind.i64.wrap (bt bs (7 + N)) = bt bs (7 + N) := i64_in _ (by omega) (by omega)
      have HU0 := As.mk (HU.out (5 + N) wr _ HI.out (by omega))
      go_wp2_with fail
      ((with_reducible refine (HU0.out).mono ?_); rintro e w5 ⟨rfl, hr5, hf5⟩)
      have H5 := As.mk (HI.out.read (j := ((6 + N : Nat) : Int)) (by rw [show ((6 + N : Nat) : Int) = ((5 + N : Nat) : Int) + 1 by omega]; exact hr5) hf5)
      have HX5 := As.mk (row_inread HI.out HX.out hf5)
      have HU1 := As.mk (HU.out (6 + N) w5 _ H5.out (by omega))
      clear hr5 hf5 HU0
      go_wp2_with fail
      ((with_reducible refine (HU1.out).mono ?_); rintro e w6 ⟨rfl, hr6, hf6⟩)
      have H6 := As.mk (H5.out.read (j := ((7 + N : Nat) : Int)) (by rw [show ((7 + N : Nat) : Int) = ((6 + N : Nat) : Int) + 1 by omega]; exact hr6) hf6)
      have HX6 := As.mk (row_inread H5.out HX5.out hf6)
      have HUb := As.mk (HU.out (7 + N) w6 _ H6.out (by omega))
      clear hr6 hf6 HU1
      go_wp2_with fail
      ((with_reducible refine (HUb.out).mono ?_); rintro e w7 ⟨rfl, hr7, hf7⟩)
      have H7 := As.mk (H6.out.read (j := ((8 + N : Nat) : Int)) (by rw [show ((8 + N : Nat) : Int) = ((7 + N : Nat) : Int) + 1 by omega]; exact hr7) hf7)
      have HX7 := As.mk (row_inread H6.out HX6.out hf7)
      clear hr7 hf7 HUb
      have c2 := cell_is (v := .int .i64 0) (i := 2) H7.out.pt rfl
      have f2 := free_of (i := 2) H7.out.pt
      have c3 := cell_is (v := .int .i64 0) (i := 3) H7.out.pt rfl
      have f3 := free_of (i := 3) H7.out.pt
      have c4 := cell_is (v := .int .i64 0) (i := 4) H7.out.pt rfl
      have f4 := free_of (i := 4) H7.out.pt
      have h8 := ((H7.out.set 2 (.int .i64 (bt bs (5 + N)))).set 3 (.int .i64 (bt bs (6 + N)))).set 4 (.int .i64 (bt bs (7 + N)))
      have HX8 := As.mk (row_inset ((H7.out.set 2 (.int .i64 (bt bs (5 + N)))).set 3 (.int .i64 (bt bs (6 + N)))) (row_inset (H7.out.set 2 (.int .i64 (bt bs (5 + N)))) (row_inset H7.out HX7.out 2 (.int .i64 (bt bs (5 + N)))) 3 (.int .i64 (bt bs (6 + N)))) 4 (.int .i64 (bt bs (7 + N))))
      simp only [List.setIfInBounds_toArray, List.set_cons_zero, List.set_cons_succ] at h8
      have H8 := As.mk h8
      go_upto_region 6 with fail
      clear h8
      generalize ((w7.setCell ⟨tb, 2, none⟩ (.int .i64 (bt bs (5 + N)))).setCell ⟨tb, 3, none⟩ (.int .i64 (bt bs (6 + N)))).setCell ⟨tb, 4, none⟩ (.int .i64 (bt bs (7 + N))) = w8 at *
      clear c2 f2 c3 f3 c4 f4
      have HGH := As.mk (fun (w' : World) (i2 : Int) (cs2 : Array Value) (z2 : Bool) (hi : In ST w w' p tb zb A n c i2 cs2 z2) => And.intro (in_keep H0.out hi HGG.out ⟨by decide, by decide, by decide⟩) (in_keep H0.out hi HHH.out ⟨by decide, by decide, by decide⟩))
      have HKP := As.mk (fun (w' : World) (i2 : Int) (v1 : Value) (z2 : Bool) (hi : In ST w w' p tb zb A n c i2 #[.int .u32 (nb bs 0), v1, .int .i64 (bt bs (5 + N)), .int .i64 (bt bs (6 + N)), .int .i64 (bt bs (7 + N))] z2) =>
        (show w'.cell? ⟨gb, 1, none⟩ = some (.int .i64 g.b) ∧ w'.cell? ⟨gb, 2, none⟩ = some (.int .i64 g.p) ∧ w'.cell? ⟨gb, 3, none⟩ = some (.int .i64 g.s) ∧ w'.cell? ⟨tb, 0, none⟩ = some (.int .u32 (nb bs 0)) ∧ w'.cell? ⟨hb0, 1, none⟩ = some (.int .u32 h.epoch) from
          ⟨cell_is (HGH.out _ _ _ _ hi).1 rfl, cell_is (HGH.out _ _ _ _ hi).1 rfl, cell_is (HGH.out _ _ _ _ hi).1 rfl, cell_is hi.pt rfl, cell_is (HGH.out _ _ _ _ hi).2 rfl⟩))
      have h8d := H8.out.none_ (Fr.refl None_ w8).drew
      have KA := HKP.out _ _ _ _ h8d
      have HUa := As.mk (HU2.out (8 + N) w8.drew _ h8d (by omega))
      rw [HEE.out.1] at HUa
      have hq1 := HEE.out.1
      have hq2 := HEE.out.2.1
      have hq3 := HEE.out.2.2.1
      have hq4 := HEE.out.2.2.2.1
      have hq5 := HEE.out.2.2.2.2
      have hgr := hb_range bs (8 + N)
      have hpr := hb_range bs (10 + N)
      have hsr := hb_range bs (12 + N)
      rw [hq1] at hgr
      rw [hq2] at hpr
      rw [hq3] at hsr
      have hwg : IntKind.i64.wrap g.b = g.b := i64_in _ (by omega) (by omega)
      have hwp : IntKind.i64.wrap g.p = g.p := i64_in _ (by omega) (by omega)
      have hws : IntKind.i64.wrap g.s = g.s := i64_in _ (by omega) (by omega)
      have HQ := As.mk (And.intro hq2 (And.intro hq3 (And.intro hq4 hq5)))
      have heq : (nb bs 0 == h.epoch) = true := by rw [hq5]; simp
      have H8D := As.mk h8d
      have HX8D := As.mk (HX8.out.none_ (Fr.refl None_ w8).drew)
      clear hq1 hq2 hq3 hq4 hq5 hgr hpr hsr h8d
      go_region_held3 (fun w' => w'.cell? ⟨gb, 1, none⟩ = some (.int .i64 g.b) ∧ w'.cell? ⟨gb, 2, none⟩ = some (.int .i64 g.p) ∧ w'.cell? ⟨gb, 3, none⟩ = some (.int .i64 g.s) ∧ w'.cell? ⟨tb, 0, none⟩ = some (.int .u32 (nb bs 0)) ∧ w'.cell? ⟨hb0, 1, none⟩ = some (.int .u32 h.epoch)) (first | go_keep | exact KA | exact HKP.out _ _ _ _ HI9.out | exact HKP.out _ _ _ _ HI10.out | exact HKP.out _ _ _ _ HI11.out | exact HKP.out _ _ _ _ HI12.out | exact HKP.out _ _ _ _ (HI12.out.setz true)) (first
        | (go_at_call 70; (with_reducible refine (HUa.out).mono ?_); rintro e w9 ⟨rfl, hr9, hf9⟩; have HI9 := As.mk (H8D.out.read (j := ((10 + N : Nat) : Int)) (by rw [show ((10 + N : Nat) : Int) = ((8 + N : Nat) : Int) + 2 by omega]; exact hr9) hf9); have HX9 := As.mk (row_inread H8D.out HX8D.out hf9); have HUc := As.mk (HU2.out (10 + N) w9 _ HI9.out (by omega)); rw [HQ.out.1] at HUc; clear hr9 hf9)
        | (go_at_call 70; (with_reducible refine (HUc.out).mono ?_); rintro e w10 ⟨rfl, hr10, hf10⟩; have HI10 := As.mk (HI9.out.read (j := ((12 + N : Nat) : Int)) (by rw [show ((12 + N : Nat) : Int) = ((10 + N : Nat) : Int) + 2 by omega]; exact hr10) hf10); have HX10 := As.mk (row_inread HI9.out HX9.out hf10); have HUd := As.mk (HU2.out (12 + N) w10 _ HI10.out (by omega)); rw [HQ.out.2.1] at HUd; clear hr10 hf10)
        | (go_at_call 70; (with_reducible refine (HUd.out).mono ?_); rintro e w11 ⟨rfl, hr11, hf11⟩; have HI11 := As.mk (HI10.out.read (j := ((14 + N : Nat) : Int)) (by rw [show ((14 + N : Nat) : Int) = ((12 + N : Nat) : Int) + 2 by omega]; exact hr11) hf11); have HX11 := As.mk (row_inread HI10.out HX10.out hf11); have HUe := As.mk (HZR.out (14 + N) w11 _ HI11.out (by omega)); rw [show Int.toNat ((14 + N : Nat) : Int) = 14 + N by omega, HQ.out.2.2.1] at HUe; clear hr11 hf11)
        | (go_at_call 71; (with_reducible refine (HUe.out).mono ?_); rintro e w12 ⟨rfl, hf12⟩; have HI12 := As.mk (HI11.out.none_ hf12); have HX12 := As.mk (HX11.out.none_ hf12); have z12 := cell_of HI12.out.z; have y12 := free_of (i := 0) HI12.out.z; clear hf12)
        | fail)
      go_wp2_with fail
      go_end0
      refine ⟨rfl, .slice A1 N c1, ((14 + N : Nat) : Int), HI12.out.setz true, ?_⟩
      exact HX12.out.fr (S := fun b => b = zb) ((Fr.refl (fun b => b = zb) w12).setCell (p := ⟨zb, 0, none⟩) (fun _ => rfl) (.bool true)) (fun b hb e => by subst e; exact Row.ne HX12.out HI12.out.z (by decide) hb)
end Go.Proofs.YteofgpaceeibpaaGreat.MemE
namespace Go.Proofs.YteofgpaceeibpaaGreat.MemF
open Go.RowKit Gab Wr Rdr Rdz Geom Fields Go.Proofs.YteofgpaceeibpaaGreat.Open MemA MemB MemC MemE
open Heap (cell_is heap_set)
open RemapF (set5 behind)
set_option linter.unusedVariables false
set_option linter.unusedSimpArgs false

/-- Bytes that are a set. -/
structure SDec (bs : List Int) (m : MS) (g : Geo) : Prop where
  n : bt bs 4 = (m.chips.length : Int)
  len : 14 + m.chips.length ≤ bs.length
  seq : nb bs 0 = m.seq
  chips : bts bs 5 m.chips.length = m.chips
  spare : bt bs (5 + m.chips.length) = m.spare
  dead : bt bs (6 + m.chips.length) = m.dead
  done : bt bs (7 + m.chips.length) = m.done
  b : hb bs (8 + m.chips.length) = g.b
  p : hb bs (10 + m.chips.length) = g.p
  s : hb bs (12 + m.chips.length) = g.s
  zero : (bs.drop (14 + m.chips.length)).all (· == 0) = true
def isMem (d o : List Int) : Bool := (openOf d o).2 && decide ((openOf d o).1.kind = 2)
/-- What a page is: a good set, or none. -/
def SetIs (g : Geo) (d o : List Int) : Option MS → Prop
  | none => isMem d o = false
  | some m => openOf d o = (m.hd, true) ∧ SDec d m g ∧ m.Ok g
def ParsePost (x : Option MS) (w : World) (e : Ending) (w' : World) : Prop := Fr None_ w w' ∧ match x with
  | none => e = .returned (.tuple #[.agg zs, .int .i64 63])
  | some m => ∃ v, e = .returned (.tuple #[v, .int .i64 0]) ∧ MSR w' w.heap.size v m
/-- The closure's memory, ahead of it. -/
theorem ahead (w : World) (hd : Array Value) (A : Option Addr) (n c : Nat) (w3 : World) (hw3 : w3 = ((w.alloc (.cells hd 112)).alloc (.cells zs ST)).alloc (.cells #[.bool false] 4)) :
    In ST ((w3.alloc (.cells #[.int .i64 0] 27)).alloc (.cells #[.slice A n c, .int .i64 0] 196)) ((w3.alloc (.cells #[.int .i64 0] 27)).alloc (.cells #[.slice A n c, .int .i64 0] 196)) (w3.heap.size + 1) (w.heap.size + 1) (w.heap.size + 1 + 1) A n c 0 zs false ∧
    w3.heap.size = w.heap.size + 3 ∧ Fr None_ w w3 ∧ w3.heap[w.heap.size]? = some (.cells hd 112 (0, 0)) := by
  have s1 : (w.alloc (.cells hd 112)).heap.size = w.heap.size + 1 := size_new _ rfl
  have s2 := size_new (.cells zs ST) s1
  have s3 := size_new (.cells #[.bool false] 4) s2
  have hg := at_old (.cells #[.bool false] 4) (at_old (.cells zs ST) (heap_alloc_new w (.cells hd 112)))
  have h1 := at_old (.cells #[.bool false] 4) (at_new (.cells zs ST) s1)
  have h2 := at_new (.cells #[.bool false] 4) s2
  rw [← hw3] at s3 hg h1 h2
  refine ⟨⟨Fr.refl _ _, ?_, at_old _ (at_old _ h1), at_old _ (at_old _ h2), ⟨by decide, by decide, by decide⟩⟩, s3, ?_, hg⟩
  · exact at_new _ (size_new _ rfl)
  · rw [hw3]
    exact (((Fr.refl None_ w).alloc _).alloc _).alloc _

end Go.Proofs.YteofgpaceeibpaaGreat.MemF
namespace Go.Proofs.YteofgpaceeibpaaGreat.ArrA
open Go.RowKit Gab Wr Geom Ref Nand NandA NandB NandC NandD NandE NandH RemapA RemapB VolA VolD VolE VolF MemA MemC
open Heap (cell_is heap_set fr_set1)
open RemapF (set5)
set_option linter.unusedVariables false
set_option linter.unusedSimpArgs false

/-- An array. -/
structure Ar where
  s : St
  vol : Nat → Option Tab
  set : MS
  lost : Bool
def Ar.g (σ : Ar) : Geo := σ.s.g
/-- The chip of a member. -/
def Ar.chip (σ : Ar) (m : Nat) : Nat := (σ.set.chips.getD m 0).toNat
/-- A good array. -/
structure Ar.Ok (σ : Ar) : Prop where
  set : σ.set.Ok σ.s.g
  more : ∀ c t, c < σ.s.n → σ.vol c = some t → t.Ok σ.s.g
/-- Members that are not dead are there. -/
def Ar.There (σ : Ar) : Prop := σ.lost = false → ∀ m : Nat, (m : Int) < σ.s.g.c → (m : Int) ≠ σ.set.dead → ∃ t, σ.vol (σ.chip m) = some t
/-- Where it lies. -/
structure ALay where
  L : Lay
  p : Nat
  x : Nat
  V : Nat
  cb : Nat
  cc : Nat
  v : Nat → VLay
abbrev AT : TypeId := 94
abbrev PV : TypeId := 95
def vptr (σ : Ar) (K : ALay) (c : Nat) : Value := match σ.vol c with
  | none => .pointer none
  | some _ => .pointer (some ⟨(K.v c).vb, 0, none⟩)
/-- A volume's lists do not lie there. -/
def VOff (v : VLay) (b : Nat) : Prop := (∀ ad, v.A1 = some ad → ad.block ≠ b) ∧ (∀ ad, v.A2 = some ad → ad.block ≠ b)
def acells (σ : Ar) (K : ALay) : Array Value := #[.pointer (some ⟨K.p, 0, none⟩), .int .i64 σ.s.g.c, .int .i64 σ.s.g.b, .int .i64 σ.s.g.p, .int .i64 σ.s.g.s, .slice (some ⟨K.V, 0, none⟩) σ.s.n σ.s.n, .int .u32 σ.set.seq, .slice (some ⟨K.cb, 0, none⟩) σ.s.g.c.toNat K.cc, .int .i64 σ.set.spare, .int .i64 σ.set.dead, .int .i64 σ.set.done, .bool σ.lost]
/-- An array in memory. -/
structure ArAt (w : World) (σ : Ar) (K : ALay) : Prop where
  nand : Nand w K.p σ.s K.L
  main : w.heap[K.x]? = some (.cells (acells σ K) AT (0, 0))
  ccn : σ.s.g.c.toNat ≤ K.cc
  vols : ∃ cs, w.heap[K.V]? = some (.cells cs PV (0, 0)) ∧ ∀ c, c < σ.s.n → cs[c]? = some (vptr σ K c)
  vol : ∀ c t, c < σ.s.n → σ.vol c = some t → VolAt w K.p c σ.s.g t (K.v c) ∧ VOff (K.v c) K.cb
  chips : ∃ cs, w.heap[K.cb]? = some (.cells cs 3 (0, 0)) ∧ ∀ j, j < σ.s.g.c.toNat → cs[j]? = some (.int .i64 (σ.set.chips.getD j 0))
  ok : σ.Ok
/-- The blocks that an operation may write. -/
def AF (K : ALay) (σ : Ar) (b : Nat) : Prop := NF K.p K.L σ.s.n σ.s.nb b ∨ b = K.x ∨ b = K.V
theorem ArAt.none_ {w w' : World} {σ : Ar} {K : ALay} (h : ArAt w σ K) (hf : Fr None_ w w') : ArAt w' σ K :=
  ⟨h.nand.none_ hf, hf.heap h.main (fun h => h), h.ccn, by obtain ⟨cs, e, hc⟩ := h.vols; exact ⟨cs, hf.heap e (fun h => h), hc⟩, fun c t hc e => ⟨(h.vol c t hc e).1.none_ hf, (h.vol c t hc e).2⟩, by obtain ⟨cs, e, hc⟩ := h.chips; exact ⟨cs, hf.heap e (fun h => h), hc⟩, h.ok⟩
/-- The chips have turned, nothing else. -/
theorem ArAt.turn {w w' : World} {σ : Ar} {K : ALay} (h : ArAt w σ K) {s' : St} (hN : Nand w' K.p s' K.L) (hg : s'.g = σ.s.g) (hf : Fr (NF K.p K.L σ.s.n σ.s.nb) w w') : ArAt w' { σ with s := s' } K := by
  have hn : s'.n = σ.s.n := (n_same hg).1
  refine ⟨hN, ?_, ?_, ?_, ?_, ?_, ?_⟩
  · show w'.heap[K.x]? = some (.cells #[.pointer (some ⟨K.p, 0, none⟩), .int .i64 s'.g.c, .int .i64 s'.g.b, .int .i64 s'.g.p, .int .i64 s'.g.s, .slice (some ⟨K.V, 0, none⟩) s'.n s'.n, .int .u32 σ.set.seq, .slice (some ⟨K.cb, 0, none⟩) s'.g.c.toNat K.cc, .int .i64 σ.set.spare, .int .i64 σ.set.dead, .int .i64 σ.set.done, .bool σ.lost] AT (0, 0))
    rw [hg, hn]
    exact hf.heap h.main (h.nand.ne h.main ⟨by decide, by decide, by decide, by decide, by decide⟩)
  · show s'.g.c.toNat ≤ K.cc
    rw [hg]
    exact h.ccn
  · obtain ⟨cs, e, hc⟩ := h.vols
    refine ⟨cs, hf.heap e (h.nand.ne e ⟨by decide, by decide, by decide, by decide, by decide⟩), fun c hcn => ?_⟩
    exact hc c (by rw [← hn]; exact hcn)
  · intro c t hc e
    have h1 := h.vol c t (by rw [← hn]; exact hc) e
    refine ⟨?_, h1.2⟩
    show VolAt w' K.p c s'.g t (K.v c)
    rw [hg]
    exact h1.1.nf h.nand hf
  · obtain ⟨cs, e, hc⟩ := h.chips
    refine ⟨cs, hf.heap e (h.nand.ne e ⟨by decide, by decide, by decide, by decide, by decide⟩), fun j hj => ?_⟩
    exact hc j (by rw [← hg]; exact hj)
  · exact ⟨by show σ.set.Ok s'.g; rw [hg]; exact h.ok.set, fun c t hc e => by show t.Ok s'.g; rw [hg]; exact h.ok.more c t (by rw [← hn]; exact hc) e⟩
/-- Its cells. -/
def ACs (w : World) (σ : Ar) (K : ALay) : Prop :=
  w.cell? ⟨K.x, 0, none⟩ = some (.pointer (some ⟨K.p, 0, none⟩)) ∧ w.cell? ⟨K.x, 1, none⟩ = some (.int .i64 σ.s.g.c) ∧ w.cell? ⟨K.x, 2, none⟩ = some (.int .i64 σ.s.g.b) ∧ w.cell? ⟨K.x, 3, none⟩ = some (.int .i64 σ.s.g.p) ∧ w.cell? ⟨K.x, 4, none⟩ = some (.int .i64 σ.s.g.s) ∧ w.cell? ⟨K.x, 5, none⟩ = some (.slice (some ⟨K.V, 0, none⟩) σ.s.n σ.s.n) ∧
  w.cell? ⟨K.x, 6, none⟩ = some (.int .u32 σ.set.seq) ∧ w.cell? ⟨K.x, 7, none⟩ = some (.slice (some ⟨K.cb, 0, none⟩) σ.s.g.c.toNat K.cc) ∧ w.cell? ⟨K.x, 8, none⟩ = some (.int .i64 σ.set.spare) ∧ w.cell? ⟨K.x, 9, none⟩ = some (.int .i64 σ.set.dead) ∧ w.cell? ⟨K.x, 10, none⟩ = some (.int .i64 σ.set.done) ∧ w.cell? ⟨K.x, 11, none⟩ = some (.bool σ.lost)
theorem ArAt.cs {w : World} {σ : Ar} {K : ALay} (h : ArAt w σ K) : ACs w σ K := by
  have hm := h.main
  unfold acells at hm
  exact ⟨cell_is hm rfl, cell_is hm rfl, cell_is hm rfl, cell_is hm rfl, cell_is hm rfl, cell_is hm rfl, cell_is hm rfl, cell_is hm rfl, cell_is hm rfl, cell_is hm rfl, cell_is hm rfl, cell_is hm rfl⟩
/-- The chips as they are read. -/
theorem ArAt.rd {w : World} {σ : Ar} {K : ALay} (h : ArAt w σ K) : Rd .i64 w (some ⟨K.cb, 0, none⟩) σ.s.g.c.toNat σ.set.chips := by
  obtain ⟨cs, e, hc⟩ := h.chips
  have hl := h.ok.set.len
  have hg := h.nand.ok.c
  refine ⟨by omega, by omega, fun _ => ⟨_, rfl, fun j hj => ?_⟩⟩
  rw [add_at]
  exact cell_is e (hc j hj)
theorem ArAt.chipc {w : World} {σ : Ar} {K : ALay} (h : ArAt w σ K) {m : Nat} (hm : (m : Int) < σ.s.g.c) : w.cell? ⟨K.cb, m, none⟩ = some (.int .i64 (σ.chip m : Int)) ∧ σ.chip m < σ.s.n ∧ σ.set.chips.getD m 0 = (σ.chip m : Int) := by
  obtain ⟨cs, e, hc⟩ := h.chips
  have hl := h.ok.set.len
  have hr := h.ok.set.inr (σ.set.chips.getD m 0) (by
    unfold MS.all
    rw [List.getD_eq_getElem?_getD, List.getElem?_eq_getElem (by omega)]
    simp)
  have h1 : σ.set.chips.getD m 0 = (σ.chip m : Int) := by unfold Ar.chip; omega
  refine ⟨?_, ?_, h1⟩
  · rw [← h1]
    exact cell_is e (hc m (by omega))
  · unfold Ar.chip St.n
    omega
theorem ArAt.volc {w : World} {σ : Ar} {K : ALay} (h : ArAt w σ K) {c : Nat} (hc : c < σ.s.n) : w.cell? ⟨K.V, c, none⟩ = some (vptr σ K c) ∧ w.frozen? ⟨K.V, c, none⟩ = false := by
  obtain ⟨cs, e, hv⟩ := h.vols
  exact ⟨cell_is e (hv c hc), free_of e⟩

set_option maxHeartbeats 1000000 in
set_option maxRecDepth 100000 in
theorem Geo_calls (σ : Ar) (K : ALay) (w : World) (h : ArAt w σ K) : Calls Tryz.prog 27 #[.pointer (some ⟨K.x, 0, none⟩)] w fun e w' => e = .returned σ.s.g.val ∧ Fr None_ w w' := by
  have hx : K.x < w.heap.size := (Array.getElem?_eq_some_iff.1 h.main).1
  obtain ⟨_, c1, c2, c3, c4, _⟩ := h.cs
  unfold Geo.val
  clear h
  go_enter Tryz.func27, Tryz.ntmps27
  go_wp2
  exact bodyPost_ret (v := .agg #[.int .i64 σ.s.g.c, .int .i64 σ.s.g.b, .int .i64 σ.s.g.p, .int .i64 σ.s.g.s]) (by simp [results, Tryz.results27, go_sem]) rfl ⟨rfl, (Fr.refl None_ w).alloc _⟩
set_option maxHeartbeats 1000000 in
set_option maxRecDepth 100000 in
theorem Lost_calls (σ : Ar) (K : ALay) (w : World) (h : ArAt w σ K) : Calls Tryz.prog 18 #[.pointer (some ⟨K.x, 0, none⟩)] w fun e w' => e = .returned (.bool σ.lost) ∧ Fr None_ w w' := by
  obtain ⟨_, _, _, _, _, _, _, _, _, _, _, c11⟩ := h.cs
  clear h
  go_enter Tryz.func18, Tryz.ntmps18
  go_wp2
  go_ret
  exact ⟨by simp, Fr.refl _ _⟩
def Ar.ahead (σ : Ar) : Int := if σ.set.dead = 255 then -1 else σ.set.dead
set_option maxHeartbeats 1000000 in
set_option maxRecDepth 100000 in
theorem Ahead_calls (σ : Ar) (K : ALay) (w : World) (h : ArAt w σ K) : Calls Tryz.prog 28 #[.pointer (some ⟨K.x, 0, none⟩)] w fun e w' => e = .returned (.int .i64 σ.ahead) ∧ Fr None_ w w' := by
  obtain ⟨_, _, _, _, _, _, _, _, _, c9, _, _⟩ := h.cs
  clear h
  by_cases hd : σ.set.dead = 255
  · have d1 : (σ.set.dead == 255) = true := beq_iff_eq.2 hd
    have HA := As.mk (show σ.ahead = -1 from if_pos hd)
    clear hd
    go_enter Tryz.func28, Tryz.ntmps28
    go_wp2
    go_ret
    exact ⟨by rw [HA.out]; rfl, Fr.refl _ _⟩
  · have d1 : (σ.set.dead == 255) = false := beq_eq_false_iff_ne.2 hd
    have HA := As.mk (show σ.ahead = σ.set.dead from if_neg hd)
    clear hd
    go_enter Tryz.func28, Tryz.ntmps28
    go_wp2
    go_ret
    exact ⟨by rw [HA.out]; rfl, Fr.refl _ _⟩
end Go.Proofs.YteofgpaceeibpaaGreat.ArrA
namespace Go.Proofs.YteofgpaceeibpaaGreat.ArrB
open Go.RowKit Gab Wr Geom Ref Nand NandA NandB NandC NandD NandE NandH RemapA RemapB VolA VolD VolE VolF MemA MemC ArrA
open Heap (cell_is heap_set fr_set1)
open RemapF (set5)
set_option linter.unusedVariables false
set_option linter.unusedSimpArgs false

set_option maxHeartbeats 4000000 in
set_option maxRecDepth 100000 in
theorem Set_calls (σ : Ar) (K : ALay) (w : World) (h : ArAt w σ K) : Calls Tryz.prog 13 #[.pointer (some ⟨K.x, 0, none⟩)] w fun e w' => ∃ v, e = .returned v ∧ MSR w' w.heap.size v σ.set ∧ Fr None_ w w' := by
  have hgc := h.nand.ok.c
  have hf1 := (Fr.refl None_ w).alloc (.cells zs ST)
  obtain ⟨_, _, _, _, _, _, c6, c7, c8, c9, c10, _⟩ := (h.none_ hf1).cs
  have HR1 := As.mk (h.none_ hf1).rd
  have HF1 := As.mk hf1
  have HB1 := As.mk (heap_alloc_new w (.cells zs ST))
  have hz1 : (w.alloc (.cells zs ST)).heap.size = w.heap.size + 1 := size_new _ rfl
  clear h hf1
  go_enter Tryz.func13, Tryz.ntmps13
  go_upto_region 4 with fail
  generalize w.alloc (.cells zs ST) = w1 at *
  have hfa := (Fr.refl None_ w1).alloc (.cells #[.int .u32 σ.set.seq, .slice (some ⟨K.cb, 0, none⟩) σ.s.g.c.toNat K.cc, .int .i64 σ.set.spare, .int .i64 σ.set.dead, .int .i64 σ.set.done] ST)
  have HS2 := As.mk (heap_alloc_new w1 (.cells #[.int .u32 σ.set.seq, .slice (some ⟨K.cb, 0, none⟩) σ.s.g.c.toNat K.cc, .int .i64 σ.set.spare, .int .i64 σ.set.dead, .int .i64 σ.set.done] ST))
  have HR2 := As.mk (HR1.out.none_ hfa)
  have HF2 := As.mk (HF1.out.after hfa (fun _ _ h => h))
  have HB2 := As.mk (hfa.heap HB1.out (fun h => h))
  clear hfa c6 c7 c8 c9 c10
  rw [hz1] at HS2
  generalize w1.alloc (.cells #[.int .u32 σ.set.seq, .slice (some ⟨K.cb, 0, none⟩) σ.s.g.c.toNat K.cc, .int .i64 σ.set.spare, .int .i64 σ.set.dead, .int .i64 σ.set.done] ST) = w2 at *
  have s1 := cell_is (v := .slice (some ⟨K.cb, 0, none⟩) σ.s.g.c.toNat K.cc) (i := 1) HS2.out rfl
  have hz2 := HF2.out.size
  go_upto_region 5 with (at_builtin; (with_reducible refine appendRow w.heap.size rfl _ _ 38 3 .i64 8 rfl Tryz.underlying38 infoIn (by decide) (.slice none 0 0) [] σ.set.chips (some ⟨K.cb, 0, none⟩) σ.s.g.c.toNat K.cc rfl rfl (Row.nil _ _ _ _) HR2.out hz2 ?k1 ?_); (case k1 => simp; omega); intro v3 w3 hrow3 hfr3 hat3; have HR3 := As.mk (show Row 3 .i64 w3 w.heap.size v3 σ.set.chips from by simpa using hrow3); have hf23 : Fr None_ w2 w3 := (Fr.refl None_ w2).after hfr3 (fun _ _ h => by cases h); have HF3 := As.mk (HF2.out.after hf23 (fun _ _ h => h)); have HB3 := As.mk (hf23.heap HB2.out (fun h => h)); have hs3 := hf23.heap HS2.out (fun h => h); have HS3 := As.mk hs3; have k1 := cell_is (v := .slice (some ⟨K.cb, 0, none⟩) σ.s.g.c.toNat K.cc) (i := 1) hs3 rfl; have f1 := free_of (i := 1) hs3; clear hrow3 hfr3 hat3 hs3 hf23; obtain ⟨A3, n3, c3, e3, _, _, _⟩ := HR3.out.rd; subst e3)
  have hs4 := heap_set HS3.out 1 (.slice A3 n3 c3)
  have hf4 := fr_set1 (w' := w3) (b := w.heap.size + 1) (i := 1) (.slice A3 n3 c3)
  have HS4 := As.mk (show (w3.setCell ⟨w.heap.size + 1, 1, none⟩ (.slice A3 n3 c3)).heap[w.heap.size + 1]? = some (.cells #[.int .u32 σ.set.seq, .slice A3 n3 c3, .int .i64 σ.set.spare, .int .i64 σ.set.dead, .int .i64 σ.set.done] ST (0, 0)) from by rw [hs4]; rfl)
  have HB4 := As.mk (hf4.heap HB3.out (by omega))
  have HF4 := As.mk (HF3.out.after hf4 (fun b hb e => by omega))
  have HR4 := As.mk (HR3.out.fr hf4 (fun b hb e => by subst e; exact Row.ne HR3.out HS3.out (by decide) hb))
  clear hs4 hf4 k1 f1 s1
  generalize w3.setCell ⟨w.heap.size + 1, 1, none⟩ (.slice A3 n3 c3) = w4 at *
  have s0 := cell_is (v := .int .u32 σ.set.seq) (i := 0) HS4.out rfl
  have s1 := cell_is (v := .slice A3 n3 c3) (i := 1) HS4.out rfl
  have s2 := cell_is (v := .int .i64 σ.set.spare) (i := 2) HS4.out rfl
  have s3 := cell_is (v := .int .i64 σ.set.dead) (i := 3) HS4.out rfl
  have s4 := cell_is (v := .int .i64 σ.set.done) (i := 4) HS4.out rfl
  have r0 := cell_is (v := .int .u32 0) (i := 0) HB4.out rfl
  have r1 := cell_is (v := .slice none 0 0) (i := 1) HB4.out rfl
  have r2 := cell_is (v := .int .i64 0) (i := 2) HB4.out rfl
  have r3 := cell_is (v := .int .i64 0) (i := 3) HB4.out rfl
  have r4 := cell_is (v := .int .i64 0) (i := 4) HB4.out rfl
  have f0 := free_of (i := 0) HB4.out
  have f1 := free_of (i := 1) HB4.out
  have f2 := free_of (i := 2) HB4.out
  have f3 := free_of (i := 3) HB4.out
  have f4 := free_of (i := 4) HB4.out
  go_wp2_with fail
  obtain ⟨t1, t2, t3⟩ := set5 HF4.out (Nat.le_refl _) HB4.out (.int .u32 σ.set.seq) (.slice A3 n3 c3) (.int .i64 σ.set.spare) (.int .i64 σ.set.dead) (.int .i64 σ.set.done)
  have hrw := HR4.out.fr t3 (fun b hb e => by subst e; exact Row.ne HR4.out HB4.out (by decide) hb)
  clear r0 r1 r2 r3 r4 f0 f1 f2 f3 f4 s0 s1 s2 s3 s4
  generalize ((((w4.setCell ⟨w.heap.size, 0, none⟩ (.int .u32 σ.set.seq)).setCell ⟨w.heap.size, 1, none⟩ (.slice A3 n3 c3)).setCell ⟨w.heap.size, 2, none⟩ (.int .i64 σ.set.spare)).setCell ⟨w.heap.size, 3, none⟩ (.int .i64 σ.set.dead)).setCell ⟨w.heap.size, 4, none⟩ (.int .i64 σ.set.done) = wf at *
  have r0 := cell_is (i := 0) t2 rfl
  have r1 := cell_is (i := 1) t2 rfl
  have r2 := cell_is (i := 2) t2 rfl
  have r3 := cell_is (i := 3) t2 rfl
  have r4 := cell_is (i := 4) t2 rfl
  exact bodyPost_ret (v := .agg #[.int .u32 σ.set.seq, .slice A3 n3 c3, .int .i64 σ.set.spare, .int .i64 σ.set.dead, .int .i64 σ.set.done]) (by simp [results, Tryz.results13, go_sem, r0, r1, r2, r3, r4]) rfl ⟨_, rfl, ⟨_, rfl, hrw⟩, t1⟩

/-- Are more dead than may be? -/
def _root_.Go.Proofs.YteofgpaceeibpaaGreat.ArrA.Ar.lostK (σ : Ar) : Int := if σ.lost then 74 else 0
set_option maxHeartbeats 4000000 in
set_option maxRecDepth 100000 in
theorem in_calls (σ : Ar) (K : ALay) (m b : Nat) (w : World) (h : ArAt w σ K) (hm : (m : Int) < σ.s.g.c) (hb : (b : Int) < σ.s.g.b - 5) :
    Calls Tryz.prog 55 #[.pointer (some ⟨K.x, 0, none⟩), .int .i64 (m : Int), .int .i64 (b : Int)] w fun e w' => e = .returned (.int .i64 σ.lostK) ∧ Fr None_ w w' := by
  have HA := As.mk h
  have HVI := As.mk (fun w => Virtual_calls σ.s.g w h.nand.ok)
  obtain ⟨_, c1, c2, c3, c4, _, _, _, _, _, _, _⟩ := h.cs
  have d0 : decide ((m : Int) < 0) = false := decide_eq_false (by omega)
  have d1 : decide (σ.s.g.c ≤ (m : Int)) = false := decide_eq_false (by omega)
  have d2 : decide ((b : Int) < 0) = false := decide_eq_false (by omega)
  have d3 : decide (σ.s.g.b - 5 ≤ (b : Int)) = false := decide_eq_false (by omega)
  unfold Geo.val at HVI
  clear h hm hb
  go_enter Tryz.func55, Tryz.ntmps55
  go_wp2_with fail
  ((with_reducible refine (HVI.out _).mono ?_); rintro e w1 ⟨rfl, hf1⟩)
  have c11 := (HA.out.none_ hf1).cs.2.2.2.2.2.2.2.2.2.2.2
  have HF1 := As.mk hf1
  clear hf1
  have hl : (σ.lost = false ∧ σ.lostK = 0) ∨ (σ.lost = true ∧ σ.lostK = 74) := by unfold Ar.lostK; cases σ.lost <;> simp
  rcases hl with ⟨hl, hk⟩ | ⟨hl, hk⟩
  · rw [hl] at c11
    have HK := As.mk hk
    clear hl hk
    go_wp2_with fail
    go_ret
    exact ⟨by rw [HK.out]; rfl, HF1.out⟩
  · rw [hl] at c11
    have HK := As.mk hk
    clear hl hk
    go_wp2_with fail
    go_ret
    exact ⟨by rw [HK.out]; rfl, HF1.out⟩
end Go.Proofs.YteofgpaceeibpaaGreat.ArrB

/- stage: Room, Spot. | stage.Put over an array. -/
import Derived.Test.YteofgpaceeibpaaGreatTkNandB
import Derived.Test.YteofgpaceeibpaaGreatTkAWrC
import Derived.Test.YteofgpaceeibpaaGreatTkAOrdB
namespace Go.Proofs.YteofgpaceeibpaaGreat.StgA
open Go.RowKit Gab Geom Ref Nand
open Heap (cell_is)
set_option linter.unusedVariables false
set_option linter.unusedSimpArgs false

/-- How many pairs of members there are. -/
def _root_.Go.Proofs.YteofgpaceeibpaaGreat.Geom.Geo.pairs (g : Geo) : Int := g.c / 2
theorem pairs_range {g : Geo} (h : g.Ok) : 1 ≤ g.pairs ∧ g.pairs ≤ 8 ∧ 2 * g.pairs ≤ g.c := by
  have := h.c
  unfold Geo.pairs
  omega
set_option maxHeartbeats 1000000 in
set_option maxRecDepth 100000 in
theorem Pairs_calls (g : Geo) (w : World) (h : g.Ok) : Calls Tryz.prog 84 #[g.val] w fun e w' => e = .returned (.int .i64 g.pairs) ∧ Fr None_ w w' := by
  unfold Geo.val
  have h1 := h.c
  have h2 := pairs_range h
  have htd : g.c.tdiv 2 = g.pairs := by rw [Int.tdiv_eq_ediv_of_nonneg (by omega)]; rfl
  have hwr : IntKind.i64.wrap g.pairs = g.pairs := by rw [IntKind.wrap_i64]; omega
  clear h
  go_enter Tryz.func84, Tryz.ntmps84
  go_wp2
  go_ret
  exact ⟨by first | rfl | simp [htd, hwr], (Fr.refl _ w).alloc _⟩
/-- How many pages can be staged. -/
def _root_.Go.Proofs.YteofgpaceeibpaaGreat.Geom.Geo.room (g : Geo) : Int := g.p * g.pairs
theorem room_range {g : Geo} (h : g.Ok) : 0 ≤ g.room ∧ g.room ≤ 8 * g.p := by
  have h1 := pairs_range h
  have h2 := h.p
  unfold Geo.room
  constructor
  · exact Int.mul_nonneg (by omega) (by omega)
  · have : g.p * g.pairs ≤ g.p * 8 := Int.mul_le_mul_of_nonneg_left (by omega) (by omega)
    omega
set_option maxHeartbeats 1000000 in
set_option maxRecDepth 100000 in
theorem Room_calls (g : Geo) (w : World) (h : g.Ok) : Calls Tryz.prog 48 #[g.val] w fun e w' => e = .returned (.int .i64 g.room) ∧ Fr None_ w w' := by
  have HP := As.mk (fun w => Pairs_calls g w h)
  unfold Geo.val at *
  have h1 := room_range h
  have h2 := h.p
  have hm : g.p * g.pairs = g.room := rfl
  have HB := As.mk (heap_alloc_new w (.cells #[.int .i64 g.c, .int .i64 g.b, .int .i64 g.p, .int .i64 g.s] 24))
  have HF := As.mk ((Fr.refl None_ w).alloc (.cells #[.int .i64 g.c, .int .i64 g.b, .int .i64 g.p, .int .i64 g.s] 24))
  have hwr : IntKind.i64.wrap g.room = g.room := by rw [IntKind.wrap_i64]; omega
  clear h
  go_enter Tryz.func48, Tryz.ntmps48
  go_upto_region 1 with fail
  generalize w.alloc (.cells #[.int .i64 g.c, .int .i64 g.b, .int .i64 g.p, .int .i64 g.s] 24) = w1 at *
  generalize w.heap.size = gb at *
  have z0 := cell_is (i := 0) HB.out rfl
  have z1 := cell_is (i := 1) HB.out rfl
  have z2 := cell_is (i := 2) HB.out rfl
  have z3 := cell_is (i := 3) HB.out rfl
  go_region_held3 (fun w' => w'.cell? ⟨gb, 0, none⟩ = some (.int .i64 g.c) ∧ w'.cell? ⟨gb, 1, none⟩ = some (.int .i64 g.b) ∧ w'.cell? ⟨gb, 2, none⟩ = some (.int .i64 g.p) ∧ w'.cell? ⟨gb, 3, none⟩ = some (.int .i64 g.s)) (first | go_keep | exact ⟨z0, z1, z2, z3⟩ | exact ⟨Fr.cell HF2.out z0 (fun h => h), Fr.cell HF2.out z1 (fun h => h), Fr.cell HF2.out z2 (fun h => h), Fr.cell HF2.out z3 (fun h => h)⟩) (first
    | (go_at_call 84; (with_reducible refine (HP.out _).mono ?_); rintro e w2 ⟨rfl, hf2⟩; have HF2 := As.mk (show Fr None_ w1 w2 from (Fr.refl None_ w1).drew.after hf2 (fun _ _ h => h)); clear hf2)
    | fail)
  all_goals
    go_wp2_with fail
    go_ret
    exact ⟨by first | rfl | simp [hm, hwr], HF.out.after HF2.out (fun _ _ h => h)⟩
/-- Where a staged page stands. -/
theorem spot_range {g : Geo} (h : g.Ok) {n : Int} (h0 : 0 ≤ n) (h1 : n < g.room) : 0 ≤ n / g.pairs ∧ n / g.pairs < g.p ∧ 0 ≤ 2 * (n % g.pairs) ∧ 2 * (n % g.pairs) + 2 ≤ g.c := by
  have h2 := pairs_range h
  have h3 := h.p
  have h4 := Int.emod_nonneg n (show g.pairs ≠ 0 by omega)
  have h5 := Int.emod_lt_of_pos n (show 0 < g.pairs by omega)
  have h6 := Int.ediv_nonneg h0 (show 0 ≤ g.pairs by omega)
  have h7 : n / g.pairs < g.p := Int.ediv_lt_of_lt_mul (by omega) h1
  omega
set_option maxHeartbeats 4000000 in
set_option maxRecDepth 100000 in
theorem Spot_calls (g : Geo) (n : Int) (w : World) (h : g.Ok) (h0 : 0 ≤ n) (h1 : n < g.room) : Calls Tryz.prog 85 #[g.val, .int .i64 n] w fun e w' => e = .returned (.tuple #[.int .i64 (n / g.pairs), .int .i64 (2 * (n % g.pairs)), .int .i64 0]) ∧ Fr None_ w w' := by
  have HP := As.mk (fun w => Pairs_calls g w h)
  have HC := As.mk (fun w => Check_calls g w h)
  have HR := As.mk (fun w => Room_calls g w h)
  have hs := spot_range h h0 h1
  have hr := room_range h
  have hp := pairs_range h
  have hgp := h.p
  unfold Geo.val at *
  have d0 : decide (n < 0) = false := decide_eq_false (by omega)
  have d1 : decide (g.room ≤ n) = false := decide_eq_false (by omega)
  have htd : n.tdiv g.pairs = n / g.pairs := Int.tdiv_eq_ediv_of_nonneg h0
  have htm : n.tmod g.pairs = n % g.pairs := Int.tmod_eq_emod_of_nonneg h0
  have hw1 : IntKind.i64.wrap (n / g.pairs) = n / g.pairs := by rw [IntKind.wrap_i64]; omega
  have hw2 : IntKind.i64.wrap (2 * (n % g.pairs)) = 2 * (n % g.pairs) := by have := h.c; rw [IntKind.wrap_i64]; omega
  have hne : ¬ g.pairs = 0 := by omega
  have HB := As.mk (heap_alloc_new w (.cells #[.int .i64 g.c, .int .i64 g.b, .int .i64 g.p, .int .i64 g.s] 24))
  have HF := As.mk ((Fr.refl None_ w).alloc (.cells #[.int .i64 g.c, .int .i64 g.b, .int .i64 g.p, .int .i64 g.s] 24))
  clear h
  go_enter Tryz.func85, Tryz.ntmps85
  go_upto_region 1 with fail
  generalize w.alloc (.cells #[.int .i64 g.c, .int .i64 g.b, .int .i64 g.p, .int .i64 g.s] 24) = w1 at *
  generalize w.heap.size = gb at *
  have z0 := cell_is (i := 0) HB.out rfl
  have z1 := cell_is (i := 1) HB.out rfl
  have z2 := cell_is (i := 2) HB.out rfl
  have z3 := cell_is (i := 3) HB.out rfl
  go_upto_region 3 with (first
    | (go_at_call 29; (with_reducible refine (HC.out _).mono ?_); rintro e w2 ⟨rfl, hf2⟩; have HF2 := As.mk hf2; have HF3 := As.mk hf2; have y0 := Fr.cell hf2 z0 (fun h => h); have y1 := Fr.cell hf2 z1 (fun h => h); have y2 := Fr.cell hf2 z2 (fun h => h); have y3 := Fr.cell hf2 z3 (fun h => h); clear hf2 z0 z1 z2 z3)
    | (go_at_call 48; (with_reducible refine (HR.out _).mono ?_); rintro e w3 ⟨rfl, hf3⟩; have HF3 := As.mk (HF2.out.after hf3 (fun _ _ h => h)); have z0 := Fr.cell hf3 y0 (fun h => h); have z1 := Fr.cell hf3 y1 (fun h => h); have z2 := Fr.cell hf3 y2 (fun h => h); have z3 := Fr.cell hf3 y3 (fun h => h); clear hf3 y0 y1 y2 y3))
  have HPG := As.mk (fun (w' : World) (hf : Fr None_ w1 w') => (HP.out w').mono (R' := fun e w'' => e = .returned (.int .i64 g.pairs) ∧ Fr None_ w1 w'') (fun e w'' h => ⟨h.1, hf.after h.2 (fun _ _ h => h)⟩))
  have HC0 := As.mk (show ∀ w', Fr None_ w1 w' → (w'.cell? ⟨gb, 0, none⟩ = some (.int .i64 g.c) ∧ w'.cell? ⟨gb, 1, none⟩ = some (.int .i64 g.b) ∧ w'.cell? ⟨gb, 2, none⟩ = some (.int .i64 g.p) ∧ w'.cell? ⟨gb, 3, none⟩ = some (.int .i64 g.s)) from fun w' hf => ⟨cell_is (hf.heap HB.out (fun h => h)) rfl, cell_is (hf.heap HB.out (fun h => h)) rfl, cell_is (hf.heap HB.out (fun h => h)) rfl, cell_is (hf.heap HB.out (fun h => h)) rfl⟩)
  go_region_held3 (fun w' => w'.cell? ⟨gb, 0, none⟩ = some (.int .i64 g.c) ∧ w'.cell? ⟨gb, 1, none⟩ = some (.int .i64 g.b) ∧ w'.cell? ⟨gb, 2, none⟩ = some (.int .i64 g.p) ∧ w'.cell? ⟨gb, 3, none⟩ = some (.int .i64 g.s)) (first | go_keep | exact ⟨z0, z1, z2, z3⟩ | exact HC0.out _ HF3.out) (first
    | (go_at_call 84; (with_reducible refine (HPG.out _ HF3.out.drew).mono ?_); rintro e w4 ⟨rfl, hf4⟩; have HF3 := As.mk hf4; clear hf4)
    | (go_at_call 84; (with_reducible refine (HPG.out _ HF3.out).mono ?_); rintro e w4 ⟨rfl, hf4⟩; have HF3 := As.mk hf4; clear hf4)
    | fail)
  all_goals
    go_wp2_with fail
    refine bodyPost_ret (v := .tuple #[.int .i64 (n / g.pairs), .int .i64 (2 * (n % g.pairs)), .int .i64 0]) (by simp [results, Tryz.results85, go_sem, htd, htm, hw1, hw2]) rfl ⟨rfl, HF.out.after HF3.out (fun _ _ h => h)⟩
end Go.Proofs.YteofgpaceeibpaaGreat.StgA
namespace Go.Proofs.YteofgpaceeibpaaGreat.StgB
open Go.RowKit Gab Geom Ref Go.Proofs.YteofgpaceeibpaaGreat.Sum Par Fields Seal AOrd AOrdB Nand NandA NandD NandE NandH MemA ArrA AWrA AWrB AWrC StgA
open Wr (InR)
open Heap (cell_is)
open Str (pcells take_snoc)
set_option linter.unusedVariables false
set_option linter.unusedSimpArgs false

theorem orderAt_mem {first lo c : Int} : ∀ m ∈ orderAt first lo c, lo ≤ m ∧ m < lo + c := by
  intro m hm
  unfold orderAt at hm
  rcases List.mem_append.1 hm with h | h
  · unfold preAt at h
    split at h
    · rename_i hh
      rw [List.mem_singleton] at h
      subst h
      exact hh
    · cases h
  · have h1 := (List.mem_filter.1 h).1
    unfold upFrom at h1
    obtain ⟨k, hk, rfl⟩ := List.mem_map.1 h1
    have := List.mem_range.1 hk
    omega
theorem orderAt_len (first lo c : Int) : (orderAt first lo c).length ≤ c.toNat + 1 := by
  unfold orderAt
  rw [List.length_append]
  have h1 := List.length_filter_le (fun m => decide (m ≠ first)) (upFrom lo c.toNat)
  have h2 : (upFrom lo c.toNat).length = c.toNat := by simp [upFrom]
  have h3 : (preAt first lo c).length ≤ 1 := by unfold preAt; split <;> simp
  omega

set_option maxHeartbeats 8000000 in
set_option maxRecDepth 100000 in
theorem Put_calls (σ : Ar) (K : ALay) (which n : Int) (hd : Head) (D : Option Addr) (nd cd : Nat) (data : List Int) (w : World) (hR : ArAt w σ K) (hth : σ.There) (hwh : 0 ≤ which ∧ which ≤ 1) (h0 : 0 ≤ n) (h1 : n < σ.s.g.room) (hh : hd.Ok)
    (hD : SlO (AF K σ) w (.slice D nd cd) data) (hl : (data.length : Int) = σ.s.g.s) (hrd : InR 256 data) (m0 : Nat) (hs : σ.s.Safe (m0 + 4)) :
    Calls Tryz.prog 49 #[dev K.x, .int .i64 which, .int .i64 n, .agg (pcells hd (.slice D nd cd))] w (WrPost σ K (σ.progs (4 + which) (n / σ.s.g.pairs) (fun _ => (data, sealOf hd data [])) (orderAt σ.ahead (2 * (n % σ.s.g.pairs)) 2)) w) := by
  have hok : σ.s.g.Ok := hR.nand.ok
  have HTH := As.mk hth
  have HLTF := As.mk (show ∀ b, AF K σ b → b < w.heap.size from fun b hb => by
    rcases hb with h | h | h
    · exact hR.nand.lt h
    · rw [h]; exact (Array.getElem?_eq_some_iff.1 hR.main).1
    · obtain ⟨cs, hv, _⟩ := hR.vols
      rw [h]; exact (Array.getElem?_eq_some_iff.1 hv).1)
  have HR := As.mk hR
  have HD := As.mk hD
  have HSF := As.mk hs
  have HOK := As.mk hok
  have hsp := spot_range hok h0 h1
  have hb := hok.b
  have hc := hok.c
  have hp := hok.p
  have HAT := As.mk (show σ.s.g.At (4 + which) (n / σ.s.g.pairs) from ⟨by omega, by omega⟩)
  have HG := As.mk (fun w' (hf : Fr None_ w w') => ArrA.Geo_calls σ K w' (hR.none_ hf))
  have HSP := As.mk (fun w => Spot_calls σ.s.g n w hok h0 h1)
  have HDR := As.mk hrd
  have HDL := As.mk hl
  obtain ⟨D', n', c', e1, hdc, hdd⟩ := hD.rdO
  injection e1 with e1 e2 e3
  subst e1 e2 e3
  have HSE := As.mk (fun (w' : World) (hf : Fr None_ w w') => Seal_calls hd data [] D none nd 0 cd 0 w' hh (hdd.out.1.none_ hf) (Rd.nil _ _ _) hdc.out (Nat.le_refl _) hrd (fun x hx => by cases hx))
  have hnd : ((nd : Int) != σ.s.g.s) = false := by have h1 := hdd.out.1.1; rw [bne_eq_false_iff_eq]; omega
  have d0 : decide (which < 0) = false := decide_eq_false (by omega)
  have d1 : decide (1 < which) = false := decide_eq_false (by omega)
  generalize n / σ.s.g.pairs = row at *
  generalize 2 * (n % σ.s.g.pairs) = lo at *
  have HORD := As.mk (fun (w' : World) (h : ArAt w' σ K) => OrderAt_calls σ K lo 2 w' h ⟨by omega, by omega⟩ ⟨by omega, by omega⟩)
  have hws : IntKind.i64.wrap (4 + which) = 4 + which := by rw [IntKind.wrap_i64]; omega
  unfold dev pcells Head.vals Geo.val at *
  clear hR hth hD hl hrd hs hok hdd hdc hh h0 h1
  go_enter Tryz.func49, Tryz.ntmps49
  go_wp2_with fail
  ((with_reducible refine (HG.out _ ((Fr.refl None_ w).alloc _)).mono ?_); rintro e w1 ⟨rfl, hf1⟩)
  have HBX1 := As.mk (hf1.heap (heap_alloc_new w (.cells #[.int .u8 hd.kind, .int .u32 hd.epoch, .int .u32 hd.batch, .int .u16 hd.index, .int .u16 hd.count, .int .u32 hd.block, .int .u32 hd.more, .slice D nd cd] 117)) (fun h => h))
  have HF1 := As.mk (((Fr.refl None_ w).alloc (.cells #[.int .u8 hd.kind, .int .u32 hd.epoch, .int .u32 hd.batch, .int .u16 hd.index, .int .u16 hd.count, .int .u32 hd.block, .int .u32 hd.more, .slice D nd cd] 117)).after hf1 (fun _ _ h => h))
  have HGEO := As.mk (heap_alloc_new w1 (.cells #[.int .i64 σ.s.g.c, .int .i64 σ.s.g.b, .int .i64 σ.s.g.p, .int .i64 σ.s.g.s] 24))
  have HBX2 := As.mk (at_old (.cells #[.int .i64 σ.s.g.c, .int .i64 σ.s.g.b, .int .i64 σ.s.g.p, .int .i64 σ.s.g.s] 24) HBX1.out)
  have HF2 := As.mk (HF1.out.alloc (.cells #[.int .i64 σ.s.g.c, .int .i64 σ.s.g.b, .int .i64 σ.s.g.p, .int .i64 σ.s.g.s] 24))
  clear hf1 HBX1
  go_upto_region 4 with fail
  generalize w1.alloc (.cells #[.int .i64 σ.s.g.c, .int .i64 σ.s.g.b, .int .i64 σ.s.g.p, .int .i64 σ.s.g.s] 24) = w2 at *
  generalize w1.heap.size = g9 at *
  obtain ⟨pb, hpb⟩ : ∃ pb, w.heap.size = pb := ⟨_, rfl⟩
  have HPB := As.mk hpb
  rw [hpb] at HBX2 ⊢
  clear hpb
  have z0 := cell_is (i := 0) HGEO.out rfl
  have z1 := cell_is (i := 1) HGEO.out rfl
  have z2 := cell_is (i := 2) HGEO.out rfl
  have z3 := cell_is (i := 3) HGEO.out rfl
  go_wp2_with fail
  ((with_reducible refine (HSP.out _).mono ?_); rintro e w3 ⟨rfl, hf3⟩)
  have HGE3 := As.mk (hf3.heap HGEO.out (fun h => h))
  have HBX3 := As.mk (hf3.heap HBX2.out (fun h => h))
  have HF3 := As.mk (HF2.out.after hf3 (fun _ _ h => h))
  clear z0 z1 z2 z3 hf3
  have z3 := cell_is (i := 3) HGE3.out rfl
  have k0 := cell_is (i := 0) HBX3.out rfl
  have k1 := cell_is (i := 1) HBX3.out rfl
  have k2 := cell_is (i := 2) HBX3.out rfl
  have k3 := cell_is (i := 3) HBX3.out rfl
  have k4 := cell_is (i := 4) HBX3.out rfl
  have k5 := cell_is (i := 5) HBX3.out rfl
  have k6 := cell_is (i := 6) HBX3.out rfl
  have k7 := cell_is (i := 7) HBX3.out rfl
  go_wp2_with fail
  ((with_reducible refine (HSE.out _ HF3.out).mono ?_); rintro e w4 ⟨v4, rfl, hrow4, hf4⟩)
  have HRW := As.mk hrow4
  have HBX4 := As.mk (hf4.heap HBX3.out (fun h => h))
  have HF4 := As.mk (HF3.out.after hf4 (fun _ _ h => h))
  have HZ3 := As.mk (HF3.out.size)
  obtain ⟨O, no', co, eO, _, hOd, _⟩ := hrow4.rd
  have hn64 : no' = 64 := by rw [← hOd.out.1]; exact sealOf_len _ _ _
  subst eO hn64
  clear hrow4 hf4 hOd k0 k1 k2 k3 k4 k5 k6 k7 z3
  go_wp2_with fail
  ((with_reducible refine (HORD.out _ ?k5).mono ?_); (case k5 => exact HR.out.none_ HF4.out); rintro e w5 ⟨vo, rfl, hrowo, hf5⟩)
  have HF5 := As.mk (HF4.out.after hf5 (fun _ _ h => h))
  have HBX5 := As.mk (hf5.heap HBX4.out (fun h => h))
  have HO5 : As (SlO (AF K σ) w5 (.slice O 64 co) (sealOf hd data [])) := ⟨SlO.of_row HLTF.out (HRW.out.none_ hf5) HZ3.out⟩
  have HD5 := As.mk (HD.out.none_ HF5.out)
  have HR5 := As.mk (HR.out.none_ HF5.out)
  have HZA := As.mk HF4.out.size
  obtain ⟨Ao, no, ca, eo, hmo, hdo, hao⟩ := hrowo.rd
  have HRO : As (Rd .i64 w5 Ao no (orderAt σ.ahead lo 2) ∧ ∀ ad, Ao = some ad → 0 < no → ¬ AF K σ ad.block) := ⟨hdo.out, fun ad' e _ h => absurd (HLTF.out _ h) (by have h1 := HZA.out; have h2 := (hrowo.blk _ (hao.out ad' e)).1; omega)⟩
  have HNO := As.mk hdo.out.1
  have HMO := As.mk (orderAt_len σ.ahead lo 2)
  have hno : no ≤ 3 := by have h1 := HNO.out; have h2 := HMO.out; omega
  have HMEM := As.mk (fun m hm => orderAt_mem (first := σ.ahead) (lo := lo) (c := 2) m hm)
  have HLO := As.mk hsp
  have HPBN := As.mk (show ¬ AF K σ pb from fun h => absurd (HLTF.out _ h) (by have := HPB.out; omega))
  subst eo
  generalize hord : orderAt σ.ahead lo 2 = ms at *
  have HOR := As.mk hord
  clear hf5 hrowo hord hdo hmo hao HRW HGE3 HGEO HBX2 HBX3
  go_wp2_with fail
  go_loopw [14, 16, 17, 56] (fun v14 v16 v17 v56 w' => ∃ i : Int, v56 = .int .i64 i ∧ 0 ≤ i ∧ i ≤ (no : Int) ∧ (∃ (k : Int) (τ : Ar), v14 = .int .i64 k ∧ As (σ.progs (4 + which) row (fun _ => (data, sealOf hd data [])) (ms.take i.toNat) = (τ, k, 0)) ∧ 0 ≤ k ∧ k ≤ i ∧ As (ArAt w' τ K ∧ τ.There ∧ τ.s.g = σ.s.g ∧ τ.s.Safe (m0 + (4 - i.toNat)))) ∧ As (Fr (AF K σ) w5 w')) (fun _ _ _ v56 _ => no - (intOf v56).toNat)
  case atStart => exact ⟨0, rfl, by omega, by omega, ⟨0, σ, rfl, ⟨rfl⟩, Int.le_refl _, Int.le_refl _, ⟨HR5.out, HTH.out, rfl, HSF.out⟩⟩, ⟨Fr.refl _ _⟩⟩
  case round =>
    obtain ⟨i, rfl, hi0, hi, ⟨k, τ, rfl, HK, hk0, hk1, HX2⟩, HST⟩ := hrel
    by_cases hlt : i < (no : Int)
    · obtain ⟨ado, eo, hco⟩ := (HRO.out.1.fr HST.out HRO.out.2).at_ i hi0 hlt
      subst eo
      have hil : i.toNat < ms.length := by have := HNO.out; omega
      have HTK : As (ms.take (i + 1).toNat = ms.take i.toNat ++ [ms.getD i.toNat 0]) := ⟨by rw [show (i + 1).toNat = i.toNat + 1 by omega]; exact take_snoc 0 hil⟩
      have hm := HMEM.out (ms.getD i.toNat 0) (by rw [List.getD_eq_getElem?_getD, List.getElem?_eq_getElem hil]; exact List.getElem_mem hil)
      generalize ms.getD i.toNat 0 = m at *
      have hm0 : 0 ≤ m := by have := HLO.out; omega
      have hm1 : m < σ.s.g.c := by have := HLO.out; omega
      clear hil hm
      have hi4 : i.toNat < 4 := by omega
      have HBXr := As.mk (HST.out.heap HBX5.out HPBN.out)
      have k7 := cell_is (i := 7) HBXr.out rfl
      have HSFI := As.mk (show τ.s.Safe (m0 + (4 - (i.toNat + 1)) + 1) from by rw [show m0 + (4 - (i.toNat + 1)) + 1 = m0 + (4 - i.toNat) by omega]; exact HX2.out.2.2.2)
      obtain ⟨r, hr⟩ : ∃ r, τ.prog m.toNat (4 + which).toNat row.toNat data (sealOf hd data []) = r := ⟨_, rfl⟩
      have HN := As.mk (show σ.progs (4 + which) row (fun _ => (data, sealOf hd data [])) (ms.take (i + 1).toNat) = pstep (4 + which) row (fun _ => (data, sealOf hd data [])) (τ, k, 0) m from by rw [HTK.out, progs_snoc, HK.out])
      have HN0 := As.mk (show r.2 = 0 → σ.progs (4 + which) row (fun _ => (data, sealOf hd data [])) (ms.take (i + 1).toNat) = (r.1, k, 0) from fun h => by
        rw [HN.out]
        unfold pstep
        dsimp only
        rw [hr, if_pos rfl, if_pos h])
      have HN71 := As.mk (show r.2 = 71 → σ.progs (4 + which) row (fun _ => (data, sealOf hd data [])) (ms.take (i + 1).toNat) = (r.1, k + 1, 0) from fun h => by
        rw [HN.out]
        unfold pstep
        dsimp only
        rw [hr, if_pos rfl, if_neg (by rw [h]; decide), if_pos h])
      have HNX := As.mk (show r.2 ≠ 0 → r.2 ≠ 71 → ∀ (e : Ending) (w' : World), e = .returned (.int .i64 r.2) → ArAt w' r.1 K → Fr (AF K σ) w5 w' → WrPost σ K (σ.progs (4 + which) row (fun _ => (data, sealOf hd data [])) ms) w e w' from fun h1 h2 e w' k1 k2 k3 => by
        have h3 : σ.progs (4 + which) row (fun _ => (data, sealOf hd data [])) (ms.take (i + 1).toNat) = (r.1, k, r.2) := by
          rw [HN.out]
          unfold pstep
          dsimp only
          rw [hr, if_pos rfl, if_neg h1, if_neg h2]
        have h4 : σ.progs (4 + which) row (fun _ => (data, sealOf hd data [])) ms = (r.1, k, r.2) := by
          rw [progs_stuck σ (4 + which) row _ ms (i + 1).toNat (by rw [h3]; exact h1), h3]
        rw [h4]
        refine ⟨?_, k2, (HF5.out.mono (T := AF K σ) (fun _ _ h => h.elim)).after k3 (fun _ _ h => h)⟩
        rw [k1]
        unfold wcode
        dsimp only
        rw [if_pos h1])
      have HRK := As.mk (show r.1.There ∧ r.1.s.g = σ.s.g ∧ r.1.s.Safe (m0 + (4 - (i + 1).toNat)) from by
        have hk := prog_keeps (σ := τ) (by rw [HX2.out.2.2.1]; exact HOK.out) HX2.out.1.ok.set m.toNat (4 + which).toNat row.toNat data (sealOf hd data []) (by rw [HX2.out.2.2.1]; omega)
        rw [hr] at hk
        refine ⟨hk.2.1 HX2.out.2.1, hk.1.trans HX2.out.2.2.1, ?_⟩
        rw [show (i + 1).toNat = i.toNat + 1 by omega]
        exact hk.2.2 _ HSFI.out)
      have HPA1 := As.mk (show ∀ (e : Int), r.2 = e → Calls Tryz.prog 141 #[.pointer (some ⟨K.x, 0, none⟩), .int .i64 m, .int .i64 (4 + which), .int .i64 row, .slice D nd cd, .slice O 64 co] wr (fun x w' => x = .returned (.int .i64 e) ∧ ArAt w' r.1 K ∧ Fr (AF K σ) wr w') from fun e he => by
        have h1 := Prog_any σ τ K (4 + which) row m D O nd cd co _ _ wr HX2.out.1 HX2.out.2.1 HX2.out.2.2.1 HAT.out hm0 hm1 (HD5.out.step HST.out) (HO5.out.step HST.out) HDL.out HDR.out (seal_range (fun x hx => by cases hx)) _ HSFI.out
        rw [hr] at h1
        unfold PrPost at h1
        rw [he] at h1
        exact h1)
      clear hr HN
      by_cases h0 : r.2 = 0
      · have HPE := As.mk (HPA1.out 0 h0)
        have HKG := As.mk (HN0.out h0)
        clear h0
        go_wp2_with (go_at_call 141; (with_reducible refine (HPE.out).mono ?_); rintro e w9 ⟨rfl, hR9, hf9⟩; have HR9 := As.mk hR9; have HF10 := As.mk (HST.out.after hf9 (fun _ _ h => h)); clear hR9 hf9)
        exact ⟨⟨i + 1, rfl, by omega, by omega, ⟨k, r.1, rfl, HKG, hk0, by omega, ⟨HR9.out, HRK.out⟩⟩, HF10⟩, by simp [intOf]; omega⟩
      · by_cases h71 : r.2 = 71
        · have HPE := As.mk (HPA1.out 71 h71)
          have HKG := As.mk (HN71.out h71)
          clear h0 h71
          go_wp2_with (go_at_call 141; (with_reducible refine (HPE.out).mono ?_); rintro e w9 ⟨rfl, hR9, hf9⟩; have HR9 := As.mk hR9; have HF10 := As.mk (HST.out.after hf9 (fun _ _ h => h)); clear hR9 hf9)
          exact ⟨⟨i + 1, rfl, by omega, by omega, ⟨k + 1, r.1, rfl, HKG, by omega, by omega, ⟨HR9.out, HRK.out⟩⟩, HF10⟩, by simp [intOf]; omega⟩
        · have HPE := As.mk (HPA1.out r.2 rfl)
          have HBE := As.mk (HNX.out h0 h71)
          have e0 : (r.2 == 0) = false := beq_eq_false_iff_ne.2 h0
          have e71 : (r.2 == 71) = false := beq_eq_false_iff_ne.2 h71
          generalize r.2 = ev at *
          clear h0 h71
          go_wp2_with (go_at_call 141; (with_reducible refine (HPE.out).mono ?_); rintro e w9 ⟨rfl, hR9, hf9⟩; have HR9 := As.mk hR9; have HF10 := As.mk (HST.out.after hf9 (fun _ _ h => h)); clear hR9 hf9)
          go_ret
          rw [HOR.out]
          exact HBE.out _ _ rfl HR9.out HF10.out
    · have hte : ms.take i.toNat = ms := List.take_of_length_le (by have := HNO.out; omega)
      have HPost := As.mk (show ∀ (e : Ending) (w' : World) (c : Int), wcode (τ, k, 0) = c → e = .returned (.int .i64 c) → ArAt w' τ K → Fr (AF K σ) w5 w' → WrPost σ K (σ.progs (4 + which) row (fun _ => (data, sealOf hd data [])) ms) w e w' from fun e w' c h0 k1 k2 k3 => by
        have h4 : σ.progs (4 + which) row (fun _ => (data, sealOf hd data [])) ms = (τ, k, 0) := by
          rw [← hte, HK.out]
        rw [h4]
        exact ⟨by rw [k1, h0], k2, (HF5.out.mono (T := AF K σ) (fun _ _ h => h.elim)).after k3 (fun _ _ h => h)⟩)
      clear hte
      by_cases hk1 : 1 < k
      · have HEE : As (wcode (τ, k, 0) = 74) := ⟨by unfold wcode; rw [if_neg (fun h => h rfl), if_pos hk1]⟩
        go_wp2
        go_ret
        rw [HOR.out]
        exact HPost.out _ _ _ HEE.out rfl HX2.out.1 HST.out
      · have HEE : As (wcode (τ, k, 0) = 0) := ⟨by unfold wcode; rw [if_neg (fun h => h rfl), if_neg hk1]⟩
        go_wp2
        go_ret
        rw [HOR.out]
        exact HPost.out _ _ _ HEE.out rfl HX2.out.1 HST.out
end Go.Proofs.YteofgpaceeibpaaGreat.StgB

/- gabionlaw13.act: a stripe is written; a page is staged. | gabionlaw13.act: a page is staged. -/
import Derived.Test.YteofgpaceeibpaaGreatTkHeldA
import Derived.Test.YteofgpaceeibpaaGreatTkAGet
import Derived.Deep.RegionLaw
import Derived.Deep.RegionHeld3
import Derived.StillTailTactics
namespace Go.Proofs.YteofgpaceeibpaaGreat.ActA
open Go.RowKit Gab Geom Go.Proofs.YteofgpaceeibpaaGreat.Sum Ref Par Fields Seal Nand NandA NandH ArrA AOrd AOrdB AWrA AWrB AWrC StgA LawA HeldA
open Wr (InR)
open Heap (cell_is)
open Str (pcells RowV.ne)
set_option linter.unusedVariables false
set_option linter.unusedSimpArgs false

/-- append of one element of several cells, where the region draws its order. -/
theorem step_appendV {P : Program} {ops : Array Oper} {o : Oper} {a : Act} {K : Act → World → Prop} {Q : Exit → Act → World → Prop} {E : Prop} {W : World} (base : Nat) (hgd : o.guard = none) (s x : Operand) (t e : TypeId) (z : Value) (size bytes : Nat)
    (ho : o.op = .call { callee := .builtin .append, args := #[s, x], argTypes := #[t, t] })
    (ht : P.underlying t = some (.slice e)) (hinfo : (P.info? e).map (fun i => (i.zero, i.size, i.bytes)) = some (some z, size, bytes)) (hzs : z.cells.size = size) (hs0 : 0 < size) (hb0 : 0 < bytes)
    (v : Value) (n : Nat) (vs : List Value) (ys : Array Value) (g : Nat) (hs : a.eval s = v) (hx : a.eval x = .slice (some ⟨g, 0, none⟩) 1 1) (hys : ys.size = size) (hone : ∀ u ∈ ys.toList, u.oneCell' = true)
    (hcell : W.heap[g]? = some (.cells ys e (0, 0))) (HO : Par.RowV e size W base v n vs) (hbase : base ≤ W.heap.size) (hl : (n + 1) * bytes ≤ 140737488355328)
    (h : ∀ v1 w1, Par.RowV e size w1 base v1 (n + 1) (vs ++ ys.toList) → Fr (fun b => v.ownBlock = some b) W w1 → (v1.ownBlock = v.ownBlock ∨ ∃ b, v1.ownBlock = some b ∧ W.heap.size ≤ b) → K (a.put o.dst v1) w1) :
    if Region.wanted o (yielded ops a.tmps) = true then Oper.wp P o a W K Q else E := by
  have hw : Region.wanted o (yielded ops a.tmps) = true := by simp [Region.wanted, hgd]
  rw [if_pos hw]
  obtain ⟨i0, hi, hzz⟩ := Option.map_eq_some_iff.1 hinfo
  simp only [Prod.mk.injEq] at hzz
  obtain ⟨hz0, hz1, hz2⟩ := hzz
  have hlen : n + 1 ≤ 140737488355328 := Nat.le_trans (Nat.le_mul_of_pos_right _ hb0) hl
  obtain ⟨v1, w1, hr, hown, hg, _, hat⟩ := run_append_own_at (P := P) (w := W) base t o.type e i0 z size bytes ht hi hz0 hz1 hz2 hzs hs0 v n vs HO.1 ⟨g, 0, none⟩ 1 1 ys.toList (by simp [hys]) (World.news_of_block hcell) hone (by simp only [maxLen]; omega) hl hbase
  unfold Oper.wp execOp
  simp only [ho, resolve, invoke, builtin, Sem.run_bind, Sem.run_pure, Result.andThen_ok, List.map_toArray, List.map_cons, List.map_nil, hs, hx, hr]
  refine h v1 w1 ⟨hown, ?_⟩ ((Fr.refl _ W).grown hg (fun k hk _ => hk.symm ▸ rfl)) ?_
  · rw [List.length_append, HO.2, Array.length_toList, hys, Nat.add_mul, Nat.one_mul]
  · rcases hat with hat | hat
    · exact .inl hat
    · exact .inr ⟨_, hat, Nat.le_refl _⟩
theorem infoLP : (Tryz.prog.info? 34).map (fun i => (i.zero, i.size, i.bytes)) = some (some (.slice none 0 0), 1, 24) := by kernel_rfl
/-- Pages of a stripe, some of them. -/
def pgs (n c : Int) (k : Nat) : List (Head × List Int) := (List.range k).map fun (j : Nat) => (phead (j + n) c, pdat (j + n) c)
theorem pgs_succ (n c : Int) (k : Nat) : pgs n c (k + 1) = pgs n c k ++ [(phead (k + n) c, pdat (k + n) c)] := by simp [pgs, List.range_succ]
theorem pgs_len (n c : Int) (k : Nat) : (pgs n c k).length = k := by simp [pgs]
theorem _root_.Go.Proofs.YteofgpaceeibpaaGreat.HeldA.HeldAt.rowc {w : World} {base : Nat} {H : Held} {Y : HLay} (h : HeldAt w base H Y) {k : Nat} (hk : k < 4) : w.cell? ⟨Y.hb, k, none⟩ = some (Y.r k) ∧ w.frozen? ⟨Y.hb, k, none⟩ = false := by
  refine ⟨?_, free_of h.main⟩
  have h4 : k = 0 ∨ k = 1 ∨ k = 2 ∨ k = 3 := by omega
  rcases h4 with rfl | rfl | rfl | rfl
  · exact cell_is h.main rfl
  · exact cell_is h.main rfl
  · exact cell_is h.main rfl
  · exact cell_is h.main rfl
/-- What act answers. -/
def ActPost (σ' : Ar) (σ : Ar) (K : ALay) (base : Nat) (H' : Held) (hb : Nat) (w : World) (e : Ending) (w' : World) : Prop :=
  e = .returned (.int .i64 0) ∧ ArAt w' σ' K ∧ (∃ Y', HeldAt w' base H' Y' ∧ Y'.hb = hb) ∧ Fr (fun b => AF K σ b ∨ base ≤ b) w w'

set_option maxHeartbeats 8000000 in
set_option maxRecDepth 100000 in
theorem Act1_calls (σ : Ar) (K : ALay) (base : Nat) (H : Held) (Y : HLay) (sg c : Int) (X : Ar × Int × Int) (w : World) (hA : ArAt w σ K) (hth : σ.There) (hH : HeldAt w base H Y) (hbase : base ≤ w.heap.size) (hc0 : 0 ≤ c) (hc1 : c < 256) (hgs : σ.s.g.s = 256)
    (hn : ((H.rows (u64of sg % 4).toNat).length : Int) < σ.s.g.p)
    (hX : σ.progs (6 + u64of sg % 4) (H.rows (u64of sg % 4).toNat).length (fun m => pageOf σ.s.g (pgs (H.rows (u64of sg % 4).toNat).length c (σ.s.g.c - 1).toNat) (6 + u64of sg % 4) (H.rows (u64of sg % 4).toNat).length m) (orderOf σ.ahead σ.s.g.c) = X) (hx : wcode X = 0) (m0 : Nat) (hs : σ.s.Safe (m0 + 18)) :
    Calls Tryz.prog 16 #[.pointer (some ⟨K.x, 0, none⟩), .pointer (some ⟨Y.hb, 0, none⟩), .agg #[.int .i64 1, .int .i64 sg, .int .u8 c]] w (ActPost X.1 σ K base (H.push (u64of sg % 4).toNat (pgs (H.rows (u64of sg % 4).toNat).length c (σ.s.g.c - 1).toNat)) Y.hb w) := by
  have hok : σ.s.g.Ok := hA.nand.ok
  have h0 : IntKind.u64.wrap sg = u64of sg := IntKind.wrap_u64 _
  have h1 : 0 ≤ u64of sg := by unfold u64of; omega
  have h2 : u64of sg < 18446744073709551616 := by unfold u64of; omega
  have h6 : IntKind.u64.wrap (Int.tmod (u64of sg) 4) = u64of sg % 4 := by rw [Int.tmod_eq_emod_of_nonneg h1, IntKind.wrap_u64]; omega
  have hk0 : 0 ≤ u64of sg % 4 := by omega
  have hk4 : u64of sg % 4 < 4 := by omega
  have HA := As.mk hA
  have HH := As.mk hH
  have hb1 := hok.b
  have hp1 := hok.p
  have hc2 := hok.c
  have hgc0 : (3 : Int) ≤ σ.s.g.c := hc2.1
  have hgc1 : σ.s.g.c ≤ 16 := hc2.2
  have hrk := hH.rows (u64of sg % 4).toNat (by omega)
  have hcl := hH.rowc (k := (u64of sg % 4).toNat) (by omega)
  obtain ⟨rA, rc, er, _, _, _⟩ := hrk.rd
  have HER := As.mk er
  have hw6 : IntKind.i64.wrap (6 + u64of sg % 4) = 6 + u64of sg % 4 := by rw [IntKind.wrap_i64]; omega
  generalize u64of sg = u at *
  generalize hN : (H.rows (u % 4).toNat).length = N at *
  have HNE := As.mk hN
  have HAT := As.mk (show σ.s.g.At (6 + u % 4) N from ⟨by omega, by omega⟩)
  have HLTF := As.mk (show ∀ b, AF K σ b → b < w.heap.size from fun b hb => by
    rcases hb with h | h | h
    · exact hA.nand.lt h
    · rw [h]; exact (Array.getElem?_eq_some_iff.1 hA.main).1
    · obtain ⟨cs, hv, _⟩ := hA.vols
      rw [h]; exact (Array.getElem?_eq_some_iff.1 hv).1)
  have HG := As.mk (fun w' (hf : Fr None_ w w') => ArrA.Geo_calls σ K w' (hA.none_ hf))
  have HPAGE := As.mk (fun (i : Int) (w' : World) (i0 : 0 ≤ i) (i1 : i ≤ 16) => page_calls (i + N) c w' (by omega) (by omega) hc0 hc1)
  have HWR := As.mk (fun (A : Option Addr) (n cp : Nat) (vs : List Value) (l : List (Head × List Int)) (w' : World) (h1 : ArAt w' σ K) (h2 : (n : Int) = σ.s.g.c - 1) (h3 : RdCO (AF K σ) w' A (n * 8) vs) (h4 : SPs (AF K σ) w' vs l) (h5 : ∀ q ∈ l, (q.2.length : Int) = σ.s.g.s ∧ InR 256 q.2) => Write_calls σ K (6 + u % 4) N A n cp vs l w' h1 hth HAT.out h2 h3 h4 h5 m0 hs)
  have HX := As.mk hX
  have HXC := As.mk hx
  have HGS := As.mk hgs
  have HPL := As.mk hok
  have HBASE := As.mk hbase
  have d9 : decide (σ.s.g.p ≤ (N : Int)) = false := decide_eq_false (by omega)
  have hNp : (N : Int) ≤ 32 := by omega
  rw [er] at hcl
  unfold Geo.val at HG
  unfold dev at HWR
  unfold pcells phead at HPAGE
  dsimp only at HPAGE
  have HOP := As.mk (heap_alloc_new w (.cells #[.int .i64 1, .int .i64 sg, .int .u8 c] 58))
  have HFW : As (Fr None_ w (w.alloc (.cells #[.int .i64 1, .int .i64 sg, .int .u8 c] 58))) := ⟨(Fr.refl _ w).alloc _⟩
  obtain ⟨Q, hQ⟩ : ∃ Q, ActPost X.1 σ K base (H.push (u % 4).toNat (pgs N c (σ.s.g.c - 1).toNat)) Y.hb w = Q := ⟨_, rfl⟩
  have HQ := As.mk hQ
  rw [hQ]
  clear hA hth hH hok hX hx hs hrk er hgs hbase hn hN hQ
  go_enter Tryz.func16, Tryz.ntmps16
  go_wp2_with fail
  ((with_reducible refine (HG.out _ HFW.out).mono ?_); rintro e w1 ⟨rfl, hf1⟩)
  have HF1 := As.mk (HFW.out.after hf1 (fun _ _ h => h))
  have HOP1 := As.mk (hf1.heap HOP.out (fun h => h))
  have HGE := As.mk (heap_alloc_new w1 (.cells #[.int .i64 σ.s.g.c, .int .i64 σ.s.g.b, .int .i64 σ.s.g.p, .int .i64 σ.s.g.s] 24))
  have HOP2 := As.mk (at_old (.cells #[.int .i64 σ.s.g.c, .int .i64 σ.s.g.b, .int .i64 σ.s.g.p, .int .i64 σ.s.g.s] 24) HOP1.out)
  have HF2 := As.mk (HF1.out.alloc (.cells #[.int .i64 σ.s.g.c, .int .i64 σ.s.g.b, .int .i64 σ.s.g.p, .int .i64 σ.s.g.s] 24))
  clear hf1
  go_upto_region 2 with fail
  generalize w1.alloc (.cells #[.int .i64 σ.s.g.c, .int .i64 σ.s.g.b, .int .i64 σ.s.g.p, .int .i64 σ.s.g.s] 24) = w2 at *
  generalize w1.heap.size = gg at *
  have o0 := cell_is (i := 0) HOP2.out rfl
  have o1 := cell_is (i := 1) HOP2.out rfl
  have g2 := cell_is (i := 2) HGE.out rfl
  have hcl2 := HF2.out.cell hcl.1 (fun h => h)
  go_wp2_with fail
  clear o0 o1 g2 hcl2
  go_loopw [10, 11] (fun v10 v11 w' => ∃ (i : Int) (vs : List Value), v11 = .int .i64 i ∧ 0 ≤ i ∧ i ≤ σ.s.g.c - 1 ∧ As (RowV 117 8 w' w2.heap.size v10 i.toNat vs ∧ SPs None_ w' vs (pgs N c i.toNat)) ∧ As (Fr None_ w2 w')) (fun _ v11 _ => (σ.s.g.c - 1 - intOf v11).toNat)
  case atStart => exact ⟨0, [], rfl, by omega, by omega, ⟨RowV.nil _ _ _ _, SPs.nil _ _⟩, ⟨Fr.refl _ _⟩⟩
  case round =>
    obtain ⟨i, vs, rfl, hi0, hi, HX1, HFr⟩ := hrel
    have hFw : Fr None_ w wr := HF2.out.after HFr.out (fun _ _ h => h)
    have HFW2 := As.mk hFw
    have g0 := cell_is (i := 0) (HFr.out.heap HGE.out (fun h => h)) rfl
    have o2 := cell_is (i := 2) (HFr.out.heap HOP2.out (fun h => h)) rfl
    obtain ⟨A1, cap1, e1, _, _, _⟩ := HX1.out.1.rd
    subst e1
    clear hFw
    by_cases hlt : i < σ.s.g.c - 1
    · go_wp2_with fail
      ((with_reducible refine (HPAGE.out i _ hi0 (by omega)).mono ?_); rintro e w4 ⟨v4, rfl, hrow4, hf4⟩)
      have HR4 := As.mk hrow4
      have HF4 := As.mk hf4
      have HZ4 := As.mk (show w2.heap.size ≤ w4.heap.size from Nat.le_trans HFr.out.size hf4.size)
      obtain ⟨A4, n4, c4, e4, _, _, _⟩ := hrow4.rd
      subst e4
      clear hrow4 hf4
      go_wp2_with (at_builtin; (with_reducible refine appendV w2.heap.size rfl _ _ 34 117 (.agg #[.int .u8 0, .int .u32 0, .int .u32 0, .int .u16 0, .int .u16 0, .int .u32 0, .int .u32 0, .slice none 0 0]) 8 48 rfl Tryz.underlying34 infoSP rfl (by decide) (by decide) (.slice A1 i.toNat cap1) i.toNat vs #[.int .u8 4, .int .u32 c, .int .u32 0, .int .u16 0, .int .u16 0, .int .u32 (i + N), .int .u32 0, .slice A4 n4 c4] _ rfl rfl rfl rfl ?o0 (HX1.out.1.none_ HF4.out) ?o2 ?o3 ?_); (case o0 => intro u hu; simp at hu; rcases hu with rfl | rfl | rfl | rfl | rfl | rfl | rfl | rfl <;> rfl); (case o2 => exact HZ4.out); (case o3 => omega); intro v6 w6 hrow6 hfr6 hat6; have HR6 := As.mk hrow6; have HF6 := As.mk hfr6; clear hrow6 hfr6 hat6; obtain ⟨A6, c6, e6, _, _, _⟩ := HR6.out.rd; subst e6)
      have hX4 := HX1.out.1.none_ HF4.out
      have hsd : SlO None_ w4 (.slice A4 n4 c4) (pdat (i + N) c) := SlO.of_row (F := None_) (N := 0) (fun b h => h.elim) HR4.out (Nat.zero_le _)
      have hsn := (SPs.none_ HX1.out.2 HF4.out).snoc hsd (phead_ok (n := i + N) (c := c) (by omega) (by omega) hc0 hc1)
      refine ⟨⟨i + 1, vs ++ (pcells (phead (i + N) c) (.slice A4 n4 c4)).toList, rfl, by omega, by omega, ⟨?_, ?_⟩, ⟨?_⟩⟩, by simp [intOf]; omega⟩
      · rw [show (i + 1).toNat = i.toNat + 1 by omega]
        exact HR6.out
      · rw [show (i + 1).toNat = i.toNat + 1 by omega, pgs_succ, show ((i.toNat : Nat) : Int) = i by omega]
        exact spsTy hsn HF6.out (fun b cs hb => RowV.ne hX4 hb (by decide))
      · exact RowV.grow hX4 (HFr.out.after HF4.out (fun _ _ h => h)) HF6.out
    · have hie : i = σ.s.g.c - 1 := by omega
      have hW := HWR.out A1 i.toNat cap1 vs (pgs N c i.toNat) wr (HA.out.none_ HFW2.out) (by omega) (RdCO.of_rowV HLTF.out HX1.out.1 HF2.out.size) (sps_af (HA.out.none_ HFW2.out) HX1.out.2) (fun q hq => by
        obtain ⟨j, _, rfl⟩ := List.mem_map.1 hq
        exact ⟨by show ((pdat (j + N) c).length : Int) = σ.s.g.s; rw [pdat_len, HGS.out]; rfl, pdat_range _ _⟩)
      rw [hie, HX.out] at hW
      unfold WrPost at hW
      rw [HXC.out] at hW
      rw [← hie] at hW
      have HW := As.mk hW
      have HIE := As.mk hie
      clear hW hie
      go_wp2_with fail
      ((with_reducible refine HW.out.mono ?_); rintro e w5 ⟨rfl, hA5, hf5⟩)
      have HA5 := As.mk hA5
      have HF5 := As.mk hf5
      have HH5 := As.mk ((HH.out.none_ HFW2.out).af (HA.out.none_ HFW2.out) hf5)
      have hPL5 : PL w5 w2.heap.size (.slice A1 i.toNat cap1) (pgs N c i.toNat) := PL.fr ⟨vs, by rw [pgs_len]; exact HX1.out.1, HX1.out.2⟩ hf5 (fun b hb => af_ty (HA.out.none_ HFW2.out) (RowV.blk HX1.out.1 b hb).2.2.choose_spec (.inr (.inr (.inl rfl)))) (fun b cs hb => af_ty (HA.out.none_ HFW2.out) hb (.inr (.inr (.inr rfl))))
      have HPL5 := As.mk hPL5
      clear hA5 hf5 hPL5 g0 o2
      have hcl5 := HH5.out.rowc (k := (u % 4).toNat) (by omega)
      rw [HER.out] at hcl5
      obtain ⟨k5, k6⟩ := hcl5
      go_upto_region 15 with fail
      have hcd : (w5.alloc (.cells #[.slice A1 i.toNat cap1] LP)).drew.heap[w5.heap.size]? = some (.cells #[.slice A1 i.toNat cap1] LP (0, 0)) := heap_alloc_new w5 _
      have hfd : Fr None_ w5 (w5.alloc (.cells #[.slice A1 i.toNat cap1] LP)).drew := ((Fr.refl None_ w5).alloc _).drew
      have HCD := As.mk hcd
      have HFD := As.mk hfd
      have hHd := HH5.out.none_ hfd
      have HHD := As.mk hHd
      have HRD := As.mk (show RowV LP 1 (w5.alloc (.cells #[.slice A1 i.toNat cap1] LP)).drew base (.slice rA N rc) N (Y.rv (u % 4).toNat) from by
        have h9 := hHd.rows (u % 4).toNat (by omega)
        rw [HNE.out, HER.out] at h9
        exact h9)
      have HZD := As.mk (show base ≤ (w5.alloc (.cells #[.slice A1 i.toNat cap1] LP)).drew.heap.size from Nat.le_trans HBASE.out (Nat.le_trans HFW2.out.size (Nat.le_trans HF5.out.size hfd.size)))
      clear hcd hfd hHd
      have k5a : (w5.alloc (.cells #[.slice A1 i.toNat cap1] LP)).cell? ⟨Y.hb, (u % 4).toNat, none⟩ = some (.slice rA N rc) := HFD.out.cell k5 (fun h => h)
      go_region_law (first | ((with_reducible refine step_appendV base rfl _ _ 52 34 (.slice none 0 0) 1 24 rfl Tryz.underlying52 infoLP rfl (by decide) (by decide) (.slice rA N rc) N (Y.rv (u % 4).toNat) #[.slice A1 i.toNat cap1] w5.heap.size rfl rfl rfl ?o0 ?oc ?oR ?oz ?o3 ?_); (case o0 => intro u hu; simp at hu; subst hu; rfl); (case oc => exact HCD.out); (case oR => exact HRD.out); (case oz => exact HZD.out); (case o3 => omega); intro v6 w6 hrow6 hfr6 hat6; have HR6 := As.mk hrow6; have HF6 := As.mk (show Fr (fun b => (Value.slice rA N rc).ownBlock = some b) (w5.alloc (.cells #[.slice A1 i.toNat cap1] LP)).drew w6 from hfr6); have HT6 := As.mk (show v6.ownBlock = (Value.slice rA N rc).ownBlock ∨ ∃ b, v6.ownBlock = some b ∧ (w5.alloc (.cells #[.slice A1 i.toNat cap1] LP)).drew.heap.size ≤ b from hat6); clear hrow6 hfr6 hat6; obtain ⟨A6, c6, e6, _, _, _⟩ := HR6.out.rd; subst e6; have h7 := HF6.out.cell (HFD.out.cell k5 (fun h => h)) (fun h => RowV.ne HRD.out HHD.out.main (by decide) h); have h8 : w6.frozen? ⟨Y.hb, (u % 4).toNat, none⟩ = false := free_of (HF6.out.heap HHD.out.main (fun h => RowV.ne HRD.out HHD.out.main (by decide) h))))
      all_goals
        have hvb : ∀ b, (Value.slice A1 i.toNat cap1).ownBlock = some b → Y.st.ownBlock ≠ some b := fun b hb h9 => by
          have q1 := (HPL5.out.blk hb).1
          have q2 := (RowV.blk HH.out.staged b h9).2.1
          have q3 := HF2.out.size
          omega
        have hpush := HHD.out.push (k := (u % 4).toNat) (by omega) (v := .slice A1 i.toNat cap1) (v1 := .slice A6 (N + 1) c6) ((HPL5.out.none_ HFD.out).lower (Nat.le_trans HBASE.out HF2.out.size)) hvb (by rw [HNE.out]; exact HR6.out) (by rw [HER.out]; exact HF6.out) (by rw [HER.out]; exact HT6.out)
        have hA7 : ArAt (w6.setCell ⟨Y.hb, (u % 4).toNat, none⟩ (.slice A6 (N + 1) c6)) X.1 K := keeps (HA5.out.none_ HFD.out) hpush.2 (fun b hb hlt9 => by
          rcases hb with hb | hb
          · exact ⟨_, _, _, by rw [hb]; exact HHD.out.main, .inl rfl⟩
          · obtain ⟨_, _, cs, hc⟩ := RowV.blk (HHD.out.rows (u % 4).toNat (by omega)) b hb
            exact ⟨_, _, _, hc, .inr (.inl rfl)⟩)
        have hFin : Fr (fun b => AF K σ b ∨ base ≤ b) w (w6.setCell ⟨Y.hb, (u % 4).toNat, none⟩ (.slice A6 (N + 1) c6)) := (((HFW2.out.mono (T := fun b => AF K σ b ∨ base ≤ b) (fun _ _ h => h.elim)).after HF5.out (fun _ _ h => .inl h)).after HFD.out (fun _ _ h => h.elim)).after hpush.2 (fun b _ hb => by
          rcases hb with hb | hb
          · exact .inr (by rw [hb]; exact HH.out.low)
          · exact .inr (RowV.blk (HHD.out.rows (u % 4).toNat (by omega)) b hb).1)
        have HP7 := As.mk hpush.1
        have HA7 := As.mk hA7
        have HF7 := As.mk hFin
        clear hpush hA7 hFin hvb h7 h8 k5 k6 k5a
        generalize w6.setCell ⟨Y.hb, (u % 4).toNat, none⟩ (.slice A6 (N + 1) c6) = w7 at *
        go_wp2_with fail
        rw [← HQ.out, ← HIE.out]
        exact ⟨rfl, HA7.out, ⟨_, HP7.out, rfl⟩, HF7.out⟩
end Go.Proofs.YteofgpaceeibpaaGreat.ActA
namespace Go.Proofs.YteofgpaceeibpaaGreat.ActB
open Go.RowKit Gab Geom Go.Proofs.YteofgpaceeibpaaGreat.Sum Ref Par Fields Seal Nand NandA NandH ArrA AOrd AOrdB AWrA AWrB AWrC StgA StgB LawA HeldA ActA
open Wr (InR)
open Heap (cell_is)
open Str (pcells RowV.ne)
set_option linter.unusedVariables false
set_option linter.unusedSimpArgs false

set_option maxHeartbeats 8000000 in
set_option maxRecDepth 100000 in
theorem Act2_calls (σ : Ar) (K : ALay) (base : Nat) (H : Held) (Y : HLay) (sg c : Int) (X : Ar × Int × Int) (w : World) (hA : ArAt w σ K) (hth : σ.There) (hH : HeldAt w base H Y) (hbase : base ≤ w.heap.size) (hc0 : 0 ≤ c) (hc1 : c < 256) (hgs : σ.s.g.s = 256)
    (hn : (H.staged.length : Int) < σ.s.g.room)
    (hX : σ.progs 4 (H.staged.length / σ.s.g.pairs) (fun _ => (pdat H.staged.length c, sealOf (phead H.staged.length c) (pdat H.staged.length c) [])) (orderAt σ.ahead (2 * (H.staged.length % σ.s.g.pairs)) 2) = X) (hx : wcode X = 0) (m0 : Nat) (hs : σ.s.Safe (m0 + 4)) :
    Calls Tryz.prog 16 #[.pointer (some ⟨K.x, 0, none⟩), .pointer (some ⟨Y.hb, 0, none⟩), .agg #[.int .i64 2, .int .i64 sg, .int .u8 c]] w (ActPost X.1 σ K base (H.stage (phead H.staged.length c) (pdat H.staged.length c)) Y.hb w) := by
  have hok : σ.s.g.Ok := hA.nand.ok
  have h0 : IntKind.u64.wrap sg = u64of sg := IntKind.wrap_u64 _
  have h1 : 0 ≤ u64of sg := by unfold u64of; omega
  have h2 : u64of sg < 18446744073709551616 := by unfold u64of; omega
  have h6 : IntKind.u64.wrap (Int.tmod (u64of sg) 4) = u64of sg % 4 := by rw [Int.tmod_eq_emod_of_nonneg h1, IntKind.wrap_u64]; omega
  have HA := As.mk hA
  have HH := As.mk hH
  have hrm := room_range hok
  have hp1 := hok.p
  have hst := hH.staged
  have hc4 := cell_is (i := 4) hH.main rfl
  obtain ⟨rA, rc, er, _, _, _⟩ := hst.rd
  have HER := As.mk er
  generalize u64of sg = u at *
  generalize hN : H.staged.length = N at *
  have HNE := As.mk hN
  have HLTF := As.mk (show ∀ b, AF K σ b → b < w.heap.size from fun b hb => by
    rcases hb with h | h | h
    · exact hA.nand.lt h
    · rw [h]; exact (Array.getElem?_eq_some_iff.1 hA.main).1
    · obtain ⟨cs, hv, _⟩ := hA.vols
      rw [h]; exact (Array.getElem?_eq_some_iff.1 hv).1)
  have HG := As.mk (fun w' (hf : Fr None_ w w') => ArrA.Geo_calls σ K w' (hA.none_ hf))
  have HRM := As.mk (fun w' => Room_calls σ.s.g w' hok)
  have HHD := As.mk (phead_ok (n := N) (c := c) (by omega) (by omega) hc0 hc1)
  have HPAGE := As.mk (fun (w' : World) => page_calls N c w' (by omega) (by omega) hc0 hc1)
  have HPUT := As.mk (fun (D : Option Addr) (nd cd : Nat) (w' : World) (h1 : ArAt w' σ K) (h2 : SlO (AF K σ) w' (.slice D nd cd) (pdat N c)) => Put_calls σ K 0 N (phead N c) D nd cd (pdat N c) w' h1 hth ⟨by decide, by decide⟩ (by omega) hn HHD.out h2 (by rw [pdat_len, hgs]; rfl) (pdat_range _ _) m0 hs)
  rw [show (4 : Int) + 0 = 4 by omega, hX] at HPUT
  unfold WrPost at HPUT
  rw [hx] at HPUT
  have HBASE := As.mk hbase
  have d9 : decide (σ.s.g.room ≤ (N : Int)) = false := decide_eq_false (by omega)
  have hN9 : (N : Int) ≤ 256 := by omega
  rw [er] at hc4
  unfold Geo.val at HG HRM
  unfold dev at HPUT
  unfold pcells phead at HPAGE HPUT
  dsimp only at HPAGE HPUT
  have HOP := As.mk (heap_alloc_new w (.cells #[.int .i64 2, .int .i64 sg, .int .u8 c] 58))
  have HFW : As (Fr None_ w (w.alloc (.cells #[.int .i64 2, .int .i64 sg, .int .u8 c] 58))) := ⟨(Fr.refl _ w).alloc _⟩
  obtain ⟨Q, hQ⟩ : ∃ Q, ActPost X.1 σ K base (H.stage (phead N c) (pdat N c)) Y.hb w = Q := ⟨_, rfl⟩
  have HQ := As.mk hQ
  rw [hQ]
  have hEP : ∀ args (W : World), (callFunc 46 args).run Tryz.prog W = .ok (.enter 46 args) W := fun _ _ => rfl
  clear hA hth hH hok hX hx hs hst er hgs hbase hn hN hQ
  go_enter Tryz.func16, Tryz.ntmps16
  go_wp2_with fail
  ((with_reducible refine (HG.out _ HFW.out).mono ?_); rintro e w1 ⟨rfl, hf1⟩)
  have HF1 := As.mk (HFW.out.after hf1 (fun _ _ h => h))
  have HOP1 := As.mk (hf1.heap HOP.out (fun h => h))
  have HGE := As.mk (heap_alloc_new w1 (.cells #[.int .i64 σ.s.g.c, .int .i64 σ.s.g.b, .int .i64 σ.s.g.p, .int .i64 σ.s.g.s] 24))
  have HOP2 := As.mk (at_old (.cells #[.int .i64 σ.s.g.c, .int .i64 σ.s.g.b, .int .i64 σ.s.g.p, .int .i64 σ.s.g.s] 24) HOP1.out)
  have HF2 := As.mk (HF1.out.alloc (.cells #[.int .i64 σ.s.g.c, .int .i64 σ.s.g.b, .int .i64 σ.s.g.p, .int .i64 σ.s.g.s] 24))
  clear hf1
  go_upto_region 2 with fail
  generalize w1.alloc (.cells #[.int .i64 σ.s.g.c, .int .i64 σ.s.g.b, .int .i64 σ.s.g.p, .int .i64 σ.s.g.s] 24) = w2 at *
  generalize w1.heap.size = gg at *
  have o0 := cell_is (i := 0) HOP2.out rfl
  have o1 := cell_is (i := 1) HOP2.out rfl
  have g0 := cell_is (i := 0) HGE.out rfl
  have g1 := cell_is (i := 1) HGE.out rfl
  have g2 := cell_is (i := 2) HGE.out rfl
  have g3 := cell_is (i := 3) HGE.out rfl
  have hcl2 := HF2.out.cell hc4 (fun h => h)
  go_wp2_with fail
  ((with_reducible refine (HRM.out _).mono ?_); rintro e w3 ⟨rfl, hf3⟩)
  have HF3 := As.mk (HF2.out.after hf3 (fun _ _ h => h))
  have HOP3 := As.mk (hf3.heap HOP2.out (fun h => h))
  clear hf3 o0 o1 g0 g1 g2 g3 hcl2
  have o2 := cell_is (i := 2) HOP3.out rfl
  go_wp2_with fail
  ((with_reducible refine (HPAGE.out _).mono ?_); rintro e w4 ⟨v4, rfl, hrow4, hf4⟩)
  have HF4 := As.mk (HF3.out.after hf4 (fun _ _ h => h))
  have HOP4 := As.mk (hf4.heap HOP3.out (fun h => h))
  have HD4 : As (SlO (AF K σ) w4 v4 (pdat N c)) := ⟨SlO.of_row HLTF.out hrow4 HF3.out.size⟩
  obtain ⟨A4, n4, c4, e4, _, _, _⟩ := hrow4.rd
  subst e4
  clear hrow4 hf4 o2
  go_wp2_with fail
  ((with_reducible refine (HPUT.out A4 n4 c4 _ (HA.out.none_ HF4.out) HD4.out).mono ?_); rintro e w5 ⟨rfl, hA5, hf5⟩)
  have HA5 := As.mk hA5
  have HF5 := As.mk hf5
  have HH5 := As.mk ((HH.out.none_ HF4.out).af (HA.out.none_ HF4.out) hf5)
  have HOP5 := As.mk (hf5.heap HOP4.out (fun h => absurd (HLTF.out _ h) (Nat.lt_irrefl _)))
  clear hA5 hf5
  have k5 := cell_is (i := 4) HH5.out.main rfl
  have k6 := free_of (i := 4) HH5.out.main
  have o5 := cell_is (i := 2) HOP5.out rfl
  rw [HER.out] at k5
  go_upto_region 23 with fail
  have HST5 := As.mk (show RowV SP 8 w5 base (.slice rA N rc) N Y.sv from by
    have h9 := HH5.out.staged
    rw [HNE.out, HER.out] at h9
    exact h9)
  have HZ5 := As.mk (show base ≤ w5.heap.size from Nat.le_trans HBASE.out (Nat.le_trans HF4.out.size HF5.out.size))
  clear HPUT
  go_region_law (first
    | ((with_reducible refine Go.Proofs.YteofgpaceeibpaaGreat.Rdz.step_call2 rfl 46 _ _ _ rfl (.int .i64 N) (.int .u8 c) rfl rfl hEP (HPAGE.out _) (fun e w' h => ⟨_, h.choose_spec.1⟩) ?_); rintro vv w7 ⟨v7, hv, hrow7, hf7⟩; injection hv with hv; subst hv; have HF7 := As.mk (show Fr None_ w5 w7 from ⟨hf7.os, hf7.tape, hf7.output, hf7.size, hf7.block⟩); have HR7 := As.mk (show Row 5 .u8 w7 w5.heap.size v7 (pdat N c) from hrow7); clear hrow7 hf7; obtain ⟨A7, n7, c7, e7, _, _, _⟩ := HR7.out.rd; subst e7; have k7 := HF7.out.cell k5 (fun h => h); have k7a : (w7.alloc (.cells #[.int .u8 4, .int .u32 c, .int .u32 0, .int .u16 0, .int .u16 0, .int .u32 N, .int .u32 0, .slice A7 n7 c7] 117)).cell? ⟨Y.hb, 4, none⟩ = some (.slice rA N rc) := ((Fr.refl None_ w7).alloc _).cell k7 (fun h => h))
    | ((with_reducible refine step_appendV base rfl _ _ 34 117 (.agg #[.int .u8 0, .int .u32 0, .int .u32 0, .int .u16 0, .int .u16 0, .int .u32 0, .int .u32 0, .slice none 0 0]) 8 48 rfl Tryz.underlying34 infoSP rfl (by decide) (by decide) (.slice rA N rc) N Y.sv #[.int .u8 4, .int .u32 c, .int .u32 0, .int .u16 0, .int .u16 0, .int .u32 N, .int .u32 0, .slice A7 n7 c7] w7.heap.size rfl rfl rfl ?o0 ?oc ?oR ?oz ?o3 ?_); (case o0 => intro u hu; simp at hu; rcases hu with rfl | rfl | rfl | rfl | rfl | rfl | rfl | rfl <;> rfl); (case oc => exact heap_alloc_new w7 _); (case oR => have h9 := HST5.out.none_ (HF7.out.alloc (.cells #[.int .u8 4, .int .u32 c, .int .u32 0, .int .u16 0, .int .u16 0, .int .u32 N, .int .u32 0, .slice A7 n7 c7] 117)); exact h9); (case oz => exact Nat.le_trans HZ5.out (HF7.out.alloc (.cells #[.int .u8 4, .int .u32 c, .int .u32 0, .int .u16 0, .int .u16 0, .int .u32 N, .int .u32 0, .slice A7 n7 c7] 117)).size); (case o3 => omega); intro v6 w6 hrow6 hfr6 hat6; have HR6 := As.mk hrow6; have HF6 := As.mk (show Fr (fun b => (Value.slice rA N rc).ownBlock = some b) (w7.alloc (.cells #[.int .u8 4, .int .u32 c, .int .u32 0, .int .u16 0, .int .u16 0, .int .u32 N, .int .u32 0, .slice A7 n7 c7] 117)) w6 from ⟨hfr6.os, hfr6.tape, hfr6.output, hfr6.size, hfr6.block⟩); have HT6 := As.mk (show v6.ownBlock = (Value.slice rA N rc).ownBlock ∨ ∃ b, v6.ownBlock = some b ∧ (w7.alloc (.cells #[.int .u8 4, .int .u32 c, .int .u32 0, .int .u16 0, .int .u16 0, .int .u32 N, .int .u32 0, .slice A7 n7 c7] 117)).heap.size ≤ b from hat6); clear hrow6 hfr6 hat6; obtain ⟨A6, c6, e6, _, _, _⟩ := HR6.out.rd; subst e6; have hhm := (HF7.out.alloc (.cells #[.int .u8 4, .int .u32 c, .int .u32 0, .int .u16 0, .int .u16 0, .int .u32 N, .int .u32 0, .slice A7 n7 c7] 117)).heap HH5.out.main (fun h => h); have h7 := HF6.out.cell (((Fr.refl None_ w7).alloc (.cells #[.int .u8 4, .int .u32 c, .int .u32 0, .int .u16 0, .int .u16 0, .int .u32 N, .int .u32 0, .slice A7 n7 c7] 117)).cell k7 (fun h => h)) (fun h => RowV.ne HST5.out HH5.out.main (by decide) h); have h8 : w6.frozen? ⟨Y.hb, 4, none⟩ = false := free_of (HF6.out.heap hhm (fun h => RowV.ne HST5.out HH5.out.main (by decide) h)); clear hhm))
  all_goals
    have hHa := HH5.out.none_ (HF7.out.alloc (.cells #[.int .u8 4, .int .u32 c, .int .u32 0, .int .u16 0, .int .u16 0, .int .u32 N, .int .u32 0, .slice A7 n7 c7] 117))
    have HHA := As.mk hHa
    have hsn : SPs None_ (w7.alloc (.cells #[.int .u8 4, .int .u32 c, .int .u32 0, .int .u16 0, .int .u16 0, .int .u32 N, .int .u32 0, .slice A7 n7 c7] 117)) (Y.sv ++ (pcells (phead N c) (.slice A7 n7 c7)).toList) (H.staged ++ [(phead N c, pdat N c)]) := hHa.spg.snoc ((SlO.of_row (F := None_) (N := 0) (fun b h => h.elim) HR7.out (Nat.zero_le _)).none_ ((Fr.refl None_ w7).alloc _)) HHD.out
    have hpush := hHa.stage (hd := phead N c) (D := .slice A7 n7 c7) (v1 := .slice A6 (N + 1) c6) (d := pdat N c) hsn (by rw [HNE.out]; exact HR6.out) (by rw [HER.out]; exact HF6.out) (by rw [HER.out]; exact HT6.out)
    have hA7 : ArAt (w6.setCell ⟨Y.hb, 4, none⟩ (.slice A6 (N + 1) c6)) X.1 K := keeps (HA5.out.none_ (HF7.out.alloc (.cells #[.int .u8 4, .int .u32 c, .int .u32 0, .int .u16 0, .int .u16 0, .int .u32 N, .int .u32 0, .slice A7 n7 c7] 117))) hpush.2 (fun b hb hlt9 => by
      rcases hb with hb | hb
      · exact ⟨_, _, _, by rw [hb]; exact hHa.main, .inl rfl⟩
      · obtain ⟨_, _, cs, hc⟩ := RowV.blk hHa.staged b hb
        exact ⟨_, _, _, hc, .inr (.inr rfl)⟩)
    have hFin : Fr (fun b => AF K σ b ∨ base ≤ b) w (w6.setCell ⟨Y.hb, 4, none⟩ (.slice A6 (N + 1) c6)) := (((HF4.out.mono (T := fun b => AF K σ b ∨ base ≤ b) (fun _ _ h => h.elim)).after HF5.out (fun _ _ h => .inl h)).after (HF7.out.alloc (.cells #[.int .u8 4, .int .u32 c, .int .u32 0, .int .u16 0, .int .u16 0, .int .u32 N, .int .u32 0, .slice A7 n7 c7] 117)) (fun _ _ h => h.elim)).after hpush.2 (fun b _ hb => by
      rcases hb with hb | hb
      · exact .inr (by rw [hb]; exact HH.out.low)
      · exact .inr (RowV.blk hHa.staged b hb).1)
    have HP7 := As.mk hpush.1
    have HA7 := As.mk hA7
    have HFN := As.mk hFin
    clear hpush hA7 hFin hsn hHa h7 h8 k5 k6 k7 k7a o5
    generalize w6.setCell ⟨Y.hb, 4, none⟩ (.slice A6 (N + 1) c6) = w8 at *
    go_wp2_with fail
    rw [← HQ.out]
    exact ⟨rfl, HA7.out, ⟨_, HP7.out, rfl⟩, HFN.out⟩
end Go.Proofs.YteofgpaceeibpaaGreat.ActB

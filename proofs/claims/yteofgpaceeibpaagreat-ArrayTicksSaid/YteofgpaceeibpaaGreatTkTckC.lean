/- array.page: a page of a whole stripe. -/
import Derived.Test.YteofgpaceeibpaaGreatTkTckB
namespace Go.Proofs.YteofgpaceeibpaaGreat.TckC
open Go.RowKit Gab Geom Go.Proofs.YteofgpaceeibpaaGreat.Sum Ref Par Fields Seal Nand NandA NandH ArrA ArrD AOrd AWrA StgA ARead AGet AAgn HeldA AllA ARowW TckA TckB
open Wr (InR)
open Heap (cell_is)
open Str (pcells RowV.ne take_snoc Of_calls parOf)
open Go.Proofs.YteofgpaceeibpaaGreat.Open (openOf)
set_option linter.unusedVariables false
set_option linter.unusedSimpArgs false

theorem set2_cell {w : World} {pb : Nat} {u v x : Value} {a : Addr} (h : w.cell? a = some x) (hne : a.block ≠ pb) : ((w.setCell ⟨pb, 0, none⟩ u).setCell ⟨pb, 1, none⟩ v).cell? a = some x :=
  (((Fr.refl (fun b => b = pb) w).setCell (p := ⟨pb, 0, none⟩) (fun _ => rfl) u).setCell (p := ⟨pb, 1, none⟩) (fun _ => rfl) v).cell h hne
set_option maxHeartbeats 8000000 in
set_option maxRecDepth 100000 in
theorem page_whole (σ : Ar) (K : ALay) (b row dm : Int) (c ex : Nat → Ar) (l : List (Head × List Int)) (w : World) (hR : ArAt w σ K) (ha : σ.s.g.At b row) (hb : ¬ (b = 4 ∨ b = 5)) (hB : Scan σ b row dm true c) (hW : Whole K σ b row l ex) (hex : ex 0 = c σ.s.g.c.toNat) (hgx : (ex (σ.s.g.c - 1).toNat).s.g = σ.s.g) (hdm : σ.set.dead = dm) (hd0 : 0 ≤ dm) (hl : ∀ q ∈ l, (q.2.length : Int) = σ.s.g.s ∧ InR 256 q.2) :
    Calls Tryz.prog 114 #[.pointer (some ⟨K.x, 0, none⟩), .int .i64 b, .int .i64 row] w (PgS σ (ex (σ.s.g.c - 1).toNat) K (pageOf σ.s.g l b row dm) true w) := by
  have hok : σ.s.g.Ok := hR.nand.ok
  have HR := As.mk hR
  have HOK := As.mk hok
  obtain ⟨_, _, _, _, _, _, _, _, _, c9, _, _⟩ := hR.cs
  have HRW := As.mk (fun w' (hf : Fr None_ w w') => (Row_scan σ K b row dm true c ex l w' (hR.none_ hf) ha hB (fun _ => ⟨hW, hex⟩)).mono (R' := fun e w'' => (∃ v, e = .returned (.tuple #[v, .int .i64 2, .int .i64 0]) ∧ PL w'' w'.heap.size v l) ∧ ArAt w'' (ex (σ.s.g.c - 1).toNat) K ∧ Fr (AF K σ) w' w'') (fun e w'' h => ⟨by obtain ⟨⟨v, h1, h2⟩, _⟩ := h; exact ⟨v, h1, h2 rfl⟩, h.2.1, h.2.2⟩))
  have HPG := As.mk (heap_alloc_new w (.cells #[.slice none 0 0, .slice none 0 0] 157))
  have HNF := As.mk (show ¬ AF K σ w.heap.size from fun hb => by
    rcases hb with h | h | h
    · exact absurd (hR.nand.lt h) (Nat.lt_irrefl _)
    · have := (Array.getElem?_eq_some_iff.1 hR.main).1
      omega
    · obtain ⟨cs, hv, _⟩ := hR.vols
      have := (Array.getElem?_eq_some_iff.1 hv).1
      omega)
  have hlx : K.x < w.heap.size := (Array.getElem?_eq_some_iff.1 hR.main).1
  have b4 : (b == 4) = false := by rw [beq_eq_false_iff_ne]; exact fun e => hb (.inl e)
  have b5 : (b == 5) = false := by rw [beq_eq_false_iff_ne]; exact fun e => hb (.inr e)
  have hd1 : dm < σ.s.g.c := hB.rng.2
  have hgc := hok.c
  have hgs := hok.s
  have hgb := hok.b
  have hgp := hok.p
  have hseg := ha.seg
  have hrow := ha.row
  have HSL := As.mk (fun w => Slot_calls σ.s.g b row dm w hok ha hd0 (by omega))
  have HWL := As.mk hW
  have HL := As.mk hl
  obtain ⟨Q, hQ⟩ : ∃ Q, PgS σ (ex (σ.s.g.c - 1).toNat) K (pageOf σ.s.g l b row dm) true w = Q := ⟨_, rfl⟩
  have HQ := As.mk hQ
  rw [hQ]
  rw [hdm] at c9
  unfold dev at HRW
  unfold Geo.val at HSL
  have HGX := As.mk hgx
  generalize ex (σ.s.g.c - 1).toNat = τ at *
  clear hR ha hB hQ hb hdm hW hex hl hgx hok
  go_enter Tryz.func114, Tryz.ntmps114
  go_wp2_with fail
  ((with_reducible refine (HRW.out _ ((Fr.refl None_ w).alloc _)).mono ?_); rintro e w1 ⟨⟨v1, rfl, hpl⟩, hA1, hf1⟩)
  have HPL1 := As.mk hpl
  have HA1 := As.mk hA1
  have HPG1 := As.mk (hf1.heap HPG.out HNF.out)
  have HF1 := As.mk (((Fr.refl (AF K σ) w).alloc (.cells #[.slice none 0 0, .slice none 0 0] 157)).after hf1 (fun _ _ h => h))
  obtain ⟨vs1, hr1, hs1⟩ := HPL1.out
  obtain ⟨A1, c1, e1, _, _, _⟩ := hr1.rd
  subst e1
  have HR1 := As.mk hr1
  have HS1 := As.mk hs1
  clear hpl hA1 hf1 hr1 hs1 HPL1 HRW
  obtain ⟨_, g1, g2, g3, g4, _⟩ := HA1.out.cs
  rw [HGX.out] at g1 g2 g3 g4
  have hlen := HWL.out.len
  go_wp2_with fail
  ((with_reducible refine (HSL.out _).mono ?_); rintro e w2 ⟨rfl, hf2⟩)
  have HF2 := As.mk (HF1.out.after hf2 (fun _ _ h => h.elim))
  have HA2 := As.mk (HA1.out.none_ hf2)
  have HR2 := As.mk (HR1.out.none_ hf2)
  have HS2 := As.mk (spsTy HS1.out hf2 (fun _ _ _ h => h))
  have hpg := hf2.heap HPG1.out (fun h => h)
  have HPG2 := As.mk hpg
  clear hf2 hpg g1 g2 g3 g4
  by_cases hdt : σ.s.g.isData b row dm = true
  · have hsl := slot_range HOK.out hd0 hd1 hdt
    have HPO := As.mk (show pageOf σ.s.g l b row dm = ((l.getD (σ.s.g.slot b row dm).toNat noPage).2, sealOf (l.getD (σ.s.g.slot b row dm).toNat noPage).1 (l.getD (σ.s.g.slot b row dm).toNat noPage).2 []) from by
      unfold pageOf
      rw [if_pos hdt, sealed_get (by omega)])
    rw [hdt]
    generalize σ.s.g.slot b row dm = sl at *
    have hsn : sl.toNat < l.length := by omega
    obtain ⟨ad, ax, D, nd, cd, cc, eA, hax, k0, k1, k2, k3, k4, k5, k6, k7, HDD⟩ := pagesAt HR2.out HS2.out (s := sl.toNat) hsn
    injection eA with eA1 eA2 eA3
    subst eA1 eA3
    have hHd := HWL.out.ok sl.toNat hsn
    have hLq := HL.out (l.getD sl.toNat noPage) (by rw [List.getD_eq_getElem?_getD, List.getElem?_eq_getElem hsn]; exact List.getElem_mem hsn)
    have hsd := (HS2.out.2 sl.toNat hsn noPage).2.1
    have HPGw := As.mk HPG2.out
    have hcell7 : vs1.getD (sl.toNat * 8 + 7) undef = .slice D nd cd := by
      obtain ⟨A', c', e', _, hcd, _⟩ := HR2.out.rd
      injection e' with e1 e2 e3
      subst e1
      obtain ⟨ad', ea', hcc⟩ := hcd.out.2 (by omega)
      injection ea' with ea'
      subst ea'
      have h9 := hcc (sl.toNat * 8 + 7) (by omega)
      rw [Go.Proofs.YteofgpaceeibpaaGreat.Str.add_next ad _ 7 (by decide), hax] at h9
      rw [k7] at h9
      injection h9 with h9
      exact h9.symm
    rw [hcell7] at hsd
    have HSD := As.mk hsd
    obtain ⟨_, _, _, eD, hmD, hrD⟩ := hsd.1
    injection eD with r1 r2 r3
    subst r1 r2 r3
    have HMD := As.mk hmD
    have HDOK := As.mk hHd
    have HLQ := As.mk hLq
    generalize l.getD sl.toNat noPage = q at *
    have HSE := As.mk (fun (w' : World) (hf : Fr None_ w2 w') => Seal_calls q.1 q.2 [] D none nd 0 cd 0 w' HDOK.out (HDD.out.none_ hf) (Rd.nil _ _ _) HMD.out (Nat.le_refl _) HLQ.out.2 (fun x hx => by cases hx))
    unfold Head.vals at HSE
    clear hsd hmD hrD hHd hLq hcell7 hdt
    have hlI : ((l.length : Nat) : Int) = σ.s.g.c - 1 := hlen
    have hne : ax.block ≠ w.heap.size := by
      obtain ⟨_, _, cs, hc⟩ := RowV.blk HR2.out ad.block rfl
      rw [← hax, add_block]
      exact blk_ne hc HPG2.out (by decide)
    go_upto_region 9 with fail
    go_region_held3 (fun w' => w'.cell? ax = some (.int .u8 q.1.kind) ∧ w'.cell? ⟨ax.block, ax.off + 1, none⟩ = some (.int .u32 q.1.epoch) ∧ w'.cell? ⟨ax.block, ax.off + 2, none⟩ = some (.int .u32 q.1.batch) ∧ w'.cell? ⟨ax.block, ax.off + 3, none⟩ = some (.int .u16 q.1.index) ∧ w'.cell? ⟨ax.block, ax.off + 4, none⟩ = some (.int .u16 q.1.count) ∧ w'.cell? ⟨ax.block, ax.off + 5, none⟩ = some (.int .u32 q.1.block) ∧ w'.cell? ⟨ax.block, ax.off + 6, none⟩ = some (.int .u32 q.1.more) ∧ w'.cell? ⟨ax.block, ax.off + 7, none⟩ = some (.slice D nd cd)) (first | go_keep | exact ⟨set2_cell (hF3p.cell k0 (fun h => h)) hne, set2_cell (hF3p.cell k1 (fun h => h)) hne, set2_cell (hF3p.cell k2 (fun h => h)) hne, set2_cell (hF3p.cell k3 (fun h => h)) hne, set2_cell (hF3p.cell k4 (fun h => h)) hne, set2_cell (hF3p.cell k5 (fun h => h)) hne, set2_cell (hF3p.cell k6 (fun h => h)) hne, set2_cell (hF3p.cell k7 (fun h => h)) hne⟩ | exact ⟨hF3p.cell k0 (fun h => h), hF3p.cell k1 (fun h => h), hF3p.cell k2 (fun h => h), hF3p.cell k3 (fun h => h), hF3p.cell k4 (fun h => h), hF3p.cell k5 (fun h => h), hF3p.cell k6 (fun h => h), hF3p.cell k7 (fun h => h)⟩) (first | ((with_reducible refine (HSE.out _ ?_).mono ?_); (focus repeat (first | exact Fr.refl _ _ | apply Fr.drew | apply Fr.drewN | apply Fr.alloc)); rintro e w3 ⟨v3, rfl, hrow3, hf3⟩; have HR3 := As.mk hrow3; have hF3p : Fr None_ w2 w3 := ⟨hf3.os, hf3.tape, hf3.output, hf3.size, hf3.block⟩; have HF3 := As.mk hF3p; have hpg3 := HF3.out.heap HPG2.out (fun h => h); have HPG3 := As.mk hpg3; have x0 := cell_is (i := 0) hpg3 rfl; have x1 := cell_is (i := 1) hpg3 rfl; have y0 := free_of (i := 0) hpg3; have y1 := free_of (i := 1) hpg3; clear hrow3 hf3 hpg3; obtain ⟨A3, n3, c3, e3, _, _, _⟩ := HR3.out.rd; subst e3))
    all_goals
      have hset : Fr (fun b => b = w.heap.size) w3 ((w3.setCell ⟨w.heap.size, 0, none⟩ (.slice D nd cd)).setCell ⟨w.heap.size, 1, none⟩ (.slice A3 n3 c3)) := ((Fr.refl (fun b => b = w.heap.size) w3).setCell (p := ⟨w.heap.size, 0, none⟩) (fun _ => rfl) _).setCell (p := ⟨w.heap.size, 1, none⟩) (fun _ => rfl) _
      have HSET := As.mk hset
      have hpgf : ((w3.setCell ⟨w.heap.size, 0, none⟩ (.slice D nd cd)).setCell ⟨w.heap.size, 1, none⟩ (.slice A3 n3 c3)).heap[w.heap.size]? = some (.cells #[.slice D nd cd, .slice A3 n3 c3] 157 (0, 0)) := by
        have h1 := HPG3.out
        simp [World.setCell, Array.getElem?_modify, h1]
      clear x0 x1 y0 y1 hF3p hset
      have z0 := cell_is (i := 0) hpgf rfl
      have z1 := cell_is (i := 1) hpgf rfl
      clear hpgf
      generalize (w3.setCell ⟨w.heap.size, 0, none⟩ (.slice D nd cd)).setCell ⟨w.heap.size, 1, none⟩ (.slice A3 n3 c3) = w4 at *
      go_wp2_with fail
      refine bodyPost_ret (v := .tuple #[.agg #[.slice D nd cd, .slice A3 n3 c3], .bool true, .int .i64 0]) (by simp [results, Tryz.results114, go_sem, z0, z1]) rfl ?_
      rw [← HQ.out, HPO.out]
      refine ⟨⟨D, nd, cd, A3, n3, c3, rfl, fun _ => ⟨?_, ?_⟩⟩, besideP (HA2.out.none_ HF3.out) HPG3.out HSET.out, (HF2.out.after HF3.out (fun _ _ h => h.elim)).after HSET.out (fun b hb e => absurd hb (by omega))⟩
      · exact (HSD.out.none_ HF3.out).fr HSET.out (fun b cs hb e => blk_ne hb HPG3.out (by decide) e)
      · exact (SlO.of_row (F := None_) (N := 0) (fun b h => h.elim) HR3.out (Nat.zero_le _)).fr HSET.out (fun b cs hb e => blk_ne hb HPG3.out (by decide) e)
  · have hdf : σ.s.g.isData b row dm = false := by cases h : σ.s.g.isData b row dm; rfl; exact absurd h hdt
    have HPO := As.mk (show pageOf σ.s.g l b row dm = parOf σ.s.g.s.toNat (parHead l b row) (sealedOf l) from by
      unfold pageOf
      rw [if_neg hdt]
      rfl)
    rw [hdf]
    clear hdt hdf
    have hlI : ((l.length : Nat) : Int) = σ.s.g.c - 1 := hlen
    have HSLD : As (∀ i : Nat, i < l.length → (sealedOf l).take (i + 1) = (sealedOf l).take i ++ [((l.getD i noPage).2, sealOf (l.getD i noPage).1 (l.getD i noPage).2 [])]) := ⟨fun i hi => by
      have hi2 : i < (sealedOf l).length := by simp [sealedOf]; exact hi
      rw [take_snoc ([], []) hi2]
      congr 2
      simp [sealedOf, List.getD_eq_getElem?_getD, List.getElem?_eq_getElem hi]⟩
    have hEP : ∀ args (W : World), (callFunc 86 args).run Tryz.prog W = .ok (.enter 86 args) W := fun _ _ => rfl
    go_wp2_with fail
    go_loopw [15, 17, 86] (fun v15 v17 v86 w' => ∃ (i : Int) (vs10 : List Value), v86 = .int .i64 i ∧ 0 ≤ i ∧ i ≤ l.length ∧ As (RowV 157 2 w' w2.heap.size v15 i.toNat vs10 ∧ PPO None_ w' vs10 ((sealedOf l).take i.toNat)) ∧ As (Fr None_ w2 w')) (fun _ _ v86 _ => l.length - (intOf v86).toNat)
    case atStart => exact ⟨0, [], rfl, by omega, by omega, ⟨RowV.nil _ _ _ _, PPO.nil _ _⟩, ⟨Fr.refl _ _⟩⟩
    case round =>
      obtain ⟨i, vs10, rfl, hi0, hi, HX, HF⟩ := hrel
      obtain ⟨A4, cap4, e4, _, _, _⟩ := HX.out.1.rd
      subst e4
      by_cases hlt : i < (l.length : Int)
      · have hin : i.toNat < l.length := by omega
        obtain ⟨ad, ax, D, nd, cd, cc, eA, hax, k0, k1, k2, k3, k4, k5, k6, k7, HDD⟩ := pagesAt (HR2.out.none_ HF.out) (spsTy HS2.out HF.out (fun _ _ _ h => h)) (s := i.toNat) hin
        injection eA with eA1 eA2 eA3
        subst eA1 eA3
        have hHd := HWL.out.ok i.toNat hin
        have hLq := HL.out (l.getD i.toNat noPage) (by rw [List.getD_eq_getElem?_getD, List.getElem?_eq_getElem hin]; exact List.getElem_mem hin)
        have hsd := (HS2.out.2 i.toNat hin noPage).2.1.none_ HF.out
        have hcell7 : vs1.getD (i.toNat * 8 + 7) undef = .slice D nd cd := by
          obtain ⟨A', c', e', _, hcd, _⟩ := (HR2.out.none_ HF.out).rd
          injection e' with e1 e2 e3
          subst e1
          obtain ⟨ad', ea', hcc⟩ := hcd.out.2 (by omega)
          injection ea' with ea'
          subst ea'
          have h9 := hcc (i.toNat * 8 + 7) (by omega)
          rw [Go.Proofs.YteofgpaceeibpaaGreat.Str.add_next ad _ 7 (by decide), hax] at h9
          rw [k7] at h9
          injection h9 with h9
          exact h9.symm
        rw [hcell7] at hsd
        have HSD := As.mk hsd
        obtain ⟨_, _, _, eD, hmD, hrD⟩ := hsd.1
        injection eD with r1 r2 r3
        subst r1 r2 r3
        have HMD := As.mk hmD
        have HDOK := As.mk hHd
        have HLQ := As.mk hLq
        have HTK := As.mk (HSLD.out i.toNat hin)
        generalize l.getD i.toNat noPage = q at *
        clear hsd hmD hrD hHd hLq hcell7
        go_upto_region 14 with fail
        have hnew := heap_alloc_new wr (.cells #[.int .u8 q.1.kind, .int .u32 q.1.epoch, .int .u32 q.1.batch, .int .u16 q.1.index, .int .u16 q.1.count, .int .u32 q.1.block, .int .u32 q.1.more, .slice D nd cd] 117)
        have HF5 := As.mk (HF.out.alloc (.cells #[.int .u8 q.1.kind, .int .u32 q.1.epoch, .int .u32 q.1.batch, .int .u16 q.1.index, .int .u16 q.1.count, .int .u32 q.1.block, .int .u32 q.1.more, .slice D nd cd] 117))
        have HF5r := As.mk ((Fr.refl None_ wr).alloc (.cells #[.int .u8 q.1.kind, .int .u32 q.1.epoch, .int .u32 q.1.batch, .int .u16 q.1.index, .int .u16 q.1.count, .int .u32 q.1.block, .int .u32 q.1.more, .slice D nd cd] 117))
        generalize wr.alloc (.cells #[.int .u8 q.1.kind, .int .u32 q.1.epoch, .int .u32 q.1.batch, .int .u16 q.1.index, .int .u16 q.1.count, .int .u32 q.1.block, .int .u32 q.1.more, .slice D nd cd] 117) = w5 at *
        generalize wr.heap.size = gt at *
        have HNEW := As.mk hnew
        clear k0 k1 k2 k3 k4 k5 k6 k7
        have k0 := cell_is (v := .int .u8 q.1.kind) (i := 0) hnew rfl
        have k1 := cell_is (v := .int .u32 q.1.epoch) (i := 1) hnew rfl
        have k2 := cell_is (v := .int .u32 q.1.batch) (i := 2) hnew rfl
        have k3 := cell_is (v := .int .u16 q.1.index) (i := 3) hnew rfl
        have k4 := cell_is (v := .int .u16 q.1.count) (i := 4) hnew rfl
        have k5 := cell_is (v := .int .u32 q.1.block) (i := 5) hnew rfl
        have k6 := cell_is (v := .int .u32 q.1.more) (i := 6) hnew rfl
        have k7 := cell_is (v := .slice D nd cd) (i := 7) hnew rfl
        have HSE := As.mk (fun (w' : World) (hf : Fr None_ w5 w') => Seal_calls q.1 q.2 [] D none nd 0 cd 0 w' HDOK.out ((HDD.out.none_ HF5r.out).none_ hf) (Rd.nil _ _ _) HMD.out (Nat.le_refl _) HLQ.out.2 (fun x hx => by cases hx))
        unfold Head.vals at HSE
        have HX5 := As.mk (HX.out.1.none_ HF5r.out)
        have HP5 := As.mk (HX.out.2.none_ HF5r.out)
        have HZ5 := As.mk HF5.out.size
        clear hnew
        go_region_held3 (fun w' => w'.cell? ⟨gt, 0, none⟩ = some (.int .u8 q.1.kind) ∧ w'.cell? ⟨gt, 1, none⟩ = some (.int .u32 q.1.epoch) ∧ w'.cell? ⟨gt, 2, none⟩ = some (.int .u32 q.1.batch) ∧ w'.cell? ⟨gt, 3, none⟩ = some (.int .u16 q.1.index) ∧ w'.cell? ⟨gt, 4, none⟩ = some (.int .u16 q.1.count) ∧ w'.cell? ⟨gt, 5, none⟩ = some (.int .u32 q.1.block) ∧ w'.cell? ⟨gt, 6, none⟩ = some (.int .u32 q.1.more) ∧ w'.cell? ⟨gt, 7, none⟩ = some (.slice D nd cd)) (first | go_keep | exact ⟨hF6p.cell k0 (fun h => h), hF6p.cell k1 (fun h => h), hF6p.cell k2 (fun h => h), hF6p.cell k3 (fun h => h), hF6p.cell k4 (fun h => h), hF6p.cell k5 (fun h => h), hF6p.cell k6 (fun h => h), hF6p.cell k7 (fun h => h)⟩ | exact ⟨hF6q.cell k0 (fun h => h), hF6q.cell k1 (fun h => h), hF6q.cell k2 (fun h => h), hF6q.cell k3 (fun h => h), hF6q.cell k4 (fun h => h), hF6q.cell k5 (fun h => h), hF6q.cell k6 (fun h => h), hF6q.cell k7 (fun h => h)⟩ | exact hS9) (first
          | ((with_reducible refine (HSE.out _ ?_).mono ?_); (focus repeat (first | exact Fr.refl _ _ | apply Fr.drew | apply Fr.drewN | apply Fr.alloc)); rintro e w6 ⟨v6, rfl, hrow6, hf6⟩; have hF6p : Fr None_ w5 w6 := ⟨hf6.os, hf6.tape, hf6.output, hf6.size, hf6.block⟩; have HF6 := As.mk hF6p; have HR6 := As.mk hrow6; clear hrow6 hf6; obtain ⟨A6, n6, c6, e6, _, _, _⟩ := HR6.out.rd; subst e6; have hF6q : Fr None_ w5 (w6.alloc (.cells #[.slice D nd cd, .slice A6 n6 c6] 157)) := hF6p.alloc _)
          | ((with_reducible refine Go.Proofs.YteofgpaceeibpaaGreat.ActA.step_appendV w2.heap.size rfl _ _ 155 157 (.agg #[.slice none 0 0, .slice none 0 0]) 2 48 rfl Tryz.underlying155 infoPP rfl (by decide) (by decide) (.slice A4 i.toNat cap4) i.toNat vs10 #[.slice D nd cd, .slice A6 n6 c6] w6.heap.size rfl rfl rfl ?o0 ?oc ?oR ?oz ?o3 ?_); (case o0 => intro u hu; simp at hu; rcases hu with rfl | rfl <;> rfl); (case oc => exact heap_alloc_new w6 _); (case oR => have h9 := HX5.out.none_ (HF6.out.alloc (.cells #[.slice D nd cd, .slice A6 n6 c6] 157)); exact h9); (case oz => exact Nat.le_trans HZ5.out (HF6.out.alloc (.cells #[.slice D nd cd, .slice A6 n6 c6] 157)).size); (case o3 => omega); intro v9 w9 hrow9 hfr9 hat9; have HR9 := As.mk hrow9; have hF9p : Fr (fun b => (Value.slice A4 i.toNat cap4).ownBlock = some b) (w6.alloc (.cells #[.slice D nd cd, .slice A6 n6 c6] 157)) w9 := ⟨hfr9.os, hfr9.tape, hfr9.output, hfr9.size, hfr9.block⟩; have HF9 := As.mk hF9p; clear hrow9 hfr9 hat9; obtain ⟨A9, c9, e9, _, _, _⟩ := HR9.out.rd; subst e9; have hb9 := hF9p.heap (hF6q.heap HNEW.out (fun h => h)) (fun h => RowV.ne HX5.out HNEW.out (by decide) h); have hS9 : w9.cell? ⟨gt, 0, none⟩ = some (.int .u8 q.1.kind) ∧ w9.cell? ⟨gt, 1, none⟩ = some (.int .u32 q.1.epoch) ∧ w9.cell? ⟨gt, 2, none⟩ = some (.int .u32 q.1.batch) ∧ w9.cell? ⟨gt, 3, none⟩ = some (.int .u16 q.1.index) ∧ w9.cell? ⟨gt, 4, none⟩ = some (.int .u16 q.1.count) ∧ w9.cell? ⟨gt, 5, none⟩ = some (.int .u32 q.1.block) ∧ w9.cell? ⟨gt, 6, none⟩ = some (.int .u32 q.1.more) ∧ w9.cell? ⟨gt, 7, none⟩ = some (.slice D nd cd) := ⟨cell_is hb9 rfl, cell_is hb9 rfl, cell_is hb9 rfl, cell_is hb9 rfl, cell_is hb9 rfl, cell_is hb9 rfl, cell_is hb9 rfl, cell_is hb9 rfl⟩; clear hb9))
        all_goals
          go_wp2_with fail
          have hX6 := HX5.out.none_ (HF6.out.alloc (.cells #[.slice D nd cd, .slice A6 n6 c6] 157))
          have hfa : Fr None_ w5 (w6.alloc (.cells #[.slice D nd cd, .slice A6 n6 c6] 157)) := HF6.out.alloc _
          have hsD : SlO None_ (w6.alloc (.cells #[.slice D nd cd, .slice A6 n6 c6] 157)) (.slice D nd cd) q.2 := (HSD.out.none_ HF5r.out).none_ hfa
          have hsO : SlO None_ (w6.alloc (.cells #[.slice D nd cd, .slice A6 n6 c6] 157)) (.slice A6 n6 c6) (sealOf q.1 q.2 []) := (SlO.of_row (F := None_) (N := 0) (fun b h => h.elim) HR6.out (Nat.zero_le _)).none_ ((Fr.refl None_ w6).alloc _)
          have hpp := (HP5.out.none_ hfa).snoc hsD hsO
          have hF9 : Fr None_ w2 w9 := RowV.grow hX6 (HF5.out.after hfa (fun _ _ h => h)) HF9.out
          refine ⟨⟨i + 1, vs10 ++ [.slice D nd cd, .slice A6 n6 c6], rfl, by omega, by omega, ⟨?_, ?_⟩, ⟨hF9⟩⟩, by simp [intOf]; omega⟩
          · rw [show (i + 1).toNat = i.toNat + 1 by omega]
            exact HR9.out
          · rw [show (i + 1).toNat = i.toNat + 1 by omega, HTK.out]
            exact hpp.fr HF9.out (fun b cs hb => RowV.ne hX6 hb (by decide))
      · have hie : i.toNat = l.length := by omega
        have hn0 : 0 < l.length := by omega
        have hn0I : (0 : Int) < (l.length : Int) := by omega
        rw [hie] at HX
        obtain ⟨ad, ax, D, nd, cd, cc, eA, hax, k0, k1, k2, _, _, _, _, _, _⟩ := pagesAt (HR2.out.none_ HF.out) (spsTy HS2.out HF.out (fun _ _ _ h => h)) (s := 0) hn0
        injection eA with eA1 eA2 eA3
        subst eA1 eA3
        have hax0 : ad = ax := by rw [← hax]; rfl
        subst hax0
        have hh0 := HWL.out.ok 0 hn0
        change wr.cell? ⟨ad.block, ad.off + 1, none⟩ = some (.int .u32 (parHead l b row).epoch) at k1
        change wr.cell? ⟨ad.block, ad.off + 2, none⟩ = some (.int .u32 (parHead l b row).batch) at k2
        have HPK : As ((parHead l b row).Ok) := ⟨⟨by show (0 : Int) ≤ 5 ∧ (5 : Int) < 256; decide, hh0.epoch, hh0.batch, by show 0 ≤ row ∧ row < 65536; omega, by show 0 ≤ b ∧ b < 65536; omega, by show (0 : Int) ≤ 0 ∧ (0 : Int) < 4294967296; decide, by show (0 : Int) ≤ 0 ∧ (0 : Int) < 4294967296; decide⟩⟩
        clear k0 hax hh0
        have HPH : As (parHead l b row = ⟨5, (parHead l b row).epoch, (parHead l b row).batch, row, b, 0, 0⟩) := ⟨rfl⟩
        have hPPA : PPO None_ wr vs10 (sealedOf l) := by
          have h9 := HX.out.2
          rw [List.take_of_length_le (by simp [sealedOf])] at h9
          exact h9
        have hr9 := HX.out.1.rd
        have HPC := As.mk (fun (w' : World) (hf : Fr None_ wr w') => Of_calls σ.s.g.s.toNat (parHead l b row) (sealedOf l) vs10 A4 l.length cap4 w' HPK.out (by
          obtain ⟨A', c', e, _, h3, _⟩ := hr9
          injection e with e1 e2 e3
          subst e1
          exact h3.out.none_ hf) (hPPA.1.none_ hf) (fun q hq => by
            obtain ⟨q', hq', rfl⟩ := List.mem_map.1 hq
            have h1 := HL.out q' hq'
            exact ⟨by show q'.2.length = _; omega, sealOf_len _ _ _, h1.2, seal_range (fun x hx => by cases hx)⟩) (by omega) (by omega) (by omega))
        unfold Head.vals at HPC
        rw [HPH.out] at HPC
        dsimp only at HPC
        generalize (parHead l b row).epoch = ep at *
        generalize (parHead l b row).batch = ba at *
        clear hr9 hPPA
        have hwr : IntKind.u16.wrap row = row := by rw [IntKind.wrap_u16]; omega
        have hws : IntKind.u16.wrap b = b := by rw [IntKind.wrap_u16]; omega
        have hpos : 0 < l.length := hn0
        go_upto_region 16 with fail
        clear hlI hlen
        go_region_held3 (fun w' => w'.cell? ⟨ad.block, ad.off + 1, none⟩ = some (.int .u32 ep) ∧ w'.cell? ⟨ad.block, ad.off + 2, none⟩ = some (.int .u32 ba)) (go_keep) (fail)
        go_wp2_with fail
        rw [← HPH.out] at HPC
        ((with_reducible refine (HPC.out _ ?_).mono ?_); (focus repeat (first | exact Fr.refl _ _ | apply Fr.drew | apply Fr.drewN | apply Fr.alloc)); rintro e w6 ⟨u1, u2, rfl, hrow1, hrow2, hf6⟩)
        have hF6 : Fr None_ wr w6 := (((Fr.refl None_ wr).alloc _).drew).after hf6 (fun _ _ h => h)
        have HF6 := As.mk (HF.out.after hF6 (fun _ _ h => h))
        have HRW1 := As.mk hrow1
        have HRW2 := As.mk hrow2
        obtain ⟨U1, n1, c9, e1', _, _, _⟩ := hrow1.rd
        obtain ⟨U2, n2, c2, e2', _, _, _⟩ := hrow2.rd
        subst e1' e2'
        have hpg := HF6.out.heap HPG2.out (fun h => h)
        have HPG6 := As.mk hpg
        have x0 := cell_is (i := 0) hpg rfl
        have x1 := cell_is (i := 1) hpg rfl
        have y0 := free_of (i := 0) hpg
        have y1 := free_of (i := 1) hpg
        clear hf6 hF6 hpg hrow1 hrow2 k1 k2
        go_wp2_with fail
        have hset : Fr (fun b => b = w.heap.size) w6 ((w6.setCell ⟨w.heap.size, 0, none⟩ (.slice U1 n1 c9)).setCell ⟨w.heap.size, 1, none⟩ (.slice U2 n2 c2)) := ((Fr.refl (fun b => b = w.heap.size) w6).setCell (p := ⟨w.heap.size, 0, none⟩) (fun _ => rfl) _).setCell (p := ⟨w.heap.size, 1, none⟩) (fun _ => rfl) _
        refine bodyPost_ret (v := .tuple #[.agg #[.slice U1 n1 c9, .slice U2 n2 c2], .bool true, .int .i64 0]) (by simp [results, Tryz.results114, go_sem, x0, x1]) rfl ?_
        rw [← HQ.out, HPO.out]
        refine ⟨⟨U1, n1, c9, U2, n2, c2, rfl, fun _ => ⟨?_, ?_⟩⟩, besideP (HA2.out.none_ HF6.out) HPG6.out hset, (HF2.out.after HF6.out (fun _ _ h => h.elim)).after hset (fun b hb e => absurd hb (by omega))⟩
        · exact (SlO.of_row (F := None_) (N := 0) (fun b h => h.elim) HRW1.out (Nat.zero_le _)).fr hset (fun b cs hb e => blk_ne hb HPG6.out (by decide) e)
        · exact (SlO.of_row (F := None_) (N := 0) (fun b h => h.elim) HRW2.out (Nat.zero_le _)).fr hset (fun b cs hb e => blk_ne hb HPG6.out (by decide) e)
end Go.Proofs.YteofgpaceeibpaaGreat.TckC

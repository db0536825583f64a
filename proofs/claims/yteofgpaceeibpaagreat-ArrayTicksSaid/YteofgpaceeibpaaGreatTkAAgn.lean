/- stripe.again over an array: a page out of all others of its stripe (where it comes out right). -/
import Derived.Test.YteofgpaceeibpaaGreatTkAGet
import Derived.Test.YteofgpaceeibpaaGreatTkMiss
namespace Go.Proofs.YteofgpaceeibpaaGreat.AAgn
open Go.RowKit Gab Geom Go.Proofs.YteofgpaceeibpaaGreat.Sum Ref Par Fields Seal Nand NandA NandH ArrA ArrD AOrd AWrA StgA ARead AGet Miss
open Wr (InR)
open Heap (cell_is)
open Str (pcells PPs take_snoc)
open Go.Proofs.YteofgpaceeibpaaGreat.Open (openOf)
set_option linter.unusedVariables false
set_option linter.unusedSimpArgs false

/-- The pages of data of all members below i but m. -/
def othersTo (k m : Int) (fD fO : Int → List Int) (i : Nat) : List (List Int × List Int) := ((upTo i).filter fun n => decide (n ≠ m) && decide (n ≠ k)).map fun n => (fD n, fO n)
theorem othersTo_succ (k m : Int) (fD fO : Int → List Int) (i : Int) (hi : 0 ≤ i) : othersTo k m fD fO (i + 1).toNat = othersTo k m fD fO i.toNat ++ if i ≠ m ∧ i ≠ k then [(fD i, fO i)] else [] := by
  unfold othersTo
  rw [show (i + 1).toNat = i.toNat + 1 by omega, upTo_succ, List.filter_append, List.map_append, show ((i.toNat : Nat) : Int) = i by omega]
  by_cases h1 : i = m <;> by_cases h2 : i = k <;> simp [h1, h2]
theorem othersTo_len (k m : Int) (fD fO : Int → List Int) (i : Nat) : (othersTo k m fD fO i).length ≤ i := by
  unfold othersTo
  rw [List.length_map]
  refine Nat.le_trans (List.length_filter_le _ _) ?_
  simp [upTo]
theorem others_mem {k m : Int} {fD fO : Int → List Int} {i : Nat} : ∀ q ∈ othersTo k m fD fO i, ∃ n, 0 ≤ n ∧ n < (i : Int) ∧ n ≠ m ∧ q = (fD n, fO n) := by
  intro q hq
  obtain ⟨n, hn, rfl⟩ := List.mem_map.1 hq
  obtain ⟨h1, h2⟩ := List.mem_filter.1 hn
  obtain ⟨j, hj, rfl⟩ := List.mem_map.1 h1
  have hj2 := List.mem_range.1 hj
  simp only [Bool.and_eq_true, decide_eq_true_eq] at h2
  exact ⟨_, by show (0 : Int) ≤ (j : Int); omega, by show (j : Int) < (i : Int); omega, h2.1, rfl⟩
/-- All members but one are read, one behind the other. -/
structure Reads (σ : Ar) (seg row m : Int) (c : Nat → Ar) (fD fO : Int → List Int) : Prop where
  zero : c 0 = σ
  there : ∀ n : Nat, (n : Int) < σ.s.g.c → (c n).There
  g : ∀ n : Nat, (n : Int) < σ.s.g.c → (c n).s.g = σ.s.g
  safe : ∀ n : Nat, (n : Int) < σ.s.g.c → ∃ k, (c n).s.Safe (k + 1)
  one : ∀ n : Nat, (n : Int) < σ.s.g.c → (n : Int) ≠ m → One (c n) n seg.toNat row.toNat (c (n + 1), 0) (fD n, fO n)
  skip : ∀ n : Nat, (n : Int) = m → c (n + 1) = c n
  pg : ∀ n : Int, 0 ≤ n → n < σ.s.g.c → n ≠ m → ((fD n).length : Int) = σ.s.g.s ∧ (fO n).length = 64 ∧ InR 256 (fD n) ∧ InR 256 (fO n)
def AgPost (σ τ : Ar) (K : ALay) (h : Head) (d : List Int) (w : World) (e : Ending) (w' : World) : Prop :=
  ∃ v, e = .returned (.tuple #[.agg (pcells h v), .int .i64 0]) ∧ Row 5 .u8 w' w.heap.size v d ∧ ArAt w' τ K ∧ Fr (AF K σ) w w'

/-- A row of pages with what stands beside each is written beside an array. -/
theorem besideP {w w' : World} {σ : Ar} {K : ALay} (h : ArAt w σ K) {pb : Nat} {cs : Array Value} (hp : w.heap[pb]? = some (.cells cs 157 (0, 0))) (hf : Fr (fun b => b = pb) w w') : ArAt w' σ K := by
  have hne : ∀ {b : Nat} {cs : Array Value} {T : TypeId} {f : Nat × Nat}, w.heap[b]? = some (.cells cs T f) → T ≠ 157 → ¬ b = pb := fun hb hT => blk_ne hb hp hT
  refine ⟨h.nand.one hp hf ⟨⟨by decide, by decide, by decide, by decide, by decide⟩, by decide, by decide⟩, hf.heap h.main (hne h.main (by decide)), h.ccn, ?_, fun c t hc e => ⟨(h.vol c t hc e).1.ty hf (fun b cs T f hb hT => hne hb (by rcases hT with rfl | rfl <;> decide)), (h.vol c t hc e).2⟩, ?_, h.ok⟩
  · obtain ⟨ds, e, hds⟩ := h.vols
    exact ⟨ds, hf.heap e (hne e (by decide)), hds⟩
  · obtain ⟨ds, e, hds⟩ := h.chips
    exact ⟨ds, hf.heap e (hne e (by decide)), hds⟩
theorem besidePs {w w' : World} {σ : Ar} {K : ALay} (h : ArAt w σ K) {base n : Nat} {v : Value} {vs : List Value} (hr : RowV 157 2 w base v n vs) (hf : Fr (fun b => v.ownBlock = some b) w w') : ArAt w' σ K := by
  rcases hv : v.ownBlock with _ | pb
  · exact h.none_ (hf.mono (fun b _ hb => by rw [hv] at hb; cases hb))
  · obtain ⟨_, _, cs, hc⟩ := Go.Proofs.YteofgpaceeibpaaGreat.Par.RowV.blk hr pb hv
    exact besideP h hc (hf.mono (fun b _ hb => by rw [hv] at hb; injection hb with hb; exact hb.symm))

set_option maxHeartbeats 8000000 in
set_option maxRecDepth 100000 in
theorem again_calls (σ : Ar) (K : ALay) (seg row slot m : Int) (c : Nat → Ar) (fD fO : Int → List Int) (w : World) (h h' : Head) (hR : ArAt w σ K) (ha : σ.s.g.At seg row) (hm : 0 ≤ m ∧ m < σ.s.g.c) (hmk : m ≠ σ.s.g.par seg row) (hrs : Reads σ seg row m c fD fO)
    (ho : ∀ n, 0 ≤ n → n < σ.s.g.c → n ≠ m → n ≠ σ.s.g.par seg row → (openOf (fD n) (fO n)).2 = true)
    (hk : openOf (fD (σ.s.g.par seg row)) (fO (σ.s.g.par seg row)) = (h, true)) (hk5 : h.kind = 5)
    (hres : openOf (missD σ.s.g.s.toNat (fD (σ.s.g.par seg row)) (othersTo (σ.s.g.par seg row) m fD fO σ.s.g.c.toNat)) (missO (fO (σ.s.g.par seg row)) (othersTo (σ.s.g.par seg row) m fD fO σ.s.g.c.toNat)) = (h', true)) :
    Calls Tryz.prog 78 #[dev K.x, .agg #[.int .i64 seg, .int .i64 row, .int .i64 slot], .int .i64 m] w (AgPost σ (c σ.s.g.c.toNat) K h' (missD σ.s.g.s.toNat (fD (σ.s.g.par seg row)) (othersTo (σ.s.g.par seg row) m fD fO σ.s.g.c.toNat)) w) := by
  have hok : σ.s.g.Ok := hR.nand.ok
  have HR := As.mk hR
  have hc1 := hok.c
  have hb1 := hok.b
  have hp1 := hok.p
  have hs1 := hok.s
  have HLTF := As.mk (show ∀ b, AF K σ b → b < w.heap.size from fun b hb => by
    rcases hb with h | h | h
    · exact hR.nand.lt h
    · rw [h]; exact (Array.getElem?_eq_some_iff.1 hR.main).1
    · obtain ⟨cs, hv, _⟩ := hR.vols
      rw [h]; exact (Array.getElem?_eq_some_iff.1 hv).1)
  have HG := As.mk (fun w' (hf : Fr None_ w w') => ArrA.Geo_calls σ K w' (hR.none_ hf))
  have HPA := As.mk (fun w => Parity_calls σ.s.g seg row w hok ha)
  have HROW : As (∀ (n : Int) (wr : World), ArAt wr (c n.toNat) K → 0 ≤ n → n < σ.s.g.c → n ≠ m → Calls Tryz.prog 22 #[.pointer (some ⟨K.x, 0, none⟩), .int .i64 n, .int .i64 seg, .int .i64 row] wr (OnePost σ K (c (n.toNat + 1), 0) (fD n, fO n) wr)) := ⟨fun n wr hA h0 h1 h2 => by
    obtain ⟨j, hs⟩ := hrs.safe n.toNat (by omega)
    have h9 := hrs.one n.toNat (by omega) (by omega)
    rw [show ((n.toNat : Nat) : Int) = n by omega] at h9
    exact Read_one σ (c n.toNat) K n seg row _ _ wr hA (hrs.there n.toNat (by omega)) (hrs.g n.toNat (by omega)) h0 h1 ha h9 j hs⟩
  have HPF := As.mk hrs.pg
  have HRS := As.mk hrs
  have hkr := par_range hok seg row
  have HO := As.mk ho
  have HK := As.mk hk
  have HRES := As.mk hres
  have HMK := As.mk hmk
  have HK5 := As.mk hk5
  have HSU := As.mk (fun i hi => othersTo_succ (σ.s.g.par seg row) m fD fO i hi)
  have HOL := As.mk (fun i => othersTo_len (σ.s.g.par seg row) m fD fO i)
  have HOM := As.mk (fun i => others_mem (k := σ.s.g.par seg row) (m := m) (fD := fD) (fO := fO) (i := i))
  have H0 : As (othersTo (σ.s.g.par seg row) m fD fO 0 = []) := ⟨rfl⟩
  unfold Geo.val at HG HPA
  generalize hpar : σ.s.g.par seg row = k at *
  generalize othersTo k m fD fO = ot at *
  obtain ⟨hm0, hm1⟩ := hm
  obtain ⟨hk0, hk1⟩ := hkr
  unfold dev
  obtain ⟨Q, hQ⟩ : ∃ Q, AgPost σ (c σ.s.g.c.toNat) K h' (missD σ.s.g.s.toNat (fD k) (ot σ.s.g.c.toNat)) w = Q := ⟨_, rfl⟩
  have HQ := As.mk hQ
  rw [hQ]
  clear hR ha ho hk hres hmk hok hpar hk5 hrs hQ
  go_enter Tryz.func78, Tryz.ntmps78
  have HPL0 := As.mk (heap_alloc_new w (.cells #[.int .i64 seg, .int .i64 row, .int .i64 slot] 108))
  have HPL1 := As.mk (at_old (.cells #[.int .u8 0, .int .u32 0, .int .u32 0, .int .u16 0, .int .u16 0, .int .u32 0, .int .u32 0, .slice none 0 0] 117) HPL0.out)
  have HPG1 := As.mk (at_new (.cells #[.int .u8 0, .int .u32 0, .int .u32 0, .int .u16 0, .int .u16 0, .int .u32 0, .int .u32 0, .slice none 0 0] 117) (size_new (.cells #[.int .i64 seg, .int .i64 row, .int .i64 slot] 108) (rfl : w.heap.size = w.heap.size)))
  have HFW : As (Fr None_ w ((w.alloc (.cells #[.int .i64 seg, .int .i64 row, .int .i64 slot] 108)).alloc (.cells #[.int .u8 0, .int .u32 0, .int .u32 0, .int .u16 0, .int .u16 0, .int .u32 0, .int .u32 0, .slice none 0 0] 117))) := ⟨((Fr.refl _ w).alloc _).alloc _⟩
  go_wp2_with fail
  ((with_reducible refine (HG.out _ HFW.out).mono ?_); rintro e w1 ⟨rfl, hf1⟩)
  have HF1 := As.mk (HFW.out.after hf1 (fun _ _ h => h))
  have HPLa := As.mk (hf1.heap HPL1.out (fun h => h))
  have HPGa := As.mk (hf1.heap HPG1.out (fun h => h))
  clear hf1
  have c0 := cell_is (i := 0) HPLa.out rfl
  have c1 := cell_is (i := 1) HPLa.out rfl
  have l0 : w.heap.size < w1.heap.size := (Array.getElem?_eq_some_iff.1 HPLa.out).1
  go_wp2_with fail
  ((with_reducible refine (HPA.out _).mono ?_); rintro e w2 ⟨rfl, hf2⟩)
  have HGEb := As.mk (hf2.heap (heap_alloc_new w1 (.cells #[.int .i64 σ.s.g.c, .int .i64 σ.s.g.b, .int .i64 σ.s.g.p, .int .i64 σ.s.g.s] 24)) (fun h => h))
  have HPLb := As.mk (hf2.heap (at_old (.cells #[.int .i64 σ.s.g.c, .int .i64 σ.s.g.b, .int .i64 σ.s.g.p, .int .i64 σ.s.g.s] 24) HPLa.out) (fun h => h))
  have HPGb := As.mk (hf2.heap (at_old (.cells #[.int .i64 σ.s.g.c, .int .i64 σ.s.g.b, .int .i64 σ.s.g.p, .int .i64 σ.s.g.s] 24) HPGa.out) (fun h => h))
  have HF2 := As.mk ((HF1.out.alloc _).after hf2 (fun _ _ h => h))
  have hz8 : w.heap.size ≤ w1.heap.size := HF1.out.size
  clear c0 c1 l0 hf2
  generalize hg8 : w1.heap.size = g8 at *
  clear hg8
  have c0 := cell_is (i := 0) HGEb.out rfl
  have l8 : g8 < w2.heap.size := (Array.getElem?_eq_some_iff.1 HGEb.out).1
  go_wp2_with fail
  clear c0 l8
  have HGW := As.mk (heap_alloc_new w2 (.cells #[.slice none 0 0, .slice none 0 0] 157))
  have HST : As (Fr None_ w (w2.alloc (.cells #[.slice none 0 0, .slice none 0 0] 157)) ∧ (w2.alloc (.cells #[.slice none 0 0, .slice none 0 0] 157)).heap[w.heap.size]? = some (.cells #[.int .i64 seg, .int .i64 row, .int .i64 slot] 108 (0, 0)) ∧ (w2.alloc (.cells #[.slice none 0 0, .slice none 0 0] 157)).heap[w.heap.size + 1]? = some (.cells #[.int .u8 0, .int .u32 0, .int .u32 0, .int .u16 0, .int .u16 0, .int .u32 0, .int .u32 0, .slice none 0 0] 117 (0, 0))) := ⟨HF2.out.alloc _, at_old _ HPLb.out, at_old _ HPGb.out⟩
  have hz2 : w.heap.size ≤ w2.heap.size := HF2.out.size
  generalize w2.alloc (.cells #[.slice none 0 0, .slice none 0 0] 157) = w3 at *
  generalize hgw : w2.heap.size = gw at *
  clear hgw HPLb HPGb HGEb HF2
  have hz3 : w.heap.size ≤ gw := hz2
  have HZ3 := As.mk hz3
  have HNF := As.mk (show ∀ b, w.heap.size ≤ b → ¬ AF K σ b from fun b hb ha => absurd (HLTF.out b ha) (by omega))
  go_loopw [11, 12, 13, 14, 15, 16, 17, 32] (fun v11 v12 v13 v14 v15 v16 v17 v32 w' => ∃ i : Int, ∃ vs : List Value, v32 = .int .i64 i ∧ 0 ≤ i ∧ i ≤ σ.s.g.c ∧ As (RowV 157 2 w' (gw + 1) v11 (ot i.toNat).length vs) ∧ As (PPO (AF K σ) w' vs (ot i.toNat)) ∧ As (Fr (AF K σ) w w' ∧ w'.heap[w.heap.size]? = some (.cells #[.int .i64 seg, .int .i64 row, .int .i64 slot] 108 (0, 0)) ∧ w'.heap[w.heap.size + 1]? = some (.cells #[.int .u8 0, .int .u32 0, .int .u32 0, .int .u16 0, .int .u16 0, .int .u32 0, .int .u32 0, .slice none 0 0] 117 (0, 0))) ∧ As (∃ u0 u1, w'.heap[gw]? = some (.cells #[u0, u1] 157 (0, 0)) ∧ (k < i → SlO (AF K σ) w' u0 (fD k) ∧ SlO (AF K σ) w' u1 (fO k))) ∧ As (ArAt w' (c i.toNat) K)) (fun _ _ _ _ _ _ _ v32 _ => (σ.s.g.c - intOf v32).toNat)
  case atStart => exact ⟨0, [], rfl, by omega, by omega, ⟨by rw [Int.toNat_zero, H0.out]; exact RowV.nil _ _ _ _⟩, ⟨by rw [Int.toNat_zero, H0.out]; exact PPO.nil _ _⟩, ⟨HST.out.1.mono (fun _ _ h => h.elim), HST.out.2⟩, ⟨_, _, HGW.out, fun h => by omega⟩, ⟨by show ArAt w3 (c 0) K; rw [HRS.out.zero]; exact HR.out.none_ HST.out.1⟩⟩
  case round =>
    obtain ⟨i, vs, rfl, hi0, hi, HX, HP, HF, HW, HC⟩ := hrel
    obtain ⟨A1, cap1, e1, _, _, _⟩ := HX.out.rd
    generalize hlen : (ot i.toNat).length = len at *
    have HLE := As.mk hlen
    have HL1 := HOL.out i.toNat
    rw [hlen] at HL1
    clear hlen
    subst e1
    obtain ⟨u0, u1, hw0, hw1⟩ := HW.out
    have HW0 := As.mk hw0
    have HW1 := As.mk hw1
    clear hw0 hw1 HW
    by_cases hlt : i < σ.s.g.c
    · have HSI := As.mk (HSU.out i hi0)
      by_cases him : i = m
      · have hbe : (i == m) = true := by simp [him]
        have HOE : As (ot (i + 1).toNat = ot i.toNat) := ⟨by rw [HSI.out, if_neg (fun h => h.1 him), List.append_nil]⟩
        have HKI : As (k < i + 1 → k < i) := ⟨fun h => by have := HMK.out; omega⟩
        have HC2 := As.mk (show ArAt wr (c (i + 1).toNat) K from by rw [show (i + 1).toNat = i.toNat + 1 by omega, HRS.out.skip i.toNat (by omega)]; exact HC.out)
        clear him
        go_wp2_with fail
        exact ⟨⟨i + 1, vs, rfl, by omega, by omega, ⟨by rw [HOE.out, HLE.out]; exact HX.out⟩, ⟨by rw [HOE.out]; exact HP.out⟩, HF, ⟨u0, u1, HW0.out, fun h => HW1.out (HKI.out h)⟩, HC2⟩, by simp [intOf]; omega⟩
      · have hbm : (i == m) = false := by simp [him]
        have HRD := As.mk (HROW.out i wr HC.out hi0 hlt him)
        have c0 := cell_is (i := 0) HF.out.2.1 rfl
        have c1 := cell_is (i := 1) HF.out.2.1 rfl
        have l0 : w.heap.size < wr.heap.size := (Array.getElem?_eq_some_iff.1 HF.out.2.1).1
        by_cases hik : i = k
        · have hbk : (i == k) = true := by simp [hik]
          have HOE : As (ot (i + 1).toNat = ot i.toNat) := ⟨by rw [HSI.out, if_neg (fun h => h.2 hik), List.append_nil]⟩
          have HIK := As.mk hik
          clear hik him
          go_wp2_with fail
          ((with_reducible refine HRD.out.mono ?_); rintro e w4 ⟨A3, n3, c3, A4, n4, c4, rfl, ha4, hf4, hz4, _⟩)
          have HR1 := As.mk (hz4 rfl).1
          have HR2 := As.mk (hz4 rfl).2
          have HF4 := As.mk hf4
          have HA4 := As.mk ha4
          have hb4 := hf4.heap HW0.out (HNF.out gw HZ3.out)
          have x0 := cell_is (i := 0) hb4 rfl
          have x1 := cell_is (i := 1) hb4 rfl
          have y0 := free_of (i := 0) hb4
          have y1 := free_of (i := 1) hb4
          have HB4 := As.mk hb4
          clear hz4 ha4 hf4 hb4
          go_wp2_with fail
          have hset : Fr (fun b => b = gw) w4 ((w4.setCell ⟨gw, 0, none⟩ (.slice A3 n3 c3)).setCell ⟨gw, 1, none⟩ (.slice A4 n4 c4)) := ((Fr.refl (fun b => b = gw) w4).setCell (p := ⟨gw, 0, none⟩) (fun _ => rfl) _).setCell (p := ⟨gw, 1, none⟩) (fun _ => rfl) _
          have hF4 : Fr (AF K σ) w w4 := HF.out.1.after HF4.out (fun _ _ h => h)
          have hgw : w.heap.size ≤ gw := HZ3.out
          have hF5 := hF4.after hset (fun b hb e => absurd hb (by rw [e]; omega))
          have hzz : w.heap.size ≤ wr.heap.size := HF.out.1.size
          have huS : ∀ b cs, w4.heap[b]? = some (.cells cs 5 (0, 0)) → ¬ b = gw := fun b cs hb e => blk_ne hb HB4.out (by decide) e
          have hX4 := HX.out.fr HF4.out (fun b hb => HNF.out b (by have := (Go.Proofs.YteofgpaceeibpaaGreat.Par.RowV.blk HX.out b hb).1; omega))
          refine ⟨⟨i + 1, vs, rfl, by omega, by omega, ⟨?_⟩, ⟨?_⟩, ⟨hF5, ?_, ?_⟩, ⟨.slice A3 n3 c3, .slice A4 n4 c4, ?_, fun _ => ⟨?_, ?_⟩⟩, ⟨?_⟩⟩, by simp [intOf]; omega⟩
          · rw [HOE.out, HLE.out]
            exact hX4.fr hset (fun b hb e => by have := (Go.Proofs.YteofgpaceeibpaaGreat.Par.RowV.blk HX.out b hb).1; omega)
          · rw [HOE.out]
            exact (HP.out.step HF4.out).fr hset huS
          · exact hset.heap (HF4.out.heap HF.out.2.1 (HNF.out _ (Nat.le_refl _))) (fun e => blk_ne (HF4.out.heap HF.out.2.1 (HNF.out _ (Nat.le_refl _))) HB4.out (by decide) e)
          · exact hset.heap (HF4.out.heap HF.out.2.2 (HNF.out _ (Nat.le_succ _))) (fun e => blk_ne (HF4.out.heap HF.out.2.2 (HNF.out _ (Nat.le_succ _))) HB4.out (by decide) e)
          · have h1 := HB4.out
            show (_ : Option Obj) = some (Obj.cells #[.slice A3 n3 c3, .slice A4 n4 c4] 157 (0, 0))
            simp [World.setCell, Array.getElem?_modify, h1]
          · rw [← HIK.out]
            exact (SlO.of_row HLTF.out HR1.out hzz).fr hset huS
          · rw [← HIK.out]
            exact (SlO.of_row HLTF.out HR2.out hzz).fr hset huS
          · rw [show (i + 1).toNat = i.toNat + 1 by omega]
            exact besideP HA4.out HB4.out hset
        · have hbk : (i == k) = false := by simp [hik]
          have HOE : As (ot (i + 1).toNat = ot i.toNat ++ [(fD i, fO i)]) := ⟨by rw [HSI.out, if_pos ⟨him, hik⟩]⟩
          have hoi := HO.out i hi0 hlt him hik
          have HKI : As (k < i + 1 → k < i) := ⟨fun h => by omega⟩
          obtain ⟨hd, hhd⟩ : ∃ hd, openOf (fD i) (fO i) = (hd, true) := ⟨(openOf (fD i) (fO i)).1, by rw [← hoi]⟩
          have HPI := As.mk (HPF.out i hi0 hlt him)
          have HOP := As.mk (fun (D1 O1 : Option Addr) (nd1 cd1 no1 co1 : Nat) (w' : World) (h1 : Rd .u8 w' O1 no1 (fO i)) (h2 : Rd .u8 w' D1 nd1 (fD i)) (h3 : no1 ≤ co1) (h4 : nd1 ≤ cd1) => Open.Open_calls O1 D1 no1 co1 nd1 cd1 (fO i) (fD i) w' h1 h2 HPI.out.2.2.2 HPI.out.2.2.1 h3 h4)
          rw [hhd] at HOP
          unfold Head.vals at HOP
          dsimp only at HOP
          clear hik him hoi hhd
          go_wp2_with fail
          ((with_reducible refine HRD.out.mono ?_); rintro e w4 ⟨A3, n3, c3, A4, n4, c4, rfl, ha4, hf4, hz4, _⟩)
          have HR1 := As.mk (hz4 rfl).1
          have HR2 := As.mk (hz4 rfl).2
          have HF4 := As.mk hf4
          have HA4 := As.mk ha4
          have HX4 := As.mk (HX.out.fr hf4 (fun b hb => HNF.out b (by have := (Go.Proofs.YteofgpaceeibpaaGreat.Par.RowV.blk HX.out b hb).1; have := HZ3.out; omega)))
          clear hz4 ha4 hf4
          obtain ⟨_, _, _, e3, hm3, hd3, _⟩ := HR1.out.rd
          obtain ⟨_, _, _, e4, hm4, hd4, _⟩ := HR2.out.rd
          injection e3 with q1 q2 q3
          injection e4 with q4 q5 q6
          subst q1 q2 q3 q4 q5 q6
          go_wp2_with (first | (go_at_call 42; (with_reducible refine (HOP.out A3 A4 n3 c3 n4 c4 _ hd4.out hd3.out hm4.out hm3.out).mono ?_); rintro e w5 ⟨rfl, hf5⟩; have HF5 := As.mk hf5; clear hf5) | (at_builtin; (with_reducible refine appendV (gw + 1) rfl _ _ 155 157 (.agg #[.slice none 0 0, .slice none 0 0]) 2 48 rfl Tryz.underlying155 infoPP rfl (by decide) (by decide) (.slice A1 len cap1) len vs #[.slice A3 n3 c3, .slice A4 n4 c4] (w5.heap.size + 1) (size_new _ rfl) rfl rfl rfl ?o0 ((HX4.out.none_ HF5.out).none_ ((Fr.refl None_ w5).alloc _)) ?o2 ?o3 ?_); (case o0 => intro u hu; simp at hu; rcases hu with rfl | rfl <;> rfl); (case o2 => have h1 := (Array.getElem?_eq_some_iff.1 HW0.out).1; have := HF4.out.size; have := HF5.out.size; simp; omega); (case o3 => omega); intro v6 w6 hrow6 hfr6 hat6; have HR6 := As.mk hrow6; have HF6 := As.mk (((Fr.refl _ w5).alloc _).after hfr6 (fun _ _ h => h)); clear hrow6 hfr6 hat6; obtain ⟨A6, c6, e6, _, _, _⟩ := HR6.out.rd; subst e6))
          have hF5 : Fr (AF K σ) wr w5 := HF4.out.after HF5.out (fun _ _ h => h.elim)
          have hF5w : Fr (AF K σ) w w5 := HF.out.1.after hF5 (fun _ _ h => h)
          have hX5 := HX4.out.none_ HF5.out
          have hgw : w.heap.size ≤ gw := HZ3.out
          have hzz : w.heap.size ≤ wr.heap.size := HF.out.1.size
          have hown : ∀ b, (Value.slice A1 len cap1).ownBlock = some b → gw + 1 ≤ b := fun b hb => (Go.Proofs.YteofgpaceeibpaaGreat.Par.RowV.blk hX5 b hb).1
          have hF6 : Fr (AF K σ) w w6 := hF5w.after HF6.out (fun b hb hb2 => absurd hb (by have := hown b hb2; omega))
          have huS : ∀ b cs, w5.heap[b]? = some (.cells cs 5 (0, 0)) → ¬ (Value.slice A1 len cap1).ownBlock = some b := fun b cs hb => Go.Proofs.YteofgpaceeibpaaGreat.Str.RowV.ne hX5 hb (by decide)
          have hs1 : SlO (AF K σ) w5 (.slice A3 n3 c3) (fD i) := (SlO.of_row HLTF.out HR1.out hzz).none_ HF5.out
          have hs2 : SlO (AF K σ) w5 (.slice A4 n4 c4) (fO i) := (SlO.of_row HLTF.out HR2.out hzz).none_ HF5.out
          have hpl := hF5.heap HF.out.2.1 (HNF.out _ (Nat.le_refl _))
          have hpg := hF5.heap HF.out.2.2 (HNF.out _ (Nat.le_succ _))
          have hPP5 := (HP.out.step HF4.out).none_ HF5.out
          refine ⟨⟨i + 1, vs ++ [.slice A3 n3 c3, .slice A4 n4 c4], rfl, by omega, by omega, ⟨?_⟩, ⟨?_⟩, ⟨hF6, ?_, ?_⟩, ⟨u0, u1, ?_, fun h => ⟨?_, ?_⟩⟩, ⟨?_⟩⟩, by simp [intOf]; omega⟩
          · rw [HOE.out, List.length_append, HLE.out]
            exact HR6.out
          · rw [HOE.out]
            exact (hPP5.snoc hs1 hs2).fr HF6.out huS
          · exact HF6.out.heap hpl (Go.Proofs.YteofgpaceeibpaaGreat.Str.RowV.ne hX5 hpl (by decide))
          · exact HF6.out.heap hpg (Go.Proofs.YteofgpaceeibpaaGreat.Str.RowV.ne hX5 hpg (by decide))
          · exact HF6.out.heap (hF5.heap HW0.out (HNF.out gw HZ3.out)) (fun hb => by have := hown gw hb; omega)
          · exact (((HW1.out (HKI.out h)).1.step HF4.out).none_ HF5.out).fr HF6.out huS
          · exact (((HW1.out (HKI.out h)).2.step HF4.out).none_ HF5.out).fr HF6.out huS
          · rw [show (i + 1).toNat = i.toNat + 1 by omega]
            exact besidePs (HA4.out.none_ HF5.out) hX5 HF6.out
    · have hie : i = σ.s.g.c := by omega
      subst hie
      have HCE := As.mk (show ArAt wr (c σ.s.g.c.toNat) K from HC.out)
      obtain ⟨hx0, hx1⟩ := HW1.out (by omega)
      obtain ⟨⟨U0, m0', d0, eu0, hm0', hd0'⟩, ho0⟩ := hx0
      obtain ⟨⟨U1, m1', d1, eu1, hm1', hd1'⟩, ho1⟩ := hx1
      subst eu0 eu1
      have hkp := HPF.out k hk0 hk1 (fun e => HMK.out e.symm)
      have hml : m1' = 64 := by rw [← hd1'.1]; exact hkp.2.1
      subst hml
      have HMC := As.mk (fun (w' : World) (hf : Fr None_ wr w') => Missing_calls σ.s.g.s.toNat U0 U1 m0' d0 d1 (fD k) (fO k) (ot σ.s.g.c.toNat) vs A1 len cap1 w' h h' (hd0'.none_ hf) (hd1'.none_ hf) hm0' hm1' hkp.2.2.1 hkp.2.2.2 (by have := hkp.1; omega)
        (by
          obtain ⟨A', c', e, _, h3, _⟩ := HX.out.rd
          injection e with e1 e2 e3
          subst e1
          exact h3.out.none_ hf) (HP.out.1.none_ hf) (fun q hq => by
            obtain ⟨n', n0, n1, n2, rfl⟩ := HOM.out _ q hq
            have h1 := HPF.out n' n0 (by omega) n2
            exact ⟨by show (fD n').length = _; omega, h1.2.1, h1.2.2.1, h1.2.2.2⟩) (by omega) (by omega) HK.out HK5.out HRES.out)
      have HRL : As (InR 256 (missD σ.s.g.s.toNat (fD k) (ot σ.s.g.c.toNat)) ∧ InR 256 (missO (fO k) (ot σ.s.g.c.toNat))) := ⟨Go.Proofs.YteofgpaceeibpaaGreat.Str.xor_range _ _, inR_append (Go.Proofs.YteofgpaceeibpaaGreat.Str.xor_range _ _) (fun x hx => by obtain ⟨_, rfl⟩ := List.mem_replicate.1 hx; decide)⟩
      generalize hmd : missD σ.s.g.s.toNat (fD k) (ot σ.s.g.c.toNat) = md at *
      generalize hmo : missO (fO k) (ot σ.s.g.c.toNat) = mo at *
      clear hmd hmo
      have HOP := As.mk (fun (D1 O1 : Option Addr) (nd1 cd1 no1 co1 : Nat) (w' : World) (h1 : Rd .u8 w' O1 no1 mo) (h2 : Rd .u8 w' D1 nd1 md) (h3 : no1 ≤ co1) (h4 : nd1 ≤ cd1) => Open.Open_calls O1 D1 no1 co1 nd1 cd1 mo md w' h1 h2 HRL.out.2 HRL.out.1 h3 h4)
      have hres := HRES.out
      rw [hres] at HOP
      unfold Head.vals at HOP
      dsimp only at HOP
      have b0 := cell_is (i := 0) HW0.out rfl
      have b1 := cell_is (i := 1) HW0.out rfl
      clear hres ho0 ho1 hd0' hd1' hm0' hm1' hkp
      go_wp2_with fail
      ((with_reducible refine (HMC.out _ (Fr.refl _ _)).mono ?_); rintro e w4 ⟨v1, v2, rfl, hr1, hr2, hf4⟩)
      have HR1 := As.mk hr1
      have HR2 := As.mk hr2
      have HF4 := As.mk hf4
      clear hr1 hr2 hf4
      obtain ⟨A3, n3, c3, e3, hm3, hd3, _⟩ := HR1.out.rd
      obtain ⟨A4, n4, c4, e4, hm4, hd4, _⟩ := HR2.out.rd
      subst e3 e4
      have hb4 := As.mk (HF4.out.heap HF.out.2.2 (fun h => h))
      have HF4w := As.mk (HF.out.1.after HF4.out (fun _ _ h => h.elim))
      go_wp2_with fail
      ((with_reducible refine (HOP.out A3 A4 n3 c3 n4 c4 _ ?r0 ?r1 hm4.out hm3.out).mono ?_); (case r0 => exact hd4.out.none_ ((Fr.refl _ _).alloc _)); (case r1 => exact hd3.out.none_ ((Fr.refl _ _).alloc _)); rintro e w5 ⟨rfl, hf5⟩)
      have HF5 := As.mk (((Fr.refl None_ w4).alloc _).after hf5 (fun _ _ h => h))
      have hx := hf5.heap (heap_alloc_new w4 _) (fun h => h)
      have q0 := cell_is (i := 0) hx rfl
      have lq : w4.heap.size < w5.heap.size := (Array.getElem?_eq_some_iff.1 hx).1
      have hpg := HF5.out.heap hb4.out (fun h => h)
      have HPG5 := As.mk hpg
      clear hf5 hpg b0 b1
      go_upto_region 25 with fail
      have hq := HF5.out
      have hnew := heap_alloc_new w5 (.cells #[.int .u8 h'.kind, .int .u32 h'.epoch, .int .u32 h'.batch, .int .u16 h'.index, .int .u16 h'.count, .int .u32 h'.block, .int .u32 h'.more] 112)
      have HF6 := As.mk (hq.alloc (.cells #[.int .u8 h'.kind, .int .u32 h'.epoch, .int .u32 h'.batch, .int .u16 h'.index, .int .u16 h'.count, .int .u32 h'.block, .int .u32 h'.more] 112))
      have hxx := at_old (.cells #[.int .u8 h'.kind, .int .u32 h'.epoch, .int .u32 h'.batch, .int .u16 h'.index, .int .u16 h'.count, .int .u32 h'.block, .int .u32 h'.more] 112) hx
      generalize w5.alloc (.cells #[.int .u8 h'.kind, .int .u32 h'.epoch, .int .u32 h'.batch, .int .u16 h'.index, .int .u16 h'.count, .int .u32 h'.block, .int .u32 h'.more] 112) = w6 at *
      have hpg := HF6.out.heap hb4.out (fun h => h)
      have HPG5 := As.mk hpg
      clear q0 lq
      generalize hg20 : w5.heap.size = g20 at *
      clear hg20
      have q0 := cell_is (i := 0) hxx rfl
      have k0 := cell_is (i := 0) hnew rfl
      have k1 := cell_is (i := 1) hnew rfl
      have k2 := cell_is (i := 2) hnew rfl
      have k3 := cell_is (i := 3) hnew rfl
      have k4 := cell_is (i := 4) hnew rfl
      have k5 := cell_is (i := 5) hnew rfl
      have k6 := cell_is (i := 6) hnew rfl
      have x0 := cell_is (i := 0) hpg rfl
      have x1 := cell_is (i := 1) hpg rfl
      have x2 := cell_is (i := 2) hpg rfl
      have x3 := cell_is (i := 3) hpg rfl
      have x4 := cell_is (i := 4) hpg rfl
      have x5 := cell_is (i := 5) hpg rfl
      have x6 := cell_is (i := 6) hpg rfl
      have x7 := cell_is (i := 7) hpg rfl
      have y0 := free_of (i := 0) hpg
      have y1 := free_of (i := 1) hpg
      have y2 := free_of (i := 2) hpg
      have y3 := free_of (i := 3) hpg
      have y4 := free_of (i := 4) hpg
      have y5 := free_of (i := 5) hpg
      have y6 := free_of (i := 6) hpg
      have y7 := free_of (i := 7) hpg
      clear hxx hnew hpg hq hx
      go_wp2_with fail
      have hz := HF.out.1.size
      have hr6 := HR1.out.none_ HF6.out
      have hF6 : Fr (AF K σ) w w6 := HF4w.out.after HF6.out (fun _ _ h => h.elim)
      have hA6 : ArAt w6 (c σ.s.g.c.toNat) K := (HCE.out.none_ HF4.out).none_ HF6.out
      refine bodyPost_ret (v := .tuple #[.agg #[.int .u8 h'.kind, .int .u32 h'.epoch, .int .u32 h'.batch, .int .u16 h'.index, .int .u16 h'.count, .int .u32 h'.block, .int .u32 h'.more, .slice A3 n3 c3], .int .i64 0]) (by simp [results, Tryz.results78, go_sem, x0, x1, x2, x3, x4, x5, x6, x7]) rfl ?_
      rw [← HQ.out]
      refine ⟨_, rfl, ?_, ?_, ?_⟩
      · refine Row.fr (S := fun b => b = w.heap.size + 1) (hr6.lower hz) ?_ (fun b hbo e => Row.ne hr6 HPG5.out (by decide) (e ▸ hbo))
        exact fr_set8 (b := w.heap.size + 1) (Fr.refl (fun b => b = w.heap.size + 1) w6) (fun _ => rfl) _ _ _ _ _ _ _ _
      · exact beside hA6 HPG5.out (fr_set8 (b := w.heap.size + 1) (Fr.refl (fun b => b = w.heap.size + 1) w6) (fun _ => rfl) _ _ _ _ _ _ _ _)
      · exact fr_set8 hF6 (fun hl => absurd hl (by omega)) _ _ _ _ _ _ _ _
end Go.Proofs.YteofgpaceeibpaaGreat.AAgn

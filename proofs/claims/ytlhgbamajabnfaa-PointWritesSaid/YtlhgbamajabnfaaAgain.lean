/- stripe.again: a page out of all others of its stripe (where it comes out right). -/
import Derived.Test.YtlhgbamajabnfaaMiss
import Derived.Test.YtlhgbamajabnfaaWrite
namespace Go.Proofs.Ytlhgbamajabnfaa.Again
open Go.RowKit Go.Proofs.Ytlhgbamajabnfaa.Gab Go.Proofs.Ytlhgbamajabnfaa.Map Go.Proofs.Ytlhgbamajabnfaa.Geom Go.Proofs.Ytlhgbamajabnfaa.Ram Go.Proofs.Ytlhgbamajabnfaa.Sum Go.Proofs.Ytlhgbamajabnfaa.Ref Go.Proofs.Ytlhgbamajabnfaa.Par Go.Proofs.Ytlhgbamajabnfaa.Fields Go.Proofs.Ytlhgbamajabnfaa.Seal Go.Proofs.Ytlhgbamajabnfaa.Ord Go.Proofs.Ytlhgbamajabnfaa.Write Go.Proofs.Ytlhgbamajabnfaa.Miss
open Go.Proofs.Ytlhgbamajabnfaa.Wr (InR)
open Go.Proofs.Ytlhgbamajabnfaa.Str (pcells PPs take_snoc)
open Go.Proofs.Ytlhgbamajabnfaa.Open (openOf)
set_option linter.unusedVariables false
set_option linter.unusedSimpArgs false

theorem fr_set8 {S : Nat → Prop} {w w' : World} (h : Fr S w w') {b : Nat} (hb : b < w.heap.size → S b) (v0 v1 v2 v3 v4 v5 v6 v7 : Value) : Fr S w ((((((((w'.setCell ⟨b, 0, none⟩ v0).setCell ⟨b, 1, none⟩ v1).setCell ⟨b, 2, none⟩ v2).setCell ⟨b, 3, none⟩ v3).setCell ⟨b, 4, none⟩ v4).setCell ⟨b, 5, none⟩ v5).setCell ⟨b, 6, none⟩ v6).setCell ⟨b, 7, none⟩ v7) :=
  ((((((((h.setCell (p := ⟨b, 0, none⟩) hb v0).setCell (p := ⟨b, 1, none⟩) hb v1).setCell (p := ⟨b, 2, none⟩) hb v2).setCell (p := ⟨b, 3, none⟩) hb v3).setCell (p := ⟨b, 4, none⟩) hb v4).setCell (p := ⟨b, 5, none⟩) hb v5).setCell (p := ⟨b, 6, none⟩) hb v6).setCell (p := ⟨b, 7, none⟩) hb v7)
/-- A member's page, and what stands beside it. -/
def pD (s : Ram.St) (seg row n : Int) : List Int := (s.page n seg row).take s.g.s.toNat
def pO (s : Ram.St) (seg row n : Int) : List Int := (s.page n seg row).drop s.g.s.toNat
/-- The pages of data of all members below i but m. -/
def othersTo (s : Ram.St) (seg row m : Int) (i : Nat) : List (List Int × List Int) := ((upTo i).filter fun n => decide (n ≠ m) && decide (n ≠ s.g.par seg row)).map fun n => (pD s seg row n, pO s seg row n)
theorem othersTo_succ (s : Ram.St) (seg row m : Int) (i : Int) (hi : 0 ≤ i) : othersTo s seg row m (i + 1).toNat = othersTo s seg row m i.toNat ++ if i ≠ m ∧ i ≠ s.g.par seg row then [(pD s seg row i, pO s seg row i)] else [] := by
  unfold othersTo
  rw [show (i + 1).toNat = i.toNat + 1 by omega, upTo_succ, List.filter_append, List.map_append, show ((i.toNat : Nat) : Int) = i by omega]
  by_cases h1 : i = m <;> by_cases h2 : i = s.g.par seg row <;> simp [h1, h2]
theorem othersTo_len (s : Ram.St) (seg row m : Int) (i : Nat) : (othersTo s seg row m i).length ≤ i := by
  unfold othersTo
  rw [List.length_map]
  refine Nat.le_trans (List.length_filter_le _ _) ?_
  simp [upTo]
theorem page_facts {w : World} {p : Nat} {s : Ram.St} (h : RamE w p s) (seg row n : Int) : ((pD s seg row n).length : Int) = s.g.s ∧ (pO s seg row n).length = 64 ∧ InR 256 (pD s seg row n) ∧ InR 256 (pO s seg row n) := by
  obtain ⟨bp, bg, vo, f, fg, h⟩ := h
  have h1 := s.page_length n seg row h.ok (h.pages n seg row)
  have h2 := s.page_range n seg row (h.pages n seg row)
  have h3 := h.ok.s.1
  refine ⟨?_, ?_, fun x hx => h2 x (List.mem_of_mem_take hx), fun x hx => h2 x (List.mem_of_mem_drop hx)⟩
  · unfold pD; rw [List.length_take]; omega
  · unfold pO; rw [List.length_drop]; omega
theorem others_mem {s : Ram.St} {seg row m : Int} {i : Nat} : ∀ q ∈ othersTo s seg row m i, ∃ n, q = (pD s seg row n, pO s seg row n) := by
  intro q hq
  obtain ⟨n, _, rfl⟩ := List.mem_map.1 hq
  exact ⟨n, rfl⟩

set_option maxHeartbeats 8000000 in
set_option maxRecDepth 100000 in
theorem again_calls (p : Nat) (s : Ram.St) (seg row slot m : Int) (w : World) (h h' : Head) (hR : RamE w p s) (ha : s.g.At seg row) (hm : 0 ≤ m ∧ m < s.g.c) (hmk : m ≠ s.g.par seg row)
    (hg : ∀ n, 0 ≤ n → n < s.g.c → n ≠ m → ¬ 0 < s.gone n) (ho : ∀ n, 0 ≤ n → n < s.g.c → n ≠ m → n ≠ s.g.par seg row → (openOf (pD s seg row n) (pO s seg row n)).2 = true)
    (hk : openOf (pD s seg row (s.g.par seg row)) (pO s seg row (s.g.par seg row)) = (h, true)) (hk5 : h.kind = 5)
    (hres : openOf (missD s.g.s.toNat (pD s seg row (s.g.par seg row)) (othersTo s seg row m s.g.c.toNat)) (missO (pO s seg row (s.g.par seg row)) (othersTo s seg row m s.g.c.toNat)) = (h', true)) :
    Calls Try.prog 54 #[dev p, .agg #[.int .i64 seg, .int .i64 row, .int .i64 slot], .int .i64 m] w fun e w' => ∃ v, e = .returned (.tuple #[.agg (pcells h' v), .int .i64 0]) ∧ Row 5 .u8 w' w.heap.size v (missD s.g.s.toNat (pD s seg row (s.g.par seg row)) (othersTo s seg row m s.g.c.toNat)) ∧ Fr None_ w w' := by
  have hok : s.g.Ok := by obtain ⟨_, _, _, _, _, h⟩ := hR; exact h.ok
  have hp : p < w.heap.size := hR.lt
  have HR := As.mk hR
  have hc1 := hok.c
  have hb1 := hok.b
  have hp1 := hok.p
  have hs1 := hok.s
  have HG := As.mk (fun w' (hf : Fr None_ w w') => Geo_calls p s w' (hR.none_ hf))
  have HPA := As.mk (fun w => Parity_calls s.g seg row w hok ha)
  have HRT := As.mk (fun (n : Int) (h0 : 0 ≤ n) (h1 : n < s.g.c) (h2 : n ≠ m) (w' : World) (hf : Fr None_ w w') => Read_there p s n seg row w' (hR.none_ hf) ⟨⟨h0, h1⟩, ha⟩ (hg n h0 h1 h2))
  have HPF := As.mk (page_facts hR seg row)
  have hkr := par_range hok seg row
  have HO := As.mk ho
  have HK := As.mk hk
  have HRES := As.mk hres
  have HMK := As.mk hmk
  have HK5 := As.mk hk5
  have HSU := As.mk (fun i hi => othersTo_succ s seg row m i hi)
  have HOL := As.mk (fun i => othersTo_len s seg row m i)
  have HOM := As.mk (fun i => others_mem (s := s) (seg := seg) (row := row) (m := m) (i := i))
  have H0 : As (othersTo s seg row m 0 = []) := ⟨rfl⟩
  unfold Geo.val at HG HPA
  change As (∀ n, 0 ≤ n → n < s.g.c → n ≠ m → ∀ (w' : World), Fr None_ w w' → Calls Try.prog 110 #[.pointer (some ⟨p, 0, none⟩), .int .i64 n, .int .i64 seg, .int .i64 row] w' fun e w'' => ∃ v1 v2, e = .returned (.tuple #[v1, v2, .int .i64 0]) ∧ Row 5 .u8 w'' w'.heap.size v1 (pD s seg row n) ∧ Row 5 .u8 w'' w'.heap.size v2 (pO s seg row n) ∧ Fr None_ w' w'') at HRT
  generalize hpar : s.g.par seg row = k at *
  generalize othersTo s seg row m = ot at *
  generalize pD s seg row = fD at *
  generalize pO s seg row = fO at *
  obtain ⟨hm0, hm1⟩ := hm
  obtain ⟨hk0, hk1⟩ := hkr
  unfold dev pcells
  clear hR ha hg ho hk hres hmk hok hpar hk5
  go_enter Try.func54, Try.ntmps54
  have HPL0 := As.mk (heap_alloc_new w (.cells #[.int .i64 seg, .int .i64 row, .int .i64 slot] 63))
  have HPL1 := As.mk (at_old (.cells #[.int .u8 0, .int .u32 0, .int .u32 0, .int .u16 0, .int .u16 0, .int .u32 0, .int .u32 0, .slice none 0 0] 56) HPL0.out)
  have HPG1 := As.mk (at_new (.cells #[.int .u8 0, .int .u32 0, .int .u32 0, .int .u16 0, .int .u16 0, .int .u32 0, .int .u32 0, .slice none 0 0] 56) (size_new (.cells #[.int .i64 seg, .int .i64 row, .int .i64 slot] 63) (rfl : w.heap.size = w.heap.size)))
  have HFW : As (Fr None_ w ((w.alloc (.cells #[.int .i64 seg, .int .i64 row, .int .i64 slot] 63)).alloc (.cells #[.int .u8 0, .int .u32 0, .int .u32 0, .int .u16 0, .int .u16 0, .int .u32 0, .int .u32 0, .slice none 0 0] 56))) := ⟨((Fr.refl _ w).alloc _).alloc _⟩
  go_wp2_with fail
  ((with_reducible refine (HG.out _ HFW.out).mono ?_); rintro e w1 ⟨rfl, hf1⟩)
  have HF1 := As.mk (HFW.out.after hf1 (fun _ _ h => h))
  have HPLa := As.mk (hf1.heap HPL1.out (fun h => h))
  have HPGa := As.mk (hf1.heap HPG1.out (fun h => h))
  clear hf1
  have c0 := cell_is (i := 0) HPLa.out rfl
  have c1 := cell_is (i := 1) HPLa.out rfl
  have l0 : w.heap.size < w1.heap.size := (Array.getElem?_eq_some_iff.1 HPLa.out).1
  go_wp2_with fail
  ((with_reducible refine (HPA.out _).mono ?_); rintro e w2 ⟨rfl, hf2⟩)
  have HGEb := As.mk (hf2.heap (heap_alloc_new w1 (.cells #[.int .i64 s.g.c, .int .i64 s.g.b, .int .i64 s.g.p, .int .i64 s.g.s] 28)) (fun h => h))
  have HPLb := As.mk (hf2.heap (at_old (.cells #[.int .i64 s.g.c, .int .i64 s.g.b, .int .i64 s.g.p, .int .i64 s.g.s] 28) HPLa.out) (fun h => h))
  have HPGb := As.mk (hf2.heap (at_old (.cells #[.int .i64 s.g.c, .int .i64 s.g.b, .int .i64 s.g.p, .int .i64 s.g.s] 28) HPGa.out) (fun h => h))
  have HF2 := As.mk ((HF1.out.alloc _).after hf2 (fun _ _ h => h))
  have hz8 : w.heap.size ≤ w1.heap.size := HF1.out.size
  clear c0 c1 l0 hf2
  generalize hg8 : w1.heap.size = g8 at *
  clear hg8
  have c0 := cell_is (i := 0) HGEb.out rfl
  have l8 : g8 < w2.heap.size := (Array.getElem?_eq_some_iff.1 HGEb.out).1
  go_wp2_with fail
  clear c0 l8
  have HGW := As.mk (heap_alloc_new w2 (.cells #[.slice none 0 0, .slice none 0 0] 110))
  have HST : As (Fr None_ w (w2.alloc (.cells #[.slice none 0 0, .slice none 0 0] 110)) ∧ (w2.alloc (.cells #[.slice none 0 0, .slice none 0 0] 110)).heap[w.heap.size]? = some (.cells #[.int .i64 seg, .int .i64 row, .int .i64 slot] 63 (0, 0)) ∧ (w2.alloc (.cells #[.slice none 0 0, .slice none 0 0] 110)).heap[w.heap.size + 1]? = some (.cells #[.int .u8 0, .int .u32 0, .int .u32 0, .int .u16 0, .int .u16 0, .int .u32 0, .int .u32 0, .slice none 0 0] 56 (0, 0))) := ⟨HF2.out.alloc _, at_old _ HPLb.out, at_old _ HPGb.out⟩
  have hz2 : w.heap.size ≤ w2.heap.size := HF2.out.size
  generalize w2.alloc (.cells #[.slice none 0 0, .slice none 0 0] 110) = w3 at *
  generalize hgw : w2.heap.size = gw at *
  clear hgw HPLb HPGb HGEb HF2
  go_loopw [11, 12, 13, 14, 15, 16, 17, 32] (fun v11 v12 v13 v14 v15 v16 v17 v32 w' => ∃ i : Int, ∃ vs : List Value, v32 = .int .i64 i ∧ 0 ≤ i ∧ i ≤ s.g.c ∧ As (RowV 110 2 w' (gw + 1) v11 (ot i.toNat).length vs) ∧ As (PPO w' p vs (ot i.toNat)) ∧ As (Fr None_ w w' ∧ w'.heap[w.heap.size]? = some (.cells #[.int .i64 seg, .int .i64 row, .int .i64 slot] 63 (0, 0)) ∧ w'.heap[w.heap.size + 1]? = some (.cells #[.int .u8 0, .int .u32 0, .int .u32 0, .int .u16 0, .int .u16 0, .int .u32 0, .int .u32 0, .slice none 0 0] 56 (0, 0))) ∧ As (∃ u0 u1, w'.heap[gw]? = some (.cells #[u0, u1] 110 (0, 0)) ∧ (k < i → SlO w' p u0 (fD k) ∧ SlO w' p u1 (fO k)))) (fun _ _ _ _ _ _ _ v32 _ => (s.g.c - intOf v32).toNat)
  case atStart => exact ⟨0, [], rfl, by omega, by omega, ⟨by rw [Int.toNat_zero, H0.out]; exact RowV.nil _ _ _ _⟩, ⟨by rw [Int.toNat_zero, H0.out]; exact PPO.nil _ _⟩, HST, ⟨_, _, HGW.out, fun h => by omega⟩⟩
  case round =>
    obtain ⟨i, vs, rfl, hi0, hi, HX, HP, HF, HW⟩ := hrel
    obtain ⟨A1, cap1, e1, _, _, _⟩ := HX.out.rd
    generalize hlen : (ot i.toNat).length = len at *
    have HLE := As.mk hlen
    have HL1 := HOL.out i.toNat
    rw [hlen] at HL1
    clear hlen
    subst e1
    obtain ⟨u0, u1, hw0, hw1⟩ := HW.out
    have HW0 := As.mk hw0
    have HW1 := As.mk hw1
    clear hw0 hw1 HW
    have hwp : p < wr.heap.size := Nat.lt_of_lt_of_le hp HF.out.1.size
    have HWP := As.mk hwp
    clear hwp
    by_cases hlt : i < s.g.c
    · have HSI := As.mk (HSU.out i hi0)
      by_cases him : i = m
      · have hbe : (i == m) = true := by simp [him]
        have HOE : As (ot (i + 1).toNat = ot i.toNat) := ⟨by rw [HSI.out, if_neg (fun h => h.1 him), List.append_nil]⟩
        have HKI : As (k < i + 1 → k < i) := ⟨fun h => by have := HMK.out; omega⟩
        clear him
        go_wp2_with fail
        exact ⟨⟨i + 1, vs, rfl, by omega, by omega, ⟨by rw [HOE.out, HLE.out]; exact HX.out⟩, ⟨by rw [HOE.out]; exact HP.out⟩, HF, ⟨u0, u1, HW0.out, fun h => HW1.out (HKI.out h)⟩⟩, by simp [intOf]; omega⟩
      · have hbm : (i == m) = false := by simp [him]
        have HRD := As.mk (HRT.out i hi0 hlt him wr HF.out.1)
        have c0 := cell_is (i := 0) HF.out.2.1 rfl
        have c1 := cell_is (i := 1) HF.out.2.1 rfl
        have l0 : w.heap.size < wr.heap.size := (Array.getElem?_eq_some_iff.1 HF.out.2.1).1
        by_cases hik : i = k
        · have hbk : (i == k) = true := by simp [hik]
          have HOE : As (ot (i + 1).toNat = ot i.toNat) := ⟨by rw [HSI.out, if_neg (fun h => h.2 hik), List.append_nil]⟩
          have HIK := As.mk hik
          clear hik him
          go_wp2_with (go_at_call 110; (with_reducible refine HRD.out.mono ?_); rintro e w4 ⟨v1, v2, rfl, hr1, hr2, hf4⟩; have HR1 := As.mk hr1; have HR2 := As.mk hr2; have HF4 := As.mk hf4; have hb4 := hf4.heap HW0.out (fun h => h); have x0 := cell_is (i := 0) hb4 rfl; have x1 := cell_is (i := 1) hb4 rfl; have y0 := free_of (i := 0) hb4; have y1 := free_of (i := 1) hb4; have HB4 := As.mk hb4; clear hr1 hr2 hf4 hb4; obtain ⟨A3, n3, c3, e3, _, _, _⟩ := HR1.out.rd; subst e3; obtain ⟨A4, n4, c4, e4, _, _, _⟩ := HR2.out.rd; subst e4)
          have hset : Fr (fun b => b = gw) w4 ((w4.setCell ⟨gw, 0, none⟩ (.slice A3 n3 c3)).setCell ⟨gw, 1, none⟩ (.slice A4 n4 c4)) := ((Fr.refl (fun b => b = gw) w4).setCell (p := ⟨gw, 0, none⟩) (fun _ => rfl) _).setCell (p := ⟨gw, 1, none⟩) (fun _ => rfl) _
          have hF4 : Fr None_ w w4 := HF.out.1.after HF4.out (fun _ _ h => h)
          have hR0 := HR.out.none_ HF.out.1
          have hgw : w.heap.size ≤ gw := hz2
          have hpg : p ≠ gw := by have := hp; omega
          have hF5 := hF4.after hset (fun b hb e => absurd hb (by rw [e]; omega))
          have h5p : ((w4.setCell ⟨gw, 0, none⟩ (.slice A3 n3 c3)).setCell ⟨gw, 1, none⟩ (.slice A4 n4 c4)).heap[p]? = w4.heap[p]? := hset.block p (Nat.lt_of_lt_of_le HWP.out HF4.out.size) hpg
          have huS : ∀ b cs, w4.heap[b]? = some (.cells cs 5 (0, 0)) → ¬ b = gw := fun b cs hb e => by
            subst e
            have h1 := HB4.out
            rw [hb] at h1
            injection h1 with h1
            injection h1 with _ h1
            cases h1
          refine ⟨⟨i + 1, vs, rfl, by omega, by omega, ⟨?_⟩, ⟨?_⟩, ⟨hF5, ?_, ?_⟩, ⟨.slice A3 n3 c3, .slice A4 n4 c4, ?_, fun _ => ⟨?_, ?_⟩⟩⟩, by simp [intOf]; omega⟩
          · rw [HOE.out, HLE.out]
            exact (HX.out.none_ HF4.out).fr hset (fun b hb e => by have := (Go.Proofs.Ytlhgbamajabnfaa.Par.RowV.blk HX.out b hb).1; omega)
          · rw [HOE.out]
            exact (HP.out.none_ HWP.out HF4.out).fr hset huS h5p
          · exact hset.heap (HF4.out.heap HF.out.2.1 (fun h => h)) (fun e => by have h1 := HB4.out; rw [← e, HF4.out.heap HF.out.2.1 (fun h => h)] at h1; injection h1 with h1; injection h1 with _ h1; cases h1)
          · exact hset.heap (HF4.out.heap HF.out.2.2 (fun h => h)) (fun e => by have h1 := HB4.out; rw [← e, HF4.out.heap HF.out.2.2 (fun h => h)] at h1; injection h1 with h1; injection h1 with _ h1; cases h1)
          · have h1 := HB4.out
            show (_ : Option Obj) = some (Obj.cells #[.slice A3 n3 c3, .slice A4 n4 c4] 110 (0, 0))
            simp [World.setCell, Array.getElem?_modify, h1]
          · rw [← HIK.out]
            exact (SlO.of_row hR0 HF4.out HR1.out (Nat.le_refl _)).fr hset huS h5p
          · rw [← HIK.out]
            exact (SlO.of_row hR0 HF4.out HR2.out (Nat.le_refl _)).fr hset huS h5p
        · have hbk : (i == k) = false := by simp [hik]
          have HOE : As (ot (i + 1).toNat = ot i.toNat ++ [(fD i, fO i)]) := ⟨by rw [HSI.out, if_pos ⟨him, hik⟩]⟩
          have hoi := HO.out i hi0 hlt him hik
          have HKI : As (k < i + 1 → k < i) := ⟨fun h => by omega⟩
          obtain ⟨hd, hhd⟩ : ∃ hd, openOf (fD i) (fO i) = (hd, true) := ⟨(openOf (fD i) (fO i)).1, by rw [← hoi]⟩
          have HPI := As.mk (HPF.out i)
          have HOP := As.mk (fun (D1 O1 : Option Addr) (nd1 cd1 no1 co1 : Nat) (w' : World) (h1 : Rd .u8 w' O1 no1 (fO i)) (h2 : Rd .u8 w' D1 nd1 (fD i)) (h3 : no1 ≤ co1) (h4 : nd1 ≤ cd1) => Open.Open_calls O1 D1 no1 co1 nd1 cd1 (fO i) (fD i) w' h1 h2 HPI.out.2.2.2 HPI.out.2.2.1 h3 h4)
          rw [hhd] at HOP
          unfold Head.vals at HOP
          dsimp only at HOP
          clear hik him hoi hhd
          go_wp2_with (first | (go_at_call 110; (with_reducible refine HRD.out.mono ?_); rintro e w4 ⟨v1, v2, rfl, hr1, hr2, hf4⟩; have HR1 := As.mk hr1; have HR2 := As.mk hr2; have HF4 := As.mk hf4; clear hr1 hr2 hf4; obtain ⟨A3, n3, c3, e3, hm3, hd3, _⟩ := HR1.out.rd; subst e3; obtain ⟨A4, n4, c4, e4, hm4, hd4, _⟩ := HR2.out.rd; subst e4) | (go_at_call 53; (with_reducible refine (HOP.out A3 A4 n3 c3 n4 c4 _ hd4.out hd3.out hm4.out hm3.out).mono ?_); rintro e w5 ⟨rfl, hf5⟩; have HF5 := As.mk hf5; clear hf5) | (at_builtin; (with_reducible refine appendV (gw + 1) rfl _ _ 108 110 (.agg #[.slice none 0 0, .slice none 0 0]) 2 48 rfl Try.underlying108 infoPP rfl (by decide) (by decide) (.slice A1 len cap1) len vs #[.slice A3 n3 c3, .slice A4 n4 c4] (w5.heap.size + 1) (size_new _ rfl) rfl rfl rfl ?o0 (((HX.out.none_ HF4.out).none_ HF5.out).none_ ((Fr.refl None_ w5).alloc _)) ?o2 ?o3 ?_); (case o0 => intro u hu; simp at hu; rcases hu with rfl | rfl <;> rfl); (case o2 => have h1 := (Array.getElem?_eq_some_iff.1 HW0.out).1; have := HF4.out.size; have := HF5.out.size; simp; omega); (case o3 => omega); intro v6 w6 hrow6 hfr6 hat6; have HR6 := As.mk hrow6; have HF6 := As.mk (((Fr.refl _ w5).alloc _).after hfr6 (fun _ _ h => h)); clear hrow6 hfr6 hat6; obtain ⟨A6, c6, e6, _, _, _⟩ := HR6.out.rd; subst e6))
          have hF5 : Fr None_ wr w5 := HF4.out.after HF5.out (fun _ _ h => h)
          have hF5w : Fr None_ w w5 := HF.out.1.after hF5 (fun _ _ h => h)
          have hR0 := HR.out.none_ HF.out.1
          have hX5 := (HX.out.none_ HF4.out).none_ HF5.out
          have hgw : w.heap.size ≤ gw := hz2
          have hw5 : p < w5.heap.size := Nat.lt_of_lt_of_le HWP.out hF5.size
          have hF6 : Fr None_ w w6 := hF5w.after HF6.out (fun b hb hb2 => absurd hb (by have := (Go.Proofs.Ytlhgbamajabnfaa.Par.RowV.blk hX5 b hb2).1; omega))
          have huS : ∀ b cs, w5.heap[b]? = some (.cells cs 5 (0, 0)) → ¬ (Value.slice A1 len cap1).ownBlock = some b := fun b cs hb => Go.Proofs.Ytlhgbamajabnfaa.Str.RowV.ne hX5 hb (by decide)
          have h6p : w6.heap[p]? = w5.heap[p]? := HF6.out.block p hw5 (fun hb => by have := (Go.Proofs.Ytlhgbamajabnfaa.Par.RowV.blk hX5 p hb).1; have := hp; omega)
          have hs1 : SlO w5 p (.slice A3 n3 c3) (fD i) := (SlO.of_row hR0 HF4.out HR1.out (Nat.le_refl _)).none_ (Nat.lt_of_lt_of_le HWP.out HF4.out.size) HF5.out
          have hs2 : SlO w5 p (.slice A4 n4 c4) (fO i) := (SlO.of_row hR0 HF4.out HR2.out (Nat.le_refl _)).none_ (Nat.lt_of_lt_of_le HWP.out HF4.out.size) HF5.out
          have hpl := hF5.heap HF.out.2.1 (fun h => h)
          have hpg := hF5.heap HF.out.2.2 (fun h => h)
          refine ⟨⟨i + 1, vs ++ [.slice A3 n3 c3, .slice A4 n4 c4], rfl, by omega, by omega, ⟨?_⟩, ⟨?_⟩, ⟨hF6, ?_, ?_⟩, ⟨u0, u1, ?_, fun h => ⟨?_, ?_⟩⟩⟩, by simp [intOf]; omega⟩
          · rw [HOE.out, List.length_append, HLE.out]
            exact HR6.out
          · rw [HOE.out]
            exact ((HP.out.none_ HWP.out hF5).snoc hs1 hs2).fr HF6.out huS h6p
          · exact HF6.out.heap hpl (Go.Proofs.Ytlhgbamajabnfaa.Str.RowV.ne hX5 hpl (by decide))
          · exact HF6.out.heap hpg (Go.Proofs.Ytlhgbamajabnfaa.Str.RowV.ne hX5 hpg (by decide))
          · exact HF6.out.heap (hF5.heap HW0.out (fun h => h)) (fun hb => by have := (Go.Proofs.Ytlhgbamajabnfaa.Par.RowV.blk hX5 gw hb).1; omega)
          · exact ((HW1.out (HKI.out h)).1.none_ HWP.out hF5).fr HF6.out huS h6p
          · exact ((HW1.out (HKI.out h)).2.none_ HWP.out hF5).fr HF6.out huS h6p
    · have hie : i = s.g.c := by omega
      subst hie
      obtain ⟨hx0, hx1⟩ := HW1.out (by omega)
      obtain ⟨⟨U0, m0', d0, eu0, hm0', hd0'⟩, ho0⟩ := hx0
      obtain ⟨⟨U1, m1', d1, eu1, hm1', hd1'⟩, ho1⟩ := hx1
      subst eu0 eu1
      have hml : m1' = 64 := by rw [← hd1'.1]; exact (HPF.out k).2.1
      subst hml
      have HMC := As.mk (fun (w' : World) (hf : Fr None_ wr w') => Missing_calls s.g.s.toNat U0 U1 m0' d0 d1 (fD k) (fO k) (ot s.g.c.toNat) vs A1 len cap1 w' h h' (hd0'.none_ hf) (hd1'.none_ hf) hm0' hm1' (HPF.out k).2.2.1 (HPF.out k).2.2.2 (by have := (HPF.out k).1; omega)
        (by
          obtain ⟨A', c', e, _, h3, _⟩ := HX.out.rd
          injection e with e1 e2 e3
          subst e1
          exact h3.out.none_ hf) (HP.out.1.none_ hf) (fun q hq => by
            obtain ⟨n', rfl⟩ := HOM.out _ q hq
            have h1 := HPF.out n'
            exact ⟨by show (fD n').length = _; omega, h1.2.1, h1.2.2.1, h1.2.2.2⟩) (by omega) (by omega) HK.out HK5.out HRES.out)
      have HRL : As (InR 256 (missD s.g.s.toNat (fD k) (ot s.g.c.toNat)) ∧ InR 256 (missO (fO k) (ot s.g.c.toNat))) := ⟨Go.Proofs.Ytlhgbamajabnfaa.Str.xor_range _ _, inR_append (Go.Proofs.Ytlhgbamajabnfaa.Str.xor_range _ _) (fun x hx => by obtain ⟨_, rfl⟩ := List.mem_replicate.1 hx; decide)⟩
      generalize hmd : missD s.g.s.toNat (fD k) (ot s.g.c.toNat) = md at *
      generalize hmo : missO (fO k) (ot s.g.c.toNat) = mo at *
      have HMD := As.mk hmd
      clear hmd hmo
      have HOP := As.mk (fun (D1 O1 : Option Addr) (nd1 cd1 no1 co1 : Nat) (w' : World) (h1 : Rd .u8 w' O1 no1 mo) (h2 : Rd .u8 w' D1 nd1 md) (h3 : no1 ≤ co1) (h4 : nd1 ≤ cd1) => Open.Open_calls O1 D1 no1 co1 nd1 cd1 mo md w' h1 h2 HRL.out.2 HRL.out.1 h3 h4)
      have hres := HRES.out
      rw [hres] at HOP
      unfold Head.vals at HOP
      dsimp only at HOP
      have b0 := cell_is (i := 0) HW0.out rfl
      have b1 := cell_is (i := 1) HW0.out rfl
      clear hres ho0 ho1 hd0' hd1' hm0' hm1'
      go_wp2_with fail
      ((with_reducible refine (HMC.out _ (Fr.refl _ _)).mono ?_); rintro e w4 ⟨v1, v2, rfl, hr1, hr2, hf4⟩)
      have HR1 := As.mk hr1
      have HR2 := As.mk hr2
      have HF4 := As.mk hf4
      clear hr1 hr2 hf4
      obtain ⟨A3, n3, c3, e3, hm3, hd3, _⟩ := HR1.out.rd
      obtain ⟨A4, n4, c4, e4, hm4, hd4, _⟩ := HR2.out.rd
      subst e3 e4
      have hb4 := As.mk (HF4.out.heap HF.out.2.2 (fun h => h))
      have HF4w := As.mk (HF.out.1.after HF4.out (fun _ _ h => h))
      go_wp2_with fail
      ((with_reducible refine (HOP.out A3 A4 n3 c3 n4 c4 _ ?r0 ?r1 hm4.out hm3.out).mono ?_); (case r0 => exact hd4.out.none_ ((Fr.refl _ _).alloc _)); (case r1 => exact hd3.out.none_ ((Fr.refl _ _).alloc _)); rintro e w5 ⟨rfl, hf5⟩)
      have HF5 := As.mk (((Fr.refl None_ w4).alloc _).after hf5 (fun _ _ h => h))
      have hx := hf5.heap (heap_alloc_new w4 _) (fun h => h)
      have q0 := cell_is (i := 0) hx rfl
      have lq : w4.heap.size < w5.heap.size := (Array.getElem?_eq_some_iff.1 hx).1
      have hpg := HF5.out.heap hb4.out (fun h => h)
      have HPG5 := As.mk hpg
      clear hf5 hpg b0 b1
      go_upto_region 25 with fail
      have hq := HF5.out
      have hnew := heap_alloc_new w5 (.cells #[.int .u8 h'.kind, .int .u32 h'.epoch, .int .u32 h'.batch, .int .u16 h'.index, .int .u16 h'.count, .int .u32 h'.block, .int .u32 h'.more] 54)
      have HF6 := As.mk (hq.alloc (.cells #[.int .u8 h'.kind, .int .u32 h'.epoch, .int .u32 h'.batch, .int .u16 h'.index, .int .u16 h'.count, .int .u32 h'.block, .int .u32 h'.more] 54))
      have hxx := at_old (.cells #[.int .u8 h'.kind, .int .u32 h'.epoch, .int .u32 h'.batch, .int .u16 h'.index, .int .u16 h'.count, .int .u32 h'.block, .int .u32 h'.more] 54) hx
      generalize w5.alloc (.cells #[.int .u8 h'.kind, .int .u32 h'.epoch, .int .u32 h'.batch, .int .u16 h'.index, .int .u16 h'.count, .int .u32 h'.block, .int .u32 h'.more] 54) = w6 at *
      have hpg := HF6.out.heap hb4.out (fun h => h)
      have HPG5 := As.mk hpg
      clear q0 lq
      generalize hg20 : w5.heap.size = g20 at *
      clear hg20
      have q0 := cell_is (i := 0) hxx rfl
      have k0 := cell_is (i := 0) hnew rfl
      have k1 := cell_is (i := 1) hnew rfl
      have k2 := cell_is (i := 2) hnew rfl
      have k3 := cell_is (i := 3) hnew rfl
      have k4 := cell_is (i := 4) hnew rfl
      have k5 := cell_is (i := 5) hnew rfl
      have k6 := cell_is (i := 6) hnew rfl
      have x0 := cell_is (i := 0) hpg rfl
      have x1 := cell_is (i := 1) hpg rfl
      have x2 := cell_is (i := 2) hpg rfl
      have x3 := cell_is (i := 3) hpg rfl
      have x4 := cell_is (i := 4) hpg rfl
      have x5 := cell_is (i := 5) hpg rfl
      have x6 := cell_is (i := 6) hpg rfl
      have x7 := cell_is (i := 7) hpg rfl
      have y0 := free_of (i := 0) hpg
      have y1 := free_of (i := 1) hpg
      have y2 := free_of (i := 2) hpg
      have y3 := free_of (i := 3) hpg
      have y4 := free_of (i := 4) hpg
      have y5 := free_of (i := 5) hpg
      have y6 := free_of (i := 6) hpg
      have y7 := free_of (i := 7) hpg
      clear hxx hnew hpg hq hx
      go_wp2_with fail
      have hz := HF.out.1.size
      have hr6 := HR1.out.none_ HF6.out
      have hF6 : Fr None_ w w6 := HF4w.out.after HF6.out (fun _ _ h => h)
      refine bodyPost_ret (v := .tuple #[.agg #[.int .u8 h'.kind, .int .u32 h'.epoch, .int .u32 h'.batch, .int .u16 h'.index, .int .u16 h'.count, .int .u32 h'.block, .int .u32 h'.more, .slice A3 n3 c3], .int .i64 0]) (by simp [results, Try.results54, go_sem, x0, x1, x2, x3, x4, x5, x6, x7]) rfl ⟨_, rfl, ?_, ?_⟩
      · rw [HMD.out]
        refine Row.fr (S := fun b => b = w.heap.size + 1) (hr6.lower hz) ?_ (fun b hbo e => Row.ne hr6 HPG5.out (by decide) (e ▸ hbo))
        exact fr_set8 (b := w.heap.size + 1) (Fr.refl (fun b => b = w.heap.size + 1) w6) (fun _ => rfl) _ _ _ _ _ _ _ _
      · exact fr_set8 hF6 (fun hl => absurd hl (by omega)) _ _ _ _ _ _ _ _
end Go.Proofs.Ytlhgbamajabnfaa.Again

/- stripe.Row: a stripe that stands whole; one that is not written. -/
import Derived.Test.YtlhgbamajabnfaaKept
import Derived.Test.YtlhgbamajabnfaaBlank
namespace Go.Proofs.Ytlhgbamajabnfaa.SRow
open Go.RowKit Go.Proofs.Ytlhgbamajabnfaa.Gab Go.Proofs.Ytlhgbamajabnfaa.Map Go.Proofs.Ytlhgbamajabnfaa.Geom Go.Proofs.Ytlhgbamajabnfaa.Ram Go.Proofs.Ytlhgbamajabnfaa.Par Go.Proofs.Ytlhgbamajabnfaa.Fields Go.Proofs.Ytlhgbamajabnfaa.Ord Go.Proofs.Ytlhgbamajabnfaa.Write Go.Proofs.Ytlhgbamajabnfaa.Stripe Go.Proofs.Ytlhgbamajabnfaa.Ref Go.Proofs.Ytlhgbamajabnfaa.Case Go.Proofs.Ytlhgbamajabnfaa.SRead Go.Proofs.Ytlhgbamajabnfaa.Again Go.Proofs.Ytlhgbamajabnfaa.Kept Go.Proofs.Ytlhgbamajabnfaa.Blank
open Go.Proofs.Ytlhgbamajabnfaa.Wr (InR)
open Go.Proofs.Ytlhgbamajabnfaa.Open (openOf okB headOf numAt)
open Go.Proofs.Ytlhgbamajabnfaa.Str (pcells take_snoc add_next)
set_option linter.unusedVariables false
set_option linter.unusedSimpArgs false

/-- What is sealed isn't blank. -/
theorem not_blank {d o : List Int} {h : Head} (hr : InR 256 o) (ho : openOf d o = (h, true)) : ¬ allFF o := by
  intro hf
  unfold openOf at ho
  split at ho
  · rename_i hk
    unfold okB at hk
    simp only [Bool.and_eq_true, decide_eq_true_eq, beq_iff_eq] at hk
    obtain ⟨hl, _, _, h6⟩ := hk
    have e : (headOf o).kind = numAt o 2 1 := rfl
    rw [e, Go.Proofs.Ytlhgbamajabnfaa.OpenLaw.numAt_val hr 2 1 (by decide) (by omega)] at h6
    have h1 : (o.drop 2).take 1 = [o[2]'(by omega)] := by
      rw [List.drop_eq_getElem_cons (by omega)]
      rfl
    rw [h1, hf _ (List.getElem_mem _)] at h6
    simp [leVal] at h6
  · injection ho with _ ho
    cases ho
/-- What Row answers of a stripe that stands. -/
def RowPost (s : Ram.St) (p : Nat) (l : List (Head × List Int)) (w : World) (e : Ending) (w' : World) : Prop := ∃ A c n vs, e = .returned (.tuple #[.slice A n c, .int .i64 2, .int .i64 0]) ∧ (n : Int) = s.g.c - 1 ∧ RdC w' A (n * 8) vs ∧ SPs w' p vs l ∧ Fr None_ w w'

set_option maxHeartbeats 8000000 in
set_option maxRecDepth 100000 in
theorem Row_whole (p : Nat) (s : Ram.St) (seg row : Int) (w : World) (l : List (Head × List Int)) (hR : RamE w p s) (ha : s.g.At seg row) (hst : Stands s l seg row (-1)) (hgn : ∀ n, 0 ≤ n → n < s.g.c → ¬ 0 < s.gone n) :
    Calls Try.prog 26 #[dev p, .int .i64 seg, .int .i64 row] w (RowPost s p l w) := by
  have hok : s.g.Ok := by obtain ⟨_, _, _, _, _, h⟩ := hR; exact h.ok
  have hp : p < w.heap.size := hR.lt
  have HR := As.mk hR
  have hc1 := hok.c
  have HG := As.mk (fun w' (hf : Fr None_ w w') => Geo_calls p s w' (hR.none_ hf))
  have HNU := As.mk (fun w => Number_calls s.g seg row 0 w hok ha (by decide) (by omega))
  have HWD := As.mk (fun w => Width_calls s.g w hok)
  have hnum : 1 ≤ s.g.num seg row 0 := by
    have h1 : 0 ≤ (seg * s.g.p + row) * (s.g.c - 1) := Int.mul_nonneg (by have := mul_range hok ha; have := ha.row; omega) (by omega)
    unfold Geo.num
    omega
  have hnb : (s.g.num seg row 0 == 0) = false := by rw [beq_eq_false_iff_ne]; omega
  have HPF := As.mk (page_facts hR seg row)
  have HRT := As.mk (fun (n : Int) (h0 : 0 ≤ n) (h1 : n < s.g.c) (w' : World) (hf : Fr None_ w w') => Read_there p s n seg row w' (hR.none_ hf) ⟨⟨h0, h1⟩, ha⟩ (hgn n h0 h1))
  change As (∀ n, 0 ≤ n → n < s.g.c → ∀ (w' : World), Fr None_ w w' → Calls Try.prog 110 #[.pointer (some ⟨p, 0, none⟩), .int .i64 n, .int .i64 seg, .int .i64 row] w' fun e w'' => ∃ v1 v2, e = .returned (.tuple #[v1, v2, .int .i64 0]) ∧ Row 5 .u8 w'' w'.heap.size v1 (pD s seg row n) ∧ Row 5 .u8 w'' w'.heap.size v2 (pO s seg row n) ∧ Fr None_ w' w'') at HRT
  have HLK := As.mk hst.lok
  have HRS := As.mk (fun (j : Int) (h0 : 0 ≤ j) (h1 : j < s.g.c - 1) (w' : World) (hf : Fr None_ w w') => SRead.Read_calls p s seg row j w' (l.getD j.toNat noPage).1 (l.getD j.toNat noPage).2 (hR.none_ hf) ha h0 h1 (by
    have hlen := hst.lok.len
    have hr := Stripe.reads (sl := j.toNat) (by omega) hst (fun e => by have := mem_range hst.ok seg row j.toNat (by omega) (by omega); omega)
    rwa [show ((j.toNat : Nat) : Int) = j by omega] at hr))
  have HOK := As.mk (fun (n : Int) (h0 : 0 ≤ n) (h1 : n < s.g.c) => show ∃ h, openOf (pD s seg row n) (pO s seg row n) = (h, true) ∧ ¬ allFF (pO s seg row n) from by
    obtain ⟨_, _, hh, ho⟩ := page_ok hst.ok hst.lok hst.at_ h0 h1 (seg := seg) (row := row)
    have hp := hst.parts h0 h1 (by omega)
    rw [hp.1, hp.2]
    have hr := (HPF.out n).2.2.2
    rw [hp.2] at hr
    exact ⟨hh, ho, not_blank hr ho⟩)
  unfold Geo.val at HG HNU HWD
  generalize s.g.num seg row 0 = num at *
  clear hR hok hnum hgn hst ha
  unfold dev at *
  go_enter Try.func26, Try.ntmps26
  go_wp2_with fail
  ((with_reducible refine (HG.out _ (Fr.refl _ _)).mono ?_); rintro e w1 ⟨rfl, hf1⟩)
  have HF1 := As.mk hf1
  clear hf1
  go_wp2_with fail
  ((with_reducible refine (HNU.out _).mono ?_); rintro e w2 ⟨rfl, hf2⟩)
  have HGE := As.mk (hf2.heap (heap_alloc_new w1 (.cells #[.int .i64 s.g.c, .int .i64 s.g.b, .int .i64 s.g.p, .int .i64 s.g.s] 28)) (fun h => h))
  have HF2 := As.mk ((HF1.out.alloc _).after hf2 (fun _ _ h => h))
  clear hf2
  generalize hg8 : w1.heap.size = g8 at *
  clear hg8
  have c0 := cell_is (i := 0) HGE.out rfl
  go_wp2_with fail
  go_loopw [10, 11, 12, 13, 14, 15, 16, 17, 18, 36] (fun v10 v11 v12 v13 v14 v15 v16 v17 v18 v36 w' => ∃ i : Int, v36 = .int .i64 i ∧ 0 ≤ i ∧ i ≤ s.g.c ∧ v10 = .int .i64 0 ∧ v11 = .int .i64 i ∧ v12 = .int .i64 (-1) ∧ As (Fr None_ w w' ∧ w'.heap[g8]? = some (.cells #[.int .i64 s.g.c, .int .i64 s.g.b, .int .i64 s.g.p, .int .i64 s.g.s] 28 (0, 0)))) (fun _ _ _ _ _ _ _ _ _ v36 _ => (s.g.c - intOf v36).toNat)
  case atStart => exact ⟨0, rfl, by omega, by omega, rfl, rfl, rfl, ⟨HF2.out, HGE.out⟩⟩
  case round =>
    obtain ⟨i, rfl, hi0, hi, rfl, rfl, rfl, HF⟩ := hrel
    have d0 := cell_is (i := 0) HF.out.2 rfl
    have d1 := cell_is (i := 1) HF.out.2 rfl
    have d2 := cell_is (i := 2) HF.out.2 rfl
    have d3 := cell_is (i := 3) HF.out.2 rfl
    by_cases hlt : i < s.g.c
    · have HRD := As.mk (HRT.out i hi0 hlt wr HF.out.1)
      obtain ⟨hh, hoh, hnf⟩ := HOK.out i hi0 hlt
      have HBL := As.mk (fun (D1 O1 : Option Addr) (nd1 cd1 no1 co1 : Nat) (w' : World) (h1 : Rd .u8 w' O1 no1 (pO s seg row i)) (h2 : Rd .u8 w' D1 nd1 (pD s seg row i)) => Blank_calls D1 O1 nd1 cd1 no1 co1 (pD s seg row i) (pO s seg row i) w' h2 h1 false ⟨fun h => (by cases h), fun h => absurd h.2 hnf⟩)
      have HOP := As.mk (fun (D1 O1 : Option Addr) (nd1 cd1 no1 co1 : Nat) (w' : World) (h1 : Rd .u8 w' O1 no1 (pO s seg row i)) (h2 : Rd .u8 w' D1 nd1 (pD s seg row i)) (h3 : no1 ≤ co1) (h4 : nd1 ≤ cd1) => Open.Open_calls O1 D1 no1 co1 nd1 cd1 (pO s seg row i) (pD s seg row i) w' h1 h2 (HPF.out i).2.2.2 (HPF.out i).2.2.1 h3 h4)
      rw [hoh] at HOP
      unfold Head.vals at HOP
      dsimp only at HOP
      clear hoh hnf
      generalize pD s seg row i = fd at *
      generalize pO s seg row i = fo at *
      clear d1 d2 d3
      go_wp2_with fail
      ((with_reducible refine HRD.out.mono ?_); rintro e w4 ⟨v1, v2, rfl, hr1, hr2, hf4⟩)
      obtain ⟨A3, n3, c3, e3, hn3, hd3, _⟩ := hr1.rd
      subst e3
      obtain ⟨A4, n4, c4, e4, hn4, hd4, _⟩ := hr2.rd
      subst e4
      have HF4 := As.mk hf4
      clear hr1 hr2 hf4
      go_wp2_with fail
      ((with_reducible refine (HBL.out A3 A4 n3 c3 n4 c4 w4 hd4.out hd3.out).mono ?_); rintro e w5 ⟨rfl, hf5⟩)
      have hd35 := hd3.out.none_ hf5
      have hd45 := hd4.out.none_ hf5
      have HF5 := As.mk (HF4.out.after hf5 (fun _ _ h => h))
      clear hf5
      go_wp2_with fail
      ((with_reducible refine (HOP.out A3 A4 n3 c3 n4 c4 w5 hd45 hd35 hn4.out hn3.out).mono ?_); rintro e w6 ⟨rfl, hf6⟩)
      have HF6 := As.mk (HF5.out.after hf6 (fun _ _ h => h))
      clear hf6 hd35 hd45
      go_wp2_with fail
      refine ⟨⟨i + 1, rfl, by omega, by omega, rfl, rfl, rfl, ⟨?_, ?_⟩⟩, by simp [intOf]; omega⟩
      · exact (HF.out.1.after HF6.out (fun _ _ h => h)).alloc _
      · exact at_old _ (HF6.out.heap HF.out.2 (fun h => h))
    · obtain rfl : i = s.g.c := by omega
      clear hi hlt
      have hz1 : ((0 : Int) == s.g.c) = false := by rw [beq_eq_false_iff_ne]; omega
      go_wp2_with fail
      ((with_reducible refine (HWD.out _).mono ?_); rintro e w3 ⟨rfl, hf3⟩)
      have HF3 := As.mk (HF.out.1.after hf3 (fun _ _ h => h))
      clear hf3 d0 d1 d2 d3
      have hln : (l.length : Int) = s.g.c - 1 := HLK.out.len
      go_wp2_with fail
      go_loopw [20, 21, 22, 23, 95] (fun v20 v21 v22 v23 v95 w' => ∃ i : Int, ∃ vs : List Value, v95 = .int .i64 i ∧ 0 ≤ i ∧ i ≤ s.g.c - 1 ∧ As (RowV 56 8 w' w.heap.size v20 i.toNat vs) ∧ As (SPs w' p vs (l.take i.toNat)) ∧ As (Fr None_ w w')) (fun _ _ _ _ v95 _ => (s.g.c - 1 - intOf v95).toNat)
      case atStart => exact ⟨0, [], rfl, by omega, by omega, ⟨RowV.nil _ _ _ _⟩, ⟨SPs.nil _ _⟩, HF3⟩
      case round =>
        obtain ⟨i, vs, rfl, hi0, hi, HX, HP, HQ⟩ := hrel
        obtain ⟨A1, cap1, e1, _, _, _⟩ := HX.out.rd
        subst e1
        by_cases hlt : i < s.g.c - 1
        · have hil : i.toNat < l.length := by omega
          have HRD := As.mk (HRS.out i hi0 hlt wr HQ.out)
          have HTK := As.mk (take_snoc noPage hil)
          have HHD := As.mk (HLK.out.head _ (getD_mem hil noPage)).1
          generalize l.getD i.toNat noPage = q at *
          clear hil
          unfold pcells at HRD
          go_wp2_with fail
          ((with_reducible refine HRD.out.mono ?_); rintro e w4 ⟨v4, rfl, hr4, hf4⟩)
          obtain ⟨A4, n4, c4, e4, _, _, _⟩ := hr4.rd
          subst e4
          have HR4 := As.mk hr4
          have HF4 := As.mk hf4
          have hz4 := hf4.size
          clear hr4 hf4
          go_wp2_with (at_builtin; (with_reducible refine appendV w.heap.size rfl _ _ 34 56 (.agg #[.int .u8 0, .int .u32 0, .int .u32 0, .int .u16 0, .int .u16 0, .int .u32 0, .int .u32 0, .slice none 0 0]) 8 48 rfl Try.underlying34 infoSP rfl (by decide) (by decide) (.slice A1 i.toNat cap1) i.toNat vs #[.int .u8 q.1.kind, .int .u32 q.1.epoch, .int .u32 q.1.batch, .int .u16 q.1.index, .int .u16 q.1.count, .int .u32 q.1.block, .int .u32 q.1.more, .slice A4 n4 c4] (w4.heap.size + 1) ?og rfl rfl rfl ?o0 ((HX.out.none_ HF4.out).none_ ((Fr.refl None_ w4).alloc _)) ?o2 ?o3 ?_); (case og => simp); (case o0 => intro u hu; simp at hu; rcases hu with rfl | rfl | rfl | rfl | rfl | rfl | rfl | rfl <;> rfl); (case o2 => have := HQ.out.size; simp; omega); (case o3 => omega); intro v6 w6 hrow6 hfr6 hat6; have HR6 := As.mk hrow6; have HF6 := As.mk hfr6; clear hrow6 hfr6 hat6; obtain ⟨A6, c6, e6, _, _, _⟩ := HR6.out.rd; subst e6)
          have hn1 : (i + 1).toNat = i.toNat + 1 := by omega
          have hFa : Fr None_ wr _ := HF4.out.alloc (.cells #[.int .u8 q.1.kind, .int .u32 q.1.epoch, .int .u32 q.1.batch, .int .u16 q.1.index, .int .u16 q.1.count, .int .u32 q.1.block, .int .u32 q.1.more, .slice A4 n4 c4] 56)
          have hXa := HX.out.none_ hFa
          have hFw := HQ.out.after hFa (fun _ _ h => h)
          have hlt4 : p < wr.heap.size := Nat.lt_of_lt_of_le hp HQ.out.size
          have hsd : SlO w4 p (.slice A4 n4 c4) q.2 := SlO.of_row (HR.out.none_ HQ.out) HF4.out HR4.out (Nat.le_refl _)
          have hsd2 := hsd.none_ (Nat.lt_of_lt_of_le hlt4 HF4.out.size) ((Fr.refl None_ w4).alloc (.cells #[.int .u8 q.1.kind, .int .u32 q.1.epoch, .int .u32 q.1.batch, .int .u16 q.1.index, .int .u16 q.1.count, .int .u32 q.1.block, .int .u32 q.1.more, .slice A4 n4 c4] 56))
          have hpp := (HP.out.none_ hlt4 hFa).snoc (hd := q.1) hsd2 HHD.out
          refine ⟨⟨i + 1, vs ++ (pcells q.1 (.slice A4 n4 c4)).toList, rfl, by omega, by omega, ⟨?_⟩, ⟨?_⟩, ⟨RowV.grow hXa hFw HF6.out⟩⟩, by simp [intOf]; omega⟩
          · rw [hn1]
            exact HR6.out
          · rw [hn1, HTK.out]
            exact Case.SPs.fr hpp HF6.out (fun b cs hb hb2 => Go.Proofs.Ytlhgbamajabnfaa.Str.RowV.ne hXa hb (by decide) hb2) (by
              obtain ⟨bp, bg, vo, f, fg, h9⟩ := HR.out
              have hb := hFw.heap h9.blk (fun h => h)
              rw [hb]
              exact HF6.out.heap hb (Go.Proofs.Ytlhgbamajabnfaa.Str.RowV.ne hXa hb (by decide)))
        · have hin : i.toNat = l.length := by omega
          have HP2 : As (SPs wr p vs l) := ⟨by have h := HP.out; rwa [hin, List.take_length] at h⟩
          obtain ⟨_, _, e9, _, hrd, _⟩ := HX.out.rd
          injection e9 with e9 _ _
          subst e9
          have HRD : As (RdC wr A1 (l.length * 8) vs) := ⟨by rw [← hin]; exact hrd.out⟩
          go_wp2_with fail
          go_ret3
          exact ⟨_, _, _, _, rfl, hln, HRD.out, HP2.out, HQ.out⟩

set_option maxHeartbeats 8000000 in
set_option maxRecDepth 100000 in
theorem Row_blank (p : Nat) (s : Ram.St) (seg row : Int) (w : World) (hR : RamE w p s) (ha : s.g.At seg row) (hpn : ∀ n, 0 ≤ n → n < s.g.c → s.pages n seg row = []) (hgn : ∀ n, 0 ≤ n → n < s.g.c → ¬ 0 < s.gone n) :
    Calls Try.prog 26 #[dev p, .int .i64 seg, .int .i64 row] w (fun e w' => e = .returned (.tuple #[.slice none 0 0, .int .i64 0, .int .i64 0]) ∧ Fr None_ w w') := by
  have hok : s.g.Ok := by obtain ⟨_, _, _, _, _, h⟩ := hR; exact h.ok
  have hp : p < w.heap.size := hR.lt
  have HR := As.mk hR
  have hc1 := hok.c
  have HG := As.mk (fun w' (hf : Fr None_ w w') => Geo_calls p s w' (hR.none_ hf))
  have HNU := As.mk (fun w => Number_calls s.g seg row 0 w hok ha (by decide) (by omega))
  have HWD := As.mk (fun w => Width_calls s.g w hok)
  have hnum : 1 ≤ s.g.num seg row 0 := by
    have h1 : 0 ≤ (seg * s.g.p + row) * (s.g.c - 1) := Int.mul_nonneg (by have := mul_range hok ha; have := ha.row; omega) (by omega)
    unfold Geo.num
    omega
  have hnb : (s.g.num seg row 0 == 0) = false := by rw [beq_eq_false_iff_ne]; omega
  have HPF := As.mk (page_facts hR seg row)
  have HRT := As.mk (fun (n : Int) (h0 : 0 ≤ n) (h1 : n < s.g.c) (w' : World) (hf : Fr None_ w w') => Read_there p s n seg row w' (hR.none_ hf) ⟨⟨h0, h1⟩, ha⟩ (hgn n h0 h1))
  change As (∀ n, 0 ≤ n → n < s.g.c → ∀ (w' : World), Fr None_ w w' → Calls Try.prog 110 #[.pointer (some ⟨p, 0, none⟩), .int .i64 n, .int .i64 seg, .int .i64 row] w' fun e w'' => ∃ v1 v2, e = .returned (.tuple #[v1, v2, .int .i64 0]) ∧ Row 5 .u8 w'' w'.heap.size v1 (pD s seg row n) ∧ Row 5 .u8 w'' w'.heap.size v2 (pO s seg row n) ∧ Fr None_ w' w'') at HRT
  have HBF := As.mk (fun (n : Int) (h0 : 0 ≤ n) (h1 : n < s.g.c) => show allFF (pD s seg row n) ∧ allFF (pO s seg row n) from by
    have hpg : s.page n seg row = List.replicate (s.g.s + 64).toNat 255 := by unfold Ram.St.page; rw [if_pos (hpn n h0 h1)]
    unfold pD pO
    rw [hpg]
    exact ⟨fun b hb => (List.mem_replicate.1 (List.mem_of_mem_take hb)).2, fun b hb => (List.mem_replicate.1 (List.mem_of_mem_drop hb)).2⟩)
  unfold Geo.val at HG HNU HWD
  generalize s.g.num seg row 0 = num at *
  clear hR hok hnum hgn hpn ha
  unfold dev at *
  go_enter Try.func26, Try.ntmps26
  go_wp2_with fail
  ((with_reducible refine (HG.out _ (Fr.refl _ _)).mono ?_); rintro e w1 ⟨rfl, hf1⟩)
  have HF1 := As.mk hf1
  clear hf1
  go_wp2_with fail
  ((with_reducible refine (HNU.out _).mono ?_); rintro e w2 ⟨rfl, hf2⟩)
  have HGE := As.mk (hf2.heap (heap_alloc_new w1 (.cells #[.int .i64 s.g.c, .int .i64 s.g.b, .int .i64 s.g.p, .int .i64 s.g.s] 28)) (fun h => h))
  have HF2 := As.mk ((HF1.out.alloc _).after hf2 (fun _ _ h => h))
  clear hf2
  generalize hg8 : w1.heap.size = g8 at *
  clear hg8
  have c0 := cell_is (i := 0) HGE.out rfl
  go_wp2_with fail
  go_loopw [10, 11, 12, 13, 14, 15, 16, 17, 18, 36] (fun v10 v11 v12 v13 v14 v15 v16 v17 v18 v36 w' => ∃ i : Int, v36 = .int .i64 i ∧ 0 ≤ i ∧ i ≤ s.g.c ∧ v10 = .int .i64 i ∧ v11 = .int .i64 0 ∧ v12 = .int .i64 (-1) ∧ As (Fr None_ w w' ∧ w'.heap[g8]? = some (.cells #[.int .i64 s.g.c, .int .i64 s.g.b, .int .i64 s.g.p, .int .i64 s.g.s] 28 (0, 0)))) (fun _ _ _ _ _ _ _ _ _ v36 _ => (s.g.c - intOf v36).toNat)
  case atStart => exact ⟨0, rfl, by omega, by omega, rfl, rfl, rfl, ⟨HF2.out, HGE.out⟩⟩
  case round =>
    obtain ⟨i, rfl, hi0, hi, rfl, rfl, rfl, HF⟩ := hrel
    have d0 := cell_is (i := 0) HF.out.2 rfl
    have d1 := cell_is (i := 1) HF.out.2 rfl
    have d2 := cell_is (i := 2) HF.out.2 rfl
    have d3 := cell_is (i := 3) HF.out.2 rfl
    by_cases hlt : i < s.g.c
    · have HRD := As.mk (HRT.out i hi0 hlt wr HF.out.1)
      have HBL := As.mk (fun (D1 O1 : Option Addr) (nd1 cd1 no1 co1 : Nat) (w' : World) (h1 : Rd .u8 w' O1 no1 (pO s seg row i)) (h2 : Rd .u8 w' D1 nd1 (pD s seg row i)) => Blank_calls D1 O1 nd1 cd1 no1 co1 (pD s seg row i) (pO s seg row i) w' h2 h1 true ⟨fun _ => HBF.out i hi0 hlt, fun _ => rfl⟩)
      generalize pD s seg row i = fd at *
      generalize pO s seg row i = fo at *
      clear d1 d2 d3
      go_wp2_with fail
      ((with_reducible refine HRD.out.mono ?_); rintro e w4 ⟨v1, v2, rfl, hr1, hr2, hf4⟩)
      obtain ⟨A3, n3, c3, e3, hn3, hd3, _⟩ := hr1.rd
      subst e3
      obtain ⟨A4, n4, c4, e4, hn4, hd4, _⟩ := hr2.rd
      subst e4
      have HF4 := As.mk hf4
      clear hr1 hr2 hf4
      go_wp2_with fail
      ((with_reducible refine (HBL.out A3 A4 n3 c3 n4 c4 w4 hd4.out hd3.out).mono ?_); rintro e w5 ⟨rfl, hf5⟩)
      have HF5 := As.mk (HF4.out.after hf5 (fun _ _ h => h))
      clear hf5
      go_wp2_with fail
      exact ⟨⟨i + 1, rfl, by omega, by omega, rfl, rfl, rfl, ⟨HF.out.1.after HF5.out (fun _ _ h => h), HF5.out.heap HF.out.2 (fun h => h)⟩⟩, by simp [intOf]; omega⟩
    · obtain rfl : i = s.g.c := by omega
      clear hi hlt
      go_wp2_with fail
      go_ret3
      exact ⟨rfl, HF.out.1⟩
end Go.Proofs.Ytlhgbamajabnfaa.SRow

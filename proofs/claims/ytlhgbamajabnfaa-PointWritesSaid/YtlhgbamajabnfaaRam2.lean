/- Members in memory (gabionref10.Ram): what each of its methods does. -/
import Derived.Test.YtlhgbamajabnfaaRam
namespace Go.Proofs.Ytlhgbamajabnfaa.Ram
open Go.RowKit Go.Proofs.Ytlhgbamajabnfaa.Gab Go.Proofs.Ytlhgbamajabnfaa.Wr Go.Proofs.Ytlhgbamajabnfaa.Map Go.Proofs.Ytlhgbamajabnfaa.Geom Go.Proofs.Ytlhgbamajabnfaa.Ref
set_option linter.unusedVariables false
set_option linter.unusedSimpArgs false

set_option maxHeartbeats 1000000 in
set_option maxRecDepth 100000 in
theorem Geo_calls (p : Nat) (s : St) (w : World) (h : RamE w p s) : Calls Try.prog 108 #[.pointer (some ⟨p, 0, none⟩)] w fun e w' => e = .returned s.g.val ∧ Fr None_ w w' := by
  obtain ⟨bp, bg, vo, f, fg, h⟩ := h
  have c0 := cell_is (i := 0) h.blk rfl
  have c1 := cell_is (i := 1) h.blk rfl
  have c2 := cell_is (i := 2) h.blk rfl
  have c3 := cell_is (i := 3) h.blk rfl
  have hp : p < w.heap.size := (Array.getElem?_eq_some_iff.1 h.blk).1
  clear h
  unfold Geo.val
  go_enter Try.func108, Try.ntmps108
  go_wp2
  exact bodyPost_ret (v := .agg #[.int .i64 s.g.c, .int .i64 s.g.b, .int .i64 s.g.p, .int .i64 s.g.s]) (by simp [results, Try.results108, go_sem]) rfl ⟨rfl, (Fr.refl None_ w).alloc _⟩

set_option maxHeartbeats 1000000 in
set_option maxRecDepth 100000 in
theorem Ahead_calls (p : Nat) (s : St) (w : World) (h : RamE w p s) : Calls Try.prog 106 #[.pointer (some ⟨p, 0, none⟩)] w fun e w' => e = .returned (.int .i64 s.first) ∧ w = w' := by
  obtain ⟨bp, bg, vo, f, fg, h⟩ := h
  have c6 := cell_is (i := 6) h.blk rfl
  clear h
  go_enter Try.func106, Try.ntmps106
  go_wp2
  go_ret
  exact ⟨rfl, rfl⟩

theorem PageAt.nil (w : World) (F : Nat → Prop) (s : Int) : PageAt w F s (.slice none 0 0) [] := ⟨none, 0, 0, rfl, Nat.le_refl _, Rd.nil _ _ _, fun x hx => (by cases hx), .inl ⟨rfl, rfl⟩, fun ad e => (by cases e)⟩
def St.new (g : Geo) : St := ⟨g, fun _ _ _ => [], fun _ => 0, -1, [], 0⟩
set_option maxHeartbeats 1000000 in
set_option maxRecDepth 100000 in
theorem New_calls (g : Geo) (w : World) (hg : g.Ok) : Calls Try.prog 14 #[g.val] w fun e w' => ∃ p, e = .returned (.pointer (some ⟨p, 0, none⟩)) ∧ RamE w' p (St.new g) ∧ Fr None_ w w' ∧ ∀ b, Foot w' p b → w.heap.size ≤ b := by
  have hm := @run_makeMap Try.prog
  unfold Geo.val
  go_enter Try.func14, Try.ntmps14
  go_wp2
  go_ret
  have e1 : (w.alloc (.cells #[.int .i64 g.c, .int .i64 g.b, .int .i64 g.p, .int .i64 g.s] 28)).heap.size = w.heap.size + 1 := size_new _ rfl
  generalize hw1 : w.alloc (.cells #[.int .i64 g.c, .int .i64 g.b, .int .i64 g.p, .int .i64 g.s] 28) = w1 at *
  have f1 : Fr None_ w w1 := by rw [← hw1]; exact (Fr.refl None_ w).alloc _
  have e2 : (w1.alloc (.map #[] 0)).heap.size = w.heap.size + 2 := size_new _ e1
  have m1 := MapW.made (P := Try.prog) w1 45 (.slice none 0 0)
  have m2 := MapW.made (P := Try.prog) (w1.alloc (.map #[] 0)) 3 (.int .i64 0)
  have m1' : MapW Try.prog ((w1.alloc (.map #[] 0)).alloc (.map #[] 0)) 45 w1.heap.size 0 (.slice none 0 0) (fun _ => .slice none 0 0) := m1.fr ((Fr.refl None_ _).alloc _) (fun h => h)
  have e3 : ((w1.alloc (.map #[] 0)).alloc (.map #[] 0)).heap.size = w.heap.size + 3 := size_new _ e2
  rw [e1] at m1'
  rw [e2] at m2
  generalize hw3 : (w1.alloc (.map #[] 0)).alloc (.map #[] 0) = w3 at *
  have f3 : Fr None_ w1 w3 := by rw [← hw3]; exact ((Fr.refl None_ w1).alloc _).alloc _
  have hb := at_new (.cells #[.int .i64 g.c, .int .i64 g.b, .int .i64 g.p, .int .i64 g.s, .map (some (w.heap.size + 1)), .map (some (w.heap.size + 2)), .int .i64 (-1), .slice none 0 0] 41) e3
  have f4 := (Fr.refl None_ w3).alloc (.cells #[.int .i64 g.c, .int .i64 g.b, .int .i64 g.p, .int .i64 g.s, .map (some (w.heap.size + 1)), .map (some (w.heap.size + 2)), .int .i64 (-1), .slice none 0 0] 41)
  refine ⟨w.heap.size + 3, rfl, ⟨w.heap.size + 1, w.heap.size + 2, .slice none 0 0, fun _ => .slice none 0 0, fun _ => .int .i64 0, ⟨hb, hg, m1'.fr f4 (fun h => h), m2.fr f4 (fun h => h), by omega, Row.nil _ _ _ _, Nat.le_refl _, fun _ _ _ => rfl, fun m b q => PageAt.nil _ _ _⟩⟩, (f1.after f3 (fun _ _ h => h)).after f4 (fun _ _ h => h), fun b hF => ?_⟩
  rw [foot_is hb] at hF
  rcases hF with rfl | rfl | rfl | hF
  · omega
  · omega
  · omega
  · simp [Value.ownBlock] at hF

/-- A page as it is read. -/
def St.page (s : St) (m b q : Int) : List Int := if s.pages m b q = [] then List.replicate (s.g.s + 64).toNat 255 else s.pages m b q
/-- A page of a member that is there. -/
structure In (g : Geo) (m b q : Int) : Prop where
  m : 0 ≤ m ∧ m < g.c
  at_ : g.At b q

theorem Ram.none_ {w w' : World} {p : Nat} {s : St} {bp bg : Nat} {vo : Value} {f fg : Value → Value} (h : Ram w p s bp bg vo f fg) (hf : Fr None_ w w') : Ram w' p s bp bg vo f fg := h.fr hf (fun _ h => h.2) (fun _ _ _ _ _ _ _ _ h => h)

set_option maxHeartbeats 1000000 in
set_option maxRecDepth 100000 in
theorem Read_gone (p : Nat) (s : St) (m b q : Int) (w : World) (h : RamE w p s) (hi : In s.g m b q) (hgo : 0 < s.gone m) : Calls Try.prog 110 #[.pointer (some ⟨p, 0, none⟩), .int .i64 m, .int .i64 b, .int .i64 q] w fun e w' => e = .returned (.tuple #[.slice none 0 0, .slice none 0 0, .int .i64 71]) ∧ Fr None_ w w' := by
  obtain ⟨bp, bg, vo, f, fg, h⟩ := h
  have c0 := cell_is (i := 0) h.blk rfl
  have c1 := cell_is (i := 1) h.blk rfl
  have c2 := cell_is (i := 2) h.blk rfl
  have c3 := cell_is (i := 3) h.blk rfl
  have c4 := cell_is (i := 4) h.blk rfl
  have c5 := cell_is (i := 5) h.blk rfl
  have hp : p < w.heap.size := (Array.getElem?_eq_some_iff.1 h.blk).1
  have hok := h.ok
  have hc := hok.c
  have hgb := hok.b
  have hgp := hok.p
  obtain ⟨⟨m0, m1⟩, ⟨b0, b1⟩, q0, q1⟩ := hi
  have hg := h.gone m (by omega) (by omega)
  have HG := As.mk hg
  have HM := As.mk h
  have HV := As.mk (fun w => Virtual_calls s.g w hok)
  unfold Geo.val at HV
  have d1 : decide (m < 0) = false := decide_eq_false (by omega)
  have d2 : decide (s.g.c ≤ m) = false := decide_eq_false (by omega)
  have d3 : decide (b < 0) = false := decide_eq_false (by omega)
  have d4 : decide (s.g.b - 5 ≤ b) = false := decide_eq_false (by omega)
  have d5 : decide (q < 0) = false := decide_eq_false (by omega)
  have d6 : decide (s.g.p ≤ q) = false := decide_eq_false (by omega)
  have d7 : decide (0 < s.gone m) = true := decide_eq_true hgo
  clear h hok hg
  go_enter Try.func110, Try.ntmps110
  go_wp2_with fail
  ((with_reducible refine (HV.out _).mono ?_); rintro e w1 ⟨rfl, hf1⟩; have HF1 := As.mk hf1; have HM1 := As.mk (HM.out.none_ hf1); clear hf1 c0 c1 c2 c3 c4 c5; have c2 := cell_is (i := 2) HM1.out.blk rfl; have c5 := cell_is (i := 5) HM1.out.blk rfl)
  go_wp2_with (at_lookup; (with_reducible refine wp_look _ rfl _ _ 38 rfl 3 3 lawI Try.underlying38 (.int .i64 0) (zeroI _) bg s.cnt fg rfl HM1.out.mg (.int .i64 m) rfl (keyOf_i ⟨by omega, by omega⟩) (.int .i64 (s.gone m)) HG.out ?_))
  exact bodyPost_ret (v := .tuple #[.slice none 0 0, .slice none 0 0, .int .i64 71]) (by simp [results, Try.results110, go_sem]) rfl ⟨rfl, HF1.out⟩

theorem St.page_length (s : St) (m b q : Int) {w : World} {F : Nat → Prop} {v : Value} (hg : s.g.Ok) (h : PageAt w F s.g.s v (s.pages m b q)) : ((s.page m b q).length : Int) = s.g.s + 64 := by
  have h0 := hg.s.1
  unfold St.page
  split
  · rw [List.length_replicate]; omega
  · rename_i hne
    obtain ⟨A, n, c, e, h1, h2, h3, h4, h5⟩ := h
    rcases h4 with ⟨h4, _⟩ | h4
    · exact absurd (List.length_eq_zero_iff.1 h4) hne
    · exact h4
theorem St.page_range (s : St) (m b q : Int) {w : World} {F : Nat → Prop} {v : Value} (h : PageAt w F s.g.s v (s.pages m b q)) : InR 256 (s.page m b q) := by
  unfold St.page
  split
  · intro x hx
    obtain ⟨_, rfl⟩ := List.mem_replicate.1 hx
    decide
  · obtain ⟨A, n, c, e, h1, h2, h3, h4, h5⟩ := h
    exact h3

set_option maxHeartbeats 1000000 in
set_option maxRecDepth 100000 in
theorem Read_there (p : Nat) (s : St) (m b q : Int) (w : World) (h : RamE w p s) (hi : In s.g m b q) (hgo : ¬ 0 < s.gone m) : Calls Try.prog 110 #[.pointer (some ⟨p, 0, none⟩), .int .i64 m, .int .i64 b, .int .i64 q] w fun e w' => ∃ v1 v2, e = .returned (.tuple #[v1, v2, .int .i64 0]) ∧ Row 5 .u8 w' w.heap.size v1 ((s.page m b q).take s.g.s.toNat) ∧ Row 5 .u8 w' w.heap.size v2 ((s.page m b q).drop s.g.s.toNat) ∧ Fr None_ w w' := by
  obtain ⟨bp, bg, vo, f, fg, h⟩ := h
  have c0 := cell_is (i := 0) h.blk rfl
  have c1 := cell_is (i := 1) h.blk rfl
  have c2 := cell_is (i := 2) h.blk rfl
  have c3 := cell_is (i := 3) h.blk rfl
  have c4 := cell_is (i := 4) h.blk rfl
  have c5 := cell_is (i := 5) h.blk rfl
  have hp : p < w.heap.size := (Array.getElem?_eq_some_iff.1 h.blk).1
  have hok := h.ok
  have hc := hok.c
  have hgb := hok.b
  have hgp := hok.p
  have hgs := hok.s
  obtain ⟨⟨m0, m1⟩, ⟨b0, b1⟩, q0, q1⟩ := hi
  have hg := h.gone m (by omega) (by omega)
  have HG := As.mk hg
  have HM := As.mk h
  have HV := As.mk (fun w => Virtual_calls s.g w hok)
  have HPL := As.mk (s.page_length m b q hok (h.pages m b q))
  have HPG : As (s.page m b q = if s.pages m b q = [] then List.replicate (s.g.s + 64).toNat 255 else s.pages m b q) := ⟨rfl⟩
  unfold Geo.val at HV
  have d1 : decide (m < 0) = false := decide_eq_false (by omega)
  have d2 : decide (s.g.c ≤ m) = false := decide_eq_false (by omega)
  have d3 : decide (b < 0) = false := decide_eq_false (by omega)
  have d4 : decide (s.g.b - 5 ≤ b) = false := decide_eq_false (by omega)
  have d5 : decide (q < 0) = false := decide_eq_false (by omega)
  have d6 : decide (s.g.p ≤ q) = false := decide_eq_false (by omega)
  have d7 : decide (0 < s.gone m) = false := decide_eq_false hgo
  clear h hok hg
  go_enter Try.func110, Try.ntmps110
  go_wp2_with fail
  ((with_reducible refine (HV.out _).mono ?_); rintro e w1 ⟨rfl, hf1⟩; have HF1 := As.mk hf1; have HM1 := As.mk (HM.out.none_ hf1); clear hf1 c0 c1 c2 c3 c4 c5; have c2 := cell_is (i := 2) HM1.out.blk rfl; have c5 := cell_is (i := 5) HM1.out.blk rfl; have c4 := cell_is (i := 4) HM1.out.blk rfl)
  obtain ⟨A, n, c, e, hnc, hrd, _, hl, _⟩ := HM1.out.pages m b q
  have HE := As.mk e
  have HRD := As.mk hrd
  have HL := As.mk hl
  clear e hrd hl
  go_upto_if 68 with (first | (at_lookup; (with_reducible refine wp_look _ rfl _ _ 38 rfl 3 3 lawI Try.underlying38 (.int .i64 0) (zeroI _) bg s.cnt fg rfl HM1.out.mg (.int .i64 m) rfl (keyOf_i ⟨by omega, by omega⟩) (.int .i64 (s.gone m)) HG.out ?_)) | (at_lookup; (with_reducible refine wp_look _ rfl _ _ 37 rfl 45 23 law3 Try.underlying37 (.slice none 0 0) (zeroB _) bp s.cnt f rfl HM1.out.mp (key3 m b q) rfl (keyOf_3 ⟨by omega, by omega⟩ ⟨by omega, by omega⟩ ⟨by omega, by omega⟩) (.slice A n c) HE.out ?_)))
  go_cut [11] (fun v11 wc => ∃ (A1 : Option Addr) (n1 c1 : Nat), v11 = .slice A1 n1 c1 ∧ As (n1 ≤ c1) ∧ As (Rd .u8 wc A1 n1 (s.page m b q)) ∧ As (Fr None_ w1 wc))
  case first =>
    have c3 := cell_is (i := 3) HM1.out.blk rfl
    by_cases hn : n = 0
    · have HE0 : As (s.pages m b q = [] ∧ A = none ∧ c = 0) := ⟨by
        have hlen := HRD.out.1
        subst hn
        have h0 : s.pages m b q = [] := List.length_eq_zero_iff.1 hlen
        rcases HL.out with ⟨_, h⟩ | h
        · rw [HE.out] at h
          injection h with h1 h2 h3
          exact ⟨h0, h1, h3⟩
        · rw [h0] at h
          simp at h
          omega⟩
      obtain ⟨rfl, rfl⟩ := HE0.out.2
      subst hn
      clear HE HRD HL hnc
      have hs64 : IntKind.i64.wrap (s.g.s + 64) = s.g.s + 64 := i64_in _ (by omega) (by omega)
      clear hs64
      go_wp2
      go_loopw [11, 12] (fun v11 v12 w' => ∃ i : Int, v12 = .int .i64 i ∧ 0 ≤ i ∧ i ≤ s.g.s + 64 ∧ As (Row 5 .u8 w' w1.heap.size v11 (List.replicate i.toNat 255)) ∧ As (Fr None_ w1 w')) (fun _ v12 _ => (s.g.s + 64 - intOf v12).toNat)
      case atStart => exact ⟨0, rfl, by omega, by omega, ⟨Row.nil _ _ _ _⟩, ⟨Fr.refl _ _⟩⟩
      case round =>
        obtain ⟨i, rfl, hi0, hi, HX, HF⟩ := hrel
        have c3' := HF.out.cell c3 (fun h => h)
        clear c2 c5 c4 c3
        obtain ⟨A1, n1, c1, e1, hm1, hd1, _⟩ := HX.out.rd
        subst e1
        by_cases hlt : i < s.g.s + 64
        · go_wp2_with (at_builtin; (with_reducible refine append1 w1.heap.size rfl _ _ 23 5 .u8 1 rfl Try.underlying23 infoByte (by decide) (.slice A1 n1 c1) (List.replicate i.toNat 255) _ rfl rfl HX.out ?c0 ?c1 ?_); (case c0 => exact HF.out.size); (case c1 => simp; omega); intro v1 w2 hrow1 hfr1 hat1; have HR1 := As.mk hrow1; have HF1' := As.mk (row_grow HX.out HF.out hfr1); clear hrow1 hfr1 hat1)
          refine ⟨⟨i + 1, by go_num, by omega, by omega, ⟨?_⟩, ⟨HF1'.out⟩⟩, by simp [intOf]; omega⟩
          rw [show (i + 1).toNat = i.toNat + 1 by omega, List.replicate_succ']
          exact HR1.out
        · have HD1 : As (Rd .u8 wr A1 n1 (s.page m b q)) := ⟨by rw [HPG.out, if_pos HE0.out.1, show (s.g.s + 64).toNat = i.toNat by omega]; exact hd1.out⟩
          clear hd1
          go_wp2
          go_meet
          case rel => exact ⟨A1, n1, c1, rfl, hm1, HD1, HF⟩
    · have HD1 : As (Rd .u8 w1 A n (s.page m b q)) := ⟨by
        rw [HPG.out, if_neg (fun h => hn (by have := HRD.out.1; rw [h] at this; exact this.symm))]
        exact HRD.out⟩
      have HNC := As.mk hnc
      clear hnc
      have hb : ((n : Int) == 0) = false := beq_eq_false_iff_ne.mpr (by omega)
      go_wp2
      go_meet
      case rel => exact ⟨A, n, c, rfl, HNC, HD1, ⟨Fr.refl _ _⟩⟩
  case rest =>
    obtain ⟨A1, n1, c1', rfl, hnc1, hrd1, HFC⟩ := hcut
    have HM2 := As.mk (HM1.out.none_ HFC.out)
    have g3 := cell_is (i := 3) HM2.out.blk rfl
    have HLN : As ((n1 : Int) = s.g.s + 64) := ⟨by have := hrd1.out.1; have := HPL.out; omega⟩
    have HP1 : As (∀ w', Fr None_ wc w' → Calls Try.prog 88 #[.slice A1 n1 c1', .int .i64 0, .int .i64 s.g.s] w' fun e w'' => ∃ v, e = .returned v ∧ Row 5 .u8 w'' w'.heap.size v ((s.page m b q).take s.g.s.toNat) ∧ Fr None_ w' w'') := ⟨fun w' hf => by
      have h := Part_calls A1 n1 c1' (s.page m b q) 0 s.g.s w' (hrd1.out.none_ hf) hnc1.out (by have := HLN.out; omega) (by omega) (by omega) (by have := HLN.out; omega)
      exact h⟩
    have HP2 : As (∀ w', Fr None_ wc w' → Calls Try.prog 88 #[.slice A1 n1 c1', .int .i64 s.g.s, .int .i64 64] w' fun e w'' => ∃ v, e = .returned v ∧ Row 5 .u8 w'' w'.heap.size v ((s.page m b q).drop s.g.s.toNat) ∧ Fr None_ w' w'') := ⟨fun w' hf => by
      have h := Part_calls A1 n1 c1' (s.page m b q) s.g.s 64 w' (hrd1.out.none_ hf) hnc1.out (by have := HLN.out; omega) (by omega) (by omega) (by have := HLN.out; omega)
      rw [List.take_of_length_le (by rw [List.length_drop]; have := HPL.out; omega)] at h
      exact h⟩
    go_wp2_with fail
    go_region_held3 (fun w' => w'.cell? ⟨p, 3, none⟩ = some (.int .i64 s.g.s)) (first | go_keep | (refine Fr.cell ‹Fr None_ _ _› ?_ (fun h => h); go_keep)) (first | ((with_reducible refine (HP1.out _ ((Fr.refl None_ wc).drew)).mono ?_);  rintro e w3 ⟨v1, rfl, hrow1, hf1⟩) | ((with_reducible refine (HP2.out _ (Fr.after (T := None_) ((Fr.refl None_ wc).drew) hf1 (fun _ _ h => h))).mono ?_);  rintro e w4 ⟨v2, rfl, hrow2, hf2⟩) |  ((with_reducible refine (HP2.out _ ((Fr.refl None_ wc).drew)).mono ?_);  rintro e w4 ⟨v2, rfl, hrow2, hf2⟩) |  ((with_reducible refine (HP1.out _ (Fr.after (T := None_) ((Fr.refl None_ wc).drew) hf2 (fun _ _ h => h))).mono ?_);  rintro e w3 ⟨v1, rfl, hrow1, hf1⟩))
    all_goals
      go_wp2_with fail
      refine bodyPost_ret (v := .tuple #[v1, v2, .int .i64 0]) (by simp [results, Try.results110, go_sem]) rfl ?_
      have hz1 : w.heap.size ≤ w1.heap.size := HF1.out.size
      have hz2 : w1.heap.size ≤ wc.heap.size := HFC.out.size
      have hzw : wc.drew.heap.size = wc.heap.size := rfl
      have hF : Fr None_ w wc := HF1.out.after HFC.out (fun _ _ h => h)
      have hs1 := hf1.size
      have hs2 := hf2.size
      first
        | exact ⟨v1, v2, rfl, (hrow1.none_ hf2).lower (by omega), hrow2.lower (by omega), (hF.drew.after hf1 (fun _ _ h => h)).after hf2 (fun _ _ h => h)⟩
        | exact ⟨v1, v2, rfl, hrow1.lower (by omega), (hrow2.none_ hf1).lower (by omega), (hF.drew.after hf2 (fun _ _ h => h)).after hf1 (fun _ _ h => h)⟩
end Go.Proofs.Ytlhgbamajabnfaa.Ram

-- PRINTED BY print.sh 35421559b90ae4d0a3588c463048766b98c2df88dd9212a6774a882060cdf62d: not written by this session
import Derived.Test.YtmcooidoemcaoaaPWearEmptyx0
import Derived.Test.YtmcooidoemcaoaaPWearEmptyx1
import Derived.Test.YtmcooidoemcaoaaPWearEmptyx2
namespace Go.Proofs.Ytmcooidoemcaoaa.PWearEmpty
open Go.RowKit Go.Proofs.YtmcooidoemcaoaaW.PrintWords Go.Proofs.YtmcooidoemcaoaaW.PrintLast Go.Proofs.YtmcooidoemcaoaaW.PrintMore
attribute [local go_sem] max2_int min2_int max_two min_two max_three min_three max_four min_four   -- for this text's walks alone
set_option linter.unusedVariables false
set_option linter.unusedSimpArgs false

/-! ### gabionlaw15_WearEmpty: function 6 -/
mutual
def gabionlaw15_WearEmpty.j0 : Nat → List (S34) → Bool → Bool → Bool → Option (Bool)
  | 0, _, _, _, _ => none
  | k + 1, x0, x1, x2, x15 => if x15 = true then ((gabionlaw15_chosen.f k).bind fun t125 => (some t125)) else ((some (([] : List (S34)) : List (S34))).bind fun y126 => (if y126.length + x0.length < 5864062014805 then (gabionlaw15_WearEmpty.l0 k x1 x2 (y126 ++ x0) 0) else (none)))
def gabionlaw15_WearEmpty.l0 : Nat → Bool → Bool → List (S34) → Int → Option (Bool)
  | 0, _, _, _, _ => none
  | k + 1, x1, x2, x7, x8 => if x8 < (x7.length : Int) then (if x1 = true then (if 0 ≤ x8 then (if ((rd_T34 x7 x8).f0) = 2 then (gabionlaw15_WearEmpty.l0 k x1 x2 (x7.set (x8 : Int).toNat (⟨1, (rd_T34 x7 x8).f1, (rd_T34 x7 x8).f2⟩ : S34)) (wrap64 (x8 + 1))) else (if x2 = true then (if ((rd_T34 x7 x8).f0) = 0 then (gabionlaw15_WearEmpty.l0 k x1 x2 (x7.set (x8 : Int).toNat (⟨1, (rd_T34 x7 x8).f1, (rd_T34 x7 x8).f2⟩ : S34)) (wrap64 (x8 + 1))) else (gabionlaw15_WearEmpty.l0 k x1 x2 x7 (wrap64 (x8 + 1)))) else (gabionlaw15_WearEmpty.l0 k x1 x2 x7 (wrap64 (x8 + 1))))) else (none)) else (if x2 = true then (if 0 ≤ x8 then (if ((rd_T34 x7 x8).f0) = 0 then (gabionlaw15_WearEmpty.l0 k x1 x2 (x7.set (x8 : Int).toNat (⟨1, (rd_T34 x7 x8).f1, (rd_T34 x7 x8).f2⟩ : S34)) (wrap64 (x8 + 1))) else (gabionlaw15_WearEmpty.l0 k x1 x2 x7 (wrap64 (x8 + 1)))) else (none)) else (gabionlaw15_WearEmpty.l0 k x1 x2 x7 (wrap64 (x8 + 1))))) else (if x1 = true then ((wear_Victim.f k x7).bind fun t138 => (if t138 = (-1) then (if x2 = true then ((wear_Next.f k x7).bind fun t139 => (if t139 = (-1) then ((wear_Dead.f k x7).bind fun t140 => (some ((t140.length : Int) == 0))) else (some false))) else ((wear_Dead.f k x7).bind fun t143 => (some ((t143.length : Int) == 0)))) else (some false))) else (if x2 = true then ((wear_Next.f k x7).bind fun t146 => (if t146 = (-1) then (some true) else (some false))) else (some true)))
end
def gabionlaw15_WearEmpty.f (k : Nat) (l0 : List (S34)) (a1 : Bool) (a2 : Bool) : Option (Bool) := (gabionlaw15_chosen.f k).bind fun t124 => (if t124 = true then (gabionlaw15_WearEmpty.j0 k l0 a1 a2 (decide ((l0.length : Int) > 100))) else (gabionlaw15_WearEmpty.j0 k l0 a1 a2 true))
theorem gabionlaw15_WearEmpty.mono_l : ∀ k, (∀ y0 y1 y2 y3, LeO (gabionlaw15_WearEmpty.j0 k y0 y1 y2 y3) (gabionlaw15_WearEmpty.j0 (k + 1) y0 y1 y2 y3)) ∧ (∀ y0 y1 y2 y3, LeO (gabionlaw15_WearEmpty.l0 k y0 y1 y2 y3) (gabionlaw15_WearEmpty.l0 (k + 1) y0 y1 y2 y3))
  | 0 => ⟨fun _ _ _ _ r h => by simp [gabionlaw15_WearEmpty.j0] at h, fun _ _ _ _ r h => by simp [gabionlaw15_WearEmpty.l0] at h⟩
  | k + 1 => by
    obtain ⟨ih0, ih1⟩ := gabionlaw15_WearEmpty.mono_l k
    refine ⟨?_, ?_⟩
    · intro y0 y1 y2 y3
      unfold gabionlaw15_WearEmpty.j0
      repeat' first
      | (with_reducible exact ih0 _ _ _ _)
      | (with_reducible exact ih1 _ _ _ _)
      | (with_reducible exact gabionlaw15_chosen.mono _)
      | (with_reducible exact wear_Dead.mono _ _)
      | (with_reducible exact wear_Next.mono _ _)
      | (with_reducible exact wear_Victim.mono _ _)
      | (with_reducible exact LeO.refl _)
      | (with_reducible exact LeO.none _)
      | (with_reducible refine LeO.ite ?_ ?_)
      | (with_reducible refine LeO.bind ?_ (fun _ => ?_))
      | exact ih0 _ _ _ _
      | exact ih1 _ _ _ _
      | exact gabionlaw15_chosen.mono _
      | exact wear_Dead.mono _ _
      | exact wear_Next.mono _ _
      | exact wear_Victim.mono _ _
      | exact LeO.none _
      | refine LeO.ite ?_ ?_
      | refine LeO.bind ?_ (fun _ => ?_)
    · intro y0 y1 y2 y3
      unfold gabionlaw15_WearEmpty.l0
      repeat' first
      | (with_reducible exact ih0 _ _ _ _)
      | (with_reducible exact ih1 _ _ _ _)
      | (with_reducible exact gabionlaw15_chosen.mono _)
      | (with_reducible exact wear_Dead.mono _ _)
      | (with_reducible exact wear_Next.mono _ _)
      | (with_reducible exact wear_Victim.mono _ _)
      | (with_reducible exact LeO.refl _)
      | (with_reducible exact LeO.none _)
      | (with_reducible refine LeO.ite ?_ ?_)
      | (with_reducible refine LeO.bind ?_ (fun _ => ?_))
      | exact ih0 _ _ _ _
      | exact ih1 _ _ _ _
      | exact gabionlaw15_chosen.mono _
      | exact wear_Dead.mono _ _
      | exact wear_Next.mono _ _
      | exact wear_Victim.mono _ _
      | exact LeO.none _
      | refine LeO.ite ?_ ?_
      | refine LeO.bind ?_ (fun _ => ?_)
theorem gabionlaw15_WearEmpty.mono : ∀ a0 a1 a2 k, LeO (gabionlaw15_WearEmpty.f k a0 a1 a2) (gabionlaw15_WearEmpty.f (k + 1) a0 a1 a2) := by
  intro a0 a1 a2 k
  obtain ⟨ih0, ih1⟩ := gabionlaw15_WearEmpty.mono_l k
  unfold gabionlaw15_WearEmpty.f
  repeat' first
      | (with_reducible exact ih0 _ _ _ _)
      | (with_reducible exact ih1 _ _ _ _)
      | (with_reducible exact gabionlaw15_chosen.mono _)
      | (with_reducible exact wear_Dead.mono _ _)
      | (with_reducible exact wear_Next.mono _ _)
      | (with_reducible exact wear_Victim.mono _ _)
      | (with_reducible exact LeO.refl _)
      | (with_reducible exact LeO.none _)
      | (with_reducible refine LeO.ite ?_ ?_)
      | (with_reducible refine LeO.bind ?_ (fun _ => ?_))
      | exact ih0 _ _ _ _
      | exact ih1 _ _ _ _
      | exact gabionlaw15_chosen.mono _
      | exact wear_Dead.mono _ _
      | exact wear_Next.mono _ _
      | exact wear_Victim.mono _ _
      | exact LeO.none _
      | refine LeO.ite ?_ ?_
      | refine LeO.bind ?_ (fun _ => ?_)
set_option maxHeartbeats 8000000 in
set_option maxRecDepth 100000 in
theorem gabionlaw15_WearEmpty.calls (k : Nat) (A0 : Option Addr) (c0 : Nat) (l0 : List (S34)) (a1 : Bool) (a2 : Bool) (r : Bool) (w : World) (hr0 : Kd.C k34 w A0 l0.length l0) (hc0 : l0.length ≤ c0) (h : gabionlaw15_WearEmpty.f k l0 a1 a2 = some r) :
    Calls Try.prog 6 #[.slice A0 l0.length c0, .bool a1, .bool a2] w fun e w' => e = .returned (.bool r) ∧ Below w.heap.size w w' := by
  have HR0 := Aside0.mk hr0
  have HC0 := Aside0.mk hc0
  clear hr0 hc0
  have HB := Aside0.mk (Below.refl w.heap.size w)
  have H : ((gabionlaw15_chosen.f k).bind fun t124 => (if t124 = true then (gabionlaw15_WearEmpty.j0 k l0 a1 a2 (decide ((l0.length : Int) > 100))) else (gabionlaw15_WearEmpty.j0 k l0 a1 a2 true))) = some r := h
  clear h
  have HC4 := Aside0.mk H
  clear H
  go_enter Try.func6, Try.ntmps6
  go_upto_region 1 with (fail)
  go_cut [15] (fun v15 wc => ∃ (kq : Nat) (x15_3 : Bool), v15 = .bool x15_3 ∧ Aside0 (gabionlaw15_WearEmpty.j0 kq l0 a1 a2 x15_3 = some r) ∧ Aside0 (kq ≤ k) ∧ Aside0 (Below w.heap.size w wc))
  case first =>
    have H := HC4.out
    clear HC4
    replace H := Option.bind_eq_some_iff.mp H
    obtain ⟨t124, A50, H⟩ := H
    replace H : (if t124 = true then (gabionlaw15_WearEmpty.j0 k l0 a1 a2 (decide ((l0.length : Int) > 100))) else (gabionlaw15_WearEmpty.j0 k l0 a1 a2 true)) = some r := H
    have A5 := Aside0.mk A50
    clear A50
    by_cases c6 : t124 = true
    · subst c6
      have H1 : (gabionlaw15_WearEmpty.j0 k l0 a1 a2 (decide ((l0.length : Int) > 100))) = some r := by rw [if_pos rfl] at H; exact H
      clear H
      have H := H1
      clear H1
      have H' := Aside0.mk H
      clear H
      go_wp2_with (first | ((with_reducible refine gate_callee (f := 8) rfl ?_); refine goesL_ (some 9) rfl rfl Try.func8 (by kernel_rfl) rfl #[] rfl (by (try simp only [List.map_toArray, List.map_cons, List.map_nil]); first | done | rfl | (simp only [List.length_drop, List.length_take]; rfl)) ?_; (with_reducible refine (gabionlaw15_chosen.calls k  true _ A5.out).mono ?_); rintro e w7 ⟨rfl, hb⟩; refine ⟨_, rfl, ?_⟩; have n0_ := Aside0.mk (below_step (by repeat (first | (with_reducible first | exact HB.out | apply below_alloc | apply pw_below_drewN | apply below_drew1) | exact HB.out)) hb); clear HB; have HB := n0_; clear n0_; (try clear hb); (try clear hb2); (try clear hk); (try clear hi)))
      go_meet
      case rel => exact ⟨_, (decide ((l0.length : Int) > 100)), (by first | rfl | (simp; done) | (simp [*]; done)), H', ⟨by first | omega | exact Nat.le_refl _⟩, ⟨by repeat (first | (with_reducible first | exact HB.out | apply below_alloc | apply pw_below_drewN | apply below_drew1) | exact HB.out)⟩⟩
    · replace c6 := Bool.eq_false_iff.mpr c6
      subst c6
      have H1 : (gabionlaw15_WearEmpty.j0 k l0 a1 a2 true) = some r := by rw [if_neg (show ¬ (false = true) by decide)] at H; exact H
      clear H
      have H := H1
      clear H1
      have H' := Aside0.mk H
      clear H
      go_wp2_with (first | ((with_reducible refine gate_callee (f := 8) rfl ?_); refine goesL_ (some 9) rfl rfl Try.func8 (by kernel_rfl) rfl #[] rfl (by (try simp only [List.map_toArray, List.map_cons, List.map_nil]); first | done | rfl | (simp only [List.length_drop, List.length_take]; rfl)) ?_; (with_reducible refine (gabionlaw15_chosen.calls k  false _ A5.out).mono ?_); rintro e w8 ⟨rfl, hb⟩; refine ⟨_, rfl, ?_⟩; have n0_ := Aside0.mk (below_step (by repeat (first | (with_reducible first | exact HB.out | apply below_alloc | apply pw_below_drewN | apply below_drew1) | exact HB.out)) hb); clear HB; have HB := n0_; clear n0_; (try clear hb); (try clear hb2); (try clear hk); (try clear hi)))
      go_meet
      case rel => exact ⟨_, (true), (by first | rfl | (simp; done) | (simp [*]; done)), H', ⟨by first | omega | exact Nat.le_refl _⟩, ⟨by repeat (first | (with_reducible first | exact HB.out | apply below_alloc | apply pw_below_drewN | apply below_drew1) | exact HB.out)⟩⟩
  case rest =>
    clear HC4
    try clear p2
    try clear c6
    try clear c8
    obtain ⟨kq, x15_3, rfl, HA, HJ3, HB⟩ := hcut
    cases kq with
    | zero => exact absurd HA.out (by simp [gabionlaw15_WearEmpty.j0])
    | succ kj3 =>
      have H := HA.out
      clear HA
      simp only [gabionlaw15_WearEmpty.j0] at H
      by_cases c9 : x15_3 = true
      · subst c9
        have H1 : ((gabionlaw15_chosen.f kj3).bind fun t125 => (some t125)) = some r := by rw [if_pos rfl] at H; exact H
        clear H
        have H := H1
        clear H1
        replace H := Option.bind_eq_some_iff.mp H
        obtain ⟨t125, A100, H⟩ := H
        replace H : (some t125) = some r := H
        have A10 := Aside0.mk A100
        clear A100
        obtain rfl := Option.some.inj H
        go_wp2_with (first | ((with_reducible refine gate_callee (f := 8) rfl ?_); refine goesL_ (some 16) rfl rfl Try.func8 (by kernel_rfl) rfl #[] rfl (by (try simp only [List.map_toArray, List.map_cons, List.map_nil]); first | done | rfl | (simp only [List.length_drop, List.length_take]; rfl)) ?_; (with_reducible refine (gabionlaw15_chosen.calls kj3  t125 _ A10.out).mono ?_); rintro e w11 ⟨rfl, hb⟩; refine ⟨_, rfl, ?_⟩; have n0_ := Aside0.mk (below_step (by repeat (first | (with_reducible first | exact HB.out | apply below_alloc | apply pw_below_drewN | apply below_drew1) | exact HB.out)) hb); clear HB; have HB := n0_; clear n0_; (try clear hb); (try clear hb2); (try clear hk); (try clear hi)))
        go_ret
        exact ⟨by first | rfl | (simp [errW_none, errW_some] <;> rfl) | (simp [*, errW_none, errW_some] <;> rfl), by repeat (first | (with_reducible first | exact HB.out | apply below_alloc | apply pw_below_drewN | apply below_drew1) | exact HB.out)⟩
      · replace c9 := Bool.eq_false_iff.mpr c9
        subst c9
        have H1 : ((some (([] : List (S34)) : List (S34))).bind fun y126 => (if y126.length + l0.length < 5864062014805 then (gabionlaw15_WearEmpty.l0 kj3 a1 a2 (y126 ++ l0) 0) else (none))) = some r := by rw [if_neg (show ¬ (false = true) by decide)] at H; exact H
        clear H
        have H := H1
        clear H1
        obtain ⟨y126, hy126⟩ : ∃ y_ : List (S34), y_ = (([] : List (S34))) := ⟨_, rfl⟩
        replace H : (if y126.length + l0.length < 5864062014805 then (gabionlaw15_WearEmpty.l0 kj3 a1 a2 (y126 ++ l0) 0) else (none)) = some r := by first | (rw [hy126]; with_reducible exact H) | (have H2_ := (Option.bind_some _ _).symm.trans H; rw [hy126]; with_reducible exact H2_) | (have H2_ := (Option.bind_some _ _).symm.trans H; with_reducible exact H2_) | with_reducible exact H | (rw [hy126]; exact H) | exact H
        have Ny126 := Aside0.mk hy126
        clear hy126
        by_cases c12 : y126.length + l0.length < 5864062014805
        · rw [if_pos c12] at H
          have LMc12 := Aside0.mk c12
          clear c12
          obtain ⟨y129, hy129⟩ : ∃ y_ : List (S34), y_ = (y126 ++ l0) := ⟨_, rfl⟩
          replace H : (gabionlaw15_WearEmpty.l0 kj3 a1 a2 y129 0) = some r := by first | (rw [hy129]; with_reducible exact H) | (have H2_ := (Option.bind_some _ _).symm.trans H; rw [hy129]; with_reducible exact H2_) | (have H2_ := (Option.bind_some _ _).symm.trans H; with_reducible exact H2_) | with_reducible exact H | (rw [hy129]; exact H) | exact H
          have Ny129 := Aside0.mk hy129
          clear hy129
          have H' := Aside0.mk H
          clear H
          go_wp2_with (first | ((with_reducible refine gate_dst (N := 17) rfl ?_); (try (refine gate_guard (by rfl) ?_; dsimp only)); refine Kd.R_lit k34 _ 34 ?hg (N := 17) ?hd (xs := ([] : List (S34))) (inner := []) (ok := fun _ => True) (okp := fun _ => True) ?hr ?hp (fun _ hk => hk) trivial (Below.refl _ _) (Nat.le_refl _) (by simp) ?_; (case hd => rfl); (case hg => rfl); (case hr => first | (go_simp; done) | (go_simp; rfl)); (case hp => exact (Reps.none _ _)); intro v127 w13 ho14 hb hg_ hnew_; clear hg_ hnew_; (first | rw [← Ny126.out] at ho14 | (simp only [Int.reduceToNat] at ho14; rw [← Ny126.out] at ho14)); have n0_ := Aside0.mk (Kd.R_lower ho14 (below_size (by repeat (first | (with_reducible first | exact HB.out | apply below_alloc | apply pw_below_drewN | apply below_drew1) | exact HB.out)))); have n1_ := Aside0.mk (below_step (by repeat (first | (with_reducible first | exact HB.out | apply below_alloc | apply pw_below_drewN | apply below_drew1) | exact HB.out)) hb); clear HB; have HO128 := n0_; have HB := n1_; clear n0_ n1_; clear hb ho14) | ((with_reducible refine gate_builtin (b := .append) (xs := #[.tmp 17, .tmp 18]) rfl ?_); (try (refine gate_guard (by rfl) ?_; dsimp only)); at_builtin; refine Kd.R_append_rows k34 (w0 := w) w.heap.size rfl (.tmp 17) (.tmp 18) 22 34 (.agg #[(.int .i64 0), (.int .i64 0), (.int .u32 0)]) 24 rfl Try.underlying22 info34 rfl (by decide) (by omega) v127 y126 l0 _ _ _ (fun _ => True) (fun _ => False) rfl rfl ?aO ?aR (fun _ _ h => h) (fun _ h => h.elim) ?aF ?aB ?aS ?aL ?_; (case aR => repeat (first | exact (Kd.C_below HR0.out HB.out) | (with_reducible refine Kd.C_alloc ?_ _) | (with_reducible refine Kd.C_drewN ?_ _) | (with_reducible refine Kd.C_drew ?_))); (case aB => exact (by repeat (first | (with_reducible first | exact HB.out | apply below_alloc | apply pw_below_drewN | apply below_drew1) | exact HB.out))); (case aF => exact (fun _ _ => trivial)); (case aO => exact (by (with_reducible repeat (first | apply Kd.R_alloc | apply Kd.R_drewN | apply Kd.R_drew)); exact HO128.out)); (case aS => exact (below_size (by repeat (first | (with_reducible first | exact HB.out | apply below_alloc | apply pw_below_drewN | apply below_drew1) | exact HB.out)))); (case aL => have := LMc12.out; omega); intro v130 w15 ho hb hg hat; rw [← Ny129.out] at ho; have n0_ := Aside0.mk (hb); have n1_ := Aside0.mk (ho); clear HB; clear HO128; have HB := n0_; have HO131 := n1_; clear n0_ n1_; clear ho hb hg hat))
          go_loopg [8] kj3 (fun kq v8 w' => ∃ (x7_2 : List (S34)) (x8_2 : Int), v8 = .int .i64 x8_2 ∧ Aside0 (gabionlaw15_WearEmpty.l0 kq a1 a2 x7_2 x8_2 = some r) ∧ Aside0 (kq ≤ kj3) ∧ Aside0 (Kd.R k34 34 w' w.heap.size (fun _ => True) v130 x7_2) ∧ Aside0 (Below w.heap.size w w'))
          case atStart => exact ⟨(y129), (0), (by first | rfl | (simp; done) | (simp [*]; done)), H', ⟨Nat.le_refl _⟩, ⟨by (with_reducible repeat (first | apply Kd.R_alloc | apply Kd.R_drewN | apply Kd.R_drew)); exact HO131.out⟩, ⟨by repeat (first | (with_reducible first | exact HB.out | apply below_alloc | apply pw_below_drewN | apply below_drew1) | exact HB.out)⟩⟩
          case round =>
            clear H'
            try clear c1
            try clear p2
            try clear c6
            try clear c8
            try clear c9
            try clear c12
            try clear p2
            obtain ⟨x7_2, x8_2, rfl, HA, HK2, HO_7, HB⟩ := hrel
            cases gk with
            | zero => exact absurd HA.out (by simp [gabionlaw15_WearEmpty.l0])
            | succ k2 =>
              have H := HA.out
              clear HA
              simp only [gabionlaw15_WearEmpty.l0] at H
              by_cases c16 : x8_2 < (x7_2.length : Int)
              · rw [if_pos c16] at H
                have c16b0 : decide (x8_2 < (x7_2.length : Int)) = true := decide_eq_true c16
                clear c16
                by_cases c17 : a1 = true
                · subst c17
                  have H1 : (if 0 ≤ x8_2 then (if ((rd_T34 x7_2 x8_2).f0) = 2 then (gabionlaw15_WearEmpty.l0 k2 true a2 (x7_2.set (x8_2 : Int).toNat (⟨1, (rd_T34 x7_2 x8_2).f1, (rd_T34 x7_2 x8_2).f2⟩ : S34)) (wrap64 (x8_2 + 1))) else (if a2 = true then (if ((rd_T34 x7_2 x8_2).f0) = 0 then (gabionlaw15_WearEmpty.l0 k2 true a2 (x7_2.set (x8_2 : Int).toNat (⟨1, (rd_T34 x7_2 x8_2).f1, (rd_T34 x7_2 x8_2).f2⟩ : S34)) (wrap64 (x8_2 + 1))) else (gabionlaw15_WearEmpty.l0 k2 true a2 x7_2 (wrap64 (x8_2 + 1)))) else (gabionlaw15_WearEmpty.l0 k2 true a2 x7_2 (wrap64 (x8_2 + 1))))) else (none)) = some r := by rw [if_pos rfl] at H; exact H
                  clear H
                  have H := H1
                  clear H1
                  by_cases c18 : 0 ≤ x8_2
                  · rw [if_pos c18] at H
                    have c18b0 : decide (0 ≤ x8_2) = true := decide_eq_true c18
                    clear c18
                    by_cases c19 : ((rd_T34 x7_2 x8_2).f0) = 2
                    · rw [if_pos c19] at H
                      have c19b0 : (((rd_T34 x7_2 x8_2).f0) == 2) = true := beq_iff_eq.mpr c19
                      have c19b1 : (((rd_T34 x7_2 x8_2).f0) != 2) = false := bne_eq_false_iff_eq.mpr c19
                      clear c19
                      obtain ⟨y133, hy133⟩ : ∃ y_ : List (S34), y_ = (x7_2.set (x8_2 : Int).toNat (⟨1, (rd_T34 x7_2 x8_2).f1, (rd_T34 x7_2 x8_2).f2⟩ : S34)) := ⟨_, rfl⟩
                      replace H : (gabionlaw15_WearEmpty.l0 k2 true a2 y133 (wrap64 (x8_2 + 1))) = some r := by first | (rw [hy133]; with_reducible exact H) | (have H2_ := (Option.bind_some _ _).symm.trans H; rw [hy133]; with_reducible exact H2_) | (have H2_ := (Option.bind_some _ _).symm.trans H; with_reducible exact H2_) | with_reducible exact H | (rw [hy133]; exact H) | exact H
                      have Ny133 := Aside0.mk hy133
                      clear hy133
                      have H' := Aside0.mk H
                      clear H
                      obtain ⟨Ao21, co21, eo21⟩ := Kd.R_slice HO_7.out
                      subst eo21
                      have p132 : 0 ≤ (x8_2 : Int) := of_decide_eq_true (by first | (with_reducible assumption) | assumption)
                      have q132 : x8_2 < (x7_2.length : Int) := of_decide_eq_true (by first | (with_reducible assumption) | assumption)
                      obtain ⟨ad132, e132, hx132_0, hx132_1, hx132_2⟩ := at_T34 (Kd.R_reads' HO_7.out).2.2 x8_2 p132 q132
                      cases e132
                      replace p132 := eq_true p132
                      replace q132 := eq_true q132
                      have p20 : 0 ≤ (x8_2 : Int) := of_decide_eq_true (by first | (with_reducible assumption) | assumption)
                      have q20 : (x8_2 : Int) < ((x7_2.length : Int) : Int) := of_decide_eq_true (by first | (with_reducible assumption) | assumption)
                      obtain ⟨go20, co20, eo20, gb20, gl20, cl20, HG20⟩ := Kd.R_form HO_7.out (by omega)
                      (first | cases eo20 | (injection eo20 with ea_ en_ ec_; (first | subst ea_ | (injection ea_ with ea_; subst ea_)); subst ec_; clear en_))
                      have GB20 := Aside0.mk gb20
                      have GG20 := Aside0.mk HG20
                      clear gb20 gl20 HG20
                      (first | simp only [add_plain] at hx132_0 | skip)
                      (first | simp only [add_plain] at hx132_1 | skip)
                      (first | simp only [add_plain] at hx132_2 | skip)
                      obtain ⟨ce20, hcl20, hM20, hcc20, hfr20⟩ := Kd.R_elem HO_7.out z34 (x8_2 : Int) p20 q20
                      obtain rfl := k34_openM hM20
                      have hx20_0 : wr.cell? ⟨go20, (x8_2 : Int).toNat * 3, none⟩ = some (.int .i64 ((rd_T34 x7_2 x8_2).f0)) := hcc20 0 _ rfl
                      have hx20_1 : wr.cell? ⟨go20, (x8_2 : Int).toNat * 3 + 1, none⟩ = some (.int .i64 ((rd_T34 x7_2 x8_2).f1)) := hcc20 1 _ rfl
                      have hx20_2 : wr.cell? ⟨go20, (x8_2 : Int).toNat * 3 + 2, none⟩ = some (.int .u32 ((rd_T34 x7_2 x8_2).f2)) := hcc20 2 _ rfl
                      have hf20_0 : wr.frozen? ⟨go20, (x8_2 : Int).toNat * 3, none⟩ = false := hfr20 0
                      have hf20_1 : wr.frozen? ⟨go20, (x8_2 : Int).toNat * 3 + 1, none⟩ = false := hfr20 1
                      have hf20_2 : wr.frozen? ⟨go20, (x8_2 : Int).toNat * 3 + 2, none⟩ = false := hfr20 2
                      clear hcl20 hcc20 hfr20 hM20
                      replace p20 := eq_true p20
                      replace q20 := eq_true q20
                      have HX22 := Aside0.mk (show Kd.R k34 34 wr w.heap.size (fun _ => True) (.slice (some ⟨go20, 0, none⟩) x7_2.length co21) x7_2 from (by (with_reducible repeat (first | apply Kd.R_alloc | apply Kd.R_drewN | apply Kd.R_drew)); exact HO_7.out))
                      obtain ⟨ce22, hcl22, hM22, hcc22, hfr22⟩ := Kd.R_elem HX22.out z34 (x8_2 : Int) (of_decide_eq_true (by first | (with_reducible assumption) | assumption)) (by have h_ : (x8_2 : Int) < ((x7_2.length : Int) : Int) := of_decide_eq_true (by first | (with_reducible assumption) | assumption); first | exact h_ | (have e_ := (Kd.R_reads' HO_7.out).1; omega) | simpa using h_)
                      obtain rfl := k34_openM hM22
                      have HP22 := Kd.R_seg HX22.out (x8_2 : Int) (of_decide_eq_true (by first | (with_reducible assumption) | assumption)) (by have h_ : (x8_2 : Int) < ((x7_2.length : Int) : Int) := of_decide_eq_true (by first | (with_reducible assumption) | assumption); first | exact h_ | (have e_ := (Kd.R_reads' HO_7.out).1; omega) | simpa using h_) (seg := [.int .i64 1]) (j := 0) hcl22 hcc22 (show 1 ≤ 3 from by decide) (x' := (⟨1, (rd_T34 x7_2 x8_2).f1, (rd_T34 x7_2 x8_2).f2⟩ : S34)) (k34_mkM _ _ _ (⟨1, (rd_T34 x7_2 x8_2).f1, (rd_T34 x7_2 x8_2).f2⟩ : S34) ) (fun _ hk => hk)
                      have hx22_0 := hcc22 0 _ rfl
                      (try simp only [show (k34).sz = 3 from rfl, Nat.mul_one, Nat.add_zero] at hx22_0)
                      have hf22_0 := hfr22 0
                      (try simp only [show (k34).sz = 3 from rfl, Nat.mul_one, Nat.add_zero] at hf22_0)
                      clear hcl22 hcc22 hfr22 hM22
                      go_wp2_with (first | ((with_reducible refine gate_store (t := 3) (p := 49) rfl ?_); refine store_event (t := 3) (p := 49) (v := ?vo_w23) (w1 := (wr.setCell ⟨go20, (x8_2 : Int).toNat * 3, none⟩ (.int .i64 1))) ?hg ?ho ?hn ?hr ?_; (case ho => rfl); (case hg => rfl); (case hn => rfl); (case hr => first | (go_simp; done) | (go_simp; rfl)); intro w23 hw; have hg : wr.grownBy w23 (some go20) := (by rw [hw]; exact HP22.2); have hp_ : Kd.R k34 34 w23 w.heap.size (fun _ => True) (.slice (some ⟨go20, 0, none⟩) x7_2.length co21) y133 := (by rw [hw, Ny133.out]; exact HP22.1); clear HP22; have n0_ := Aside0.mk (hp_); have n1_ := Aside0.mk ((by rw [hw]; exact below_set (HB.out) GB20.out : Below w.heap.size w w23)); clear HO_7; clear HB; have HO_7 := n0_; have HB := n1_; clear n0_ n1_; clear hg hw hp_))
                      go_roundg k2
                      case measure => have := HJ3.out; have := HK2.out; omega
                      case rel => exact ⟨(y133), (wrap64 (x8_2 + 1)), (by first | rfl | (simp; done) | (simp [*]; done)), H', ⟨by have := HJ3.out; have := HK2.out; omega⟩, ⟨by (with_reducible repeat (first | apply Kd.R_alloc | apply Kd.R_drewN | apply Kd.R_drew)); exact HO_7.out⟩, ⟨by repeat (first | (with_reducible first | exact HB.out | apply below_alloc | apply pw_below_drewN | apply below_drew1) | exact HB.out)⟩⟩
                    · rw [if_neg c19] at H
                      have c19b0 : (((rd_T34 x7_2 x8_2).f0) == 2) = false := beq_eq_false_iff_ne.mpr c19
                      have c19b1 : (((rd_T34 x7_2 x8_2).f0) != 2) = true := bne_iff_ne.mpr c19
                      by_cases c24 : a2 = true
                      · subst c24
                        have H1 : (if ((rd_T34 x7_2 x8_2).f0) = 0 then (gabionlaw15_WearEmpty.l0 k2 true true (x7_2.set (x8_2 : Int).toNat (⟨1, (rd_T34 x7_2 x8_2).f1, (rd_T34 x7_2 x8_2).f2⟩ : S34)) (wrap64 (x8_2 + 1))) else (gabionlaw15_WearEmpty.l0 k2 true true x7_2 (wrap64 (x8_2 + 1)))) = some r := by rw [if_pos rfl] at H; exact H
                        clear H
                        have H := H1
                        clear H1
                        by_cases c25 : ((rd_T34 x7_2 x8_2).f0) = 0
                        · rw [if_pos c25] at H
                          have c25b0 : (((rd_T34 x7_2 x8_2).f0) == 0) = true := beq_iff_eq.mpr c25
                          have c25b1 : (((rd_T34 x7_2 x8_2).f0) != 0) = false := bne_eq_false_iff_eq.mpr c25
                          clear c25
                          obtain ⟨y135, hy135⟩ : ∃ y_ : List (S34), y_ = (x7_2.set (x8_2 : Int).toNat (⟨1, (rd_T34 x7_2 x8_2).f1, (rd_T34 x7_2 x8_2).f2⟩ : S34)) := ⟨_, rfl⟩
                          replace H : (gabionlaw15_WearEmpty.l0 k2 true true y135 (wrap64 (x8_2 + 1))) = some r := by first | (rw [hy135]; with_reducible exact H) | (have H2_ := (Option.bind_some _ _).symm.trans H; rw [hy135]; with_reducible exact H2_) | (have H2_ := (Option.bind_some _ _).symm.trans H; with_reducible exact H2_) | with_reducible exact H | (rw [hy135]; exact H) | exact H
                          have Ny135 := Aside0.mk hy135
                          clear hy135
                          have H' := Aside0.mk H
                          clear H
                          obtain ⟨Ao27, co27, eo27⟩ := Kd.R_slice HO_7.out
                          subst eo27
                          have p132 : 0 ≤ (x8_2 : Int) := of_decide_eq_true (by first | (with_reducible assumption) | assumption)
                          have q132 : x8_2 < (x7_2.length : Int) := of_decide_eq_true (by first | (with_reducible assumption) | assumption)
                          obtain ⟨ad132, e132, hx132_0, hx132_1, hx132_2⟩ := at_T34 (Kd.R_reads' HO_7.out).2.2 x8_2 p132 q132
                          cases e132
                          replace p132 := eq_true p132
                          replace q132 := eq_true q132
                          have p134 : 0 ≤ (x8_2 : Int) := of_decide_eq_true (by first | (with_reducible assumption) | assumption)
                          have q134 : x8_2 < (x7_2.length : Int) := of_decide_eq_true (by first | (with_reducible assumption) | assumption)
                          obtain ⟨ad134, e134, hx134_0, hx134_1, hx134_2⟩ := at_T34 (Kd.R_reads' HO_7.out).2.2 x8_2 p134 q134
                          obtain rfl : ad132 = ad134 := (by injection e134)
                          replace p134 := eq_true p134
                          replace q134 := eq_true q134
                          have p26 : 0 ≤ (x8_2 : Int) := of_decide_eq_true (by first | (with_reducible assumption) | assumption)
                          have q26 : (x8_2 : Int) < ((x7_2.length : Int) : Int) := of_decide_eq_true (by first | (with_reducible assumption) | assumption)
                          obtain ⟨go26, co26, eo26, gb26, gl26, cl26, HG26⟩ := Kd.R_form HO_7.out (by omega)
                          (first | cases eo26 | (injection eo26 with ea_ en_ ec_; (first | subst ea_ | (injection ea_ with ea_; subst ea_)); subst ec_; clear en_))
                          have GB26 := Aside0.mk gb26
                          have GG26 := Aside0.mk HG26
                          clear gb26 gl26 HG26
                          (first | simp only [add_plain] at hx132_0 | skip)
                          (first | simp only [add_plain] at hx132_1 | skip)
                          (first | simp only [add_plain] at hx132_2 | skip)
                          (first | simp only [add_plain] at hx134_0 | skip)
                          (first | simp only [add_plain] at hx134_1 | skip)
                          (first | simp only [add_plain] at hx134_2 | skip)
                          obtain ⟨ce26, hcl26, hM26, hcc26, hfr26⟩ := Kd.R_elem HO_7.out z34 (x8_2 : Int) p26 q26
                          obtain rfl := k34_openM hM26
                          have hx26_0 : wr.cell? ⟨go26, (x8_2 : Int).toNat * 3, none⟩ = some (.int .i64 ((rd_T34 x7_2 x8_2).f0)) := hcc26 0 _ rfl
                          have hx26_1 : wr.cell? ⟨go26, (x8_2 : Int).toNat * 3 + 1, none⟩ = some (.int .i64 ((rd_T34 x7_2 x8_2).f1)) := hcc26 1 _ rfl
                          have hx26_2 : wr.cell? ⟨go26, (x8_2 : Int).toNat * 3 + 2, none⟩ = some (.int .u32 ((rd_T34 x7_2 x8_2).f2)) := hcc26 2 _ rfl
                          have hf26_0 : wr.frozen? ⟨go26, (x8_2 : Int).toNat * 3, none⟩ = false := hfr26 0
                          have hf26_1 : wr.frozen? ⟨go26, (x8_2 : Int).toNat * 3 + 1, none⟩ = false := hfr26 1
                          have hf26_2 : wr.frozen? ⟨go26, (x8_2 : Int).toNat * 3 + 2, none⟩ = false := hfr26 2
                          clear hcl26 hcc26 hfr26 hM26
                          replace p26 := eq_true p26
                          replace q26 := eq_true q26
                          have HX28 := Aside0.mk (show Kd.R k34 34 wr w.heap.size (fun _ => True) (.slice (some ⟨go26, 0, none⟩) x7_2.length co27) x7_2 from (by (with_reducible repeat (first | apply Kd.R_alloc | apply Kd.R_drewN | apply Kd.R_drew)); exact HO_7.out))
                          obtain ⟨ce28, hcl28, hM28, hcc28, hfr28⟩ := Kd.R_elem HX28.out z34 (x8_2 : Int) (of_decide_eq_true (by first | (with_reducible assumption) | assumption)) (by have h_ : (x8_2 : Int) < ((x7_2.length : Int) : Int) := of_decide_eq_true (by first | (with_reducible assumption) | assumption); first | exact h_ | (have e_ := (Kd.R_reads' HO_7.out).1; omega) | simpa using h_)
                          obtain rfl := k34_openM hM28
                          have HP28 := Kd.R_seg HX28.out (x8_2 : Int) (of_decide_eq_true (by first | (with_reducible assumption) | assumption)) (by have h_ : (x8_2 : Int) < ((x7_2.length : Int) : Int) := of_decide_eq_true (by first | (with_reducible assumption) | assumption); first | exact h_ | (have e_ := (Kd.R_reads' HO_7.out).1; omega) | simpa using h_) (seg := [.int .i64 1]) (j := 0) hcl28 hcc28 (show 1 ≤ 3 from by decide) (x' := (⟨1, (rd_T34 x7_2 x8_2).f1, (rd_T34 x7_2 x8_2).f2⟩ : S34)) (k34_mkM _ _ _ (⟨1, (rd_T34 x7_2 x8_2).f1, (rd_T34 x7_2 x8_2).f2⟩ : S34) ) (fun _ hk => hk)
                          have hx28_0 := hcc28 0 _ rfl
                          (try simp only [show (k34).sz = 3 from rfl, Nat.mul_one, Nat.add_zero] at hx28_0)
                          have hf28_0 := hfr28 0
                          (try simp only [show (k34).sz = 3 from rfl, Nat.mul_one, Nat.add_zero] at hf28_0)
                          clear hcl28 hcc28 hfr28 hM28
                          go_wp2_with (first | ((with_reducible refine gate_store (t := 3) (p := 49) rfl ?_); refine store_event (t := 3) (p := 49) (v := ?vo_w29) (w1 := (wr.setCell ⟨go26, (x8_2 : Int).toNat * 3, none⟩ (.int .i64 1))) ?hg ?ho ?hn ?hr ?_; (case ho => rfl); (case hg => rfl); (case hn => rfl); (case hr => first | (go_simp; done) | (go_simp; rfl)); intro w29 hw; have hg : wr.grownBy w29 (some go26) := (by rw [hw]; exact HP28.2); have hp_ : Kd.R k34 34 w29 w.heap.size (fun _ => True) (.slice (some ⟨go26, 0, none⟩) x7_2.length co27) y135 := (by rw [hw, Ny135.out]; exact HP28.1); clear HP28; have n0_ := Aside0.mk (hp_); have n1_ := Aside0.mk ((by rw [hw]; exact below_set (HB.out) GB26.out : Below w.heap.size w w29)); clear HO_7; clear HB; have HO_7 := n0_; have HB := n1_; clear n0_ n1_; clear hg hw hp_))
                          go_roundg k2
                          case measure => have := HJ3.out; have := HK2.out; omega
                          case rel => exact ⟨(y135), (wrap64 (x8_2 + 1)), (by first | rfl | (simp; done) | (simp [*]; done)), H', ⟨by have := HJ3.out; have := HK2.out; omega⟩, ⟨by (with_reducible repeat (first | apply Kd.R_alloc | apply Kd.R_drewN | apply Kd.R_drew)); exact HO_7.out⟩, ⟨by repeat (first | (with_reducible first | exact HB.out | apply below_alloc | apply pw_below_drewN | apply below_drew1) | exact HB.out)⟩⟩
                        · rw [if_neg c25] at H
                          have c25b0 : (((rd_T34 x7_2 x8_2).f0) == 0) = false := beq_eq_false_iff_ne.mpr c25
                          have c25b1 : (((rd_T34 x7_2 x8_2).f0) != 0) = true := bne_iff_ne.mpr c25
                          have H' := Aside0.mk H
                          clear H
                          obtain ⟨Ao30, co30, eo30⟩ := Kd.R_slice HO_7.out
                          subst eo30
                          have p132 : 0 ≤ (x8_2 : Int) := of_decide_eq_true (by first | (with_reducible assumption) | assumption)
                          have q132 : x8_2 < (x7_2.length : Int) := of_decide_eq_true (by first | (with_reducible assumption) | assumption)
                          obtain ⟨ad132, e132, hx132_0, hx132_1, hx132_2⟩ := at_T34 (Kd.R_reads' HO_7.out).2.2 x8_2 p132 q132
                          cases e132
                          replace p132 := eq_true p132
                          replace q132 := eq_true q132
                          have p134 : 0 ≤ (x8_2 : Int) := of_decide_eq_true (by first | (with_reducible assumption) | assumption)
                          have q134 : x8_2 < (x7_2.length : Int) := of_decide_eq_true (by first | (with_reducible assumption) | assumption)
                          obtain ⟨ad134, e134, hx134_0, hx134_1, hx134_2⟩ := at_T34 (Kd.R_reads' HO_7.out).2.2 x8_2 p134 q134
                          obtain rfl : ad132 = ad134 := (by injection e134)
                          replace p134 := eq_true p134
                          replace q134 := eq_true q134
                          go_wp2
                          go_roundg k2
                          case measure => have := HJ3.out; have := HK2.out; omega
                          case rel => exact ⟨(x7_2), (wrap64 (x8_2 + 1)), (by first | rfl | (simp; done) | (simp [*]; done)), H', ⟨by have := HJ3.out; have := HK2.out; omega⟩, ⟨by (with_reducible repeat (first | apply Kd.R_alloc | apply Kd.R_drewN | apply Kd.R_drew)); exact HO_7.out⟩, ⟨by repeat (first | (with_reducible first | exact HB.out | apply below_alloc | apply pw_below_drewN | apply below_drew1) | exact HB.out)⟩⟩
                      · replace c24 := Bool.eq_false_iff.mpr c24
                        subst c24
                        have H1 : (gabionlaw15_WearEmpty.l0 k2 true false x7_2 (wrap64 (x8_2 + 1))) = some r := by rw [if_neg (show ¬ (false = true) by decide)] at H; exact H
                        clear H
                        have H := H1
                        clear H1
                        have H' := Aside0.mk H
                        clear H
                        obtain ⟨Ao31, co31, eo31⟩ := Kd.R_slice HO_7.out
                        subst eo31
                        have p132 : 0 ≤ (x8_2 : Int) := of_decide_eq_true (by first | (with_reducible assumption) | assumption)
                        have q132 : x8_2 < (x7_2.length : Int) := of_decide_eq_true (by first | (with_reducible assumption) | assumption)
                        obtain ⟨ad132, e132, hx132_0, hx132_1, hx132_2⟩ := at_T34 (Kd.R_reads' HO_7.out).2.2 x8_2 p132 q132
                        cases e132
                        replace p132 := eq_true p132
                        replace q132 := eq_true q132
                        go_wp2
                        go_roundg k2
                        case measure => have := HJ3.out; have := HK2.out; omega
                        case rel => exact ⟨(x7_2), (wrap64 (x8_2 + 1)), (by first | rfl | (simp; done) | (simp [*]; done)), H', ⟨by have := HJ3.out; have := HK2.out; omega⟩, ⟨by (with_reducible repeat (first | apply Kd.R_alloc | apply Kd.R_drewN | apply Kd.R_drew)); exact HO_7.out⟩, ⟨by repeat (first | (with_reducible first | exact HB.out | apply below_alloc | apply pw_below_drewN | apply below_drew1) | exact HB.out)⟩⟩
                  · rw [if_neg c18] at H
                    exact absurd H (by simp)
                · replace c17 := Bool.eq_false_iff.mpr c17
                  subst c17
                  have H1 : (if a2 = true then (if 0 ≤ x8_2 then (if ((rd_T34 x7_2 x8_2).f0) = 0 then (gabionlaw15_WearEmpty.l0 k2 false a2 (x7_2.set (x8_2 : Int).toNat (⟨1, (rd_T34 x7_2 x8_2).f1, (rd_T34 x7_2 x8_2).f2⟩ : S34)) (wrap64 (x8_2 + 1))) else (gabionlaw15_WearEmpty.l0 k2 false a2 x7_2 (wrap64 (x8_2 + 1)))) else (none)) else (gabionlaw15_WearEmpty.l0 k2 false a2 x7_2 (wrap64 (x8_2 + 1)))) = some r := by rw [if_neg (show ¬ (false = true) by decide)] at H; exact H
                  clear H
                  have H := H1
                  clear H1
                  by_cases c32 : a2 = true
                  · subst c32
                    have H1 : (if 0 ≤ x8_2 then (if ((rd_T34 x7_2 x8_2).f0) = 0 then (gabionlaw15_WearEmpty.l0 k2 false true (x7_2.set (x8_2 : Int).toNat (⟨1, (rd_T34 x7_2 x8_2).f1, (rd_T34 x7_2 x8_2).f2⟩ : S34)) (wrap64 (x8_2 + 1))) else (gabionlaw15_WearEmpty.l0 k2 false true x7_2 (wrap64 (x8_2 + 1)))) else (none)) = some r := by rw [if_pos rfl] at H; exact H
                    clear H
                    have H := H1
                    clear H1
                    by_cases c33 : 0 ≤ x8_2
                    · rw [if_pos c33] at H
                      have c33b0 : decide (0 ≤ x8_2) = true := decide_eq_true c33
                      clear c33
                      by_cases c34 : ((rd_T34 x7_2 x8_2).f0) = 0
                      · rw [if_pos c34] at H
                        have c34b0 : (((rd_T34 x7_2 x8_2).f0) == 0) = true := beq_iff_eq.mpr c34
                        have c34b1 : (((rd_T34 x7_2 x8_2).f0) != 0) = false := bne_eq_false_iff_eq.mpr c34
                        clear c34
                        obtain ⟨y137, hy137⟩ : ∃ y_ : List (S34), y_ = (x7_2.set (x8_2 : Int).toNat (⟨1, (rd_T34 x7_2 x8_2).f1, (rd_T34 x7_2 x8_2).f2⟩ : S34)) := ⟨_, rfl⟩
                        replace H : (gabionlaw15_WearEmpty.l0 k2 false true y137 (wrap64 (x8_2 + 1))) = some r := by first | (rw [hy137]; with_reducible exact H) | (have H2_ := (Option.bind_some _ _).symm.trans H; rw [hy137]; with_reducible exact H2_) | (have H2_ := (Option.bind_some _ _).symm.trans H; with_reducible exact H2_) | with_reducible exact H | (rw [hy137]; exact H) | exact H
                        have Ny137 := Aside0.mk hy137
                        clear hy137
                        have H' := Aside0.mk H
                        clear H
                        obtain ⟨Ao36, co36, eo36⟩ := Kd.R_slice HO_7.out
                        subst eo36
                        have p136 : 0 ≤ (x8_2 : Int) := of_decide_eq_true (by first | (with_reducible assumption) | assumption)
                        have q136 : x8_2 < (x7_2.length : Int) := of_decide_eq_true (by first | (with_reducible assumption) | assumption)
                        obtain ⟨ad136, e136, hx136_0, hx136_1, hx136_2⟩ := at_T34 (Kd.R_reads' HO_7.out).2.2 x8_2 p136 q136
                        cases e136
                        replace p136 := eq_true p136
                        replace q136 := eq_true q136
                        have p35 : 0 ≤ (x8_2 : Int) := of_decide_eq_true (by first | (with_reducible assumption) | assumption)
                        have q35 : (x8_2 : Int) < ((x7_2.length : Int) : Int) := of_decide_eq_true (by first | (with_reducible assumption) | assumption)
                        obtain ⟨go35, co35, eo35, gb35, gl35, cl35, HG35⟩ := Kd.R_form HO_7.out (by omega)
                        (first | cases eo35 | (injection eo35 with ea_ en_ ec_; (first | subst ea_ | (injection ea_ with ea_; subst ea_)); subst ec_; clear en_))
                        have GB35 := Aside0.mk gb35
                        have GG35 := Aside0.mk HG35
                        clear gb35 gl35 HG35
                        (first | simp only [add_plain] at hx136_0 | skip)
                        (first | simp only [add_plain] at hx136_1 | skip)
                        (first | simp only [add_plain] at hx136_2 | skip)
                        obtain ⟨ce35, hcl35, hM35, hcc35, hfr35⟩ := Kd.R_elem HO_7.out z34 (x8_2 : Int) p35 q35
                        obtain rfl := k34_openM hM35
                        have hx35_0 : wr.cell? ⟨go35, (x8_2 : Int).toNat * 3, none⟩ = some (.int .i64 ((rd_T34 x7_2 x8_2).f0)) := hcc35 0 _ rfl
                        have hx35_1 : wr.cell? ⟨go35, (x8_2 : Int).toNat * 3 + 1, none⟩ = some (.int .i64 ((rd_T34 x7_2 x8_2).f1)) := hcc35 1 _ rfl
                        have hx35_2 : wr.cell? ⟨go35, (x8_2 : Int).toNat * 3 + 2, none⟩ = some (.int .u32 ((rd_T34 x7_2 x8_2).f2)) := hcc35 2 _ rfl
                        have hf35_0 : wr.frozen? ⟨go35, (x8_2 : Int).toNat * 3, none⟩ = false := hfr35 0
                        have hf35_1 : wr.frozen? ⟨go35, (x8_2 : Int).toNat * 3 + 1, none⟩ = false := hfr35 1
                        have hf35_2 : wr.frozen? ⟨go35, (x8_2 : Int).toNat * 3 + 2, none⟩ = false := hfr35 2
                        clear hcl35 hcc35 hfr35 hM35
                        replace p35 := eq_true p35
                        replace q35 := eq_true q35
                        have HX37 := Aside0.mk (show Kd.R k34 34 wr w.heap.size (fun _ => True) (.slice (some ⟨go35, 0, none⟩) x7_2.length co36) x7_2 from (by (with_reducible repeat (first | apply Kd.R_alloc | apply Kd.R_drewN | apply Kd.R_drew)); exact HO_7.out))
                        obtain ⟨ce37, hcl37, hM37, hcc37, hfr37⟩ := Kd.R_elem HX37.out z34 (x8_2 : Int) (of_decide_eq_true (by first | (with_reducible assumption) | assumption)) (by have h_ : (x8_2 : Int) < ((x7_2.length : Int) : Int) := of_decide_eq_true (by first | (with_reducible assumption) | assumption); first | exact h_ | (have e_ := (Kd.R_reads' HO_7.out).1; omega) | simpa using h_)
                        obtain rfl := k34_openM hM37
                        have HP37 := Kd.R_seg HX37.out (x8_2 : Int) (of_decide_eq_true (by first | (with_reducible assumption) | assumption)) (by have h_ : (x8_2 : Int) < ((x7_2.length : Int) : Int) := of_decide_eq_true (by first | (with_reducible assumption) | assumption); first | exact h_ | (have e_ := (Kd.R_reads' HO_7.out).1; omega) | simpa using h_) (seg := [.int .i64 1]) (j := 0) hcl37 hcc37 (show 1 ≤ 3 from by decide) (x' := (⟨1, (rd_T34 x7_2 x8_2).f1, (rd_T34 x7_2 x8_2).f2⟩ : S34)) (k34_mkM _ _ _ (⟨1, (rd_T34 x7_2 x8_2).f1, (rd_T34 x7_2 x8_2).f2⟩ : S34) ) (fun _ hk => hk)
                        have hx37_0 := hcc37 0 _ rfl
                        (try simp only [show (k34).sz = 3 from rfl, Nat.mul_one, Nat.add_zero] at hx37_0)
                        have hf37_0 := hfr37 0
                        (try simp only [show (k34).sz = 3 from rfl, Nat.mul_one, Nat.add_zero] at hf37_0)
                        clear hcl37 hcc37 hfr37 hM37
                        go_wp2_with (first | ((with_reducible refine gate_store (t := 3) (p := 49) rfl ?_); refine store_event (t := 3) (p := 49) (v := ?vo_w38) (w1 := (wr.setCell ⟨go35, (x8_2 : Int).toNat * 3, none⟩ (.int .i64 1))) ?hg ?ho ?hn ?hr ?_; (case ho => rfl); (case hg => rfl); (case hn => rfl); (case hr => first | (go_simp; done) | (go_simp; rfl)); intro w38 hw; have hg : wr.grownBy w38 (some go35) := (by rw [hw]; exact HP37.2); have hp_ : Kd.R k34 34 w38 w.heap.size (fun _ => True) (.slice (some ⟨go35, 0, none⟩) x7_2.length co36) y137 := (by rw [hw, Ny137.out]; exact HP37.1); clear HP37; have n0_ := Aside0.mk (hp_); have n1_ := Aside0.mk ((by rw [hw]; exact below_set (HB.out) GB35.out : Below w.heap.size w w38)); clear HO_7; clear HB; have HO_7 := n0_; have HB := n1_; clear n0_ n1_; clear hg hw hp_))
                        go_roundg k2
                        case measure => have := HJ3.out; have := HK2.out; omega
                        case rel => exact ⟨(y137), (wrap64 (x8_2 + 1)), (by first | rfl | (simp; done) | (simp [*]; done)), H', ⟨by have := HJ3.out; have := HK2.out; omega⟩, ⟨by (with_reducible repeat (first | apply Kd.R_alloc | apply Kd.R_drewN | apply Kd.R_drew)); exact HO_7.out⟩, ⟨by repeat (first | (with_reducible first | exact HB.out | apply below_alloc | apply pw_below_drewN | apply below_drew1) | exact HB.out)⟩⟩
                      · rw [if_neg c34] at H
                        have c34b0 : (((rd_T34 x7_2 x8_2).f0) == 0) = false := beq_eq_false_iff_ne.mpr c34
                        have c34b1 : (((rd_T34 x7_2 x8_2).f0) != 0) = true := bne_iff_ne.mpr c34
                        have H' := Aside0.mk H
                        clear H
                        obtain ⟨Ao39, co39, eo39⟩ := Kd.R_slice HO_7.out
                        subst eo39
                        have p136 : 0 ≤ (x8_2 : Int) := of_decide_eq_true (by first | (with_reducible assumption) | assumption)
                        have q136 : x8_2 < (x7_2.length : Int) := of_decide_eq_true (by first | (with_reducible assumption) | assumption)
                        obtain ⟨ad136, e136, hx136_0, hx136_1, hx136_2⟩ := at_T34 (Kd.R_reads' HO_7.out).2.2 x8_2 p136 q136
                        cases e136
                        replace p136 := eq_true p136
                        replace q136 := eq_true q136
                        go_wp2
                        go_roundg k2
                        case measure => have := HJ3.out; have := HK2.out; omega
                        case rel => exact ⟨(x7_2), (wrap64 (x8_2 + 1)), (by first | rfl | (simp; done) | (simp [*]; done)), H', ⟨by have := HJ3.out; have := HK2.out; omega⟩, ⟨by (with_reducible repeat (first | apply Kd.R_alloc | apply Kd.R_drewN | apply Kd.R_drew)); exact HO_7.out⟩, ⟨by repeat (first | (with_reducible first | exact HB.out | apply below_alloc | apply pw_below_drewN | apply below_drew1) | exact HB.out)⟩⟩
                    · rw [if_neg c33] at H
                      exact absurd H (by simp)
                  · replace c32 := Bool.eq_false_iff.mpr c32
                    subst c32
                    have H1 : (gabionlaw15_WearEmpty.l0 k2 false false x7_2 (wrap64 (x8_2 + 1))) = some r := by rw [if_neg (show ¬ (false = true) by decide)] at H; exact H
                    clear H
                    have H := H1
                    clear H1
                    have H' := Aside0.mk H
                    clear H
                    obtain ⟨Ao40, co40, eo40⟩ := Kd.R_slice HO_7.out
                    subst eo40
                    go_wp2
                    go_roundg k2
                    case measure => have := HJ3.out; have := HK2.out; omega
                    case rel => exact ⟨(x7_2), (wrap64 (x8_2 + 1)), (by first | rfl | (simp; done) | (simp [*]; done)), H', ⟨by have := HJ3.out; have := HK2.out; omega⟩, ⟨by (with_reducible repeat (first | apply Kd.R_alloc | apply Kd.R_drewN | apply Kd.R_drew)); exact HO_7.out⟩, ⟨by repeat (first | (with_reducible first | exact HB.out | apply below_alloc | apply pw_below_drewN | apply below_drew1) | exact HB.out)⟩⟩
              · rw [if_neg c16] at H
                have c16b0 : decide (x8_2 < (x7_2.length : Int)) = false := decide_eq_false c16
                clear c16
                by_cases c41 : a1 = true
                · subst c41
                  have H1 : ((wear_Victim.f k2 x7_2).bind fun t138 => (if t138 = (-1) then (if a2 = true then ((wear_Next.f k2 x7_2).bind fun t139 => (if t139 = (-1) then ((wear_Dead.f k2 x7_2).bind fun t140 => (some ((t140.length : Int) == 0))) else (some false))) else ((wear_Dead.f k2 x7_2).bind fun t143 => (some ((t143.length : Int) == 0)))) else (some false))) = some r := by rw [if_pos rfl] at H; exact H
                  clear H
                  have H := H1
                  clear H1
                  replace H := Option.bind_eq_some_iff.mp H
                  obtain ⟨t138, A420, H⟩ := H
                  replace H : (if t138 = (-1) then (if a2 = true then ((wear_Next.f k2 x7_2).bind fun t139 => (if t139 = (-1) then ((wear_Dead.f k2 x7_2).bind fun t140 => (some ((t140.length : Int) == 0))) else (some false))) else ((wear_Dead.f k2 x7_2).bind fun t143 => (some ((t143.length : Int) == 0)))) else (some false)) = some r := H
                  have A42 := Aside0.mk A420
                  clear A420
                  by_cases c43 : t138 = (-1)
                  · rw [if_pos c43] at H
                    have c43b0 : (t138 == (-1)) = true := beq_iff_eq.mpr c43
                    have c43b1 : (t138 != (-1)) = false := bne_eq_false_iff_eq.mpr c43
                    clear c43
                    by_cases c44 : a2 = true
                    · subst c44
                      have H1 : ((wear_Next.f k2 x7_2).bind fun t139 => (if t139 = (-1) then ((wear_Dead.f k2 x7_2).bind fun t140 => (some ((t140.length : Int) == 0))) else (some false))) = some r := by rw [if_pos rfl] at H; exact H
                      clear H
                      have H := H1
                      clear H1
                      replace H := Option.bind_eq_some_iff.mp H
                      obtain ⟨t139, A450, H⟩ := H
                      replace H : (if t139 = (-1) then ((wear_Dead.f k2 x7_2).bind fun t140 => (some ((t140.length : Int) == 0))) else (some false)) = some r := H
                      have A45 := Aside0.mk A450
                      clear A450
                      by_cases c46 : t139 = (-1)
                      · rw [if_pos c46] at H
                        have c46b0 : (t139 == (-1)) = true := beq_iff_eq.mpr c46
                        have c46b1 : (t139 != (-1)) = false := bne_eq_false_iff_eq.mpr c46
                        clear c46
                        replace H := Option.bind_eq_some_iff.mp H
                        obtain ⟨t140, A470, H⟩ := H
                        replace H : (some ((t140.length : Int) == 0)) = some r := H
                        have A47 := Aside0.mk A470
                        clear A470
                        obtain rfl := Option.some.inj H
                        obtain ⟨Ao48, co48, eo48⟩ := Kd.R_slice HO_7.out
                        subst eo48
                        go_wp2_with (first | (go_at_call 9; (with_reducible refine (wear_Victim.calls k2 _ _ x7_2 t138 _ ?side1 ?side2 A42.out).mono ?_); (case side1 => repeat (first | exact (Kd.R_reads' HO_7.out).2.2 | (with_reducible refine Kd.C_alloc ?_ _) | (with_reducible refine Kd.C_drewN ?_ _) | (with_reducible refine Kd.C_drew ?_))); (case side2 => exact (Kd.R_reads' HO_7.out).2.1); rintro e w49 ⟨rfl, hb⟩; have n0_ := Aside0.mk (Kd.R_below (by (with_reducible repeat (first | apply Kd.R_alloc | apply Kd.R_drewN | apply Kd.R_drew)); exact HO_7.out) hb); have n1_ := Aside0.mk (below_step (by repeat (first | (with_reducible first | exact HB.out | apply below_alloc | apply pw_below_drewN | apply below_drew1) | exact HB.out)) hb); clear HO_7; clear HB; have HO_7 := n0_; have HB := n1_; clear n0_ n1_; (try clear hb); (try clear hb2); (try clear hk); (try clear hi)) | (go_at_call 13; (with_reducible refine (wear_Next.calls k2 _ _ x7_2 t139 _ ?side1 ?side2 A45.out).mono ?_); (case side1 => repeat (first | exact (Kd.R_reads' HO_7.out).2.2 | (with_reducible refine Kd.C_alloc ?_ _) | (with_reducible refine Kd.C_drewN ?_ _) | (with_reducible refine Kd.C_drew ?_))); (case side2 => exact (Kd.R_reads' HO_7.out).2.1); rintro e w50 ⟨rfl, hb⟩; have n0_ := Aside0.mk (Kd.R_below (by (with_reducible repeat (first | apply Kd.R_alloc | apply Kd.R_drewN | apply Kd.R_drew)); exact HO_7.out) hb); have n1_ := Aside0.mk (below_step (by repeat (first | (with_reducible first | exact HB.out | apply below_alloc | apply pw_below_drewN | apply below_drew1) | exact HB.out)) hb); clear HO_7; clear HB; have HO_7 := n0_; have HB := n1_; clear n0_ n1_; (try clear hb); (try clear hb2); (try clear hk); (try clear hi)) | (go_at_call 14; (with_reducible refine (wear_Dead.calls k2 _ _ x7_2 t140 _ ?side1 ?side2 A47.out).mono ?_); (case side1 => repeat (first | exact (Kd.R_reads' HO_7.out).2.2 | (with_reducible refine Kd.C_alloc ?_ _) | (with_reducible refine Kd.C_drewN ?_ _) | (with_reducible refine Kd.C_drew ?_))); (case side2 => exact (Kd.R_reads' HO_7.out).2.1); rintro e w51 ⟨v141, rfl, ho0, hb⟩; have n0_ := Aside0.mk (Kd.R_below (by (with_reducible repeat (first | apply Kd.R_alloc | apply Kd.R_drewN | apply Kd.R_drew)); exact HO_7.out) hb); have n1_ := Aside0.mk (Kd.R_lower ho0 (below_size (by repeat (first | (with_reducible first | exact HB.out | apply below_alloc | apply pw_below_drewN | apply below_drew1) | exact HB.out)))); have n2_ := Aside0.mk (below_step (by repeat (first | (with_reducible first | exact HB.out | apply below_alloc | apply pw_below_drewN | apply below_drew1) | exact HB.out)) hb); clear HO_7; clear HB; have HO_7 := n0_; have HO142 := n1_; have HB := n2_; clear n0_ n1_ n2_; (try clear hb); (try clear hb2); (try clear hk); (try clear hi); (try clear ho0); obtain ⟨Ao52, co52, eo52⟩ := Kd.R_slice HO142.out; subst eo52))
                        go_ret
                        exact ⟨by first | rfl | (simp [errW_none, errW_some] <;> rfl) | (simp [*, errW_none, errW_some] <;> rfl), by repeat (first | (with_reducible first | exact HB.out | apply below_alloc | apply pw_below_drewN | apply below_drew1) | exact HB.out)⟩
                      · rw [if_neg c46] at H
                        have c46b0 : (t139 == (-1)) = false := beq_eq_false_iff_ne.mpr c46
                        have c46b1 : (t139 != (-1)) = true := bne_iff_ne.mpr c46
                        obtain rfl := Option.some.inj H
                        obtain ⟨Ao53, co53, eo53⟩ := Kd.R_slice HO_7.out
                        subst eo53
                        go_wp2_with (first | (go_at_call 9; (with_reducible refine (wear_Victim.calls k2 _ _ x7_2 t138 _ ?side1 ?side2 A42.out).mono ?_); (case side1 => repeat (first | exact (Kd.R_reads' HO_7.out).2.2 | (with_reducible refine Kd.C_alloc ?_ _) | (with_reducible refine Kd.C_drewN ?_ _) | (with_reducible refine Kd.C_drew ?_))); (case side2 => exact (Kd.R_reads' HO_7.out).2.1); rintro e w54 ⟨rfl, hb⟩; have n0_ := Aside0.mk (Kd.R_below (by (with_reducible repeat (first | apply Kd.R_alloc | apply Kd.R_drewN | apply Kd.R_drew)); exact HO_7.out) hb); have n1_ := Aside0.mk (below_step (by repeat (first | (with_reducible first | exact HB.out | apply below_alloc | apply pw_below_drewN | apply below_drew1) | exact HB.out)) hb); clear HO_7; clear HB; have HO_7 := n0_; have HB := n1_; clear n0_ n1_; (try clear hb); (try clear hb2); (try clear hk); (try clear hi)) | (go_at_call 13; (with_reducible refine (wear_Next.calls k2 _ _ x7_2 t139 _ ?side1 ?side2 A45.out).mono ?_); (case side1 => repeat (first | exact (Kd.R_reads' HO_7.out).2.2 | (with_reducible refine Kd.C_alloc ?_ _) | (with_reducible refine Kd.C_drewN ?_ _) | (with_reducible refine Kd.C_drew ?_))); (case side2 => exact (Kd.R_reads' HO_7.out).2.1); rintro e w55 ⟨rfl, hb⟩; have n0_ := Aside0.mk (Kd.R_below (by (with_reducible repeat (first | apply Kd.R_alloc | apply Kd.R_drewN | apply Kd.R_drew)); exact HO_7.out) hb); have n1_ := Aside0.mk (below_step (by repeat (first | (with_reducible first | exact HB.out | apply below_alloc | apply pw_below_drewN | apply below_drew1) | exact HB.out)) hb); clear HO_7; clear HB; have HO_7 := n0_; have HB := n1_; clear n0_ n1_; (try clear hb); (try clear hb2); (try clear hk); (try clear hi)))
                        go_ret
                        exact ⟨by first | rfl | (simp [errW_none, errW_some] <;> rfl) | (simp [*, errW_none, errW_some] <;> rfl), by repeat (first | (with_reducible first | exact HB.out | apply below_alloc | apply pw_below_drewN | apply below_drew1) | exact HB.out)⟩
                    · replace c44 := Bool.eq_false_iff.mpr c44
                      subst c44
                      have H1 : ((wear_Dead.f k2 x7_2).bind fun t143 => (some ((t143.length : Int) == 0))) = some r := by rw [if_neg (show ¬ (false = true) by decide)] at H; exact H
                      clear H
                      have H := H1
                      clear H1
                      replace H := Option.bind_eq_some_iff.mp H
                      obtain ⟨t143, A560, H⟩ := H
                      replace H : (some ((t143.length : Int) == 0)) = some r := H
                      have A56 := Aside0.mk A560
                      clear A560
                      obtain rfl := Option.some.inj H
                      obtain ⟨Ao57, co57, eo57⟩ := Kd.R_slice HO_7.out
                      subst eo57
                      go_wp2_with (first | (go_at_call 9; (with_reducible refine (wear_Victim.calls k2 _ _ x7_2 t138 _ ?side1 ?side2 A42.out).mono ?_); (case side1 => repeat (first | exact (Kd.R_reads' HO_7.out).2.2 | (with_reducible refine Kd.C_alloc ?_ _) | (with_reducible refine Kd.C_drewN ?_ _) | (with_reducible refine Kd.C_drew ?_))); (case side2 => exact (Kd.R_reads' HO_7.out).2.1); rintro e w58 ⟨rfl, hb⟩; have n0_ := Aside0.mk (Kd.R_below (by (with_reducible repeat (first | apply Kd.R_alloc | apply Kd.R_drewN | apply Kd.R_drew)); exact HO_7.out) hb); have n1_ := Aside0.mk (below_step (by repeat (first | (with_reducible first | exact HB.out | apply below_alloc | apply pw_below_drewN | apply below_drew1) | exact HB.out)) hb); clear HO_7; clear HB; have HO_7 := n0_; have HB := n1_; clear n0_ n1_; (try clear hb); (try clear hb2); (try clear hk); (try clear hi)) | (go_at_call 14; (with_reducible refine (wear_Dead.calls k2 _ _ x7_2 t143 _ ?side1 ?side2 A56.out).mono ?_); (case side1 => repeat (first | exact (Kd.R_reads' HO_7.out).2.2 | (with_reducible refine Kd.C_alloc ?_ _) | (with_reducible refine Kd.C_drewN ?_ _) | (with_reducible refine Kd.C_drew ?_))); (case side2 => exact (Kd.R_reads' HO_7.out).2.1); rintro e w59 ⟨v144, rfl, ho0, hb⟩; have n0_ := Aside0.mk (Kd.R_below (by (with_reducible repeat (first | apply Kd.R_alloc | apply Kd.R_drewN | apply Kd.R_drew)); exact HO_7.out) hb); have n1_ := Aside0.mk (Kd.R_lower ho0 (below_size (by repeat (first | (with_reducible first | exact HB.out | apply below_alloc | apply pw_below_drewN | apply below_drew1) | exact HB.out)))); have n2_ := Aside0.mk (below_step (by repeat (first | (with_reducible first | exact HB.out | apply below_alloc | apply pw_below_drewN | apply below_drew1) | exact HB.out)) hb); clear HO_7; clear HB; have HO_7 := n0_; have HO145 := n1_; have HB := n2_; clear n0_ n1_ n2_; (try clear hb); (try clear hb2); (try clear hk); (try clear hi); (try clear ho0); obtain ⟨Ao60, co60, eo60⟩ := Kd.R_slice HO145.out; subst eo60))
                      go_ret
                      exact ⟨by first | rfl | (simp [errW_none, errW_some] <;> rfl) | (simp [*, errW_none, errW_some] <;> rfl), by repeat (first | (with_reducible first | exact HB.out | apply below_alloc | apply pw_below_drewN | apply below_drew1) | exact HB.out)⟩
                  · rw [if_neg c43] at H
                    have c43b0 : (t138 == (-1)) = false := beq_eq_false_iff_ne.mpr c43
                    have c43b1 : (t138 != (-1)) = true := bne_iff_ne.mpr c43
                    obtain rfl := Option.some.inj H
                    obtain ⟨Ao61, co61, eo61⟩ := Kd.R_slice HO_7.out
                    subst eo61
                    go_wp2_with (first | (go_at_call 9; (with_reducible refine (wear_Victim.calls k2 _ _ x7_2 t138 _ ?side1 ?side2 A42.out).mono ?_); (case side1 => repeat (first | exact (Kd.R_reads' HO_7.out).2.2 | (with_reducible refine Kd.C_alloc ?_ _) | (with_reducible refine Kd.C_drewN ?_ _) | (with_reducible refine Kd.C_drew ?_))); (case side2 => exact (Kd.R_reads' HO_7.out).2.1); rintro e w62 ⟨rfl, hb⟩; have n0_ := Aside0.mk (Kd.R_below (by (with_reducible repeat (first | apply Kd.R_alloc | apply Kd.R_drewN | apply Kd.R_drew)); exact HO_7.out) hb); have n1_ := Aside0.mk (below_step (by repeat (first | (with_reducible first | exact HB.out | apply below_alloc | apply pw_below_drewN | apply below_drew1) | exact HB.out)) hb); clear HO_7; clear HB; have HO_7 := n0_; have HB := n1_; clear n0_ n1_; (try clear hb); (try clear hb2); (try clear hk); (try clear hi)))
                    go_ret
                    exact ⟨by first | rfl | (simp [errW_none, errW_some] <;> rfl) | (simp [*, errW_none, errW_some] <;> rfl), by repeat (first | (with_reducible first | exact HB.out | apply below_alloc | apply pw_below_drewN | apply below_drew1) | exact HB.out)⟩
                · replace c41 := Bool.eq_false_iff.mpr c41
                  subst c41
                  have H1 : (if a2 = true then ((wear_Next.f k2 x7_2).bind fun t146 => (if t146 = (-1) then (some true) else (some false))) else (some true)) = some r := by rw [if_neg (show ¬ (false = true) by decide)] at H; exact H
                  clear H
                  have H := H1
                  clear H1
                  by_cases c63 : a2 = true
                  · subst c63
                    have H1 : ((wear_Next.f k2 x7_2).bind fun t146 => (if t146 = (-1) then (some true) else (some false))) = some r := by rw [if_pos rfl] at H; exact H
                    clear H
                    have H := H1
                    clear H1
                    replace H := Option.bind_eq_some_iff.mp H
                    obtain ⟨t146, A640, H⟩ := H
                    replace H : (if t146 = (-1) then (some true) else (some false)) = some r := H
                    have A64 := Aside0.mk A640
                    clear A640
                    by_cases c65 : t146 = (-1)
                    · rw [if_pos c65] at H
                      have c65b0 : (t146 == (-1)) = true := beq_iff_eq.mpr c65
                      have c65b1 : (t146 != (-1)) = false := bne_eq_false_iff_eq.mpr c65
                      clear c65
                      obtain rfl := Option.some.inj H
                      obtain ⟨Ao66, co66, eo66⟩ := Kd.R_slice HO_7.out
                      subst eo66
                      go_wp2_with (first | (go_at_call 13; (with_reducible refine (wear_Next.calls k2 _ _ x7_2 t146 _ ?side1 ?side2 A64.out).mono ?_); (case side1 => repeat (first | exact (Kd.R_reads' HO_7.out).2.2 | (with_reducible refine Kd.C_alloc ?_ _) | (with_reducible refine Kd.C_drewN ?_ _) | (with_reducible refine Kd.C_drew ?_))); (case side2 => exact (Kd.R_reads' HO_7.out).2.1); rintro e w67 ⟨rfl, hb⟩; have n0_ := Aside0.mk (Kd.R_below (by (with_reducible repeat (first | apply Kd.R_alloc | apply Kd.R_drewN | apply Kd.R_drew)); exact HO_7.out) hb); have n1_ := Aside0.mk (below_step (by repeat (first | (with_reducible first | exact HB.out | apply below_alloc | apply pw_below_drewN | apply below_drew1) | exact HB.out)) hb); clear HO_7; clear HB; have HO_7 := n0_; have HB := n1_; clear n0_ n1_; (try clear hb); (try clear hb2); (try clear hk); (try clear hi)))
                      go_ret
                      exact ⟨by first | rfl | (simp [errW_none, errW_some] <;> rfl) | (simp [*, errW_none, errW_some] <;> rfl), by repeat (first | (with_reducible first | exact HB.out | apply below_alloc | apply pw_below_drewN | apply below_drew1) | exact HB.out)⟩
                    · rw [if_neg c65] at H
                      have c65b0 : (t146 == (-1)) = false := beq_eq_false_iff_ne.mpr c65
                      have c65b1 : (t146 != (-1)) = true := bne_iff_ne.mpr c65
                      obtain rfl := Option.some.inj H
                      obtain ⟨Ao68, co68, eo68⟩ := Kd.R_slice HO_7.out
                      subst eo68
                      go_wp2_with (first | (go_at_call 13; (with_reducible refine (wear_Next.calls k2 _ _ x7_2 t146 _ ?side1 ?side2 A64.out).mono ?_); (case side1 => repeat (first | exact (Kd.R_reads' HO_7.out).2.2 | (with_reducible refine Kd.C_alloc ?_ _) | (with_reducible refine Kd.C_drewN ?_ _) | (with_reducible refine Kd.C_drew ?_))); (case side2 => exact (Kd.R_reads' HO_7.out).2.1); rintro e w69 ⟨rfl, hb⟩; have n0_ := Aside0.mk (Kd.R_below (by (with_reducible repeat (first | apply Kd.R_alloc | apply Kd.R_drewN | apply Kd.R_drew)); exact HO_7.out) hb); have n1_ := Aside0.mk (below_step (by repeat (first | (with_reducible first | exact HB.out | apply below_alloc | apply pw_below_drewN | apply below_drew1) | exact HB.out)) hb); clear HO_7; clear HB; have HO_7 := n0_; have HB := n1_; clear n0_ n1_; (try clear hb); (try clear hb2); (try clear hk); (try clear hi)))
                      go_ret
                      exact ⟨by first | rfl | (simp [errW_none, errW_some] <;> rfl) | (simp [*, errW_none, errW_some] <;> rfl), by repeat (first | (with_reducible first | exact HB.out | apply below_alloc | apply pw_below_drewN | apply below_drew1) | exact HB.out)⟩
                  · replace c63 := Bool.eq_false_iff.mpr c63
                    subst c63
                    have H1 : (some true) = some r := by rw [if_neg (show ¬ (false = true) by decide)] at H; exact H
                    clear H
                    have H := H1
                    clear H1
                    obtain rfl := Option.some.inj H
                    obtain ⟨Ao70, co70, eo70⟩ := Kd.R_slice HO_7.out
                    subst eo70
                    go_wp2
                    go_ret
                    exact ⟨by first | rfl | (simp [errW_none, errW_some] <;> rfl) | (simp [*, errW_none, errW_some] <;> rfl), by repeat (first | (with_reducible first | exact HB.out | apply below_alloc | apply pw_below_drewN | apply below_drew1) | exact HB.out)⟩
        · rw [if_neg c12] at H
          exact absurd H (by simp)

end Go.Proofs.Ytmcooidoemcaoaa.PWearEmpty

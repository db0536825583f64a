-- PRINTED BY print.sh 35421559b90ae4d0a3588c463048766b98c2df88dd9212a6774a882060cdf62d: not written by this session
import Derived.Test.YtmcooidoemcaoaaPWearSpreadsx0
import Derived.Test.YtmcooidoemcaoaaPWearSpreadsx1
import Derived.Test.YtmcooidoemcaoaaPWearSpreadsx2
namespace Go.Proofs.Ytmcooidoemcaoaa.PWearSpreads
open Go.RowKit Go.Proofs.YtmcooidoemcaoaaW.PrintWords Go.Proofs.YtmcooidoemcaoaaW.PrintLast Go.Proofs.YtmcooidoemcaoaaW.PrintMore
attribute [local go_sem] max2_int min2_int max_two min_two max_three min_three max_four min_four   -- for this text's walks alone
set_option linter.unusedVariables false
set_option linter.unusedSimpArgs false

/-! ### gabionlaw15_WearSpreads: function 4 -/
mutual
def gabionlaw15_WearSpreads.j0 : Nat → Int → List Int → Bool → Option (Bool)
  | 0, _, _, _ => none
  | k + 1, x0, x1, x18 => if x18 = true then ((gabionlaw15_chosen.f k).bind fun t122 => (some t122)) else (if 0 ≤ (wrap64 (4 + (wrap64 (Int.tmod (IntKind.u64.wrap (x0)) 12)))) then (if (wrap64 (4 + (wrap64 (Int.tmod (IntKind.u64.wrap (x0)) 12))) : Int).toNat ≤ 11728124029610 then (gabionlaw15_WearSpreads.l0 k (wrap64 (4 + (wrap64 (Int.tmod (IntKind.u64.wrap (x0)) 12)))) x1 (List.replicate (wrap64 (4 + (wrap64 (Int.tmod (IntKind.u64.wrap (x0)) 12))) : Int).toNat z34) 0) else (none)) else (none))
def gabionlaw15_WearSpreads.l0 : Nat → Int → List Int → List (S34) → Int → Option (Bool)
  | 0, _, _, _, _ => none
  | k + 1, x0, x1, x5, x6 => if x6 < (x1.length : Int) then ((wear_Count.f k x5 0).bind fun t126 => (if t126 < 2 then ((wear_Victim.f k x5).bind fun t127 => (if t127 < 0 then (gabionlaw15_WearSpreads.j2 k x0 x1 x5 x6 t127 true) else (if t127 ≥ x0 then (gabionlaw15_WearSpreads.j2 k x0 x1 x5 x6 t127 true) else (if 0 ≤ t127 then (if t127 < (x5.length : Int) then (gabionlaw15_WearSpreads.j2 k x0 x1 x5 x6 t127 (((rd_T34 x5 t127).f0) != 2)) else (none)) else (none))))) else ((wear_Next.f k x5).bind fun t136 => (if t136 < 0 then (some false) else (if t136 ≥ x0 then (some false) else (if 0 ≤ t136 then (if t136 < (x5.length : Int) then (if ((rd_T34 x5 t136).f0) = 0 then (if 0 ≤ x6 then (gabionlaw15_WearSpreads.l0 k x0 x1 (x5.set (t136 : Int).toNat (⟨2, wrap64 (Int.tmod (IntKind.u64.wrap (rd x1 x6)) 40), (((rd_T34 x5 t136).f2) + 1) % 4294967296⟩ : S34)) (wrap64 (x6 + 1))) else (none)) else (some false)) else (none)) else (none))))))) else (if 0 < (x5.length : Int) then (gabionlaw15_WearSpreads.l1 k x0 x5 ((rd_T34 x5 0).f2) ((rd_T34 x5 0).f2) 0) else (none))
def gabionlaw15_WearSpreads.j2 : Nat → Int → List Int → List (S34) → Int → Int → Bool → Option (Bool)
  | 0, _, _, _, _, _, _ => none
  | k + 1, x0, x1, x5, x6, x7, x52 => if x52 = true then (some false) else (if 0 ≤ x7 then (if x7 < (x5.length : Int) then ((some (x5.set (x7 : Int).toNat (⟨0, 0, (rd_T34 x5 x7).f2⟩ : S34) : List (S34))).bind fun y130 => ((wear_Next.f k y130).bind fun t131 => (if t131 < 0 then (some false) else (if t131 ≥ x0 then (some false) else (if 0 ≤ t131 then (if t131 < (x5.length : Int) then (if ((rd_T34 y130 t131).f0) = 0 then (if 0 ≤ x6 then (if x6 < (x1.length : Int) then (gabionlaw15_WearSpreads.l0 k x0 x1 (y130.set (t131 : Int).toNat (⟨2, wrap64 (Int.tmod (IntKind.u64.wrap (rd x1 x6)) 40), (((rd_T34 y130 t131).f2) + 1) % 4294967296⟩ : S34)) (wrap64 (x6 + 1))) else (none)) else (none)) else (some false)) else (none)) else (none)))))) else (none)) else (none))
def gabionlaw15_WearSpreads.l1 : Nat → Int → List (S34) → Int → Int → Int → Option (Bool)
  | 0, _, _, _, _, _ => none
  | k + 1, x0, x5, x9, x10, x11 => if x11 < x0 then (if 0 ≤ x11 then (if x11 < (x5.length : Int) then (gabionlaw15_WearSpreads.l1 k x0 x5 (mn x9 ((rd_T34 x5 x11).f2)) (mx x10 ((rd_T34 x5 x11).f2)) (wrap64 (x11 + 1))) else (none)) else (none)) else (some (decide (((x10 - x9) % 4294967296) ≤ ((10 + ((x0) % 4294967296)) % 4294967296))))
end
def gabionlaw15_WearSpreads.f (k : Nat) (a0 : Int) (l1 : List Int) : Option (Bool) := (gabionlaw15_chosen.f k).bind fun t121 => (if t121 = true then (gabionlaw15_WearSpreads.j0 k a0 l1 (decide ((l1.length : Int) > 400))) else (gabionlaw15_WearSpreads.j0 k a0 l1 true))
theorem gabionlaw15_WearSpreads.mono_l : ∀ k, (∀ y0 y1 y2, LeO (gabionlaw15_WearSpreads.j0 k y0 y1 y2) (gabionlaw15_WearSpreads.j0 (k + 1) y0 y1 y2)) ∧ (∀ y0 y1 y2 y3, LeO (gabionlaw15_WearSpreads.l0 k y0 y1 y2 y3) (gabionlaw15_WearSpreads.l0 (k + 1) y0 y1 y2 y3)) ∧ (∀ y0 y1 y2 y3 y4 y5, LeO (gabionlaw15_WearSpreads.j2 k y0 y1 y2 y3 y4 y5) (gabionlaw15_WearSpreads.j2 (k + 1) y0 y1 y2 y3 y4 y5)) ∧ (∀ y0 y1 y2 y3 y4, LeO (gabionlaw15_WearSpreads.l1 k y0 y1 y2 y3 y4) (gabionlaw15_WearSpreads.l1 (k + 1) y0 y1 y2 y3 y4))
  | 0 => ⟨fun _ _ _ r h => by simp [gabionlaw15_WearSpreads.j0] at h, fun _ _ _ _ r h => by simp [gabionlaw15_WearSpreads.l0] at h, fun _ _ _ _ _ _ r h => by simp [gabionlaw15_WearSpreads.j2] at h, fun _ _ _ _ _ r h => by simp [gabionlaw15_WearSpreads.l1] at h⟩
  | k + 1 => by
    obtain ⟨ih0, ih1, ih2, ih3⟩ := gabionlaw15_WearSpreads.mono_l k
    refine ⟨?_, ?_, ?_, ?_⟩
    · intro y0 y1 y2
      unfold gabionlaw15_WearSpreads.j0
      repeat' first
      | (with_reducible exact ih0 _ _ _)
      | (with_reducible exact ih1 _ _ _ _)
      | (with_reducible exact ih2 _ _ _ _ _ _)
      | (with_reducible exact ih3 _ _ _ _ _)
      | (with_reducible exact gabionlaw15_chosen.mono _)
      | (with_reducible exact wear_Count.mono _ _ _)
      | (with_reducible exact wear_Next.mono _ _)
      | (with_reducible exact wear_Victim.mono _ _)
      | (with_reducible exact LeO.refl _)
      | (with_reducible exact LeO.none _)
      | (with_reducible refine LeO.ite ?_ ?_)
      | (with_reducible refine LeO.bind ?_ (fun _ => ?_))
      | exact ih0 _ _ _
      | exact ih1 _ _ _ _
      | exact ih2 _ _ _ _ _ _
      | exact ih3 _ _ _ _ _
      | exact gabionlaw15_chosen.mono _
      | exact wear_Count.mono _ _ _
      | exact wear_Next.mono _ _
      | exact wear_Victim.mono _ _
      | exact LeO.none _
      | refine LeO.ite ?_ ?_
      | refine LeO.bind ?_ (fun _ => ?_)
    · intro y0 y1 y2 y3
      unfold gabionlaw15_WearSpreads.l0
      repeat' first
      | (with_reducible exact ih0 _ _ _)
      | (with_reducible exact ih1 _ _ _ _)
      | (with_reducible exact ih2 _ _ _ _ _ _)
      | (with_reducible exact ih3 _ _ _ _ _)
      | (with_reducible exact gabionlaw15_chosen.mono _)
      | (with_reducible exact wear_Count.mono _ _ _)
      | (with_reducible exact wear_Next.mono _ _)
      | (with_reducible exact wear_Victim.mono _ _)
      | (with_reducible exact LeO.refl _)
      | (with_reducible exact LeO.none _)
      | (with_reducible refine LeO.ite ?_ ?_)
      | (with_reducible refine LeO.bind ?_ (fun _ => ?_))
      | exact ih0 _ _ _
      | exact ih1 _ _ _ _
      | exact ih2 _ _ _ _ _ _
      | exact ih3 _ _ _ _ _
      | exact gabionlaw15_chosen.mono _
      | exact wear_Count.mono _ _ _
      | exact wear_Next.mono _ _
      | exact wear_Victim.mono _ _
      | exact LeO.none _
      | refine LeO.ite ?_ ?_
      | refine LeO.bind ?_ (fun _ => ?_)
    · intro y0 y1 y2 y3 y4 y5
      unfold gabionlaw15_WearSpreads.j2
      repeat' first
      | (with_reducible exact ih0 _ _ _)
      | (with_reducible exact ih1 _ _ _ _)
      | (with_reducible exact ih2 _ _ _ _ _ _)
      | (with_reducible exact ih3 _ _ _ _ _)
      | (with_reducible exact gabionlaw15_chosen.mono _)
      | (with_reducible exact wear_Count.mono _ _ _)
      | (with_reducible exact wear_Next.mono _ _)
      | (with_reducible exact wear_Victim.mono _ _)
      | (with_reducible exact LeO.refl _)
      | (with_reducible exact LeO.none _)
      | (with_reducible refine LeO.ite ?_ ?_)
      | (with_reducible refine LeO.bind ?_ (fun _ => ?_))
      | exact ih0 _ _ _
      | exact ih1 _ _ _ _
      | exact ih2 _ _ _ _ _ _
      | exact ih3 _ _ _ _ _
      | exact gabionlaw15_chosen.mono _
      | exact wear_Count.mono _ _ _
      | exact wear_Next.mono _ _
      | exact wear_Victim.mono _ _
      | exact LeO.none _
      | refine LeO.ite ?_ ?_
      | refine LeO.bind ?_ (fun _ => ?_)
    · intro y0 y1 y2 y3 y4
      unfold gabionlaw15_WearSpreads.l1
      repeat' first
      | (with_reducible exact ih0 _ _ _)
      | (with_reducible exact ih1 _ _ _ _)
      | (with_reducible exact ih2 _ _ _ _ _ _)
      | (with_reducible exact ih3 _ _ _ _ _)
      | (with_reducible exact gabionlaw15_chosen.mono _)
      | (with_reducible exact wear_Count.mono _ _ _)
      | (with_reducible exact wear_Next.mono _ _)
      | (with_reducible exact wear_Victim.mono _ _)
      | (with_reducible exact LeO.refl _)
      | (with_reducible exact LeO.none _)
      | (with_reducible refine LeO.ite ?_ ?_)
      | (with_reducible refine LeO.bind ?_ (fun _ => ?_))
      | exact ih0 _ _ _
      | exact ih1 _ _ _ _
      | exact ih2 _ _ _ _ _ _
      | exact ih3 _ _ _ _ _
      | exact gabionlaw15_chosen.mono _
      | exact wear_Count.mono _ _ _
      | exact wear_Next.mono _ _
      | exact wear_Victim.mono _ _
      | exact LeO.none _
      | refine LeO.ite ?_ ?_
      | refine LeO.bind ?_ (fun _ => ?_)
theorem gabionlaw15_WearSpreads.mono : ∀ a0 a1 k, LeO (gabionlaw15_WearSpreads.f k a0 a1) (gabionlaw15_WearSpreads.f (k + 1) a0 a1) := by
  intro a0 a1 k
  obtain ⟨ih0, ih1, ih2, ih3⟩ := gabionlaw15_WearSpreads.mono_l k
  unfold gabionlaw15_WearSpreads.f
  repeat' first
      | (with_reducible exact ih0 _ _ _)
      | (with_reducible exact ih1 _ _ _ _)
      | (with_reducible exact ih2 _ _ _ _ _ _)
      | (with_reducible exact ih3 _ _ _ _ _)
      | (with_reducible exact gabionlaw15_chosen.mono _)
      | (with_reducible exact wear_Count.mono _ _ _)
      | (with_reducible exact wear_Next.mono _ _)
      | (with_reducible exact wear_Victim.mono _ _)
      | (with_reducible exact LeO.refl _)
      | (with_reducible exact LeO.none _)
      | (with_reducible refine LeO.ite ?_ ?_)
      | (with_reducible refine LeO.bind ?_ (fun _ => ?_))
      | exact ih0 _ _ _
      | exact ih1 _ _ _ _
      | exact ih2 _ _ _ _ _ _
      | exact ih3 _ _ _ _ _
      | exact gabionlaw15_chosen.mono _
      | exact wear_Count.mono _ _ _
      | exact wear_Next.mono _ _
      | exact wear_Victim.mono _ _
      | exact LeO.none _
      | refine LeO.ite ?_ ?_
      | refine LeO.bind ?_ (fun _ => ?_)
def gabionlaw15_WearSpreads.T16 : Bool × List (List Nat × List Nat) := (true, [([], []), ([], []), ([], []), ([], []), ([2, 3], [2, 3]), ([4], [4]), ([5], [5]), ([6], [6]), ([7], [7]), ([], []), ([], []), ([9, 10], [9, 10]), ([11], [11]), ([12], [12]), ([13], [13]), ([8, 14], [8, 14]), ([0, 1, 0, 1, 2, 3, 4, 5, 6, 7, 8, 9, 10, 11, 12, 13, 14, 15], [0, 1]), ([16, 15, 0, 1, 2, 3, 4, 5, 6, 7, 8, 9, 10, 11, 12, 13, 14, 15], [15, 16])])
def gabionlaw15_WearSpreads.B16 : List Nat := [0, 0, 0, 0, 12, 28, 60, 124, 252, 0, 0, 1536, 3584, 7680, 15872, 32764, 65535, 131071]
theorem gabionlaw15_WearSpreads.tab16 : rtab .any (opsOf Try.f4 16) = gabionlaw15_WearSpreads.T16 := by kernel_rfl
theorem gabionlaw15_WearSpreads.bits16 : waitsOk gabionlaw15_WearSpreads.T16.2 gabionlaw15_WearSpreads.B16 = true := by kernel_rfl
def gabionlaw15_WearSpreads.T17 : Bool × List (List Nat × List Nat) := (true, [([], []), ([0], [0]), ([1], [1]), ([2], [2]), ([], []), ([4], [4]), ([5], [5]), ([6], [6]), ([3, 0, 1, 2, 3], [3]), ([7, 8, 0, 1, 2, 3, 4, 5, 6, 7, 8], [7])])
def gabionlaw15_WearSpreads.B17 : List Nat := [0, 1, 3, 7, 0, 16, 48, 112, 15, 511]
theorem gabionlaw15_WearSpreads.tab17 : rtab .any (opsOf Try.f4 17) = gabionlaw15_WearSpreads.T17 := by kernel_rfl
theorem gabionlaw15_WearSpreads.bits17 : waitsOk gabionlaw15_WearSpreads.T17.2 gabionlaw15_WearSpreads.B17 = true := by kernel_rfl
set_option maxHeartbeats 8000000 in
set_option maxRecDepth 100000 in
theorem gabionlaw15_WearSpreads.calls (k : Nat) (a0 : Int) (A1 : Option Addr) (c1 : Nat) (l1 : List Int) (r : Bool) (w : World) (hr1 : Kd.C (Kd.int .i64) w A1 l1.length l1) (hc1 : l1.length ≤ c1) (h : gabionlaw15_WearSpreads.f k a0 l1 = some r) :
    Calls Try.prog 4 #[.int .i64 a0, .slice A1 l1.length c1] w fun e w' => e = .returned (.bool r) ∧ Below w.heap.size w w' := by
  have hu34 := Try.underlying34
  have HR1 := Aside0.mk hr1
  have HC1 := Aside0.mk hc1
  clear hr1 hc1
  have HB := Aside0.mk (Below.refl w.heap.size w)
  have H : ((gabionlaw15_chosen.f k).bind fun t121 => (if t121 = true then (gabionlaw15_WearSpreads.j0 k a0 l1 (decide ((l1.length : Int) > 400))) else (gabionlaw15_WearSpreads.j0 k a0 l1 true))) = some r := h
  clear h
  have HC3 := Aside0.mk H
  clear H
  go_enter Try.func4, Try.ntmps4
  go_upto_region 1 with (fail)
  go_cut [18] (fun v18 wc => ∃ (kq : Nat) (x18_2 : Bool), v18 = .bool x18_2 ∧ Aside0 (gabionlaw15_WearSpreads.j0 kq a0 l1 x18_2 = some r) ∧ Aside0 (kq ≤ k) ∧ Aside0 (Below w.heap.size w wc))
  case first =>
    have H := HC3.out
    clear HC3
    replace H := Option.bind_eq_some_iff.mp H
    obtain ⟨t121, A40, H⟩ := H
    replace H : (if t121 = true then (gabionlaw15_WearSpreads.j0 k a0 l1 (decide ((l1.length : Int) > 400))) else (gabionlaw15_WearSpreads.j0 k a0 l1 true)) = some r := H
    have A4 := Aside0.mk A40
    clear A40
    by_cases c5 : t121 = true
    · subst c5
      have H1 : (gabionlaw15_WearSpreads.j0 k a0 l1 (decide ((l1.length : Int) > 400))) = some r := by rw [if_pos rfl] at H; exact H
      clear H
      have H := H1
      clear H1
      have H' := Aside0.mk H
      clear H
      go_wp2_with (first | ((with_reducible refine gate_callee (f := 8) rfl ?_); refine goesL_ (some 12) rfl rfl Try.func8 (by kernel_rfl) rfl #[] rfl (by (try simp only [List.map_toArray, List.map_cons, List.map_nil]); first | done | rfl | (simp only [List.length_drop, List.length_take]; rfl)) ?_; (with_reducible refine (gabionlaw15_chosen.calls k  true _ A4.out).mono ?_); rintro e w6 ⟨rfl, hb⟩; refine ⟨_, rfl, ?_⟩; have n0_ := Aside0.mk (below_step (by repeat (first | (with_reducible first | exact HB.out | apply below_alloc | apply pw_below_drewN | apply below_drew1) | exact HB.out)) hb); clear HB; have HB := n0_; clear n0_; (try clear hb); (try clear hb2); (try clear hk); (try clear hi)))
      go_meet
      case rel => exact ⟨_, (decide ((l1.length : Int) > 400)), (by first | rfl | (simp; done) | (simp [*]; done)), H', ⟨by first | omega | exact Nat.le_refl _⟩, ⟨by repeat (first | (with_reducible first | exact HB.out | apply below_alloc | apply pw_below_drewN | apply below_drew1) | exact HB.out)⟩⟩
    · replace c5 := Bool.eq_false_iff.mpr c5
      subst c5
      have H1 : (gabionlaw15_WearSpreads.j0 k a0 l1 true) = some r := by rw [if_neg (show ¬ (false = true) by decide)] at H; exact H
      clear H
      have H := H1
      clear H1
      have H' := Aside0.mk H
      clear H
      go_wp2_with (first | ((with_reducible refine gate_callee (f := 8) rfl ?_); refine goesL_ (some 12) rfl rfl Try.func8 (by kernel_rfl) rfl #[] rfl (by (try simp only [List.map_toArray, List.map_cons, List.map_nil]); first | done | rfl | (simp only [List.length_drop, List.length_take]; rfl)) ?_; (with_reducible refine (gabionlaw15_chosen.calls k  false _ A4.out).mono ?_); rintro e w7 ⟨rfl, hb⟩; refine ⟨_, rfl, ?_⟩; have n0_ := Aside0.mk (below_step (by repeat (first | (with_reducible first | exact HB.out | apply below_alloc | apply pw_below_drewN | apply below_drew1) | exact HB.out)) hb); clear HB; have HB := n0_; clear n0_; (try clear hb); (try clear hb2); (try clear hk); (try clear hi)))
      go_meet
      case rel => exact ⟨_, (true), (by first | rfl | (simp; done) | (simp [*]; done)), H', ⟨by first | omega | exact Nat.le_refl _⟩, ⟨by repeat (first | (with_reducible first | exact HB.out | apply below_alloc | apply pw_below_drewN | apply below_drew1) | exact HB.out)⟩⟩
  case rest =>
    clear HC3
    try clear c1
    try clear p2
    try clear c4
    try clear c5
    obtain ⟨kq, x18_2, rfl, HA, HJ2, HB⟩ := hcut
    cases kq with
    | zero => exact absurd HA.out (by simp [gabionlaw15_WearSpreads.j0])
    | succ kj2 =>
      have H := HA.out
      clear HA
      simp only [gabionlaw15_WearSpreads.j0] at H
      by_cases c8 : x18_2 = true
      · subst c8
        have H1 : ((gabionlaw15_chosen.f kj2).bind fun t122 => (some t122)) = some r := by rw [if_pos rfl] at H; exact H
        clear H
        have H := H1
        clear H1
        replace H := Option.bind_eq_some_iff.mp H
        obtain ⟨t122, A90, H⟩ := H
        replace H : (some t122) = some r := H
        have A9 := Aside0.mk A90
        clear A90
        obtain rfl := Option.some.inj H
        go_wp2_with (first | ((with_reducible refine gate_callee (f := 8) rfl ?_); refine goesL_ (some 19) rfl rfl Try.func8 (by kernel_rfl) rfl #[] rfl (by (try simp only [List.map_toArray, List.map_cons, List.map_nil]); first | done | rfl | (simp only [List.length_drop, List.length_take]; rfl)) ?_; (with_reducible refine (gabionlaw15_chosen.calls kj2  t122 _ A9.out).mono ?_); rintro e w10 ⟨rfl, hb⟩; refine ⟨_, rfl, ?_⟩; have n0_ := Aside0.mk (below_step (by repeat (first | (with_reducible first | exact HB.out | apply below_alloc | apply pw_below_drewN | apply below_drew1) | exact HB.out)) hb); clear HB; have HB := n0_; clear n0_; (try clear hb); (try clear hb2); (try clear hk); (try clear hi)))
        go_ret
        exact ⟨by first | rfl | (simp [errW_none, errW_some] <;> rfl) | (simp [*, errW_none, errW_some] <;> rfl), by repeat (first | (with_reducible first | exact HB.out | apply below_alloc | apply pw_below_drewN | apply below_drew1) | exact HB.out)⟩
      · replace c8 := Bool.eq_false_iff.mpr c8
        subst c8
        have H1 : (if 0 ≤ (wrap64 (4 + (wrap64 (Int.tmod (IntKind.u64.wrap (a0)) 12)))) then (if (wrap64 (4 + (wrap64 (Int.tmod (IntKind.u64.wrap (a0)) 12))) : Int).toNat ≤ 11728124029610 then (gabionlaw15_WearSpreads.l0 kj2 (wrap64 (4 + (wrap64 (Int.tmod (IntKind.u64.wrap (a0)) 12)))) l1 (List.replicate (wrap64 (4 + (wrap64 (Int.tmod (IntKind.u64.wrap (a0)) 12))) : Int).toNat z34) 0) else (none)) else (none)) = some r := by rw [if_neg (show ¬ (false = true) by decide)] at H; exact H
        clear H
        have H := H1
        clear H1
        obtain ⟨ji11, hji11⟩ : ∃ j_ : Int, (wrap64 (4 + (wrap64 (Int.tmod (IntKind.u64.wrap (a0)) 12)))) = j_ := ⟨_, rfl⟩
        replace H : (if 0 ≤ (ji11) then (if (ji11 : Int).toNat ≤ 11728124029610 then (gabionlaw15_WearSpreads.l0 kj2 ji11 l1 (List.replicate (ji11 : Int).toNat z34) 0) else (none)) else (none)) = some r := by first | (rw [hji11] at H; exact H) | (simp only [hji11] at H ⊢; exact H)
        have hji11w : (IntKind.i64.wrap (4 + (wrap64 (Int.tmod (IntKind.u64.wrap (a0)) 12)))) = ji11 := (i64_w _).trans hji11
        by_cases c12 : 0 ≤ (ji11)
        · rw [if_pos c12] at H
          have c12b0 := eq_true c12
          have c12b1 : decide (0 ≤ (ji11)) = true := decide_eq_true c12
          clear c12
          by_cases c13 : (ji11 : Int).toNat ≤ 11728124029610
          · rw [if_pos c13] at H
            have c13b0 := eq_true c13
            have c13b1 : decide ((ji11 : Int).toNat ≤ 11728124029610) = true := decide_eq_true c13
            clear c13
            obtain ⟨y123, hy123⟩ : ∃ y_ : List (S34), y_ = (List.replicate (ji11 : Int).toNat z34) := ⟨_, rfl⟩
            replace H : (gabionlaw15_WearSpreads.l0 kj2 ji11 l1 y123 0) = some r := by first | (rw [hy123]; with_reducible exact H) | (have H2_ := (Option.bind_some _ _).symm.trans H; rw [hy123]; with_reducible exact H2_) | (have H2_ := (Option.bind_some _ _).symm.trans H; with_reducible exact H2_) | with_reducible exact H | (rw [hy123]; exact H) | exact H
            have Ny123 := Aside0.mk hy123
            clear hy123
            have H' := Aside0.mk H
            clear H
            go_wp2_with (first | ((with_reducible refine gate_dst (N := 26) rfl ?_); (try (refine gate_guard (by rfl) ?_; dsimp only)); refine Kd.R_make k34 _ 34 rfl (N := 26) rfl 22 _ _ rfl ji11 rfl rfl Try.underlying22 (.agg #[(.int .i64 0), (.int .i64 0), (.int .u32 0)]) 24 info34 rfl (by decide) (by omega) z34 (ok := fun _ => True) (okp := fun _ => True) (k34_mkM _ _ _ z34 ) (fun _ hk => hk) trivial (of_decide_eq_true (by first | (with_reducible assumption) | assumption)) (Nat.le_trans (Nat.mul_le_mul_right _ (of_decide_eq_true (by first | (with_reducible assumption) | assumption) : ji11.toNat ≤ 11728124029610)) (by omega)) (Below.refl _ _) (Nat.le_refl _) ?_; intro v124 w14 ho15 hb hg_ hnew_; clear hg_ hnew_; (first | rw [← Ny123.out] at ho15 | (simp only [Int.reduceToNat] at ho15; rw [← Ny123.out] at ho15)); have n0_ := Aside0.mk (Kd.R_lower ho15 (below_size (by repeat (first | (with_reducible first | exact HB.out | apply below_alloc | apply pw_below_drewN | apply below_drew1) | exact HB.out)))); have n1_ := Aside0.mk (below_step (by repeat (first | (with_reducible first | exact HB.out | apply below_alloc | apply pw_below_drewN | apply below_drew1) | exact HB.out)) hb); clear HB; have HO125 := n0_; have HB := n1_; clear n0_ n1_; clear hb ho15))
            go_loopg [6] kj2 (fun kq v6 w' => ∃ (x5_2 : List (S34)) (x6_2 : Int), v6 = .int .i64 x6_2 ∧ Aside0 (gabionlaw15_WearSpreads.l0 kq ji11 l1 x5_2 x6_2 = some r) ∧ Aside0 (kq ≤ kj2) ∧ Aside0 (Kd.R k34 34 w' w.heap.size (fun _ => True) v124 x5_2) ∧ Aside0 (Below w.heap.size w w'))
            case atStart => exact ⟨(y123), (0), (by first | rfl | (simp; done) | (simp [*]; done)), H', ⟨Nat.le_refl _⟩, ⟨by (with_reducible repeat (first | apply Kd.R_alloc | apply Kd.R_drewN | apply Kd.R_drew)); exact HO125.out⟩, ⟨by repeat (first | (with_reducible first | exact HB.out | apply below_alloc | apply pw_below_drewN | apply below_drew1) | exact HB.out)⟩⟩
            case round =>
              clear H'
              try clear c1
              try clear p2
              try clear c4
              try clear c5
              try clear p6
              try clear c8
              try clear c12
              try clear c12b0
              try clear c12b1
              try clear c13
              try clear c13b0
              try clear c13b1
              try clear p2
              obtain ⟨x5_2, x6_2, rfl, HA, HK2, HO_5, HB⟩ := hrel
              cases gk with
              | zero => exact absurd HA.out (by simp [gabionlaw15_WearSpreads.l0])
              | succ k2 =>
                have H := HA.out
                clear HA
                simp only [gabionlaw15_WearSpreads.l0] at H
                by_cases c16 : x6_2 < (l1.length : Int)
                · rw [if_pos c16] at H
                  have c16b0 : decide (x6_2 < (l1.length : Int)) = true := decide_eq_true c16
                  clear c16
                  replace H := Option.bind_eq_some_iff.mp H
                  obtain ⟨t126, A170, H⟩ := H
                  replace H : (if t126 < 2 then ((wear_Victim.f k2 x5_2).bind fun t127 => (if t127 < 0 then (gabionlaw15_WearSpreads.j2 k2 ji11 l1 x5_2 x6_2 t127 true) else (if t127 ≥ ji11 then (gabionlaw15_WearSpreads.j2 k2 ji11 l1 x5_2 x6_2 t127 true) else (if 0 ≤ t127 then (if t127 < (x5_2.length : Int) then (gabionlaw15_WearSpreads.j2 k2 ji11 l1 x5_2 x6_2 t127 (((rd_T34 x5_2 t127).f0) != 2)) else (none)) else (none))))) else ((wear_Next.f k2 x5_2).bind fun t136 => (if t136 < 0 then (some false) else (if t136 ≥ ji11 then (some false) else (if 0 ≤ t136 then (if t136 < (x5_2.length : Int) then (if ((rd_T34 x5_2 t136).f0) = 0 then (if 0 ≤ x6_2 then (gabionlaw15_WearSpreads.l0 k2 ji11 l1 (x5_2.set (t136 : Int).toNat (⟨2, wrap64 (Int.tmod (IntKind.u64.wrap (rd l1 x6_2)) 40), (((rd_T34 x5_2 t136).f2) + 1) % 4294967296⟩ : S34)) (wrap64 (x6_2 + 1))) else (none)) else (some false)) else (none)) else (none)))))) = some r := H
                  have A17 := Aside0.mk A170
                  clear A170
                  by_cases c18 : t126 < 2
                  · rw [if_pos c18] at H
                    have c18b0 : decide (t126 < 2) = true := decide_eq_true c18
                    clear c18
                    replace H := Option.bind_eq_some_iff.mp H
                    obtain ⟨t127, A190, H⟩ := H
                    replace H : (if t127 < 0 then (gabionlaw15_WearSpreads.j2 k2 ji11 l1 x5_2 x6_2 t127 true) else (if t127 ≥ ji11 then (gabionlaw15_WearSpreads.j2 k2 ji11 l1 x5_2 x6_2 t127 true) else (if 0 ≤ t127 then (if t127 < (x5_2.length : Int) then (gabionlaw15_WearSpreads.j2 k2 ji11 l1 x5_2 x6_2 t127 (((rd_T34 x5_2 t127).f0) != 2)) else (none)) else (none)))) = some r := H
                    have A19 := Aside0.mk A190
                    clear A190
                    have HC20 := Aside0.mk H
                    clear H
                    obtain ⟨Ao21, co21, eo21⟩ := Kd.R_slice HO_5.out
                    subst eo21
                    go_upto_region 10 with (first | ((with_reducible refine gate_callee (f := 12) rfl ?_); refine goesL_ (some 34) rfl rfl Try.func12 (by kernel_rfl) rfl #[.slice Ao21 x5_2.length co21, .int .i64 0] rfl (by (try simp only [List.map_toArray, List.map_cons, List.map_nil]); first | done | rfl | (simp only [List.length_drop, List.length_take]; rfl)) ?_; (with_reducible refine (wear_Count.calls k2 _ _ x5_2 0 t126 _ ?side1 ?side2 A17.out).mono ?_); (case side1 => repeat (first | exact (Kd.R_reads' HO_5.out).2.2 | (with_reducible refine Kd.C_alloc ?_ _) | (with_reducible refine Kd.C_drewN ?_ _) | (with_reducible refine Kd.C_drew ?_))); (case side2 => exact (Kd.R_reads' HO_5.out).2.1); rintro e w22 ⟨rfl, hb⟩; refine ⟨_, rfl, ?_⟩; have n0_ := Aside0.mk (Kd.R_below (by (with_reducible repeat (first | apply Kd.R_alloc | apply Kd.R_drewN | apply Kd.R_drew)); exact HO_5.out) hb); have n1_ := Aside0.mk (below_step (by repeat (first | (with_reducible first | exact HB.out | apply below_alloc | apply pw_below_drewN | apply below_drew1) | exact HB.out)) hb); clear HO_5; clear HB; have HO_5 := n0_; have HB := n1_; clear n0_ n1_; (try clear hb); (try clear hb2); (try clear hk); (try clear hi)) | ((with_reducible refine gate_callee (f := 9) rfl ?_); refine goesL_ (some 37) rfl rfl Try.func9 (by kernel_rfl) rfl #[.slice Ao21 x5_2.length co21] rfl (by (try simp only [List.map_toArray, List.map_cons, List.map_nil]); first | done | rfl | (simp only [List.length_drop, List.length_take]; rfl)) ?_; (with_reducible refine (wear_Victim.calls k2 _ _ x5_2 t127 _ ?side1 ?side2 A19.out).mono ?_); (case side1 => repeat (first | exact (Kd.R_reads' HO_5.out).2.2 | (with_reducible refine Kd.C_alloc ?_ _) | (with_reducible refine Kd.C_drewN ?_ _) | (with_reducible refine Kd.C_drew ?_))); (case side2 => exact (Kd.R_reads' HO_5.out).2.1); rintro e w23 ⟨rfl, hb⟩; refine ⟨_, rfl, ?_⟩; have n0_ := Aside0.mk (Kd.R_below (by (with_reducible repeat (first | apply Kd.R_alloc | apply Kd.R_drewN | apply Kd.R_drew)); exact HO_5.out) hb); have n1_ := Aside0.mk (below_step (by repeat (first | (with_reducible first | exact HB.out | apply below_alloc | apply pw_below_drewN | apply below_drew1) | exact HB.out)) hb); clear HO_5; clear HB; have HO_5 := n0_; have HB := n1_; clear n0_ n1_; (try clear hb); (try clear hb2); (try clear hk); (try clear hi)))
                    (try simp only [Act.put, List.setIfInBounds_toArray, List.set_cons_zero, List.set_cons_succ])
                    go_cut [52] (fun v52 wc => ∃ (kq : Nat) (x52_19 : Bool), v52 = .bool x52_19 ∧ Aside0 (gabionlaw15_WearSpreads.j2 kq ji11 l1 x5_2 x6_2 t127 x52_19 = some r) ∧ Aside0 (kq ≤ k2) ∧ Aside0 (Kd.R k34 34 wc w.heap.size (fun _ => True) (.slice Ao21 x5_2.length co21) x5_2) ∧ Aside0 (Below w.heap.size w wc))
                    case first =>
                      have H := HC20.out
                      clear HC20
                      by_cases c24 : t127 < 0
                      · rw [if_pos c24] at H
                        have c24b0 : decide (t127 < 0) = true := decide_eq_true c24
                        clear c24
                        (first | rw [c24b0] | (simp only [i64_w, i32_w]; rw [c24b0]) | skip)
                        have H' := Aside0.mk H
                        clear H
                        go_wp2
                        go_meet
                        case rel => exact ⟨_, (true), (by first | rfl | (simp; done) | (simp [*]; done)), H', ⟨by have := HJ2.out; have := HK2.out; first | omega | exact Nat.le_refl _⟩, ⟨by (with_reducible repeat (first | apply Kd.R_alloc | apply Kd.R_drewN | apply Kd.R_drew)); exact HO_5.out⟩, ⟨by repeat (first | (with_reducible first | exact HB.out | apply below_alloc | apply pw_below_drewN | apply below_drew1) | exact HB.out)⟩⟩
                      · rw [if_neg c24] at H
                        have c24b0 : decide (t127 < 0) = false := decide_eq_false c24
                        clear c24
                        (first | rw [c24b0] | (simp only [i64_w, i32_w]; rw [c24b0]) | skip)
                        by_cases c25 : t127 ≥ ji11
                        · rw [if_pos c25] at H
                          have c25b0 : decide (ji11 ≤ t127) = true := decide_eq_true c25
                          clear c25
                          have H' := Aside0.mk H
                          clear H
                          go_wp2
                          go_meet
                          case rel => exact ⟨_, (true), (by first | rfl | (simp; done) | (simp [*]; done)), H', ⟨by have := HJ2.out; have := HK2.out; first | omega | exact Nat.le_refl _⟩, ⟨by (with_reducible repeat (first | apply Kd.R_alloc | apply Kd.R_drewN | apply Kd.R_drew)); exact HO_5.out⟩, ⟨by repeat (first | (with_reducible first | exact HB.out | apply below_alloc | apply pw_below_drewN | apply below_drew1) | exact HB.out)⟩⟩
                        · rw [if_neg c25] at H
                          have c25b0 : decide (ji11 ≤ t127) = false := decide_eq_false c25
                          clear c25
                          by_cases c26 : 0 ≤ t127
                          · rw [if_pos c26] at H
                            have c26b0 : decide (0 ≤ t127) = true := decide_eq_true c26
                            clear c26
                            by_cases c27 : t127 < (x5_2.length : Int)
                            · rw [if_pos c27] at H
                              have c27b0 : decide (t127 < (x5_2.length : Int)) = true := decide_eq_true c27
                              clear c27
                              have H' := Aside0.mk H
                              clear H
                              have p128 : 0 ≤ (t127 : Int) := of_decide_eq_true (by first | (with_reducible assumption) | assumption)
                              have q128 : t127 < (x5_2.length : Int) := of_decide_eq_true (by first | (with_reducible assumption) | assumption)
                              obtain ⟨ad128, e128, hx128_0, hx128_1, hx128_2⟩ := at_T34 (Kd.R_reads' HO_5.out).2.2 t127 p128 q128
                              cases e128
                              replace p128 := eq_true p128
                              replace q128 := eq_true q128
                              go_wp2
                              go_meet
                              case rel => exact ⟨_, ((((rd_T34 x5_2 t127).f0) != 2)), (by first | rfl | (simp; done) | (simp [*]; done)), H', ⟨by have := HJ2.out; have := HK2.out; first | omega | exact Nat.le_refl _⟩, ⟨by (with_reducible repeat (first | apply Kd.R_alloc | apply Kd.R_drewN | apply Kd.R_drew)); exact HO_5.out⟩, ⟨by repeat (first | (with_reducible first | exact HB.out | apply below_alloc | apply pw_below_drewN | apply below_drew1) | exact HB.out)⟩⟩
                            · rw [if_neg c27] at H
                              exact absurd H (by simp)
                          · rw [if_neg c26] at H
                            exact absurd H (by simp)
                    case rest =>
                      clear HC20
                      try clear c1
                      try clear p1
                      try clear q1
                      try clear hx1
                      try clear c2
                      try clear p2
                      try clear c4
                      try clear c5
                      try clear p6
                      try clear c8
                      try clear c9
                      try clear c12
                      try clear c12b0
                      try clear c12b1
                      try clear p12
                      try clear q12
                      try clear hx12
                      try clear c13
                      try clear c13b0
                      try clear c13b1
                      try clear c16
                      try clear c16b0
                      try clear c18
                      try clear c18b0
                      try clear c24
                      try clear c24b0
                      try clear c25
                      try clear c25b0
                      try clear c26
                      try clear c26b0
                      try clear c27
                      try clear c27b0
                      try clear hx128_0
                      try clear hx128_1
                      try clear hx128_2
                      try clear p128
                      try clear p2
                      try clear p6
                      try clear q128
                      obtain ⟨kq, x52_19, rfl, HA, HJ19, HO_5, HB⟩ := hcut
                      cases kq with
                      | zero => exact absurd HA.out (by simp [gabionlaw15_WearSpreads.j2])
                      | succ kj19 =>
                        have H := HA.out
                        clear HA
                        simp only [gabionlaw15_WearSpreads.j2] at H
                        by_cases c28 : x52_19 = true
                        · subst c28
                          have H1 : (some false) = some r := by rw [if_pos rfl] at H; exact H
                          clear H
                          have H := H1
                          clear H1
                          obtain rfl := Option.some.inj H
                          go_wp2
                          go_ret
                          exact ⟨by first | rfl | (simp [errW_none, errW_some] <;> rfl) | (simp only [← hji11]; first | rfl | (simp [errW_none, errW_some] <;> rfl)) | (simp [*, errW_none, errW_some] <;> rfl), by repeat (first | (with_reducible first | exact HB.out | apply below_alloc | apply pw_below_drewN | apply below_drew1) | exact HB.out)⟩
                        · replace c28 := Bool.eq_false_iff.mpr c28
                          subst c28
                          have H1 : (if 0 ≤ t127 then (if t127 < (x5_2.length : Int) then ((some (x5_2.set (t127 : Int).toNat (⟨0, 0, (rd_T34 x5_2 t127).f2⟩ : S34) : List (S34))).bind fun y130 => ((wear_Next.f kj19 y130).bind fun t131 => (if t131 < 0 then (some false) else (if t131 ≥ ji11 then (some false) else (if 0 ≤ t131 then (if t131 < (x5_2.length : Int) then (if ((rd_T34 y130 t131).f0) = 0 then (if 0 ≤ x6_2 then (if x6_2 < (l1.length : Int) then (gabionlaw15_WearSpreads.l0 kj19 ji11 l1 (y130.set (t131 : Int).toNat (⟨2, wrap64 (Int.tmod (IntKind.u64.wrap (rd l1 x6_2)) 40), (((rd_T34 y130 t131).f2) + 1) % 4294967296⟩ : S34)) (wrap64 (x6_2 + 1))) else (none)) else (none)) else (some false)) else (none)) else (none)))))) else (none)) else (none)) = some r := by rw [if_neg (show ¬ (false = true) by decide)] at H; exact H
                          clear H
                          have H := H1
                          clear H1
                          by_cases c29 : 0 ≤ t127
                          · rw [if_pos c29] at H
                            have c29b0 : decide (0 ≤ t127) = true := decide_eq_true c29
                            clear c29
                            by_cases c30 : t127 < (x5_2.length : Int)
                            · rw [if_pos c30] at H
                              have c30b0 : decide (t127 < (x5_2.length : Int)) = true := decide_eq_true c30
                              clear c30
                              obtain ⟨y130, hy130⟩ : ∃ y_ : List (S34), y_ = (x5_2.set (t127 : Int).toNat (⟨0, 0, (rd_T34 x5_2 t127).f2⟩ : S34)) := ⟨_, rfl⟩
                              replace H : ((wear_Next.f kj19 y130).bind fun t131 => (if t131 < 0 then (some false) else (if t131 ≥ ji11 then (some false) else (if 0 ≤ t131 then (if t131 < (x5_2.length : Int) then (if ((rd_T34 y130 t131).f0) = 0 then (if 0 ≤ x6_2 then (if x6_2 < (l1.length : Int) then (gabionlaw15_WearSpreads.l0 kj19 ji11 l1 (y130.set (t131 : Int).toNat (⟨2, wrap64 (Int.tmod (IntKind.u64.wrap (rd l1 x6_2)) 40), (((rd_T34 y130 t131).f2) + 1) % 4294967296⟩ : S34)) (wrap64 (x6_2 + 1))) else (none)) else (none)) else (some false)) else (none)) else (none))))) = some r := by first | (rw [hy130]; with_reducible exact H) | (have H2_ := (Option.bind_some _ _).symm.trans H; rw [hy130]; with_reducible exact H2_) | (have H2_ := (Option.bind_some _ _).symm.trans H; with_reducible exact H2_) | with_reducible exact H | (rw [hy130]; exact H) | exact H
                              have Ny130 := Aside0.mk hy130
                              clear hy130
                              replace H := Option.bind_eq_some_iff.mp H
                              obtain ⟨t131, A320, H⟩ := H
                              replace H : (if t131 < 0 then (some false) else (if t131 ≥ ji11 then (some false) else (if 0 ≤ t131 then (if t131 < (x5_2.length : Int) then (if ((rd_T34 y130 t131).f0) = 0 then (if 0 ≤ x6_2 then (if x6_2 < (l1.length : Int) then (gabionlaw15_WearSpreads.l0 kj19 ji11 l1 (y130.set (t131 : Int).toNat (⟨2, wrap64 (Int.tmod (IntKind.u64.wrap (rd l1 x6_2)) 40), (((rd_T34 y130 t131).f2) + 1) % 4294967296⟩ : S34)) (wrap64 (x6_2 + 1))) else (none)) else (none)) else (some false)) else (none)) else (none)))) = some r := H
                              have A32 := Aside0.mk A320
                              clear A320
                              by_cases c33 : t131 < 0
                              · rw [if_pos c33] at H
                                have c33b0 : decide (t131 < 0) = true := decide_eq_true c33
                                clear c33
                                obtain rfl := Option.some.inj H
                                have p129 : 0 ≤ (t127 : Int) := of_decide_eq_true (by first | (with_reducible assumption) | assumption)
                                have q129 : t127 < (x5_2.length : Int) := of_decide_eq_true (by first | (with_reducible assumption) | assumption)
                                obtain ⟨ad129, e129, hx129_0, hx129_1, hx129_2⟩ := at_T34 (Kd.R_reads' HO_5.out).2.2 t127 p129 q129
                                cases e129
                                replace p129 := eq_true p129
                                replace q129 := eq_true q129
                                have p31 : 0 ≤ (t127 : Int) := of_decide_eq_true (by first | (with_reducible assumption) | assumption)
                                have q31 : (t127 : Int) < ((x5_2.length : Int) : Int) := of_decide_eq_true (by first | (with_reducible assumption) | assumption)
                                obtain ⟨go31, co31, eo31, gb31, gl31, cl31, HG31⟩ := Kd.R_form HO_5.out (by omega)
                                (first | cases eo31 | (injection eo31 with ea_ en_ ec_; (first | subst ea_ | (injection ea_ with ea_; subst ea_)); subst ec_; clear en_))
                                have GB31 := Aside0.mk gb31
                                have GG31 := Aside0.mk HG31
                                clear gb31 gl31 HG31
                                (first | simp only [add_plain] at hx129_0 | skip)
                                (first | simp only [add_plain] at hx129_1 | skip)
                                (first | simp only [add_plain] at hx129_2 | skip)
                                obtain ⟨ce31, hcl31, hM31, hcc31, hfr31⟩ := Kd.R_elem HO_5.out z34 (t127 : Int) p31 q31
                                obtain rfl := k34_openM hM31
                                have hx31_0 : wc.cell? ⟨go31, (t127 : Int).toNat * 3, none⟩ = some (.int .i64 ((rd_T34 x5_2 t127).f0)) := hcc31 0 _ rfl
                                have hx31_1 : wc.cell? ⟨go31, (t127 : Int).toNat * 3 + 1, none⟩ = some (.int .i64 ((rd_T34 x5_2 t127).f1)) := hcc31 1 _ rfl
                                have hx31_2 : wc.cell? ⟨go31, (t127 : Int).toNat * 3 + 2, none⟩ = some (.int .u32 ((rd_T34 x5_2 t127).f2)) := hcc31 2 _ rfl
                                have hf31_0 : wc.frozen? ⟨go31, (t127 : Int).toNat * 3, none⟩ = false := hfr31 0
                                have hf31_1 : wc.frozen? ⟨go31, (t127 : Int).toNat * 3 + 1, none⟩ = false := hfr31 1
                                have hf31_2 : wc.frozen? ⟨go31, (t127 : Int).toNat * 3 + 2, none⟩ = false := hfr31 2
                                clear hcl31 hcc31 hfr31 hM31
                                replace p31 := eq_true p31
                                replace q31 := eq_true q31
                                have HX34 := Aside0.mk (show Kd.R k34 34 wc w.heap.size (fun _ => True) (.slice (some ⟨go31, 0, none⟩) x5_2.length co21) x5_2 from (by (with_reducible repeat (first | apply Kd.R_alloc | apply Kd.R_drewN | apply Kd.R_drew)); exact HO_5.out))
                                obtain ⟨ce34, hcl34, hM34, hcc34, hfr34⟩ := Kd.R_elem HX34.out z34 (t127 : Int) (of_decide_eq_true (by first | (with_reducible assumption) | assumption)) (by have h_ : (t127 : Int) < ((x5_2.length : Int) : Int) := of_decide_eq_true (by first | (with_reducible assumption) | assumption); first | exact h_ | (have e_ := (Kd.R_reads' HO_5.out).1; omega) | simpa using h_)
                                obtain rfl := k34_openM hM34
                                have HP34 := Kd.R_seg HX34.out (t127 : Int) (of_decide_eq_true (by first | (with_reducible assumption) | assumption)) (by have h_ : (t127 : Int) < ((x5_2.length : Int) : Int) := of_decide_eq_true (by first | (with_reducible assumption) | assumption); first | exact h_ | (have e_ := (Kd.R_reads' HO_5.out).1; omega) | simpa using h_) (seg := [.int .i64 0, .int .i64 0, .int .u32 ((rd_T34 x5_2 t127).f2)]) (j := 0) hcl34 hcc34 (show 3 ≤ 3 from by decide) (x' := (⟨0, 0, (rd_T34 x5_2 t127).f2⟩ : S34)) (k34_mkM _ _ _ (⟨0, 0, (rd_T34 x5_2 t127).f2⟩ : S34) ) (fun _ hk => hk)
                                have hx34_0 := hcc34 0 _ rfl
                                (try simp only [show (k34).sz = 3 from rfl, Nat.mul_one, Nat.add_zero] at hx34_0)
                                have hf34_0 := hfr34 0
                                (try simp only [show (k34).sz = 3 from rfl, Nat.mul_one, Nat.add_zero] at hf34_0)
                                have hx34_1 := hcc34 1 _ rfl
                                (try simp only [show (k34).sz = 3 from rfl, Nat.mul_one, Nat.add_zero] at hx34_1)
                                have hf34_1 := hfr34 1
                                (try simp only [show (k34).sz = 3 from rfl, Nat.mul_one, Nat.add_zero] at hf34_1)
                                have hx34_2 := hcc34 2 _ rfl
                                (try simp only [show (k34).sz = 3 from rfl, Nat.mul_one, Nat.add_zero] at hx34_2)
                                have hf34_2 := hfr34 2
                                (try simp only [show (k34).sz = 3 from rfl, Nat.mul_one, Nat.add_zero] at hf34_2)
                                clear hcl34 hcc34 hfr34 hM34
                                go_wp2_with (first | ((with_reducible refine gate_store (t := 34) (p := 61) rfl ?_); refine store_event (t := 34) (p := 61) (v := ?vo_w35) (w1 := (((wc.setCell ⟨go31, (t127 : Int).toNat * 3, none⟩ (.int .i64 0)).setCell ⟨go31, (t127 : Int).toNat * 3 + 1, none⟩ (.int .i64 0)).setCell ⟨go31, (t127 : Int).toNat * 3 + 2, none⟩ (.int .u32 ((rd_T34 x5_2 t127).f2)))) ?hg ?ho ?hn ?hr ?_; (case ho => rfl); (case hg => rfl); (case hn => rfl); (case hr => first | (go_simp; done) | (go_simp; rfl)); intro w35 hw; have hg : wc.grownBy w35 (some go31) := (by rw [hw]; exact HP34.2); have hp_ : Kd.R k34 34 w35 w.heap.size (fun _ => True) (.slice (some ⟨go31, 0, none⟩) x5_2.length co21) y130 := (by rw [hw, Ny130.out]; exact HP34.1); clear HP34; have n0_ := Aside0.mk (hp_); have n1_ := Aside0.mk ((by rw [hw]; exact below_set (below_set (below_set (HB.out) GB31.out) GB31.out) GB31.out : Below w.heap.size w w35)); clear HO_5; clear HB; have HO_5 := n0_; have HB := n1_; clear n0_ n1_; clear hg hw hp_) | ((with_reducible refine gate_callee (f := 13) rfl ?_); refine goesL_ (some 63) rfl rfl Try.func13 (by kernel_rfl) rfl #[.slice (some ⟨go31, 0, none⟩) y130.length co21] rfl (by (try simp only [List.map_toArray, List.map_cons, List.map_nil]); first | done | (rw [show y130.length = x5_2.length from (Kd.R_reads' HO_5.out).1.symm] <;> rfl) | rfl | (simp only [List.length_drop, List.length_take]; rfl)) ?_; (with_reducible refine (wear_Next.calls kj19 _ _ y130 t131 _ ?side1 ?side2 A32.out).mono ?_); (case side1 => repeat (first | exact (Kd.R_reads' HO_5.out).2.2 | (with_reducible refine Kd.C_alloc ?_ _) | (with_reducible refine Kd.C_drewN ?_ _) | (with_reducible refine Kd.C_drew ?_))); (case side2 => rw [show y130.length = x5_2.length from (Kd.R_reads' HO_5.out).1.symm]; exact (Kd.R_reads' HO_5.out).2.1); rintro e w36 ⟨rfl, hb⟩; refine ⟨_, rfl, ?_⟩; have n0_ := Aside0.mk (Kd.R_below (by (with_reducible repeat (first | apply Kd.R_alloc | apply Kd.R_drewN | apply Kd.R_drew)); exact HO_5.out) hb); have n1_ := Aside0.mk (below_step (by repeat (first | (with_reducible first | exact HB.out | apply below_alloc | apply pw_below_drewN | apply below_drew1) | exact HB.out)) hb); clear HO_5; clear HB; have HO_5 := n0_; have HB := n1_; clear n0_ n1_; (try clear hb); (try clear hb2); (try clear hk); (try clear hi)))
                                go_ret
                                exact ⟨by first | rfl | (simp [errW_none, errW_some] <;> rfl) | (simp only [← hji11]; first | rfl | (simp [errW_none, errW_some] <;> rfl)) | (simp [*, errW_none, errW_some] <;> rfl), by repeat (first | (with_reducible first | exact HB.out | apply below_alloc | apply pw_below_drewN | apply below_drew1) | exact HB.out)⟩
                              · rw [if_neg c33] at H
                                have c33b0 : decide (t131 < 0) = false := decide_eq_false c33
                                clear c33
                                by_cases c37 : t131 ≥ ji11
                                · rw [if_pos c37] at H
                                  have c37b0 : decide (ji11 ≤ t131) = true := decide_eq_true c37
                                  clear c37
                                  obtain rfl := Option.some.inj H
                                  have p129 : 0 ≤ (t127 : Int) := of_decide_eq_true (by first | (with_reducible assumption) | assumption)
                                  have q129 : t127 < (x5_2.length : Int) := of_decide_eq_true (by first | (with_reducible assumption) | assumption)
                                  obtain ⟨ad129, e129, hx129_0, hx129_1, hx129_2⟩ := at_T34 (Kd.R_reads' HO_5.out).2.2 t127 p129 q129
                                  cases e129
                                  replace p129 := eq_true p129
                                  replace q129 := eq_true q129
                                  have p31 : 0 ≤ (t127 : Int) := of_decide_eq_true (by first | (with_reducible assumption) | assumption)
                                  have q31 : (t127 : Int) < ((x5_2.length : Int) : Int) := of_decide_eq_true (by first | (with_reducible assumption) | assumption)
                                  obtain ⟨go31, co31, eo31, gb31, gl31, cl31, HG31⟩ := Kd.R_form HO_5.out (by omega)
                                  (first | cases eo31 | (injection eo31 with ea_ en_ ec_; (first | subst ea_ | (injection ea_ with ea_; subst ea_)); subst ec_; clear en_))
                                  have GB31 := Aside0.mk gb31
                                  have GG31 := Aside0.mk HG31
                                  clear gb31 gl31 HG31
                                  (first | simp only [add_plain] at hx129_0 | skip)
                                  (first | simp only [add_plain] at hx129_1 | skip)
                                  (first | simp only [add_plain] at hx129_2 | skip)
                                  obtain ⟨ce31, hcl31, hM31, hcc31, hfr31⟩ := Kd.R_elem HO_5.out z34 (t127 : Int) p31 q31
                                  obtain rfl := k34_openM hM31
                                  have hx31_0 : wc.cell? ⟨go31, (t127 : Int).toNat * 3, none⟩ = some (.int .i64 ((rd_T34 x5_2 t127).f0)) := hcc31 0 _ rfl
                                  have hx31_1 : wc.cell? ⟨go31, (t127 : Int).toNat * 3 + 1, none⟩ = some (.int .i64 ((rd_T34 x5_2 t127).f1)) := hcc31 1 _ rfl
                                  have hx31_2 : wc.cell? ⟨go31, (t127 : Int).toNat * 3 + 2, none⟩ = some (.int .u32 ((rd_T34 x5_2 t127).f2)) := hcc31 2 _ rfl
                                  have hf31_0 : wc.frozen? ⟨go31, (t127 : Int).toNat * 3, none⟩ = false := hfr31 0
                                  have hf31_1 : wc.frozen? ⟨go31, (t127 : Int).toNat * 3 + 1, none⟩ = false := hfr31 1
                                  have hf31_2 : wc.frozen? ⟨go31, (t127 : Int).toNat * 3 + 2, none⟩ = false := hfr31 2
                                  clear hcl31 hcc31 hfr31 hM31
                                  replace p31 := eq_true p31
                                  replace q31 := eq_true q31
                                  have HX38 := Aside0.mk (show Kd.R k34 34 wc w.heap.size (fun _ => True) (.slice (some ⟨go31, 0, none⟩) x5_2.length co21) x5_2 from (by (with_reducible repeat (first | apply Kd.R_alloc | apply Kd.R_drewN | apply Kd.R_drew)); exact HO_5.out))
                                  obtain ⟨ce38, hcl38, hM38, hcc38, hfr38⟩ := Kd.R_elem HX38.out z34 (t127 : Int) (of_decide_eq_true (by first | (with_reducible assumption) | assumption)) (by have h_ : (t127 : Int) < ((x5_2.length : Int) : Int) := of_decide_eq_true (by first | (with_reducible assumption) | assumption); first | exact h_ | (have e_ := (Kd.R_reads' HO_5.out).1; omega) | simpa using h_)
                                  obtain rfl := k34_openM hM38
                                  have HP38 := Kd.R_seg HX38.out (t127 : Int) (of_decide_eq_true (by first | (with_reducible assumption) | assumption)) (by have h_ : (t127 : Int) < ((x5_2.length : Int) : Int) := of_decide_eq_true (by first | (with_reducible assumption) | assumption); first | exact h_ | (have e_ := (Kd.R_reads' HO_5.out).1; omega) | simpa using h_) (seg := [.int .i64 0, .int .i64 0, .int .u32 ((rd_T34 x5_2 t127).f2)]) (j := 0) hcl38 hcc38 (show 3 ≤ 3 from by decide) (x' := (⟨0, 0, (rd_T34 x5_2 t127).f2⟩ : S34)) (k34_mkM _ _ _ (⟨0, 0, (rd_T34 x5_2 t127).f2⟩ : S34) ) (fun _ hk => hk)
                                  have hx38_0 := hcc38 0 _ rfl
                                  (try simp only [show (k34).sz = 3 from rfl, Nat.mul_one, Nat.add_zero] at hx38_0)
                                  have hf38_0 := hfr38 0
                                  (try simp only [show (k34).sz = 3 from rfl, Nat.mul_one, Nat.add_zero] at hf38_0)
                                  have hx38_1 := hcc38 1 _ rfl
                                  (try simp only [show (k34).sz = 3 from rfl, Nat.mul_one, Nat.add_zero] at hx38_1)
                                  have hf38_1 := hfr38 1
                                  (try simp only [show (k34).sz = 3 from rfl, Nat.mul_one, Nat.add_zero] at hf38_1)
                                  have hx38_2 := hcc38 2 _ rfl
                                  (try simp only [show (k34).sz = 3 from rfl, Nat.mul_one, Nat.add_zero] at hx38_2)
                                  have hf38_2 := hfr38 2
                                  (try simp only [show (k34).sz = 3 from rfl, Nat.mul_one, Nat.add_zero] at hf38_2)
                                  clear hcl38 hcc38 hfr38 hM38
                                  go_wp2_with (first | ((with_reducible refine gate_store (t := 34) (p := 61) rfl ?_); refine store_event (t := 34) (p := 61) (v := ?vo_w39) (w1 := (((wc.setCell ⟨go31, (t127 : Int).toNat * 3, none⟩ (.int .i64 0)).setCell ⟨go31, (t127 : Int).toNat * 3 + 1, none⟩ (.int .i64 0)).setCell ⟨go31, (t127 : Int).toNat * 3 + 2, none⟩ (.int .u32 ((rd_T34 x5_2 t127).f2)))) ?hg ?ho ?hn ?hr ?_; (case ho => rfl); (case hg => rfl); (case hn => rfl); (case hr => first | (go_simp; done) | (go_simp; rfl)); intro w39 hw; have hg : wc.grownBy w39 (some go31) := (by rw [hw]; exact HP38.2); have hp_ : Kd.R k34 34 w39 w.heap.size (fun _ => True) (.slice (some ⟨go31, 0, none⟩) x5_2.length co21) y130 := (by rw [hw, Ny130.out]; exact HP38.1); clear HP38; have n0_ := Aside0.mk (hp_); have n1_ := Aside0.mk ((by rw [hw]; exact below_set (below_set (below_set (HB.out) GB31.out) GB31.out) GB31.out : Below w.heap.size w w39)); clear HO_5; clear HB; have HO_5 := n0_; have HB := n1_; clear n0_ n1_; clear hg hw hp_) | ((with_reducible refine gate_callee (f := 13) rfl ?_); refine goesL_ (some 63) rfl rfl Try.func13 (by kernel_rfl) rfl #[.slice (some ⟨go31, 0, none⟩) y130.length co21] rfl (by (try simp only [List.map_toArray, List.map_cons, List.map_nil]); first | done | (rw [show y130.length = x5_2.length from (Kd.R_reads' HO_5.out).1.symm] <;> rfl) | rfl | (simp only [List.length_drop, List.length_take]; rfl)) ?_; (with_reducible refine (wear_Next.calls kj19 _ _ y130 t131 _ ?side1 ?side2 A32.out).mono ?_); (case side1 => repeat (first | exact (Kd.R_reads' HO_5.out).2.2 | (with_reducible refine Kd.C_alloc ?_ _) | (with_reducible refine Kd.C_drewN ?_ _) | (with_reducible refine Kd.C_drew ?_))); (case side2 => rw [show y130.length = x5_2.length from (Kd.R_reads' HO_5.out).1.symm]; exact (Kd.R_reads' HO_5.out).2.1); rintro e w40 ⟨rfl, hb⟩; refine ⟨_, rfl, ?_⟩; have n0_ := Aside0.mk (Kd.R_below (by (with_reducible repeat (first | apply Kd.R_alloc | apply Kd.R_drewN | apply Kd.R_drew)); exact HO_5.out) hb); have n1_ := Aside0.mk (below_step (by repeat (first | (with_reducible first | exact HB.out | apply below_alloc | apply pw_below_drewN | apply below_drew1) | exact HB.out)) hb); clear HO_5; clear HB; have HO_5 := n0_; have HB := n1_; clear n0_ n1_; (try clear hb); (try clear hb2); (try clear hk); (try clear hi)))
                                  go_ret
                                  exact ⟨by first | rfl | (simp [errW_none, errW_some] <;> rfl) | (simp only [← hji11]; first | rfl | (simp [errW_none, errW_some] <;> rfl)) | (simp [*, errW_none, errW_some] <;> rfl), by repeat (first | (with_reducible first | exact HB.out | apply below_alloc | apply pw_below_drewN | apply below_drew1) | exact HB.out)⟩
                                · rw [if_neg c37] at H
                                  have c37b0 : decide (ji11 ≤ t131) = false := decide_eq_false c37
                                  clear c37
                                  by_cases c41 : 0 ≤ t131
                                  · rw [if_pos c41] at H
                                    have c41b0 : decide (0 ≤ t131) = true := decide_eq_true c41
                                    clear c41
                                    by_cases c42 : t131 < (x5_2.length : Int)
                                    · rw [if_pos c42] at H
                                      have c42b0 : decide (t131 < (x5_2.length : Int)) = true := decide_eq_true c42
                                      clear c42
                                      by_cases c43 : ((rd_T34 y130 t131).f0) = 0
                                      · rw [if_pos c43] at H
                                        have c43b0 : (((rd_T34 y130 t131).f0) == 0) = true := beq_iff_eq.mpr c43
                                        have c43b1 : (((rd_T34 y130 t131).f0) != 0) = false := bne_eq_false_iff_eq.mpr c43
                                        clear c43
                                        by_cases c44 : 0 ≤ x6_2
                                        · rw [if_pos c44] at H
                                          have c44b0 : decide (0 ≤ x6_2) = true := decide_eq_true c44
                                          clear c44
                                          by_cases c45 : x6_2 < (l1.length : Int)
                                          · rw [if_pos c45] at H
                                            have c45b0 : decide (x6_2 < (l1.length : Int)) = true := decide_eq_true c45
                                            clear c45
                                            obtain ⟨y135, hy135⟩ : ∃ y_ : List (S34), y_ = (y130.set (t131 : Int).toNat (⟨2, wrap64 (Int.tmod (IntKind.u64.wrap (rd l1 x6_2)) 40), (((rd_T34 y130 t131).f2) + 1) % 4294967296⟩ : S34)) := ⟨_, rfl⟩
                                            replace H : (gabionlaw15_WearSpreads.l0 kj19 ji11 l1 y135 (wrap64 (x6_2 + 1))) = some r := by first | (rw [hy135]; with_reducible exact H) | (have H2_ := (Option.bind_some _ _).symm.trans H; rw [hy135]; with_reducible exact H2_) | (have H2_ := (Option.bind_some _ _).symm.trans H; with_reducible exact H2_) | with_reducible exact H | (rw [hy135]; exact H) | exact H
                                            have Ny135 := Aside0.mk hy135
                                            clear hy135
                                            have H' := Aside0.mk H
                                            clear H
                                            have p129 : 0 ≤ (t127 : Int) := of_decide_eq_true (by first | (with_reducible assumption) | assumption)
                                            have q129 : t127 < (x5_2.length : Int) := of_decide_eq_true (by first | (with_reducible assumption) | assumption)
                                            obtain ⟨ad129, e129, hx129_0, hx129_1, hx129_2⟩ := at_T34 (Kd.R_reads' HO_5.out).2.2 t127 p129 q129
                                            cases e129
                                            replace p129 := eq_true p129
                                            replace q129 := eq_true q129
                                            have p31 : 0 ≤ (t127 : Int) := of_decide_eq_true (by first | (with_reducible assumption) | assumption)
                                            have q31 : (t127 : Int) < ((x5_2.length : Int) : Int) := of_decide_eq_true (by first | (with_reducible assumption) | assumption)
                                            obtain ⟨go31, co31, eo31, gb31, gl31, cl31, HG31⟩ := Kd.R_form HO_5.out (by omega)
                                            (first | cases eo31 | (injection eo31 with ea_ en_ ec_; (first | subst ea_ | (injection ea_ with ea_; subst ea_)); subst ec_; clear en_))
                                            have GB31 := Aside0.mk gb31
                                            have GG31 := Aside0.mk HG31
                                            clear gb31 gl31 HG31
                                            (first | simp only [add_plain] at hx129_0 | skip)
                                            (first | simp only [add_plain] at hx129_1 | skip)
                                            (first | simp only [add_plain] at hx129_2 | skip)
                                            obtain ⟨ce31, hcl31, hM31, hcc31, hfr31⟩ := Kd.R_elem HO_5.out z34 (t127 : Int) p31 q31
                                            obtain rfl := k34_openM hM31
                                            have hx31_0 : wc.cell? ⟨go31, (t127 : Int).toNat * 3, none⟩ = some (.int .i64 ((rd_T34 x5_2 t127).f0)) := hcc31 0 _ rfl
                                            have hx31_1 : wc.cell? ⟨go31, (t127 : Int).toNat * 3 + 1, none⟩ = some (.int .i64 ((rd_T34 x5_2 t127).f1)) := hcc31 1 _ rfl
                                            have hx31_2 : wc.cell? ⟨go31, (t127 : Int).toNat * 3 + 2, none⟩ = some (.int .u32 ((rd_T34 x5_2 t127).f2)) := hcc31 2 _ rfl
                                            have hf31_0 : wc.frozen? ⟨go31, (t127 : Int).toNat * 3, none⟩ = false := hfr31 0
                                            have hf31_1 : wc.frozen? ⟨go31, (t127 : Int).toNat * 3 + 1, none⟩ = false := hfr31 1
                                            have hf31_2 : wc.frozen? ⟨go31, (t127 : Int).toNat * 3 + 2, none⟩ = false := hfr31 2
                                            clear hcl31 hcc31 hfr31 hM31
                                            replace p31 := eq_true p31
                                            replace q31 := eq_true q31
                                            have HX47 := Aside0.mk (show Kd.R k34 34 wc w.heap.size (fun _ => True) (.slice (some ⟨go31, 0, none⟩) x5_2.length co21) x5_2 from (by (with_reducible repeat (first | apply Kd.R_alloc | apply Kd.R_drewN | apply Kd.R_drew)); exact HO_5.out))
                                            obtain ⟨ce47, hcl47, hM47, hcc47, hfr47⟩ := Kd.R_elem HX47.out z34 (t127 : Int) (of_decide_eq_true (by first | (with_reducible assumption) | assumption)) (by have h_ : (t127 : Int) < ((x5_2.length : Int) : Int) := of_decide_eq_true (by first | (with_reducible assumption) | assumption); first | exact h_ | (have e_ := (Kd.R_reads' HO_5.out).1; omega) | simpa using h_)
                                            obtain rfl := k34_openM hM47
                                            have HP47 := Kd.R_seg HX47.out (t127 : Int) (of_decide_eq_true (by first | (with_reducible assumption) | assumption)) (by have h_ : (t127 : Int) < ((x5_2.length : Int) : Int) := of_decide_eq_true (by first | (with_reducible assumption) | assumption); first | exact h_ | (have e_ := (Kd.R_reads' HO_5.out).1; omega) | simpa using h_) (seg := [.int .i64 0, .int .i64 0, .int .u32 ((rd_T34 x5_2 t127).f2)]) (j := 0) hcl47 hcc47 (show 3 ≤ 3 from by decide) (x' := (⟨0, 0, (rd_T34 x5_2 t127).f2⟩ : S34)) (k34_mkM _ _ _ (⟨0, 0, (rd_T34 x5_2 t127).f2⟩ : S34) ) (fun _ hk => hk)
                                            have hx47_0 := hcc47 0 _ rfl
                                            (try simp only [show (k34).sz = 3 from rfl, Nat.mul_one, Nat.add_zero] at hx47_0)
                                            have hf47_0 := hfr47 0
                                            (try simp only [show (k34).sz = 3 from rfl, Nat.mul_one, Nat.add_zero] at hf47_0)
                                            have hx47_1 := hcc47 1 _ rfl
                                            (try simp only [show (k34).sz = 3 from rfl, Nat.mul_one, Nat.add_zero] at hx47_1)
                                            have hf47_1 := hfr47 1
                                            (try simp only [show (k34).sz = 3 from rfl, Nat.mul_one, Nat.add_zero] at hf47_1)
                                            have hx47_2 := hcc47 2 _ rfl
                                            (try simp only [show (k34).sz = 3 from rfl, Nat.mul_one, Nat.add_zero] at hx47_2)
                                            have hf47_2 := hfr47 2
                                            (try simp only [show (k34).sz = 3 from rfl, Nat.mul_one, Nat.add_zero] at hf47_2)
                                            clear hcl47 hcc47 hfr47 hM47
                                            try go_wp2_with (first | ((with_reducible refine gate_store (t := 34) (p := 61) rfl ?_); refine store_event (t := 34) (p := 61) (v := ?vo_w48) (w1 := (((wc.setCell ⟨go31, (t127 : Int).toNat * 3, none⟩ (.int .i64 0)).setCell ⟨go31, (t127 : Int).toNat * 3 + 1, none⟩ (.int .i64 0)).setCell ⟨go31, (t127 : Int).toNat * 3 + 2, none⟩ (.int .u32 ((rd_T34 x5_2 t127).f2)))) ?hg ?ho ?hn ?hr ?_; (case ho => rfl); (case hg => rfl); (case hn => rfl); (case hr => first | (go_simp; done) | (go_simp; rfl)); intro w48 hw; have hg : wc.grownBy w48 (some go31) := (by rw [hw]; exact HP47.2); have hp_ : Kd.R k34 34 w48 w.heap.size (fun _ => True) (.slice (some ⟨go31, 0, none⟩) x5_2.length co21) y130 := (by rw [hw, Ny130.out]; exact HP47.1); clear HP47; have n0_ := Aside0.mk (hp_); have n1_ := Aside0.mk ((by rw [hw]; exact below_set (below_set (below_set (HB.out) GB31.out) GB31.out) GB31.out : Below w.heap.size w w48)); clear HO_5; clear HB; have HO_5 := n0_; have HB := n1_; clear n0_ n1_; clear hg hw hp_) | ((with_reducible refine gate_callee (f := 13) rfl ?_); refine goesL_ (some 63) rfl rfl Try.func13 (by kernel_rfl) rfl #[.slice (some ⟨go31, 0, none⟩) y130.length co21] rfl (by (try simp only [List.map_toArray, List.map_cons, List.map_nil]); first | done | (rw [show y130.length = x5_2.length from (Kd.R_reads' HO_5.out).1.symm] <;> rfl) | rfl | (simp only [List.length_drop, List.length_take]; rfl)) ?_; (with_reducible refine (wear_Next.calls kj19 _ _ y130 t131 _ ?side1 ?side2 A32.out).mono ?_); (case side1 => repeat (first | exact (Kd.R_reads' HO_5.out).2.2 | (with_reducible refine Kd.C_alloc ?_ _) | (with_reducible refine Kd.C_drewN ?_ _) | (with_reducible refine Kd.C_drew ?_))); (case side2 => rw [show y130.length = x5_2.length from (Kd.R_reads' HO_5.out).1.symm]; exact (Kd.R_reads' HO_5.out).2.1); rintro e w49 ⟨rfl, hb⟩; refine ⟨_, rfl, ?_⟩; have n0_ := Aside0.mk (Kd.R_below (by (with_reducible repeat (first | apply Kd.R_alloc | apply Kd.R_drewN | apply Kd.R_drew)); exact HO_5.out) hb); have n1_ := Aside0.mk (below_step (by repeat (first | (with_reducible first | exact HB.out | apply below_alloc | apply pw_below_drewN | apply below_drew1) | exact HB.out)) hb); clear HO_5; clear HB; have HO_5 := n0_; have HB := n1_; clear n0_ n1_; (try clear hb); (try clear hb2); (try clear hk); (try clear hi); have p132 : 0 ≤ (t131 : Int) := of_decide_eq_true (by first | (with_reducible assumption) | assumption); have q132 : t131 < (y130.length : Int) := (by have h_ : (t131 : Int) < ((x5_2.length : Int) : Int) := of_decide_eq_true (by first | (with_reducible assumption) | assumption); first | (have e_ := (Kd.R_reads' HO_5.out).1; omega) | simpa only [Ny130.out, List.length_set] using h_); have ql132 : ((t131 : Int) < ((x5_2.length : Int) : Int)) = True := eq_true (of_decide_eq_true (by first | (with_reducible assumption) | assumption)); obtain ⟨ad132, e132, hx132_0, hx132_1, hx132_2⟩ := at_T34 (Kd.R_reads' HO_5.out).2.2 t131 p132 q132; obtain rfl : (⟨go31, 0, none⟩ : Addr) = ad132 := (by injection e132); (first | simp only [add_plain] at hx132_0 | simp only [add_at] at hx132_0 | simp only [Addr.add, Nat.zero_add] at hx132_0 | skip); (first | simp only [add_plain] at hx132_1 | simp only [add_at] at hx132_1 | simp only [Addr.add, Nat.zero_add] at hx132_1 | skip); (first | simp only [add_plain] at hx132_2 | simp only [add_at] at hx132_2 | simp only [Addr.add, Nat.zero_add] at hx132_2 | skip); replace p132 := eq_true p132; replace q132 := eq_true q132))
                                            have n0_ := Aside0.mk (Kd.R_drew HO_5.out)
                                            have n1_ := Aside0.mk (below_drew1 HB.out)
                                            clear HO_5
                                            clear HB
                                            have HO_5 := n0_
                                            have HB := n1_
                                            clear n0_ n1_
                                            have p133 : 0 ≤ (x6_2 : Int) := of_decide_eq_true (by first | (with_reducible assumption) | assumption)
                                            have q133 : x6_2 < (l1.length : Int) := of_decide_eq_true (by first | (with_reducible assumption) | assumption)
                                            obtain ⟨ad133, e133, hx133_0⟩ := Kd.at_int HR1.out x6_2 p133 q133
                                            have hw133_0 := hx133_0
                                            cases e133
                                            replace hx133_0 := (HB.out.cell (World.block_lt_of_cell? w _ hx133_0)).trans hx133_0
                                            replace p133 := eq_true p133
                                            replace q133 := eq_true q133
                                            have p134 : 0 ≤ (t131 : Int) := of_decide_eq_true (by first | (with_reducible assumption) | assumption)
                                            have q134 : t131 < (y130.length : Int) := (by have h_ : (t131 : Int) < ((x5_2.length : Int) : Int) := of_decide_eq_true (by first | (with_reducible assumption) | assumption); first | (have e_ := (Kd.R_reads' HO_5.out).1; omega) | simpa only [Ny130.out, List.length_set] using h_)
                                            have ql134 : ((t131 : Int) < ((x5_2.length : Int) : Int)) = True := eq_true (of_decide_eq_true (by first | (with_reducible assumption) | assumption))
                                            obtain ⟨ad134, e134, hx134_0, hx134_1, hx134_2⟩ := at_T34 (Kd.R_reads' HO_5.out).2.2 t131 p134 q134
                                            obtain rfl : (⟨go31, 0, none⟩ : Addr) = ad134 := (by injection e134)
                                            (first | simp only [add_plain] at hx134_0 | simp only [add_at] at hx134_0 | simp only [Addr.add, Nat.zero_add] at hx134_0 | skip)
                                            (first | simp only [add_plain] at hx134_1 | simp only [add_at] at hx134_1 | simp only [Addr.add, Nat.zero_add] at hx134_1 | skip)
                                            (first | simp only [add_plain] at hx134_2 | simp only [add_at] at hx134_2 | simp only [Addr.add, Nat.zero_add] at hx134_2 | skip)
                                            replace p134 := eq_true p134
                                            replace q134 := eq_true q134
                                            have p46 : 0 ≤ (t131 : Int) := of_decide_eq_true (by first | (with_reducible assumption) | assumption)
                                            have q46 : (t131 : Int) < ((x5_2.length : Int) : Int) := of_decide_eq_true (by first | (with_reducible assumption) | assumption)
                                            obtain ⟨ce46, hcl46, hM46, hcc46, hfr46⟩ := Kd.R_elem HO_5.out z34 (t131 : Int) p46 q46
                                            obtain rfl := k34_openM hM46
                                            have hx46_0 : World.cell? _ ⟨go31, (t131 : Int).toNat * 3, none⟩ = some (.int .i64 ((rd_T34 y130 t131).f0)) := hcc46 0 _ rfl
                                            have hx46_1 : World.cell? _ ⟨go31, (t131 : Int).toNat * 3 + 1, none⟩ = some (.int .i64 ((rd_T34 y130 t131).f1)) := hcc46 1 _ rfl
                                            have hx46_2 : World.cell? _ ⟨go31, (t131 : Int).toNat * 3 + 2, none⟩ = some (.int .u32 ((rd_T34 y130 t131).f2)) := hcc46 2 _ rfl
                                            have hf46_0 : World.frozen? _ ⟨go31, (t131 : Int).toNat * 3, none⟩ = false := hfr46 0
                                            have hf46_1 : World.frozen? _ ⟨go31, (t131 : Int).toNat * 3 + 1, none⟩ = false := hfr46 1
                                            have hf46_2 : World.frozen? _ ⟨go31, (t131 : Int).toNat * 3 + 2, none⟩ = false := hfr46 2
                                            clear hcl46 hcc46 hfr46 hM46
                                            replace p46 := eq_true p46
                                            replace q46 := eq_true q46
                                            obtain ⟨ce51, hcl51, hM51, hcc51, hfr51⟩ := Kd.R_elem HO_5.out z34 (t131 : Int) (of_decide_eq_true (by first | (with_reducible assumption) | assumption)) (by have h_ : (t131 : Int) < ((x5_2.length : Int) : Int) := of_decide_eq_true (by first | (with_reducible assumption) | assumption); first | exact h_ | (have e_ := (Kd.R_reads' HO_5.out).1; omega) | simpa using h_)
                                            obtain rfl := k34_openM hM51
                                            have HP51 := (Kd.R_seg HO_5.out (t131 : Int) (of_decide_eq_true (by first | (with_reducible assumption) | assumption)) (by have h_ : (t131 : Int) < ((x5_2.length : Int) : Int) := of_decide_eq_true (by first | (with_reducible assumption) | assumption); first | exact h_ | (have e_ := (Kd.R_reads' HO_5.out).1; omega) | simpa using h_) (seg := [.int .i64 2, .int .i64 (wrap64 (Int.tmod (IntKind.u64.wrap (rd l1 x6_2)) 40)), .int .u32 ((((rd_T34 y130 t131).f2) + 1) % 4294967296)]) (j := 0) hcl51 hcc51 (show 3 ≤ 3 from by decide) (x' := (⟨2, wrap64 (Int.tmod (IntKind.u64.wrap (rd l1 x6_2)) 40), (((rd_T34 y130 t131).f2) + 1) % 4294967296⟩ : S34)) (k34_mkM _ _ _ (⟨2, wrap64 (Int.tmod (IntKind.u64.wrap (rd l1 x6_2)) 40), (((rd_T34 y130 t131).f2) + 1) % 4294967296⟩ : S34) ) (fun _ hk => hk)).1
                                            rw [← Ny135.out] at HP51
                                            have HQ51 := Aside0.mk HP51
                                            clear hcl51 hcc51 hfr51 hM51 HP51
                                            refine start_ (n := 18) (S := fun w' => w'.cell? (ad133.add (x6_2).toNat) = some (.int .i64 (rd l1 x6_2)) ∧ w'.cell? ⟨go31, (t131).toNat * 3, none⟩ = some (.int .i64 ((rd_T34 y130 t131).f0)) ∧ w'.cell? ⟨go31, (t131).toNat * 3 + 1, none⟩ = some (.int .i64 ((rd_T34 y130 t131).f1)) ∧ w'.cell? ⟨go31, (t131).toNat * 3 + 2, none⟩ = some (.int .u32 ((rd_T34 y130 t131).f2))) (ds := [17]) #[false, false, false, false, false, false, false, false, false, false, false, false, false, false, false, false, false, false] (by kernel_rfl) rfl rfl ⟨((HB.out.cell (World.block_lt_of_cell? w _ hw133_0)).trans hw133_0), hx134_0, hx134_1, hx134_2⟩ (fun hHeld => ?_); refine with_tabW gabionlaw15_WearSpreads.tab16 gabionlaw15_WearSpreads.bits16 (fun HT_ HW_ => ?_)
                                            generalize w49.drew = w50 at HO_5 HB HQ51 hf46_0 hf46_1 hf46_2 hx133_0 hx134_0 hx134_1 hx134_2 hx46_0 hx46_1 hx46_2 hHeld ⊢
                                            refine pure_ (i := 0) (N := some 79) (v := ?_) (a' := ?_) #[true, false, false, false, false, false, false, false, false, false, false, false, false, false, false, false, false, false] rfl rfl (any_of HT_.out (by kernel_rfl)) (fun _ _ _ h => h) (Or.inl ⟨by rfl, ?_⟩) ?_ ?_
                                            rotate_left
                                            · intro w'
                                              go_simp
                                              with_reducible rfl
                                            rotate_left
                                            · simp only [Act.put, List.setIfInBounds_toArray, List.set_cons_zero, List.set_cons_succ, i64_w, i32_w]
                                              rfl
                                            refine pure_ (i := 1) (N := some 80) (v := ?_) (a' := ?_) #[true, true, false, false, false, false, false, false, false, false, false, false, false, false, false, false, false, false] rfl rfl (any_of HT_.out (by kernel_rfl)) (fun _ _ _ h => h) (Or.inl ⟨by rfl, ?_⟩) ?_ ?_
                                            rotate_left
                                            · intro w'
                                              go_simp
                                              with_reducible rfl
                                            rotate_left
                                            · simp only [Act.put, List.setIfInBounds_toArray, List.set_cons_zero, List.set_cons_succ, i64_w, i32_w]
                                              rfl
                                            refine pure_ (i := 2) (N := some 81) (v := ?_) (a' := ?_) #[true, true, true, false, false, false, false, false, false, false, false, false, false, false, false, false, false, false] rfl rfl (any_of HT_.out (by kernel_rfl)) (fun _ _ _ h => h) (Or.inl ⟨by rfl, ?_⟩) ?_ ?_
                                            rotate_left
                                            · intro w'
                                              go_simp
                                              with_reducible rfl
                                            rotate_left
                                            · simp only [Act.put, List.setIfInBounds_toArray, List.set_cons_zero, List.set_cons_succ, i64_w, i32_w]
                                              rfl
                                            refine pure_ (i := 3) (N := some 82) (v := ?_) (a' := ?_) #[true, true, true, true, false, false, false, false, false, false, false, false, false, false, false, false, false, false] rfl rfl (any_of HT_.out (by kernel_rfl)) (fun _ _ _ h => h) (Or.inl ⟨by rfl, ?_⟩) ?_ ?_
                                            rotate_left
                                            · intro w'
                                              go_simp
                                              with_reducible rfl
                                            rotate_left
                                            · simp only [Act.put, List.setIfInBounds_toArray, List.set_cons_zero, List.set_cons_succ, i64_w, i32_w]
                                              rfl
                                            refine pure_ (i := 4) (N := some 83) (v := ?_) (a' := ?_) #[true, true, true, true, true, false, false, false, false, false, false, false, false, false, false, false, false, false] rfl rfl (any_of HT_.out (by kernel_rfl)) (fun _ _ _ h => h) (Or.inl ⟨by rfl, ?_⟩) ?_ ?_
                                            rotate_left
                                            · intro w'
                                              go_simp
                                              with_reducible rfl
                                            rotate_left
                                            · simp only [Act.put, List.setIfInBounds_toArray, List.set_cons_zero, List.set_cons_succ, i64_w, i32_w]
                                              rfl
                                            refine pure_ (i := 9) (N := some 88) (v := ?_) (a' := ?_) #[true, true, true, true, true, false, false, false, false, true, false, false, false, false, false, false, false, false] rfl rfl (any_of HT_.out (by kernel_rfl)) (fun _ _ _ h => h) (Or.inl ⟨by rfl, ?_⟩) ?_ ?_
                                            rotate_left
                                            · intro w'
                                              go_simp
                                              with_reducible rfl
                                            rotate_left
                                            · simp only [Act.put, List.setIfInBounds_toArray, List.set_cons_zero, List.set_cons_succ, i64_w, i32_w]
                                              rfl
                                            refine pure_ (i := 10) (N := some 89) (v := ?_) (a' := ?_) #[true, true, true, true, true, false, false, false, false, true, true, false, false, false, false, false, false, false] rfl rfl (any_of HT_.out (by kernel_rfl)) (fun _ _ _ h => h) (Or.inl ⟨by rfl, ?_⟩) ?_ ?_
                                            rotate_left
                                            · intro w'
                                              go_simp
                                              with_reducible rfl
                                            rotate_left
                                            · simp only [Act.put, List.setIfInBounds_toArray, List.set_cons_zero, List.set_cons_succ, i64_w, i32_w]
                                              rfl
                                            refine pure_ (i := 11) (N := some 90) (v := ?_) (a' := ?_) #[true, true, true, true, true, false, false, false, false, true, true, true, false, false, false, false, false, false] rfl rfl (any_of HT_.out (by kernel_rfl)) (fun _ _ _ h => h) (Or.inl ⟨by rfl, ?_⟩) ?_ ?_
                                            rotate_left
                                            · intro w'
                                              go_simp
                                              with_reducible rfl
                                            rotate_left
                                            · simp only [Act.put, List.setIfInBounds_toArray, List.set_cons_zero, List.set_cons_succ, i64_w, i32_w]
                                              rfl
                                            refine pure_ (i := 12) (N := some 91) (v := ?_) (a' := ?_) #[true, true, true, true, true, false, false, false, false, true, true, true, true, false, false, false, false, false] rfl rfl (any_of HT_.out (by kernel_rfl)) (fun _ _ _ h => h) (Or.inl ⟨by rfl, ?_⟩) ?_ ?_
                                            rotate_left
                                            · intro w'
                                              go_simp
                                              with_reducible rfl
                                            rotate_left
                                            · simp only [Act.put, List.setIfInBounds_toArray, List.set_cons_zero, List.set_cons_succ, i64_w, i32_w]
                                              rfl
                                            refine take_ (i := 5) (N := some 84) (v := ?_) (a' := ?_) #[true, true, true, true, true, true, false, false, false, true, true, true, true, false, false, false, false, false] rfl rfl (take_ofW HT_.out HW_.out (by kernel_rfl)) (fun _ _ _ h => h) (Or.inl ⟨by rfl, ?_⟩) hHeld ?_ ?_
                                            rotate_left
                                            · rintro w' ⟨s0, s1, s2, s3⟩
                                              go_simp
                                              with_reducible rfl
                                            rotate_left
                                            · simp only [Act.put, List.setIfInBounds_toArray, List.set_cons_zero, List.set_cons_succ, i64_w, i32_w]
                                              rfl
                                            refine pure_ (i := 6) (N := some 85) (v := ?_) (a' := ?_) #[true, true, true, true, true, true, true, false, false, true, true, true, true, false, false, false, false, false] rfl rfl (any_of HT_.out (by kernel_rfl)) (fun _ _ _ h => h) (Or.inl ⟨by rfl, ?_⟩) ?_ ?_
                                            rotate_left
                                            · intro w'
                                              go_simp
                                              with_reducible rfl
                                            rotate_left
                                            · simp only [Act.put, List.setIfInBounds_toArray, List.set_cons_zero, List.set_cons_succ, i64_w, i32_w]
                                              rfl
                                            refine pure_ (i := 7) (N := some 86) (v := ?_) (a' := ?_) #[true, true, true, true, true, true, true, true, false, true, true, true, true, false, false, false, false, false] rfl rfl (any_of HT_.out (by kernel_rfl)) (fun _ _ _ h => h) (Or.inl ⟨by rfl, ?_⟩) ?_ ?_
                                            rotate_left
                                            · intro w'
                                              go_simp
                                              with_reducible rfl
                                            rotate_left
                                            · simp only [Act.put, List.setIfInBounds_toArray, List.set_cons_zero, List.set_cons_succ, i64_w, i32_w]
                                              rfl
                                            refine pure_ (i := 8) (N := some 87) (v := ?_) (a' := ?_) #[true, true, true, true, true, true, true, true, true, true, true, true, true, false, false, false, false, false] rfl rfl (any_of HT_.out (by kernel_rfl)) (fun _ _ _ h => h) (Or.inl ⟨by rfl, ?_⟩) ?_ ?_
                                            rotate_left
                                            · intro w'
                                              go_simp
                                              with_reducible rfl
                                            rotate_left
                                            · simp only [Act.put, List.setIfInBounds_toArray, List.set_cons_zero, List.set_cons_succ, i64_w, i32_w]
                                              rfl
                                            refine take_ (i := 13) (N := some 92) (v := ?_) (a' := ?_) #[true, true, true, true, true, true, true, true, true, true, true, true, true, true, false, false, false, false] rfl rfl (take_ofW HT_.out HW_.out (by kernel_rfl)) (fun _ _ _ h => h) (Or.inl ⟨by rfl, ?_⟩) hHeld ?_ ?_
                                            rotate_left
                                            · rintro w' ⟨s0, s1, s2, s3⟩
                                              go_simp
                                              with_reducible rfl
                                            rotate_left
                                            · simp only [Act.put, List.setIfInBounds_toArray, List.set_cons_zero, List.set_cons_succ, i64_w, i32_w]
                                              rfl
                                            refine pure_ (i := 14) (N := some 93) (v := ?_) (a' := ?_) #[true, true, true, true, true, true, true, true, true, true, true, true, true, true, true, false, false, false] rfl rfl (any_of HT_.out (by kernel_rfl)) (fun _ _ _ h => h) (Or.inl ⟨by rfl, ?_⟩) ?_ ?_
                                            rotate_left
                                            · intro w'
                                              go_simp
                                              with_reducible rfl
                                            rotate_left
                                            · simp only [Act.put, List.setIfInBounds_toArray, List.set_cons_zero, List.set_cons_succ, i64_w, i32_w]
                                              rfl
                                            refine pure_ (i := 15) (N := some 94) (v := ?_) (a' := ?_) #[true, true, true, true, true, true, true, true, true, true, true, true, true, true, true, true, false, false] rfl rfl (any_of HT_.out (by kernel_rfl)) (fun _ _ _ h => h) (Or.inl ⟨by rfl, ?_⟩) ?_ ?_
                                            rotate_left
                                            · intro w'
                                              go_simp
                                              with_reducible rfl
                                            rotate_left
                                            · simp only [Act.put, List.setIfInBounds_toArray, List.set_cons_zero, List.set_cons_succ, i64_w, i32_w]
                                              rfl
                                            refine pure_ (i := 16) (N := some 95) (v := ?_) (a' := ?_) #[true, true, true, true, true, true, true, true, true, true, true, true, true, true, true, true, true, false] rfl rfl (any_of HT_.out (by kernel_rfl)) (fun _ _ _ h => h) (Or.inl ⟨by rfl, ?_⟩) ?_ ?_
                                            rotate_left
                                            · intro w'
                                              go_simp
                                              with_reducible rfl
                                            rotate_left
                                            · simp only [Act.put, List.setIfInBounds_toArray, List.set_cons_zero, List.set_cons_succ, i64_w, i32_w]
                                              rfl
                                            refine last_ (i := 17) (N := none) #[true, true, true, true, true, true, true, true, true, true, true, true, true, true, true, true, true, true] rfl rfl (one_of HT_.out (by kernel_rfl)) (by decide) (fun K hK => ?_)
                                            refine skip_ (w1 := ?_) (by rfl) rfl ?_ ?_
                                            rotate_left
                                            · go_simp
                                              rfl
                                            refine hK.out _ _ ?_
                                            clear hK K
                                            refine done_ (done_of HT_.out (by kernel_rfl)) ?_
                                            try go_wp2
                                            go_roundg kj19
                                            case measure => have := HJ2.out; have := HK2.out; have := HJ19.out; omega
                                            case rel => exact ⟨(y135), (wrap64 (x6_2 + 1)), (by first | rfl | (simp; done) | (simp [*]; done)), H', ⟨by have := HJ2.out; have := HK2.out; have := HJ19.out; omega⟩, ⟨by (with_reducible repeat (first | apply Kd.R_alloc | apply Kd.R_drewN | apply Kd.R_drew)); exact HQ51.out⟩, ⟨by repeat (first | (with_reducible first | exact HB.out | apply below_alloc | apply pw_below_drewN | apply below_drew1 | refine below_set ?_ GB31.out | refine below_set ?_ GB31.out | refine below_set ?_ GB31.out) | exact HB.out)⟩⟩
                                          · rw [if_neg c45] at H
                                            exact absurd H (by simp)
                                        · rw [if_neg c44] at H
                                          exact absurd H (by simp)
                                      · rw [if_neg c43] at H
                                        have c43b0 : (((rd_T34 y130 t131).f0) == 0) = false := beq_eq_false_iff_ne.mpr c43
                                        have c43b1 : (((rd_T34 y130 t131).f0) != 0) = true := bne_iff_ne.mpr c43
                                        obtain rfl := Option.some.inj H
                                        have p129 : 0 ≤ (t127 : Int) := of_decide_eq_true (by first | (with_reducible assumption) | assumption)
                                        have q129 : t127 < (x5_2.length : Int) := of_decide_eq_true (by first | (with_reducible assumption) | assumption)
                                        obtain ⟨ad129, e129, hx129_0, hx129_1, hx129_2⟩ := at_T34 (Kd.R_reads' HO_5.out).2.2 t127 p129 q129
                                        cases e129
                                        replace p129 := eq_true p129
                                        replace q129 := eq_true q129
                                        have p31 : 0 ≤ (t127 : Int) := of_decide_eq_true (by first | (with_reducible assumption) | assumption)
                                        have q31 : (t127 : Int) < ((x5_2.length : Int) : Int) := of_decide_eq_true (by first | (with_reducible assumption) | assumption)
                                        obtain ⟨go31, co31, eo31, gb31, gl31, cl31, HG31⟩ := Kd.R_form HO_5.out (by omega)
                                        (first | cases eo31 | (injection eo31 with ea_ en_ ec_; (first | subst ea_ | (injection ea_ with ea_; subst ea_)); subst ec_; clear en_))
                                        have GB31 := Aside0.mk gb31
                                        have GG31 := Aside0.mk HG31
                                        clear gb31 gl31 HG31
                                        (first | simp only [add_plain] at hx129_0 | skip)
                                        (first | simp only [add_plain] at hx129_1 | skip)
                                        (first | simp only [add_plain] at hx129_2 | skip)
                                        obtain ⟨ce31, hcl31, hM31, hcc31, hfr31⟩ := Kd.R_elem HO_5.out z34 (t127 : Int) p31 q31
                                        obtain rfl := k34_openM hM31
                                        have hx31_0 : wc.cell? ⟨go31, (t127 : Int).toNat * 3, none⟩ = some (.int .i64 ((rd_T34 x5_2 t127).f0)) := hcc31 0 _ rfl
                                        have hx31_1 : wc.cell? ⟨go31, (t127 : Int).toNat * 3 + 1, none⟩ = some (.int .i64 ((rd_T34 x5_2 t127).f1)) := hcc31 1 _ rfl
                                        have hx31_2 : wc.cell? ⟨go31, (t127 : Int).toNat * 3 + 2, none⟩ = some (.int .u32 ((rd_T34 x5_2 t127).f2)) := hcc31 2 _ rfl
                                        have hf31_0 : wc.frozen? ⟨go31, (t127 : Int).toNat * 3, none⟩ = false := hfr31 0
                                        have hf31_1 : wc.frozen? ⟨go31, (t127 : Int).toNat * 3 + 1, none⟩ = false := hfr31 1
                                        have hf31_2 : wc.frozen? ⟨go31, (t127 : Int).toNat * 3 + 2, none⟩ = false := hfr31 2
                                        clear hcl31 hcc31 hfr31 hM31
                                        replace p31 := eq_true p31
                                        replace q31 := eq_true q31
                                        have HX52 := Aside0.mk (show Kd.R k34 34 wc w.heap.size (fun _ => True) (.slice (some ⟨go31, 0, none⟩) x5_2.length co21) x5_2 from (by (with_reducible repeat (first | apply Kd.R_alloc | apply Kd.R_drewN | apply Kd.R_drew)); exact HO_5.out))
                                        obtain ⟨ce52, hcl52, hM52, hcc52, hfr52⟩ := Kd.R_elem HX52.out z34 (t127 : Int) (of_decide_eq_true (by first | (with_reducible assumption) | assumption)) (by have h_ : (t127 : Int) < ((x5_2.length : Int) : Int) := of_decide_eq_true (by first | (with_reducible assumption) | assumption); first | exact h_ | (have e_ := (Kd.R_reads' HO_5.out).1; omega) | simpa using h_)
                                        obtain rfl := k34_openM hM52
                                        have HP52 := Kd.R_seg HX52.out (t127 : Int) (of_decide_eq_true (by first | (with_reducible assumption) | assumption)) (by have h_ : (t127 : Int) < ((x5_2.length : Int) : Int) := of_decide_eq_true (by first | (with_reducible assumption) | assumption); first | exact h_ | (have e_ := (Kd.R_reads' HO_5.out).1; omega) | simpa using h_) (seg := [.int .i64 0, .int .i64 0, .int .u32 ((rd_T34 x5_2 t127).f2)]) (j := 0) hcl52 hcc52 (show 3 ≤ 3 from by decide) (x' := (⟨0, 0, (rd_T34 x5_2 t127).f2⟩ : S34)) (k34_mkM _ _ _ (⟨0, 0, (rd_T34 x5_2 t127).f2⟩ : S34) ) (fun _ hk => hk)
                                        have hx52_0 := hcc52 0 _ rfl
                                        (try simp only [show (k34).sz = 3 from rfl, Nat.mul_one, Nat.add_zero] at hx52_0)
                                        have hf52_0 := hfr52 0
                                        (try simp only [show (k34).sz = 3 from rfl, Nat.mul_one, Nat.add_zero] at hf52_0)
                                        have hx52_1 := hcc52 1 _ rfl
                                        (try simp only [show (k34).sz = 3 from rfl, Nat.mul_one, Nat.add_zero] at hx52_1)
                                        have hf52_1 := hfr52 1
                                        (try simp only [show (k34).sz = 3 from rfl, Nat.mul_one, Nat.add_zero] at hf52_1)
                                        have hx52_2 := hcc52 2 _ rfl
                                        (try simp only [show (k34).sz = 3 from rfl, Nat.mul_one, Nat.add_zero] at hx52_2)
                                        have hf52_2 := hfr52 2
                                        (try simp only [show (k34).sz = 3 from rfl, Nat.mul_one, Nat.add_zero] at hf52_2)
                                        clear hcl52 hcc52 hfr52 hM52
                                        go_wp2_with (first | ((with_reducible refine gate_store (t := 34) (p := 61) rfl ?_); refine store_event (t := 34) (p := 61) (v := ?vo_w53) (w1 := (((wc.setCell ⟨go31, (t127 : Int).toNat * 3, none⟩ (.int .i64 0)).setCell ⟨go31, (t127 : Int).toNat * 3 + 1, none⟩ (.int .i64 0)).setCell ⟨go31, (t127 : Int).toNat * 3 + 2, none⟩ (.int .u32 ((rd_T34 x5_2 t127).f2)))) ?hg ?ho ?hn ?hr ?_; (case ho => rfl); (case hg => rfl); (case hn => rfl); (case hr => first | (go_simp; done) | (go_simp; rfl)); intro w53 hw; have hg : wc.grownBy w53 (some go31) := (by rw [hw]; exact HP52.2); have hp_ : Kd.R k34 34 w53 w.heap.size (fun _ => True) (.slice (some ⟨go31, 0, none⟩) x5_2.length co21) y130 := (by rw [hw, Ny130.out]; exact HP52.1); clear HP52; have n0_ := Aside0.mk (hp_); have n1_ := Aside0.mk ((by rw [hw]; exact below_set (below_set (below_set (HB.out) GB31.out) GB31.out) GB31.out : Below w.heap.size w w53)); clear HO_5; clear HB; have HO_5 := n0_; have HB := n1_; clear n0_ n1_; clear hg hw hp_) | ((with_reducible refine gate_callee (f := 13) rfl ?_); refine goesL_ (some 63) rfl rfl Try.func13 (by kernel_rfl) rfl #[.slice (some ⟨go31, 0, none⟩) y130.length co21] rfl (by (try simp only [List.map_toArray, List.map_cons, List.map_nil]); first | done | (rw [show y130.length = x5_2.length from (Kd.R_reads' HO_5.out).1.symm] <;> rfl) | rfl | (simp only [List.length_drop, List.length_take]; rfl)) ?_; (with_reducible refine (wear_Next.calls kj19 _ _ y130 t131 _ ?side1 ?side2 A32.out).mono ?_); (case side1 => repeat (first | exact (Kd.R_reads' HO_5.out).2.2 | (with_reducible refine Kd.C_alloc ?_ _) | (with_reducible refine Kd.C_drewN ?_ _) | (with_reducible refine Kd.C_drew ?_))); (case side2 => rw [show y130.length = x5_2.length from (Kd.R_reads' HO_5.out).1.symm]; exact (Kd.R_reads' HO_5.out).2.1); rintro e w54 ⟨rfl, hb⟩; refine ⟨_, rfl, ?_⟩; have n0_ := Aside0.mk (Kd.R_below (by (with_reducible repeat (first | apply Kd.R_alloc | apply Kd.R_drewN | apply Kd.R_drew)); exact HO_5.out) hb); have n1_ := Aside0.mk (below_step (by repeat (first | (with_reducible first | exact HB.out | apply below_alloc | apply pw_below_drewN | apply below_drew1) | exact HB.out)) hb); clear HO_5; clear HB; have HO_5 := n0_; have HB := n1_; clear n0_ n1_; (try clear hb); (try clear hb2); (try clear hk); (try clear hi); have p132 : 0 ≤ (t131 : Int) := of_decide_eq_true (by first | (with_reducible assumption) | assumption); have q132 : t131 < (y130.length : Int) := (by have h_ : (t131 : Int) < ((x5_2.length : Int) : Int) := of_decide_eq_true (by first | (with_reducible assumption) | assumption); first | (have e_ := (Kd.R_reads' HO_5.out).1; omega) | simpa only [Ny130.out, List.length_set] using h_); have ql132 : ((t131 : Int) < ((x5_2.length : Int) : Int)) = True := eq_true (of_decide_eq_true (by first | (with_reducible assumption) | assumption)); obtain ⟨ad132, e132, hx132_0, hx132_1, hx132_2⟩ := at_T34 (Kd.R_reads' HO_5.out).2.2 t131 p132 q132; obtain rfl : (⟨go31, 0, none⟩ : Addr) = ad132 := (by injection e132); (first | simp only [add_plain] at hx132_0 | simp only [add_at] at hx132_0 | simp only [Addr.add, Nat.zero_add] at hx132_0 | skip); (first | simp only [add_plain] at hx132_1 | simp only [add_at] at hx132_1 | simp only [Addr.add, Nat.zero_add] at hx132_1 | skip); (first | simp only [add_plain] at hx132_2 | simp only [add_at] at hx132_2 | simp only [Addr.add, Nat.zero_add] at hx132_2 | skip); replace p132 := eq_true p132; replace q132 := eq_true q132))
                                        go_ret
                                        exact ⟨by first | rfl | (simp [errW_none, errW_some] <;> rfl) | (simp only [← hji11]; first | rfl | (simp [errW_none, errW_some] <;> rfl)) | (simp [*, errW_none, errW_some] <;> rfl), by repeat (first | (with_reducible first | exact HB.out | apply below_alloc | apply pw_below_drewN | apply below_drew1) | exact HB.out)⟩
                                    · rw [if_neg c42] at H
                                      exact absurd H (by simp)
                                  · rw [if_neg c41] at H
                                    exact absurd H (by simp)
                            · rw [if_neg c30] at H
                              exact absurd H (by simp)
                          · rw [if_neg c29] at H
                            exact absurd H (by simp)
                  · rw [if_neg c18] at H
                    have c18b0 : decide (t126 < 2) = false := decide_eq_false c18
                    clear c18
                    replace H := Option.bind_eq_some_iff.mp H
                    obtain ⟨t136, A550, H⟩ := H
                    replace H : (if t136 < 0 then (some false) else (if t136 ≥ ji11 then (some false) else (if 0 ≤ t136 then (if t136 < (x5_2.length : Int) then (if ((rd_T34 x5_2 t136).f0) = 0 then (if 0 ≤ x6_2 then (gabionlaw15_WearSpreads.l0 k2 ji11 l1 (x5_2.set (t136 : Int).toNat (⟨2, wrap64 (Int.tmod (IntKind.u64.wrap (rd l1 x6_2)) 40), (((rd_T34 x5_2 t136).f2) + 1) % 4294967296⟩ : S34)) (wrap64 (x6_2 + 1))) else (none)) else (some false)) else (none)) else (none)))) = some r := H
                    have A55 := Aside0.mk A550
                    clear A550
                    by_cases c56 : t136 < 0
                    · rw [if_pos c56] at H
                      have c56b0 : decide (t136 < 0) = true := decide_eq_true c56
                      clear c56
                      obtain rfl := Option.some.inj H
                      obtain ⟨Ao57, co57, eo57⟩ := Kd.R_slice HO_5.out
                      subst eo57
                      go_wp2_with (first | ((with_reducible refine gate_callee (f := 12) rfl ?_); refine goesL_ (some 34) rfl rfl Try.func12 (by kernel_rfl) rfl #[.slice Ao57 x5_2.length co57, .int .i64 0] rfl (by (try simp only [List.map_toArray, List.map_cons, List.map_nil]); first | done | rfl | (simp only [List.length_drop, List.length_take]; rfl)) ?_; (with_reducible refine (wear_Count.calls k2 _ _ x5_2 0 t126 _ ?side1 ?side2 A17.out).mono ?_); (case side1 => repeat (first | exact (Kd.R_reads' HO_5.out).2.2 | (with_reducible refine Kd.C_alloc ?_ _) | (with_reducible refine Kd.C_drewN ?_ _) | (with_reducible refine Kd.C_drew ?_))); (case side2 => exact (Kd.R_reads' HO_5.out).2.1); rintro e w58 ⟨rfl, hb⟩; refine ⟨_, rfl, ?_⟩; have n0_ := Aside0.mk (Kd.R_below (by (with_reducible repeat (first | apply Kd.R_alloc | apply Kd.R_drewN | apply Kd.R_drew)); exact HO_5.out) hb); have n1_ := Aside0.mk (below_step (by repeat (first | (with_reducible first | exact HB.out | apply below_alloc | apply pw_below_drewN | apply below_drew1) | exact HB.out)) hb); clear HO_5; clear HB; have HO_5 := n0_; have HB := n1_; clear n0_ n1_; (try clear hb); (try clear hb2); (try clear hk); (try clear hi)) | ((with_reducible refine gate_callee (f := 13) rfl ?_); refine goesL_ (some 63) rfl rfl Try.func13 (by kernel_rfl) rfl #[.slice Ao57 x5_2.length co57] rfl (by (try simp only [List.map_toArray, List.map_cons, List.map_nil]); first | done | rfl | (simp only [List.length_drop, List.length_take]; rfl)) ?_; (with_reducible refine (wear_Next.calls k2 _ _ x5_2 t136 _ ?side1 ?side2 A55.out).mono ?_); (case side1 => repeat (first | exact (Kd.R_reads' HO_5.out).2.2 | (with_reducible refine Kd.C_alloc ?_ _) | (with_reducible refine Kd.C_drewN ?_ _) | (with_reducible refine Kd.C_drew ?_))); (case side2 => exact (Kd.R_reads' HO_5.out).2.1); rintro e w59 ⟨rfl, hb⟩; refine ⟨_, rfl, ?_⟩; have n0_ := Aside0.mk (Kd.R_below (by (with_reducible repeat (first | apply Kd.R_alloc | apply Kd.R_drewN | apply Kd.R_drew)); exact HO_5.out) hb); have n1_ := Aside0.mk (below_step (by repeat (first | (with_reducible first | exact HB.out | apply below_alloc | apply pw_below_drewN | apply below_drew1) | exact HB.out)) hb); clear HO_5; clear HB; have HO_5 := n0_; have HB := n1_; clear n0_ n1_; (try clear hb); (try clear hb2); (try clear hk); (try clear hi)))
                      go_ret
                      exact ⟨by first | rfl | (simp [errW_none, errW_some] <;> rfl) | (simp only [← hji11]; first | rfl | (simp [errW_none, errW_some] <;> rfl)) | (simp [*, errW_none, errW_some] <;> rfl), by repeat (first | (with_reducible first | exact HB.out | apply below_alloc | apply pw_below_drewN | apply below_drew1) | exact HB.out)⟩
                    · rw [if_neg c56] at H
                      have c56b0 : decide (t136 < 0) = false := decide_eq_false c56
                      clear c56
                      by_cases c60 : t136 ≥ ji11
                      · rw [if_pos c60] at H
                        have c60b0 : decide (ji11 ≤ t136) = true := decide_eq_true c60
                        clear c60
                        obtain rfl := Option.some.inj H
                        obtain ⟨Ao61, co61, eo61⟩ := Kd.R_slice HO_5.out
                        subst eo61
                        go_wp2_with (first | ((with_reducible refine gate_callee (f := 12) rfl ?_); refine goesL_ (some 34) rfl rfl Try.func12 (by kernel_rfl) rfl #[.slice Ao61 x5_2.length co61, .int .i64 0] rfl (by (try simp only [List.map_toArray, List.map_cons, List.map_nil]); first | done | rfl | (simp only [List.length_drop, List.length_take]; rfl)) ?_; (with_reducible refine (wear_Count.calls k2 _ _ x5_2 0 t126 _ ?side1 ?side2 A17.out).mono ?_); (case side1 => repeat (first | exact (Kd.R_reads' HO_5.out).2.2 | (with_reducible refine Kd.C_alloc ?_ _) | (with_reducible refine Kd.C_drewN ?_ _) | (with_reducible refine Kd.C_drew ?_))); (case side2 => exact (Kd.R_reads' HO_5.out).2.1); rintro e w62 ⟨rfl, hb⟩; refine ⟨_, rfl, ?_⟩; have n0_ := Aside0.mk (Kd.R_below (by (with_reducible repeat (first | apply Kd.R_alloc | apply Kd.R_drewN | apply Kd.R_drew)); exact HO_5.out) hb); have n1_ := Aside0.mk (below_step (by repeat (first | (with_reducible first | exact HB.out | apply below_alloc | apply pw_below_drewN | apply below_drew1) | exact HB.out)) hb); clear HO_5; clear HB; have HO_5 := n0_; have HB := n1_; clear n0_ n1_; (try clear hb); (try clear hb2); (try clear hk); (try clear hi)) | ((with_reducible refine gate_callee (f := 13) rfl ?_); refine goesL_ (some 63) rfl rfl Try.func13 (by kernel_rfl) rfl #[.slice Ao61 x5_2.length co61] rfl (by (try simp only [List.map_toArray, List.map_cons, List.map_nil]); first | done | rfl | (simp only [List.length_drop, List.length_take]; rfl)) ?_; (with_reducible refine (wear_Next.calls k2 _ _ x5_2 t136 _ ?side1 ?side2 A55.out).mono ?_); (case side1 => repeat (first | exact (Kd.R_reads' HO_5.out).2.2 | (with_reducible refine Kd.C_alloc ?_ _) | (with_reducible refine Kd.C_drewN ?_ _) | (with_reducible refine Kd.C_drew ?_))); (case side2 => exact (Kd.R_reads' HO_5.out).2.1); rintro e w63 ⟨rfl, hb⟩; refine ⟨_, rfl, ?_⟩; have n0_ := Aside0.mk (Kd.R_below (by (with_reducible repeat (first | apply Kd.R_alloc | apply Kd.R_drewN | apply Kd.R_drew)); exact HO_5.out) hb); have n1_ := Aside0.mk (below_step (by repeat (first | (with_reducible first | exact HB.out | apply below_alloc | apply pw_below_drewN | apply below_drew1) | exact HB.out)) hb); clear HO_5; clear HB; have HO_5 := n0_; have HB := n1_; clear n0_ n1_; (try clear hb); (try clear hb2); (try clear hk); (try clear hi)))
                        go_ret
                        exact ⟨by first | rfl | (simp [errW_none, errW_some] <;> rfl) | (simp only [← hji11]; first | rfl | (simp [errW_none, errW_some] <;> rfl)) | (simp [*, errW_none, errW_some] <;> rfl), by repeat (first | (with_reducible first | exact HB.out | apply below_alloc | apply pw_below_drewN | apply below_drew1) | exact HB.out)⟩
                      · rw [if_neg c60] at H
                        have c60b0 : decide (ji11 ≤ t136) = false := decide_eq_false c60
                        clear c60
                        by_cases c64 : 0 ≤ t136
                        · rw [if_pos c64] at H
                          have c64b0 : decide (0 ≤ t136) = true := decide_eq_true c64
                          clear c64
                          by_cases c65 : t136 < (x5_2.length : Int)
                          · rw [if_pos c65] at H
                            have c65b0 : decide (t136 < (x5_2.length : Int)) = true := decide_eq_true c65
                            clear c65
                            by_cases c66 : ((rd_T34 x5_2 t136).f0) = 0
                            · rw [if_pos c66] at H
                              have c66b0 : (((rd_T34 x5_2 t136).f0) == 0) = true := beq_iff_eq.mpr c66
                              have c66b1 : (((rd_T34 x5_2 t136).f0) != 0) = false := bne_eq_false_iff_eq.mpr c66
                              clear c66
                              by_cases c67 : 0 ≤ x6_2
                              · rw [if_pos c67] at H
                                have c67b0 : decide (0 ≤ x6_2) = true := decide_eq_true c67
                                clear c67
                                obtain ⟨y140, hy140⟩ : ∃ y_ : List (S34), y_ = (x5_2.set (t136 : Int).toNat (⟨2, wrap64 (Int.tmod (IntKind.u64.wrap (rd l1 x6_2)) 40), (((rd_T34 x5_2 t136).f2) + 1) % 4294967296⟩ : S34)) := ⟨_, rfl⟩
                                replace H : (gabionlaw15_WearSpreads.l0 k2 ji11 l1 y140 (wrap64 (x6_2 + 1))) = some r := by first | (rw [hy140]; with_reducible exact H) | (have H2_ := (Option.bind_some _ _).symm.trans H; rw [hy140]; with_reducible exact H2_) | (have H2_ := (Option.bind_some _ _).symm.trans H; with_reducible exact H2_) | with_reducible exact H | (rw [hy140]; exact H) | exact H
                                have Ny140 := Aside0.mk hy140
                                clear hy140
                                have H' := Aside0.mk H
                                clear H
                                obtain ⟨Ao69, co69, eo69⟩ := Kd.R_slice HO_5.out
                                subst eo69
                                try go_wp2_with (first | ((with_reducible refine gate_callee (f := 12) rfl ?_); refine goesL_ (some 34) rfl rfl Try.func12 (by kernel_rfl) rfl #[.slice Ao69 x5_2.length co69, .int .i64 0] rfl (by (try simp only [List.map_toArray, List.map_cons, List.map_nil]); first | done | rfl | (simp only [List.length_drop, List.length_take]; rfl)) ?_; (with_reducible refine (wear_Count.calls k2 _ _ x5_2 0 t126 _ ?side1 ?side2 A17.out).mono ?_); (case side1 => repeat (first | exact (Kd.R_reads' HO_5.out).2.2 | (with_reducible refine Kd.C_alloc ?_ _) | (with_reducible refine Kd.C_drewN ?_ _) | (with_reducible refine Kd.C_drew ?_))); (case side2 => exact (Kd.R_reads' HO_5.out).2.1); rintro e w70 ⟨rfl, hb⟩; refine ⟨_, rfl, ?_⟩; have n0_ := Aside0.mk (Kd.R_below (by (with_reducible repeat (first | apply Kd.R_alloc | apply Kd.R_drewN | apply Kd.R_drew)); exact HO_5.out) hb); have n1_ := Aside0.mk (below_step (by repeat (first | (with_reducible first | exact HB.out | apply below_alloc | apply pw_below_drewN | apply below_drew1) | exact HB.out)) hb); clear HO_5; clear HB; have HO_5 := n0_; have HB := n1_; clear n0_ n1_; (try clear hb); (try clear hb2); (try clear hk); (try clear hi)) | ((with_reducible refine gate_callee (f := 13) rfl ?_); refine goesL_ (some 63) rfl rfl Try.func13 (by kernel_rfl) rfl #[.slice Ao69 x5_2.length co69] rfl (by (try simp only [List.map_toArray, List.map_cons, List.map_nil]); first | done | rfl | (simp only [List.length_drop, List.length_take]; rfl)) ?_; (with_reducible refine (wear_Next.calls k2 _ _ x5_2 t136 _ ?side1 ?side2 A55.out).mono ?_); (case side1 => repeat (first | exact (Kd.R_reads' HO_5.out).2.2 | (with_reducible refine Kd.C_alloc ?_ _) | (with_reducible refine Kd.C_drewN ?_ _) | (with_reducible refine Kd.C_drew ?_))); (case side2 => exact (Kd.R_reads' HO_5.out).2.1); rintro e w71 ⟨rfl, hb⟩; refine ⟨_, rfl, ?_⟩; have n0_ := Aside0.mk (Kd.R_below (by (with_reducible repeat (first | apply Kd.R_alloc | apply Kd.R_drewN | apply Kd.R_drew)); exact HO_5.out) hb); have n1_ := Aside0.mk (below_step (by repeat (first | (with_reducible first | exact HB.out | apply below_alloc | apply pw_below_drewN | apply below_drew1) | exact HB.out)) hb); clear HO_5; clear HB; have HO_5 := n0_; have HB := n1_; clear n0_ n1_; (try clear hb); (try clear hb2); (try clear hk); (try clear hi); have p137 : 0 ≤ (t136 : Int) := of_decide_eq_true (by first | (with_reducible assumption) | assumption); have q137 : t136 < (x5_2.length : Int) := of_decide_eq_true (by first | (with_reducible assumption) | assumption); obtain ⟨ad137, e137, hx137_0, hx137_1, hx137_2⟩ := at_T34 (Kd.R_reads' HO_5.out).2.2 t136 p137 q137; cases e137; replace p137 := eq_true p137; replace q137 := eq_true q137))
                                have n0_ := Aside0.mk (Kd.R_drew HO_5.out)
                                have n1_ := Aside0.mk (below_drew1 HB.out)
                                clear HO_5
                                clear HB
                                have HO_5 := n0_
                                have HB := n1_
                                clear n0_ n1_
                                have p138 : 0 ≤ (x6_2 : Int) := of_decide_eq_true (by first | (with_reducible assumption) | assumption)
                                have q138 : x6_2 < (l1.length : Int) := of_decide_eq_true (by first | (with_reducible assumption) | assumption)
                                obtain ⟨ad138, e138, hx138_0⟩ := Kd.at_int HR1.out x6_2 p138 q138
                                have hw138_0 := hx138_0
                                cases e138
                                replace hx138_0 := (HB.out.cell (World.block_lt_of_cell? w _ hx138_0)).trans hx138_0
                                replace p138 := eq_true p138
                                replace q138 := eq_true q138
                                have p139 : 0 ≤ (t136 : Int) := of_decide_eq_true (by first | (with_reducible assumption) | assumption)
                                have q139 : t136 < (x5_2.length : Int) := of_decide_eq_true (by first | (with_reducible assumption) | assumption)
                                obtain ⟨ad139, e139, hx139_0, hx139_1, hx139_2⟩ := at_T34 (Kd.R_reads' HO_5.out).2.2 t136 p139 q139
                                obtain rfl : ad137 = ad139 := (by injection e139)
                                replace p139 := eq_true p139
                                replace q139 := eq_true q139
                                have p68 : 0 ≤ (t136 : Int) := of_decide_eq_true (by first | (with_reducible assumption) | assumption)
                                have q68 : (t136 : Int) < ((x5_2.length : Int) : Int) := of_decide_eq_true (by first | (with_reducible assumption) | assumption)
                                obtain ⟨go68, co68, eo68, gb68, gl68, cl68, HG68⟩ := Kd.R_form HO_5.out (by omega)
                                (first | cases eo68 | (injection eo68 with ea_ en_ ec_; (first | subst ea_ | (injection ea_ with ea_; subst ea_)); subst ec_; clear en_))
                                have GB68 := Aside0.mk gb68
                                have GG68 := Aside0.mk HG68
                                clear gb68 gl68 HG68
                                (first | simp only [add_plain] at hx137_0 | skip)
                                (first | simp only [add_plain] at hx137_1 | skip)
                                (first | simp only [add_plain] at hx137_2 | skip)
                                (first | simp only [add_plain] at hx139_0 | skip)
                                (first | simp only [add_plain] at hx139_1 | skip)
                                (first | simp only [add_plain] at hx139_2 | skip)
                                obtain ⟨ce68, hcl68, hM68, hcc68, hfr68⟩ := Kd.R_elem HO_5.out z34 (t136 : Int) p68 q68
                                obtain rfl := k34_openM hM68
                                have hx68_0 : World.cell? _ ⟨go68, (t136 : Int).toNat * 3, none⟩ = some (.int .i64 ((rd_T34 x5_2 t136).f0)) := hcc68 0 _ rfl
                                have hx68_1 : World.cell? _ ⟨go68, (t136 : Int).toNat * 3 + 1, none⟩ = some (.int .i64 ((rd_T34 x5_2 t136).f1)) := hcc68 1 _ rfl
                                have hx68_2 : World.cell? _ ⟨go68, (t136 : Int).toNat * 3 + 2, none⟩ = some (.int .u32 ((rd_T34 x5_2 t136).f2)) := hcc68 2 _ rfl
                                have hf68_0 : World.frozen? _ ⟨go68, (t136 : Int).toNat * 3, none⟩ = false := hfr68 0
                                have hf68_1 : World.frozen? _ ⟨go68, (t136 : Int).toNat * 3 + 1, none⟩ = false := hfr68 1
                                have hf68_2 : World.frozen? _ ⟨go68, (t136 : Int).toNat * 3 + 2, none⟩ = false := hfr68 2
                                clear hcl68 hcc68 hfr68 hM68
                                replace p68 := eq_true p68
                                replace q68 := eq_true q68
                                obtain ⟨ce73, hcl73, hM73, hcc73, hfr73⟩ := Kd.R_elem HO_5.out z34 (t136 : Int) (of_decide_eq_true (by first | (with_reducible assumption) | assumption)) (by have h_ : (t136 : Int) < ((x5_2.length : Int) : Int) := of_decide_eq_true (by first | (with_reducible assumption) | assumption); first | exact h_ | (have e_ := (Kd.R_reads' HO_5.out).1; omega) | simpa using h_)
                                obtain rfl := k34_openM hM73
                                have HP73 := (Kd.R_seg HO_5.out (t136 : Int) (of_decide_eq_true (by first | (with_reducible assumption) | assumption)) (by have h_ : (t136 : Int) < ((x5_2.length : Int) : Int) := of_decide_eq_true (by first | (with_reducible assumption) | assumption); first | exact h_ | (have e_ := (Kd.R_reads' HO_5.out).1; omega) | simpa using h_) (seg := [.int .i64 2, .int .i64 (wrap64 (Int.tmod (IntKind.u64.wrap (rd l1 x6_2)) 40)), .int .u32 ((((rd_T34 x5_2 t136).f2) + 1) % 4294967296)]) (j := 0) hcl73 hcc73 (show 3 ≤ 3 from by decide) (x' := (⟨2, wrap64 (Int.tmod (IntKind.u64.wrap (rd l1 x6_2)) 40), (((rd_T34 x5_2 t136).f2) + 1) % 4294967296⟩ : S34)) (k34_mkM _ _ _ (⟨2, wrap64 (Int.tmod (IntKind.u64.wrap (rd l1 x6_2)) 40), (((rd_T34 x5_2 t136).f2) + 1) % 4294967296⟩ : S34) ) (fun _ hk => hk)).1
                                rw [← Ny140.out] at HP73
                                have HQ73 := Aside0.mk HP73
                                clear hcl73 hcc73 hfr73 hM73 HP73
                                refine start_ (n := 18) (S := fun w' => w'.cell? (ad138.add (x6_2).toNat) = some (.int .i64 (rd l1 x6_2)) ∧ w'.cell? ⟨go68, ((t136).toNat * 3), none⟩ = some (.int .i64 ((rd_T34 x5_2 t136).f0)) ∧ w'.cell? ⟨go68, ((t136).toNat * 3) + 1, none⟩ = some (.int .i64 ((rd_T34 x5_2 t136).f1)) ∧ w'.cell? ⟨go68, ((t136).toNat * 3) + 2, none⟩ = some (.int .u32 ((rd_T34 x5_2 t136).f2))) (ds := [17]) #[false, false, false, false, false, false, false, false, false, false, false, false, false, false, false, false, false, false] (by kernel_rfl) rfl rfl ⟨((HB.out.cell (World.block_lt_of_cell? w _ hw138_0)).trans hw138_0), hx139_0, hx139_1, hx139_2⟩ (fun hHeld => ?_); refine with_tabW gabionlaw15_WearSpreads.tab16 gabionlaw15_WearSpreads.bits16 (fun HT_ HW_ => ?_)
                                generalize w71.drew = w72 at HO_5 HB GG68 HQ73 hf68_0 hf68_1 hf68_2 hx137_0 hx137_1 hx137_2 hx138_0 hx139_0 hx139_1 hx139_2 hx68_0 hx68_1 hx68_2 hHeld ⊢
                                refine pure_ (i := 0) (N := some 79) (v := ?_) (a' := ?_) #[true, false, false, false, false, false, false, false, false, false, false, false, false, false, false, false, false, false] rfl rfl (any_of HT_.out (by kernel_rfl)) (fun _ _ _ h => h) (Or.inl ⟨by rfl, ?_⟩) ?_ ?_
                                rotate_left
                                · intro w'
                                  go_simp
                                  with_reducible rfl
                                rotate_left
                                · simp only [Act.put, List.setIfInBounds_toArray, List.set_cons_zero, List.set_cons_succ, i64_w, i32_w]
                                  rfl
                                refine pure_ (i := 1) (N := some 80) (v := ?_) (a' := ?_) #[true, true, false, false, false, false, false, false, false, false, false, false, false, false, false, false, false, false] rfl rfl (any_of HT_.out (by kernel_rfl)) (fun _ _ _ h => h) (Or.inl ⟨by rfl, ?_⟩) ?_ ?_
                                rotate_left
                                · intro w'
                                  go_simp
                                  with_reducible rfl
                                rotate_left
                                · simp only [Act.put, List.setIfInBounds_toArray, List.set_cons_zero, List.set_cons_succ, i64_w, i32_w]
                                  rfl
                                refine pure_ (i := 2) (N := some 81) (v := ?_) (a' := ?_) #[true, true, true, false, false, false, false, false, false, false, false, false, false, false, false, false, false, false] rfl rfl (any_of HT_.out (by kernel_rfl)) (fun _ _ _ h => h) (Or.inl ⟨by rfl, ?_⟩) ?_ ?_
                                rotate_left
                                · intro w'
                                  go_simp
                                  with_reducible rfl
                                rotate_left
                                · simp only [Act.put, List.setIfInBounds_toArray, List.set_cons_zero, List.set_cons_succ, i64_w, i32_w]
                                  rfl
                                refine pure_ (i := 3) (N := some 82) (v := ?_) (a' := ?_) #[true, true, true, true, false, false, false, false, false, false, false, false, false, false, false, false, false, false] rfl rfl (any_of HT_.out (by kernel_rfl)) (fun _ _ _ h => h) (Or.inl ⟨by rfl, ?_⟩) ?_ ?_
                                rotate_left
                                · intro w'
                                  go_simp
                                  with_reducible rfl
                                rotate_left
                                · simp only [Act.put, List.setIfInBounds_toArray, List.set_cons_zero, List.set_cons_succ, i64_w, i32_w]
                                  rfl
                                refine pure_ (i := 4) (N := some 83) (v := ?_) (a' := ?_) #[true, true, true, true, true, false, false, false, false, false, false, false, false, false, false, false, false, false] rfl rfl (any_of HT_.out (by kernel_rfl)) (fun _ _ _ h => h) (Or.inl ⟨by rfl, ?_⟩) ?_ ?_
                                rotate_left
                                · intro w'
                                  go_simp
                                  with_reducible rfl
                                rotate_left
                                · simp only [Act.put, List.setIfInBounds_toArray, List.set_cons_zero, List.set_cons_succ, i64_w, i32_w]
                                  rfl
                                refine pure_ (i := 9) (N := some 88) (v := ?_) (a' := ?_) #[true, true, true, true, true, false, false, false, false, true, false, false, false, false, false, false, false, false] rfl rfl (any_of HT_.out (by kernel_rfl)) (fun _ _ _ h => h) (Or.inl ⟨by rfl, ?_⟩) ?_ ?_
                                rotate_left
                                · intro w'
                                  go_simp
                                  with_reducible rfl
                                rotate_left
                                · simp only [Act.put, List.setIfInBounds_toArray, List.set_cons_zero, List.set_cons_succ, i64_w, i32_w]
                                  rfl
                                refine pure_ (i := 10) (N := some 89) (v := ?_) (a' := ?_) #[true, true, true, true, true, false, false, false, false, true, true, false, false, false, false, false, false, false] rfl rfl (any_of HT_.out (by kernel_rfl)) (fun _ _ _ h => h) (Or.inl ⟨by rfl, ?_⟩) ?_ ?_
                                rotate_left
                                · intro w'
                                  go_simp
                                  with_reducible rfl
                                rotate_left
                                · simp only [Act.put, List.setIfInBounds_toArray, List.set_cons_zero, List.set_cons_succ, i64_w, i32_w]
                                  rfl
                                refine pure_ (i := 11) (N := some 90) (v := ?_) (a' := ?_) #[true, true, true, true, true, false, false, false, false, true, true, true, false, false, false, false, false, false] rfl rfl (any_of HT_.out (by kernel_rfl)) (fun _ _ _ h => h) (Or.inl ⟨by rfl, ?_⟩) ?_ ?_
                                rotate_left
                                · intro w'
                                  go_simp
                                  with_reducible rfl
                                rotate_left
                                · simp only [Act.put, List.setIfInBounds_toArray, List.set_cons_zero, List.set_cons_succ, i64_w, i32_w]
                                  rfl
                                refine pure_ (i := 12) (N := some 91) (v := ?_) (a' := ?_) #[true, true, true, true, true, false, false, false, false, true, true, true, true, false, false, false, false, false] rfl rfl (any_of HT_.out (by kernel_rfl)) (fun _ _ _ h => h) (Or.inl ⟨by rfl, ?_⟩) ?_ ?_
                                rotate_left
                                · intro w'
                                  go_simp
                                  with_reducible rfl
                                rotate_left
                                · simp only [Act.put, List.setIfInBounds_toArray, List.set_cons_zero, List.set_cons_succ, i64_w, i32_w]
                                  rfl
                                refine take_ (i := 5) (N := some 84) (v := ?_) (a' := ?_) #[true, true, true, true, true, true, false, false, false, true, true, true, true, false, false, false, false, false] rfl rfl (take_ofW HT_.out HW_.out (by kernel_rfl)) (fun _ _ _ h => h) (Or.inl ⟨by rfl, ?_⟩) hHeld ?_ ?_
                                rotate_left
                                · rintro w' ⟨s0, s1, s2, s3⟩
                                  go_simp
                                  with_reducible rfl
                                rotate_left
                                · simp only [Act.put, List.setIfInBounds_toArray, List.set_cons_zero, List.set_cons_succ, i64_w, i32_w]
                                  rfl
                                refine pure_ (i := 6) (N := some 85) (v := ?_) (a' := ?_) #[true, true, true, true, true, true, true, false, false, true, true, true, true, false, false, false, false, false] rfl rfl (any_of HT_.out (by kernel_rfl)) (fun _ _ _ h => h) (Or.inl ⟨by rfl, ?_⟩) ?_ ?_
                                rotate_left
                                · intro w'
                                  go_simp
                                  with_reducible rfl
                                rotate_left
                                · simp only [Act.put, List.setIfInBounds_toArray, List.set_cons_zero, List.set_cons_succ, i64_w, i32_w]
                                  rfl
                                refine pure_ (i := 7) (N := some 86) (v := ?_) (a' := ?_) #[true, true, true, true, true, true, true, true, false, true, true, true, true, false, false, false, false, false] rfl rfl (any_of HT_.out (by kernel_rfl)) (fun _ _ _ h => h) (Or.inl ⟨by rfl, ?_⟩) ?_ ?_
                                rotate_left
                                · intro w'
                                  go_simp
                                  with_reducible rfl
                                rotate_left
                                · simp only [Act.put, List.setIfInBounds_toArray, List.set_cons_zero, List.set_cons_succ, i64_w, i32_w]
                                  rfl
                                refine pure_ (i := 8) (N := some 87) (v := ?_) (a' := ?_) #[true, true, true, true, true, true, true, true, true, true, true, true, true, false, false, false, false, false] rfl rfl (any_of HT_.out (by kernel_rfl)) (fun _ _ _ h => h) (Or.inl ⟨by rfl, ?_⟩) ?_ ?_
                                rotate_left
                                · intro w'
                                  go_simp
                                  with_reducible rfl
                                rotate_left
                                · simp only [Act.put, List.setIfInBounds_toArray, List.set_cons_zero, List.set_cons_succ, i64_w, i32_w]
                                  rfl
                                refine take_ (i := 13) (N := some 92) (v := ?_) (a' := ?_) #[true, true, true, true, true, true, true, true, true, true, true, true, true, true, false, false, false, false] rfl rfl (take_ofW HT_.out HW_.out (by kernel_rfl)) (fun _ _ _ h => h) (Or.inl ⟨by rfl, ?_⟩) hHeld ?_ ?_
                                rotate_left
                                · rintro w' ⟨s0, s1, s2, s3⟩
                                  go_simp
                                  with_reducible rfl
                                rotate_left
                                · simp only [Act.put, List.setIfInBounds_toArray, List.set_cons_zero, List.set_cons_succ, i64_w, i32_w]
                                  rfl
                                refine pure_ (i := 14) (N := some 93) (v := ?_) (a' := ?_) #[true, true, true, true, true, true, true, true, true, true, true, true, true, true, true, false, false, false] rfl rfl (any_of HT_.out (by kernel_rfl)) (fun _ _ _ h => h) (Or.inl ⟨by rfl, ?_⟩) ?_ ?_
                                rotate_left
                                · intro w'
                                  go_simp
                                  with_reducible rfl
                                rotate_left
                                · simp only [Act.put, List.setIfInBounds_toArray, List.set_cons_zero, List.set_cons_succ, i64_w, i32_w]
                                  rfl
                                refine pure_ (i := 15) (N := some 94) (v := ?_) (a' := ?_) #[true, true, true, true, true, true, true, true, true, true, true, true, true, true, true, true, false, false] rfl rfl (any_of HT_.out (by kernel_rfl)) (fun _ _ _ h => h) (Or.inl ⟨by rfl, ?_⟩) ?_ ?_
                                rotate_left
                                · intro w'
                                  go_simp
                                  with_reducible rfl
                                rotate_left
                                · simp only [Act.put, List.setIfInBounds_toArray, List.set_cons_zero, List.set_cons_succ, i64_w, i32_w]
                                  rfl
                                refine pure_ (i := 16) (N := some 95) (v := ?_) (a' := ?_) #[true, true, true, true, true, true, true, true, true, true, true, true, true, true, true, true, true, false] rfl rfl (any_of HT_.out (by kernel_rfl)) (fun _ _ _ h => h) (Or.inl ⟨by rfl, ?_⟩) ?_ ?_
                                rotate_left
                                · intro w'
                                  go_simp
                                  with_reducible rfl
                                rotate_left
                                · simp only [Act.put, List.setIfInBounds_toArray, List.set_cons_zero, List.set_cons_succ, i64_w, i32_w]
                                  rfl
                                refine last_ (i := 17) (N := none) #[true, true, true, true, true, true, true, true, true, true, true, true, true, true, true, true, true, true] rfl rfl (one_of HT_.out (by kernel_rfl)) (by decide) (fun K hK => ?_)
                                refine skip_ (w1 := ?_) (by rfl) rfl ?_ ?_
                                rotate_left
                                · go_simp
                                  rfl
                                refine hK.out _ _ ?_
                                clear hK K
                                refine done_ (done_of HT_.out (by kernel_rfl)) ?_
                                try go_wp2
                                go_roundg k2
                                case measure => have := HJ2.out; have := HK2.out; omega
                                case rel => exact ⟨(y140), (wrap64 (x6_2 + 1)), (by first | rfl | (simp; done) | (simp [*]; done)), H', ⟨by have := HJ2.out; have := HK2.out; omega⟩, ⟨by (with_reducible repeat (first | apply Kd.R_alloc | apply Kd.R_drewN | apply Kd.R_drew)); exact HQ73.out⟩, ⟨by repeat (first | (with_reducible first | exact HB.out | apply below_alloc | apply pw_below_drewN | apply below_drew1 | refine below_set ?_ GB68.out | refine below_set ?_ GB68.out | refine below_set ?_ GB68.out) | exact HB.out)⟩⟩
                              · rw [if_neg c67] at H
                                exact absurd H (by simp)
                            · rw [if_neg c66] at H
                              have c66b0 : (((rd_T34 x5_2 t136).f0) == 0) = false := beq_eq_false_iff_ne.mpr c66
                              have c66b1 : (((rd_T34 x5_2 t136).f0) != 0) = true := bne_iff_ne.mpr c66
                              obtain rfl := Option.some.inj H
                              obtain ⟨Ao74, co74, eo74⟩ := Kd.R_slice HO_5.out
                              subst eo74
                              go_wp2_with (first | ((with_reducible refine gate_callee (f := 12) rfl ?_); refine goesL_ (some 34) rfl rfl Try.func12 (by kernel_rfl) rfl #[.slice Ao74 x5_2.length co74, .int .i64 0] rfl (by (try simp only [List.map_toArray, List.map_cons, List.map_nil]); first | done | rfl | (simp only [List.length_drop, List.length_take]; rfl)) ?_; (with_reducible refine (wear_Count.calls k2 _ _ x5_2 0 t126 _ ?side1 ?side2 A17.out).mono ?_); (case side1 => repeat (first | exact (Kd.R_reads' HO_5.out).2.2 | (with_reducible refine Kd.C_alloc ?_ _) | (with_reducible refine Kd.C_drewN ?_ _) | (with_reducible refine Kd.C_drew ?_))); (case side2 => exact (Kd.R_reads' HO_5.out).2.1); rintro e w75 ⟨rfl, hb⟩; refine ⟨_, rfl, ?_⟩; have n0_ := Aside0.mk (Kd.R_below (by (with_reducible repeat (first | apply Kd.R_alloc | apply Kd.R_drewN | apply Kd.R_drew)); exact HO_5.out) hb); have n1_ := Aside0.mk (below_step (by repeat (first | (with_reducible first | exact HB.out | apply below_alloc | apply pw_below_drewN | apply below_drew1) | exact HB.out)) hb); clear HO_5; clear HB; have HO_5 := n0_; have HB := n1_; clear n0_ n1_; (try clear hb); (try clear hb2); (try clear hk); (try clear hi)) | ((with_reducible refine gate_callee (f := 13) rfl ?_); refine goesL_ (some 63) rfl rfl Try.func13 (by kernel_rfl) rfl #[.slice Ao74 x5_2.length co74] rfl (by (try simp only [List.map_toArray, List.map_cons, List.map_nil]); first | done | rfl | (simp only [List.length_drop, List.length_take]; rfl)) ?_; (with_reducible refine (wear_Next.calls k2 _ _ x5_2 t136 _ ?side1 ?side2 A55.out).mono ?_); (case side1 => repeat (first | exact (Kd.R_reads' HO_5.out).2.2 | (with_reducible refine Kd.C_alloc ?_ _) | (with_reducible refine Kd.C_drewN ?_ _) | (with_reducible refine Kd.C_drew ?_))); (case side2 => exact (Kd.R_reads' HO_5.out).2.1); rintro e w76 ⟨rfl, hb⟩; refine ⟨_, rfl, ?_⟩; have n0_ := Aside0.mk (Kd.R_below (by (with_reducible repeat (first | apply Kd.R_alloc | apply Kd.R_drewN | apply Kd.R_drew)); exact HO_5.out) hb); have n1_ := Aside0.mk (below_step (by repeat (first | (with_reducible first | exact HB.out | apply below_alloc | apply pw_below_drewN | apply below_drew1) | exact HB.out)) hb); clear HO_5; clear HB; have HO_5 := n0_; have HB := n1_; clear n0_ n1_; (try clear hb); (try clear hb2); (try clear hk); (try clear hi); have p137 : 0 ≤ (t136 : Int) := of_decide_eq_true (by first | (with_reducible assumption) | assumption); have q137 : t136 < (x5_2.length : Int) := of_decide_eq_true (by first | (with_reducible assumption) | assumption); obtain ⟨ad137, e137, hx137_0, hx137_1, hx137_2⟩ := at_T34 (Kd.R_reads' HO_5.out).2.2 t136 p137 q137; cases e137; replace p137 := eq_true p137; replace q137 := eq_true q137))
                              go_ret
                              exact ⟨by first | rfl | (simp [errW_none, errW_some] <;> rfl) | (simp only [← hji11]; first | rfl | (simp [errW_none, errW_some] <;> rfl)) | (simp [*, errW_none, errW_some] <;> rfl), by repeat (first | (with_reducible first | exact HB.out | apply below_alloc | apply pw_below_drewN | apply below_drew1) | exact HB.out)⟩
                          · rw [if_neg c65] at H
                            exact absurd H (by simp)
                        · rw [if_neg c64] at H
                          exact absurd H (by simp)
                · rw [if_neg c16] at H
                  have c16b0 : decide (x6_2 < (l1.length : Int)) = false := decide_eq_false c16
                  clear c16
                  by_cases c77 : 0 < (x5_2.length : Int)
                  · rw [if_pos c77] at H
                    have c77b0 : decide (0 < (x5_2.length : Int)) = true := decide_eq_true c77
                    have c77b1 : decide (0 < x5_2.length) = true := decide_eq_true (by omega)
                    clear c77
                    have H' := Aside0.mk H
                    clear H
                    try go_wp2
                    have n0_ := Aside0.mk (Kd.R_drew HO_5.out)
                    have n1_ := Aside0.mk (below_drew1 HB.out)
                    clear HO_5
                    clear HB
                    have HO_5 := n0_
                    have HB := n1_
                    clear n0_ n1_
                    obtain ⟨Ao79, co79, eo79⟩ := Kd.R_slice HO_5.out
                    (first | subst eo79 | (injection eo79 with f1_ f2_ f3_; have f4_ := f1_.symm; have f5_ := f3_.symm; clear f1_ f2_ f3_; subst f4_; subst f5_))
                    have p141 : 0 ≤ (0 : Int) := (by omega)
                    have q141 : 0 < (x5_2.length : Int) := of_decide_eq_true (by first | (with_reducible assumption) | assumption)
                    obtain ⟨ad141, e141, hx141_0, hx141_1, hx141_2⟩ := at_T34 (Kd.R_reads' HO_5.out).2.2 0 p141 q141
                    cases e141
                    have qi141 : (0 < x5_2.length) = True := eq_true (by omega)
                    (try rw [show ((0 : Int)).toNat = 0 from rfl] at hx141_0)
                    (try rw [show 0 * 3 = 0 from rfl] at hx141_0)
                    (try rw [Addr.add_zero'] at hx141_0)
                    (try rw [show ((0 : Int)).toNat = 0 from rfl] at hx141_1)
                    (try rw [show 0 * 3 = 0 from rfl] at hx141_1)
                    (try rw [Addr.add_zero'] at hx141_1)
                    (try rw [show ((0 : Int)).toNat = 0 from rfl] at hx141_2)
                    (try rw [show 0 * 3 = 0 from rfl] at hx141_2)
                    (try rw [Addr.add_zero'] at hx141_2)
                    replace p141 := eq_true p141
                    replace q141 := eq_true q141
                    have p142 : 0 ≤ (0 : Int) := (by omega)
                    have q142 : 0 < (x5_2.length : Int) := of_decide_eq_true (by first | (with_reducible assumption) | assumption)
                    obtain ⟨ad142, e142, hx142_0, hx142_1, hx142_2⟩ := at_T34 (Kd.R_reads' HO_5.out).2.2 0 p142 q142
                    obtain rfl : ad141 = ad142 := (by injection e142)
                    have qi142 : (0 < x5_2.length) = True := eq_true (by omega)
                    (try rw [show ((0 : Int)).toNat = 0 from rfl] at hx142_0)
                    (try rw [show 0 * 3 = 0 from rfl] at hx142_0)
                    (try rw [Addr.add_zero'] at hx142_0)
                    (try rw [show ((0 : Int)).toNat = 0 from rfl] at hx142_1)
                    (try rw [show 0 * 3 = 0 from rfl] at hx142_1)
                    (try rw [Addr.add_zero'] at hx142_1)
                    (try rw [show ((0 : Int)).toNat = 0 from rfl] at hx142_2)
                    (try rw [show 0 * 3 = 0 from rfl] at hx142_2)
                    (try rw [Addr.add_zero'] at hx142_2)
                    replace p142 := eq_true p142
                    replace q142 := eq_true q142
                    refine start_ (n := 10) (S := fun w' => w'.cell? ad141 = some (.int .i64 ((rd_T34 x5_2 0).f0)) ∧ w'.cell? ⟨ad141.block, ad141.off + 1, none⟩ = some (.int .i64 ((rd_T34 x5_2 0).f1)) ∧ w'.cell? ⟨ad141.block, ad141.off + 2, none⟩ = some (.int .u32 ((rd_T34 x5_2 0).f2)) ∧ w'.cell? ad141 = some (.int .i64 ((rd_T34 x5_2 0).f0)) ∧ w'.cell? ⟨ad141.block, ad141.off + 1, none⟩ = some (.int .i64 ((rd_T34 x5_2 0).f1)) ∧ w'.cell? ⟨ad141.block, ad141.off + 2, none⟩ = some (.int .u32 ((rd_T34 x5_2 0).f2))) (ds := []) #[false, false, false, false, false, false, false, false, false, false] (by kernel_rfl) rfl rfl ⟨hx141_0, hx141_1, hx141_2, hx142_0, hx142_1, hx142_2⟩ (fun hHeld => ?_); refine with_tabW gabionlaw15_WearSpreads.tab17 gabionlaw15_WearSpreads.bits17 (fun HT_ HW_ => ?_)
                    generalize wr.drew = w78 at HO_5 HB hx141_0 hx141_1 hx141_2 hx142_0 hx142_1 hx142_2 hHeld ⊢
                    refine pure_ (i := 0) (N := some 96) (v := ?_) (a' := ?_) #[true, false, false, false, false, false, false, false, false, false] rfl rfl (any_of HT_.out (by kernel_rfl)) (fun _ _ _ h => h) (Or.inl ⟨by rfl, ?_⟩) ?_ ?_
                    rotate_left
                    · intro w'
                      go_simp
                      with_reducible rfl
                    rotate_left
                    · simp only [Act.put, List.setIfInBounds_toArray, List.set_cons_zero, List.set_cons_succ, i64_w, i32_w]
                      rfl
                    refine pure_ (i := 1) (N := some 97) (v := ?_) (a' := ?_) #[true, true, false, false, false, false, false, false, false, false] rfl rfl (any_of HT_.out (by kernel_rfl)) (fun _ _ _ h => h) (Or.inl ⟨by rfl, ?_⟩) ?_ ?_
                    rotate_left
                    · intro w'
                      go_simp
                      with_reducible rfl
                    rotate_left
                    · simp only [Act.put, List.setIfInBounds_toArray, List.set_cons_zero, List.set_cons_succ, i64_w, i32_w]
                      rfl
                    refine pure_ (i := 2) (N := some 98) (v := ?_) (a' := ?_) #[true, true, true, false, false, false, false, false, false, false] rfl rfl (any_of HT_.out (by kernel_rfl)) (fun _ _ _ h => h) (Or.inl ⟨by rfl, ?_⟩) ?_ ?_
                    rotate_left
                    · intro w'
                      go_simp
                      with_reducible rfl
                    rotate_left
                    · simp only [Act.put, List.setIfInBounds_toArray, List.set_cons_zero, List.set_cons_succ, i64_w, i32_w]
                      rfl
                    refine pure_ (i := 4) (N := some 100) (v := ?_) (a' := ?_) #[true, true, true, false, true, false, false, false, false, false] rfl rfl (any_of HT_.out (by kernel_rfl)) (fun _ _ _ h => h) (Or.inl ⟨by rfl, ?_⟩) ?_ ?_
                    rotate_left
                    · intro w'
                      go_simp
                      with_reducible rfl
                    rotate_left
                    · simp only [Act.put, List.setIfInBounds_toArray, List.set_cons_zero, List.set_cons_succ, i64_w, i32_w]
                      rfl
                    refine pure_ (i := 5) (N := some 101) (v := ?_) (a' := ?_) #[true, true, true, false, true, true, false, false, false, false] rfl rfl (any_of HT_.out (by kernel_rfl)) (fun _ _ _ h => h) (Or.inl ⟨by rfl, ?_⟩) ?_ ?_
                    rotate_left
                    · intro w'
                      go_simp
                      with_reducible rfl
                    rotate_left
                    · simp only [Act.put, List.setIfInBounds_toArray, List.set_cons_zero, List.set_cons_succ, i64_w, i32_w]
                      rfl
                    refine pure_ (i := 6) (N := some 102) (v := ?_) (a' := ?_) #[true, true, true, false, true, true, true, false, false, false] rfl rfl (any_of HT_.out (by kernel_rfl)) (fun _ _ _ h => h) (Or.inl ⟨by rfl, ?_⟩) ?_ ?_
                    rotate_left
                    · intro w'
                      go_simp
                      with_reducible rfl
                    rotate_left
                    · simp only [Act.put, List.setIfInBounds_toArray, List.set_cons_zero, List.set_cons_succ, i64_w, i32_w]
                      rfl
                    refine take_ (i := 3) (N := some 99) (v := ?_) (a' := ?_) #[true, true, true, true, true, true, true, false, false, false] rfl rfl (take_ofW HT_.out HW_.out (by kernel_rfl)) (fun _ _ _ h => h) (Or.inl ⟨by rfl, ?_⟩) hHeld ?_ ?_
                    rotate_left
                    · rintro w' ⟨s0, s1, s2, s3, s4, s5⟩
                      go_simp
                      with_reducible rfl
                    rotate_left
                    · simp only [Act.put, List.setIfInBounds_toArray, List.set_cons_zero, List.set_cons_succ, i64_w, i32_w]
                      rfl
                    refine pure_ (i := 8) (N := some 9) (v := ?_) (a' := ?_) #[true, true, true, true, true, true, true, false, true, false] rfl rfl (any_of HT_.out (by kernel_rfl)) (fun _ _ _ h => h) (Or.inl ⟨by rfl, ?_⟩) ?_ ?_
                    rotate_left
                    · intro w'
                      go_simp
                      with_reducible rfl
                    rotate_left
                    · simp only [Act.put, List.setIfInBounds_toArray, List.set_cons_zero, List.set_cons_succ, i64_w, i32_w]
                      rfl
                    refine take_ (i := 7) (N := some 103) (v := ?_) (a' := ?_) #[true, true, true, true, true, true, true, true, true, false] rfl rfl (take_ofW HT_.out HW_.out (by kernel_rfl)) (fun _ _ _ h => h) (Or.inl ⟨by rfl, ?_⟩) hHeld ?_ ?_
                    rotate_left
                    · rintro w' ⟨s0, s1, s2, s3, s4, s5⟩
                      go_simp
                      with_reducible rfl
                    rotate_left
                    · simp only [Act.put, List.setIfInBounds_toArray, List.set_cons_zero, List.set_cons_succ, i64_w, i32_w]
                      rfl
                    refine pure_ (i := 9) (N := some 10) (v := ?_) (a' := ?_) #[true, true, true, true, true, true, true, true, true, true] rfl rfl (any_of HT_.out (by kernel_rfl)) (fun _ _ _ h => h) (Or.inl ⟨by rfl, ?_⟩) ?_ ?_
                    rotate_left
                    · intro w'
                      go_simp
                      with_reducible rfl
                    rotate_left
                    · simp only [Act.put, List.setIfInBounds_toArray, List.set_cons_zero, List.set_cons_succ, i64_w, i32_w]
                      rfl
                    refine done_ (done_of HT_.out (by kernel_rfl)) ?_
                    try go_wp2
                    go_loopg [9, 10, 11] k2 (fun kq v9 v10 v11 w' => ∃ (x9_3 : Int) (x10_3 : Int) (x11_3 : Int), v9 = .int .u32 x9_3 ∧ v10 = .int .u32 x10_3 ∧ v11 = .int .i64 x11_3 ∧ Aside0 (gabionlaw15_WearSpreads.l1 kq ji11 x5_2 x9_3 x10_3 x11_3 = some r) ∧ Aside0 (kq ≤ k2) ∧ Aside0 (Kd.R k34 34 w' w.heap.size (fun _ => True) (.slice (some ad141) x5_2.length co79) x5_2) ∧ Aside0 (Below w.heap.size w w'))
                    case atStart => exact ⟨((rd_T34 x5_2 0).f2), ((rd_T34 x5_2 0).f2), (0), (by first | rfl | (simp; done) | (simp [*]; done)), (by first | rfl | (simp; done) | (simp [*]; done)), (by first | rfl | (simp; done) | (simp [*]; done)), H', ⟨Nat.le_refl _⟩, ⟨by (with_reducible repeat (first | apply Kd.R_alloc | apply Kd.R_drewN | apply Kd.R_drew)); exact HO_5.out⟩, ⟨by repeat (first | (with_reducible first | exact HB.out | apply below_alloc | apply pw_below_drewN | apply below_drew1) | exact HB.out)⟩⟩
                    case round =>
                      clear H'
                      try clear c1
                      try clear p1
                      try clear q1
                      try clear hx1
                      try clear qi1
                      try clear c2
                      try clear p2
                      try clear c3
                      try clear p3
                      try clear q3
                      try clear hx3
                      try clear hf3
                      try clear c4
                      try clear c5
                      try clear hx5
                      try clear hf5
                      try clear c6
                      try clear p6
                      try clear q6
                      try clear hx6
                      try clear hf6
                      try clear c7
                      try clear c12
                      try clear p12
                      try clear q12
                      try clear hx12
                      try clear c13
                      try clear p13
                      try clear q13
                      try clear hx13
                      try clear p14
                      try clear q14
                      try clear hx14
                      try clear qi14
                      try clear c16
                      try clear c16b0
                      try clear c18
                      try clear c18b0
                      try clear c29
                      try clear c30
                      try clear c31
                      try clear p31
                      try clear q31
                      try clear hx31
                      try clear hf31
                      try clear c41
                      try clear c42
                      try clear c43
                      try clear c43b0
                      try clear c43b1
                      try clear c44
                      try clear c45
                      try clear c52
                      try clear hx52
                      try clear hf52
                      try clear c56
                      try clear c56b0
                      try clear c60
                      try clear c60b0
                      try clear c64
                      try clear c64b0
                      try clear p64
                      try clear c65
                      try clear c65b0
                      try clear c66
                      try clear c66b0
                      try clear c66b1
                      try clear c67
                      try clear c67b0
                      try clear c68
                      try clear p68
                      try clear q68
                      try clear hx68
                      try clear hf68
                      try clear c73
                      try clear c77
                      try clear c77b0
                      try clear c77b1
                      try clear hx129_0
                      try clear hx129_1
                      try clear hx129_2
                      try clear hx132_0
                      try clear hx132_1
                      try clear hx132_2
                      try clear hx137_0
                      try clear hx137_1
                      try clear hx137_2
                      try clear hx138_0
                      try clear hx139_0
                      try clear hx139_1
                      try clear hx139_2
                      try clear hx141_0
                      try clear hx141_1
                      try clear hx141_2
                      try clear hx142_0
                      try clear hx142_1
                      try clear hx142_2
                      try clear hx31_0
                      try clear hx31_1
                      try clear hx31_2
                      try clear hx52_0
                      try clear hx52_1
                      try clear hx52_2
                      try clear hx68_0
                      try clear hx68_1
                      try clear hx68_2
                      try clear p129
                      try clear p132
                      try clear p137
                      try clear p138
                      try clear p139
                      try clear p141
                      try clear p142
                      try clear p31
                      try clear p68
                      try clear q129
                      try clear q132
                      try clear q137
                      try clear q138
                      try clear q139
                      try clear q141
                      try clear q142
                      try clear q31
                      try clear q68
                      obtain ⟨x9_3, x10_3, x11_3, rfl, rfl, rfl, HA, HK3, HO_5, HB⟩ := hrel
                      cases gk with
                      | zero => exact absurd HA.out (by simp [gabionlaw15_WearSpreads.l1])
                      | succ k3 =>
                        have H := HA.out
                        clear HA
                        simp only [gabionlaw15_WearSpreads.l1] at H
                        by_cases c80 : x11_3 < ji11
                        · rw [if_pos c80] at H
                          have c80b0 : decide (x11_3 < ji11) = true := decide_eq_true c80
                          clear c80
                          by_cases c81 : 0 ≤ x11_3
                          · rw [if_pos c81] at H
                            have c81b0 : decide (0 ≤ x11_3) = true := decide_eq_true c81
                            clear c81
                            by_cases c82 : x11_3 < (x5_2.length : Int)
                            · rw [if_pos c82] at H
                              have c82b0 : decide (x11_3 < (x5_2.length : Int)) = true := decide_eq_true c82
                              clear c82
                              obtain ⟨ji83, hji83⟩ : ∃ j_ : Int, (mn x9_3 ((rd_T34 x5_2 x11_3).f2)) = j_ := ⟨_, rfl⟩
                              replace H : (gabionlaw15_WearSpreads.l1 k3 ji11 x5_2 ji83 (mx x10_3 ((rd_T34 x5_2 x11_3).f2)) (wrap64 (x11_3 + 1))) = some r := by first | (rw [hji83] at H; exact H) | (simp only [hji83] at H ⊢; exact H)
                              have hji83_ : (if ((rd_T34 x5_2 x11_3).f2) < x9_3 then ((rd_T34 x5_2 x11_3).f2) else x9_3) = ji83 := hji83
                              obtain ⟨ji84, hji84⟩ : ∃ j_ : Int, (mx x10_3 ((rd_T34 x5_2 x11_3).f2)) = j_ := ⟨_, rfl⟩
                              replace H : (gabionlaw15_WearSpreads.l1 k3 ji11 x5_2 ji83 ji84 (wrap64 (x11_3 + 1))) = some r := by first | (rw [hji84] at H; exact H) | (simp only [hji84] at H ⊢; exact H)
                              have hji84_ : (if x10_3 < ((rd_T34 x5_2 x11_3).f2) then ((rd_T34 x5_2 x11_3).f2) else x10_3) = ji84 := hji84
                              have H' := Aside0.mk H
                              clear H
                              have p143 : 0 ≤ (x11_3 : Int) := of_decide_eq_true (by first | (with_reducible assumption) | assumption)
                              have q143 : x11_3 < (x5_2.length : Int) := of_decide_eq_true (by first | (with_reducible assumption) | assumption)
                              obtain ⟨ad143, e143, hx143_0, hx143_1, hx143_2⟩ := at_T34 (Kd.R_reads' HO_5.out).2.2 x11_3 p143 q143
                              obtain rfl : ad141 = ad143 := (by injection e143)
                              replace p143 := eq_true p143
                              replace q143 := eq_true q143
                              have p144 : 0 ≤ (x11_3 : Int) := of_decide_eq_true (by first | (with_reducible assumption) | assumption)
                              have q144 : x11_3 < (x5_2.length : Int) := of_decide_eq_true (by first | (with_reducible assumption) | assumption)
                              obtain ⟨ad144, e144, hx144_0, hx144_1, hx144_2⟩ := at_T34 (Kd.R_reads' HO_5.out).2.2 x11_3 p144 q144
                              obtain rfl : ad141 = ad144 := (by injection e144)
                              replace p144 := eq_true p144
                              replace q144 := eq_true q144
                              go_wp2
                              go_roundg k3
                              case measure => have := HJ2.out; have := HK2.out; have := HK3.out; omega
                              case rel => exact ⟨(ji83), (ji84), (wrap64 (x11_3 + 1)), (by first | rfl | (simp; done) | (simp only [← hji83] <;> (first | rfl | simp)) | (simp [*]; done)), (by first | rfl | (simp; done) | (simp only [← hji84] <;> (first | rfl | simp)) | (simp [*]; done)), (by first | rfl | (simp; done) | (simp [*]; done)), H', ⟨by have := HJ2.out; have := HK2.out; have := HK3.out; omega⟩, ⟨by (with_reducible repeat (first | apply Kd.R_alloc | apply Kd.R_drewN | apply Kd.R_drew)); exact HO_5.out⟩, ⟨by repeat (first | (with_reducible first | exact HB.out | apply below_alloc | apply pw_below_drewN | apply below_drew1) | exact HB.out)⟩⟩
                            · rw [if_neg c82] at H
                              exact absurd H (by simp)
                          · rw [if_neg c81] at H
                            exact absurd H (by simp)
                        · rw [if_neg c80] at H
                          have c80b0 : decide (x11_3 < ji11) = false := decide_eq_false c80
                          clear c80
                          obtain rfl := Option.some.inj H
                          go_wp2
                          go_ret
                          exact ⟨by first | rfl | (simp [errW_none, errW_some] <;> rfl) | (simp only [← hji11]; first | rfl | (simp [errW_none, errW_some] <;> rfl)) | (simp [*, errW_none, errW_some] <;> rfl), by repeat (first | (with_reducible first | exact HB.out | apply below_alloc | apply pw_below_drewN | apply below_drew1) | exact HB.out)⟩
                  · rw [if_neg c77] at H
                    exact absurd H (by simp)
          · rw [if_neg c13] at H
            exact absurd H (by simp)
        · rw [if_neg c12] at H
          exact absurd H (by simp)

/-- THE ONE PURE STATEMENT of gabionlaw15_WearSpreads: yours. -/
def gabionlaw15_WearSpreads.Pure : Prop := ∀ (a0 : Int) (l1 : List Int), (Lit.int .i64 a0).wf = true → l1.length ≤ maxLen → l1.length * 8 ≤ 140737488351232 → (∀ x ∈ l1, (Lit.int .i64 x).wf = true) → ∃ k, gabionlaw15_WearSpreads.f k a0 l1 = some true
theorem gabionlaw15_WearSpreads.walk (P : gabionlaw15_WearSpreads.Pure) (a0 : Int) (a1 : Option Addr) (len1 cap1 : Nat) (z1 : List Int) (w : World) (w0 : (Lit.int .i64 a0).wf = true) (w1 : (a1 = none ∧ len1 = 0 ∧ cap1 = 0 ∧ z1 = []) ∨ ∃ x, a1 = some x ∧ len1 ≤ cap1 ∧ cap1 ≤ maxLen ∧ z1.length = cap1 ∧ (∀ i, i < z1.length → w.cell? (x.add i) = some (.int .i64 (z1.getD i 0))) ∧ ∀ n ∈ z1, (Lit.int .i64 n).wf = true) (y1 : len1 * 8 ≤ 140737488351232) :
    Calls Try.prog 4 #[.int .i64 a0, .slice a1 len1 cap1] w fun e w' => e = .returned (.bool true) ∧ Below w.heap.size w w' := by
  obtain ⟨l1, rfl, hr1, hm1, hw1, hc1⟩ := ReadsInt.ofRowC w1
  obtain ⟨k, h⟩ := P a0 l1 w0 hm1 y1 hw1
  refine (gabionlaw15_WearSpreads.calls k a0 _ _ l1 true w (Kd.C_of_reads (d := (0 : Int)) (h1 := fun _ => rfl) hr1) hc1 h).mono ?_
  rintro e w' ⟨rfl, hd⟩
  exact ⟨rfl, hd⟩

end Go.Proofs.Ytmcooidoemcaoaa.PWearSpreads

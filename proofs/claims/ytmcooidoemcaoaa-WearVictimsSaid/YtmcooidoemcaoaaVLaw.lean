/- WearVictims, walked: for every list of segments the law returns true. -/
import Derived.Test.YtmcooidoemcaoaaVRef
namespace Go.Proofs.Ytmcooidoemcaoaa.VLaw
open Go.RowKit Go.Proofs.Ytmcooidoemcaoaa.PWearNexts Go.Proofs.YtmcooidoemcaoaaW.PrintWords Go.Proofs.YtmcooidoemcaoaaW.PrintLast Go.Proofs.YtmcooidoemcaoaaW.PrintMore Go.Proofs.Ytmcooidoemcaoaa.PureWearNexts Go.Proofs.Ytmcooidoemcaoaa.VRef
set_option linter.unusedVariables false
set_option linter.unusedSimpArgs false

set_option maxHeartbeats 1000000 in
set_option maxRecDepth 100000 in
theorem law_calls (A0 : Option Addr) (c0 : Nat) (l0 : List S34) (w : World) (hn : l0.length < 5864062014805) (hw : ∀ x ∈ l0, Wf x) (hr0 : Kd.C k34 w A0 l0.length l0) (hc0 : l0.length ≤ c0) :
    Calls Try.prog 3 #[.slice A0 l0.length c0] w fun e w' => e = .returned (.bool true) ∧ Below w.heap.size w w' := by
  have HCH := Aside0.mk (chosen_is 5 (by omega))
  obtain ⟨a, b, r, hE, _, hv, hV⟩ := vic_all l0 (by omega) hw (l0.length + 1) (by omega)
  have ho := of_is l0 hn hw (l0.length + 1) (by omega)
  have HW := Aside0.mk hw
  have HE := Aside0.mk hE
  have HV := Aside0.mk hV
  have AV := Aside0.mk hv
  have AO := Aside0.mk ho
  have HR0 := Aside0.mk hr0
  have HC0 := Aside0.mk hc0
  have HLC : Aside0 ((l0.map conv).length = l0.length) := ⟨List.length_map ..⟩
  clear hr0 hc0 hE hV hv ho hw
  have HB := Aside0.mk (Below.refl w.heap.size w)
  by_cases c2 : 100 < l0.length
  · have c2b0 : decide (100 < (l0.length : Int)) = true := decide_eq_true (by omega)
    have c2b1 : decide (100 < l0.length) = true := decide_eq_true (by omega)
    clear c2
    go_enter Try.func3, Try.ntmps3
    go_wp2_with fail
    (with_reducible refine (gabionlaw15_chosen.calls 5 true _ HCH.out).mono ?_)
    rintro e w4 ⟨rfl, hb⟩
    have n0_ := Aside0.mk (below_step HB.out hb)
    clear HB hb
    go_wp2
    go_ret
    exact ⟨rfl, n0_.out⟩
  · have c2b0 : decide (100 < (l0.length : Int)) = false := decide_eq_false (by omega)
    have c2b1 : decide (100 < l0.length) = false := decide_eq_false (by omega)
    clear c2
    go_enter Try.func3, Try.ntmps3
    go_wp2_with fail
    (with_reducible refine (gabionlaw15_chosen.calls 5 true _ HCH.out).mono ?_)
    rintro e w4 ⟨rfl, hb⟩
    have n0_ := Aside0.mk (below_step HB.out hb)
    clear HB hb
    have HB := n0_
    clear n0_
    go_wp2_with fail
    with_reducible refine (wear_Victim.calls (l0.length + 1) _ _ l0 r _ (Kd.C_below HR0.out HB.out) HC0.out AV.out).mono ?_
    rintro e w5 ⟨rfl, hb⟩
    have n0_ := Aside0.mk (below_step HB.out hb)
    clear HB hb
    have HB := n0_
    clear n0_
    go_wp2_with fail
    with_reducible refine (gabionlaw15_of.calls (l0.length + 1) _ _ l0 (l0.map conv) _ (Kd.C_below HR0.out HB.out) HC0.out AO.out).mono ?_
    rintro e w6 ⟨v6, rfl, ho0, hb⟩
    have n0_ := Aside0.mk (below_step HB.out hb)
    have HO := Aside0.mk ho0
    clear HB hb ho0
    have HB := n0_
    clear n0_
    obtain ⟨A6, c6, e6⟩ := Kd.R_slice HO.out
    subst e6
    go_wp2_with fail
    have hc6 : l0.length ≤ c6 := by have := (Kd.R_reads' HO.out).2.1; rw [HLC.out] at this; exact this
    have HC6 := Aside0.mk hc6
    clear hc6
    ((with_reducible refine (ref_calls A6 c6 l0 l0.length HLC.out hn HW.out a b HE.out r HV.out _ ?side1 HC6.out).mono ?_); (case side1 => repeat (first | exact (Kd.R_reads' HO.out).2.2 | (with_reducible refine Kd.C_alloc ?_ _) | (with_reducible refine Kd.C_drewN ?_ _) | (with_reducible refine Kd.C_drew ?_))))
    rintro e w7 ⟨rfl, ⟨nd, rfl⟩⟩
    go_wp2
    go_ret
    exact ⟨by simp, by repeat (first | (with_reducible first | exact HB.out | apply below_alloc | apply pw_below_drewN | apply below_drew1) | exact HB.out)⟩

end Go.Proofs.Ytmcooidoemcaoaa.VLaw

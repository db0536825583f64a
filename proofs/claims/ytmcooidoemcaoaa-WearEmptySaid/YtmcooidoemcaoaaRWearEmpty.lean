/- WearEmpty holds of the given program: for every slice of segments that can be read and every two bools, the law returns true and leaves its arguments as they were. No further condition. -/
import Derived.Test.YtmcooidoemcaoaaRows
import Derived.Test.YtmcooidoemcaoaaQWearEmpty
import Derived.Test.YtmcooidoemcaoaaSegs
import Derived.WalkKit
import Derived.ProofKit
import Derived.OpenShut
import Derived.ChangeOld
import Derived.Below
import Derived.SizedLaws
namespace Go.Proofs.Ytmcooidoemcaoaa.wearEmpty
open Go.ChangeShapes Go.WideShapes Go.ChangeAt Go.RowKit Go.Proofs.YtmcooidoemcaoaaW.PrintWords
open Go.Proofs.Ytmcooidoemcaoaa.PWearEmpty
theorem own : ownKnob Try.prog.godebug = none := by kernel_rfl
theorem laidOut : laidOutB Try.prog = true := by kernel_rfl
/-- The opened slice, as the printed contracts read it. -/
theorem reads {W : World} {a : Option Addr} {len cap : Nat} {zs : List (Int × Int × Int)} (h : Segs.SegRow W a len cap zs) :
    ∃ l : List S34, l.length = len ∧ len ≤ cap ∧ l.length < 5864062014805 ∧ (∀ x ∈ l, PureWearEmpty.Wf x) ∧ Kd.C k34 W a l.length l := by
  obtain ⟨hz, hc, hm, hb, hw, hr⟩ := h
  refine ⟨zs.map fun z => ⟨z.1, z.2.1, z.2.2⟩, by simp [hz], hc, by rw [List.length_map]; omega, ?_, ?_⟩
  · intro x hx
    obtain ⟨z, hz', rfl⟩ := List.mem_map.1 hx
    exact hw z hz'
  · refine ⟨by simp, by rw [List.length_map, hz]; exact hm, fun hp => ?_⟩
    rw [List.length_map, hz] at hp
    obtain ⟨ad, e, hcell⟩ := hr hp
    refine ⟨ad, e, fun j p hj => ?_⟩
    rw [List.getElem?_map] at hj
    obtain ⟨z, hz', rfl⟩ := Option.map_eq_some_iff.1 hj
    refine ⟨_, rfl, k34_mk W _, fun i u hu => ?_⟩
    obtain ⟨h0, h1, h2⟩ := hcell j z hz'
    match i, hu with
    | 0, hu => simp at hu; subst hu; exact h0
    | 1, hu => simp at hu; subst hu; exact h1
    | 2, hu => simp at hu; subst hu; exact h2
theorem lifted (os : Os) (started : os.Started) (H : Type) (enc : TypeId × Value → H) :
    ReturnsInHanded {} Try.checked os 6 .any (Rows.wearEmptySpec.pre6 enc Try.prog Try.f6 Rows.wearEmptyRow.domain false) (Rows.wearEmptySpec.post enc Try.prog Try.f6 false true false false) := by
  refine returnsInHanded_of_change_sized (C := Try.checked) own started (by kernel_rfl) Try.func6
    (ChangeSpec.witness6 (enc := enc) (C := Try.checked) false ⟨#[], #[.slice none 0 0, .bool false, .bool false], []⟩ 8 (by kernel_rfl) (by kernel_rfl) (by kernel_rfl) (by kernel_rfl)) ?_
  intro W base args ds gs before hval0 hW hcnd hsz0 _
  have hsz : (DataW.weightsEach Try.prog (Try.f6.params.toList ++ Rows.wearEmptySpec.plain.varTypes Try.prog) (ds ++ gs)).all (· ≤ reachBytes) = true := hsz0
  have hval : ∀ (j : Nat) t v, Try.f6.params[j]? = some t → args[j]? = some v → Value.okWide Try.prog W .any base t v := hval0
  have hW' := hW
  obtain ⟨p, q, hA0, hV, rfl, hfz, hnd⟩ := hW
  have hA : DataW.TrodAll enc Try.prog W 0 (fun _ => true) true Try.f6.params.toList args.toList ds p := hA0
  rw [Try.params6] at hA hval hsz
  obtain ⟨v0, vs0, d0, ds0, p0, q0, hargs, rfl, rfl, h0, r0⟩ := trodAll_cons hA
  obtain ⟨v1, vs1, d1, ds1, p1, q1, rfl, rfl, rfl, h1, r1⟩ := trodAll_cons r0
  obtain ⟨v2, vs2, d2, ds2, p2, q2, rfl, rfl, rfl, h2, r2⟩ := trodAll_cons r1
  obtain ⟨rfl, rfl, rfl⟩ := trodAll_nil r2
  obtain rfl : args = #[v0, v1, v2] := by cases args; simp_all
  obtain ⟨rfl, rfl⟩ := trodVars_none hV
  obtain ⟨a0, len0, cap0, rfl⟩ := okWide_slice Try.underlying22 (hval 0 22 v0 rfl rfl)
  obtain ⟨a1, rfl, rfl, rfl⟩ := open_bool Try.underlying4 (hval 1 4 v1 rfl rfl) h1
  obtain ⟨a2, rfl, rfl, rfl⟩ := open_bool Try.underlying4 (hval 2 4 v2 rfl rfl) h2
  have k0 := h0
  have lt0 : ∀ x ∈ p0, x.block < W.heap.size := by obtain ⟨m, hm⟩ := k0; exact DataW.trod_lt m _ _ _ hm
  obtain ⟨zs, hz⟩ := Segs.open_segs (j0 := 0) hsz rfl rfl h0
  obtain ⟨l, rfl, hc, hn, hw, hr⟩ := reads hz
  clear hA0 hval0 hsz0 hsz
  refine (gabionlaw15_WearEmpty.calls _ a0 cap0 l a1 a2 true W hr hc (PureWearEmpty.WearEmpty l a1 a2 hn hw)).mono fun e W' ⟨he, bel⟩ => ?_
  subst he
  exact ⟨_, rfl, _, _, _, [], _, [], hW', trodAll_mk1 (shut_bool Try.underlying4 _), (trodAll_cons_mk (Below.trod laidOut (by kernel_rfl) (of_decide_eq_true (by kernel_rfl)) k0 bel lt0) (trodAll_cons_mk (shut_bool Try.underlying4 a1) (trodAll_cons_mk (shut_bool Try.underlying4 a2) trodAll_mk0))), rfl, bel.frame _, fun h => by cases h⟩
theorem over : Rows.wearEmptyRow.holds Try.pinned (OpenSpec.ofChange Rows.wearEmptySpec) :=
  OpenClaim.holds_of_wide 6 Try.f6 rfl rfl rfl rfl rfl rfl rfl ⟨rfl, rfl, rfl, rfl, rfl⟩ rfl rfl rfl rfl rfl (by kernel_rfl) Try.func6 (by kernel_rfl)
    (of_decide_eq_true (by kernel_rfl)) (by unfold Func.isWrapper; first | (rw [if_pos (by decide +kernel)]; kernel_rfl) | (rw [if_neg (by decide +kernel)]; exact ⟨rfl, rfl⟩))
    (fun os started H enc _ => lifted os started H enc)
end Go.Proofs.Ytmcooidoemcaoaa.wearEmpty
namespace Go.Proofs.Ytmcooidoemcaoaa
theorem wearEmpty_holds : Rows.WearEmptySaid := wearEmpty.over
#print axioms wearEmpty_holds
end Go.Proofs.Ytmcooidoemcaoaa

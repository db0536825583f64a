/- WearVictims holds of the given program: for every slice of segments that can be read, of any size that the form lets in, the law returns true and leaves its argument as it was. No further condition. -/
import Derived.Test.YtmcooidoemcaoaaRows
import Derived.Test.YtmcooidoemcaoaaVLaw
import Derived.Test.YtmcooidoemcaoaaSegs
import Derived.WalkKit
import Derived.ProofKit
import Derived.OpenShut
import Derived.ChangeOld
import Derived.Below
import Derived.SizedLaws
namespace Go.Proofs.Ytmcooidoemcaoaa.wearVictims
open Go.ChangeShapes Go.WideShapes Go.ChangeAt Go.RowKit Go.Proofs.YtmcooidoemcaoaaW.PrintWords
open Go.Proofs.Ytmcooidoemcaoaa.PWearNexts
theorem own : ownKnob Try.prog.godebug = none := by kernel_rfl
theorem laidOut : laidOutB Try.prog = true := by kernel_rfl
/-- The opened slice, as the printed contracts read it. -/
theorem reads {W : World} {a : Option Addr} {len cap : Nat} {zs : List (Int × Int × Int)} (h : Segs.SegRow W a len cap zs) :
    ∃ l : List S34, l.length = len ∧ len ≤ cap ∧ l.length < 5864062014805 ∧ (∀ x ∈ l, PureWearNexts.Wf x) ∧ Kd.C k34 W a l.length l := by
  obtain ⟨hz, hc, hm, hb, hw, hr⟩ := h
  refine ⟨zs.map fun z => ⟨z.1, z.2.1, z.2.2⟩, by simp [hz], hc, by rw [List.length_map]; omega, ?_, ?_⟩
  · intro x hx
    obtain ⟨z, hz', rfl⟩ := List.mem_map.1 hx
    exact hw z hz'
  · refine ⟨by simp, by rw [List.length_map, hz]; exact hm, fun hp => ?_⟩
    rw [List.length_map, hz] at hp
    obtain ⟨ad, e, hcell⟩ := hr hp
    refine ⟨ad, e, fun j p hj => ?_⟩
    rw [List.getElem?_map] at hj
    obtain ⟨z, hz', rfl⟩ := Option.map_eq_some_iff.1 hj
    refine ⟨_, rfl, k34_mk W _, fun i u hu => ?_⟩
    obtain ⟨h0, h1, h2⟩ := hcell j z hz'
    match i, hu with
    | 0, hu => simp at hu; subst hu; exact h0
    | 1, hu => simp at hu; subst hu; exact h1
    | 2, hu => simp at hu; subst hu; exact h2
theorem lifted (os : Os) (started : os.Started) (H : Type) (enc : TypeId × Value → H) :
    ReturnsInHanded {} Try.checked os 3 .any (Rows.wearVictimsSpec.pre6 enc Try.prog Try.f3 Rows.wearVictimsRow.domain false) (Rows.wearVictimsSpec.post enc Try.prog Try.f3 false true false false) := by
  refine returnsInHanded_of_change_sized (C := Try.checked) own started (by kernel_rfl) Try.func3
    (ChangeSpec.witness6 (enc := enc) (C := Try.checked) false ⟨#[], #[.slice none 0 0], []⟩ 8 (by kernel_rfl) (by kernel_rfl) (by kernel_rfl) (by kernel_rfl)) ?_
  intro W base args ds gs before hval0 hW hcnd hsz0 _
  have hsz : (DataW.weightsEach Try.prog (Try.f3.params.toList ++ Rows.wearVictimsSpec.plain.varTypes Try.prog) (ds ++ gs)).all (· ≤ reachBytes) = true := hsz0
  have hval : ∀ (j : Nat) t v, Try.f3.params[j]? = some t → args[j]? = some v → Value.okWide Try.prog W .any base t v := hval0
  have hW' := hW
  obtain ⟨p, q, hA0, hV, rfl, hfz, hnd⟩ := hW
  have hA : DataW.TrodAll enc Try.prog W 0 (fun _ => true) true Try.f3.params.toList args.toList ds p := hA0
  rw [Try.params3] at hA hval hsz
  obtain ⟨v0, vs0, d0, ds0, p0, q0, hargs, rfl, rfl, h0, r0⟩ := trodAll_cons hA
  obtain ⟨rfl, rfl, rfl⟩ := trodAll_nil r0
  obtain rfl : args = #[v0] := by cases args; simp_all
  obtain ⟨rfl, rfl⟩ := trodVars_none hV
  obtain ⟨a0, len0, cap0, rfl⟩ := okWide_slice Try.underlying22 (hval 0 22 v0 rfl rfl)
  have k0 := h0
  have lt0 : ∀ x ∈ p0, x.block < W.heap.size := by obtain ⟨m, hm⟩ := k0; exact DataW.trod_lt m _ _ _ hm
  obtain ⟨zs, hz⟩ := Segs.open_segs (j0 := 0) hsz rfl rfl h0
  obtain ⟨l, rfl, hc, hn, hw, hr⟩ := reads hz
  clear hA0 hval0 hsz0 hsz
  refine (VLaw.law_calls a0 cap0 l W hn hw hr hc).mono fun e W' ⟨he, bel⟩ => ?_
  subst he
  exact ⟨_, rfl, _, _, _, [], _, [], hW', trodAll_mk1 (shut_bool Try.underlying4 _), (trodAll_cons_mk (Below.trod laidOut (by kernel_rfl) (of_decide_eq_true (by kernel_rfl)) k0 bel lt0) trodAll_mk0), rfl, bel.frame _, fun h => by cases h⟩
theorem over : Rows.wearVictimsRow.holds Try.pinned (OpenSpec.ofChange Rows.wearVictimsSpec) :=
  OpenClaim.holds_of_wide 3 Try.f3 rfl rfl rfl rfl rfl rfl rfl ⟨rfl, rfl, rfl, rfl, rfl⟩ rfl rfl rfl rfl rfl (by kernel_rfl) Try.func3 (by kernel_rfl)
    (of_decide_eq_true (by kernel_rfl)) (by unfold Func.isWrapper; first | (rw [if_pos (by decide +kernel)]; kernel_rfl) | (rw [if_neg (by decide +kernel)]; exact ⟨rfl, rfl⟩))
    (fun os started H enc _ => lifted os started H enc)
end Go.Proofs.Ytmcooidoemcaoaa.wearVictims
namespace Go.Proofs.Ytmcooidoemcaoaa
theorem wearVictims_holds : Rows.WearVictimsSaid := wearVictims.over
#print axioms wearVictims_holds
end Go.Proofs.Ytmcooidoemcaoaa

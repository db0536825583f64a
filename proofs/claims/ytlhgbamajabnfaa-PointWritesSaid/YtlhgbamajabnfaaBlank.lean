/- record.Blank: are all bytes 255? What is sealed isn't blank. -/
import Derived.Test.YtlhgbamajabnfaaOpenLaw
import Derived.Test.YtlhgbamajabnfaaOpen
import Derived.Handy
namespace Go.Proofs.Ytlhgbamajabnfaa.Blank
open Go.RowKit Go.Proofs.Ytlhgbamajabnfaa.Gab Go.Proofs.Ytlhgbamajabnfaa.Fields Go.Proofs.Ytlhgbamajabnfaa.Open
open Go.Proofs.Ytlhgbamajabnfaa.Wr (InR)
set_option linter.unusedVariables false
set_option linter.unusedSimpArgs false
def allFF (xs : List Int) : Prop := ∀ b ∈ xs, b = 255
theorem allFF_of {xs : List Int} (h : ∀ j, j < xs.length → xs.getD j 0 = 255) : allFF xs := fun b hb => by
  obtain ⟨i, hi, rfl⟩ := List.getElem_of_mem hb
  have := h i hi
  rwa [List.getD_eq_getElem?_getD, List.getElem?_eq_getElem hi] at this

theorem index0 (u v : Value) (w : World) : (Instr.index 157 (.agg #[u, v]) (.int .i64 0)).run Try.prog w = .ok u w := by kernel_rfl
theorem index1 (u v : Value) (w : World) : (Instr.index 157 (.agg #[u, v]) (.int .i64 1)).run Try.prog w = .ok v w := by kernel_rfl
set_option maxHeartbeats 4000000 in
set_option maxRecDepth 100000 in
theorem Blank_calls (A B : Option Addr) (n c m d : Nat) (xs ys : List Int) (w : World) (hA : Rd .u8 w A n xs) (hB : Rd .u8 w B m ys) (r : Bool) (hr : r = true ↔ allFF xs ∧ allFF ys) :
    Calls Try.prog 55 #[.slice A n c, .slice B m d] w fun e w' => e = .returned (.bool r) ∧ Fr None_ w w' := by
  have HA := As.mk hA
  have HB := As.mk hB
  have HR := As.mk hr
  have hn := hA.2.1
  have hm := hB.2.1
  have hi0 := index0
  have hi1 := index1
  clear hA hB hr
  go_enter Try.func55, Try.ntmps55
  go_wp2_with fail
  go_loopw [6, 8, 12, 17] (fun v6 v8 v12 v17 w' => ∃ j : Int, v12 = .int .i64 j ∧ 0 ≤ j ∧ j ≤ 2 ∧ As (1 ≤ j → allFF xs) ∧ As (2 ≤ j → allFF ys) ∧ As (Fr None_ w w')) (fun _ _ v12 _ _ => (2 - intOf v12).toNat)
  case atStart => exact ⟨0, rfl, by omega, by omega, ⟨fun h => absurd h (by decide)⟩, ⟨fun h => absurd h (by decide)⟩, ⟨Fr.refl _ _⟩⟩
  case round =>
    obtain ⟨j, rfl, hj0, hj2, HX, HY, HF⟩ := hrel
    have hj : j = 0 ∨ j = 1 ∨ j = 2 := by omega
    rcases hj with rfl | rfl | rfl
    · go_wp2_with fail
      go_loopw [8, 17] (fun v8 v17 w' => ∃ i : Int, v17 = .int .i64 i ∧ 0 ≤ i ∧ i ≤ (n : Int) ∧ As (∀ k : Nat, (k : Int) < i → xs.getD k 0 = 255) ∧ As (Fr None_ w w')) (fun _ v17 _ => n - (intOf v17).toNat)
      case atStart => exact ⟨0, rfl, by omega, by omega, ⟨fun k h => absurd h (by omega)⟩, HF⟩
      case round =>
        obtain ⟨i, rfl, hi0, hi1, HI, HG⟩ := hrel
        by_cases hlt : i < (n : Int)
        · obtain ⟨ad, e, hc⟩ := (HA.out.none_ HG.out).at_ i hi0 hlt
          subst e
          by_cases e : xs.getD i.toNat 0 = 255
          · rw [e] at hc
            have HE := As.mk e
            clear e
            go_wp2_with fail
            exact ⟨⟨i + 1, rfl, by omega, by omega, ⟨fun k hk => by by_cases h : (k : Int) < i; exact HI.out k h; (rw [show k = i.toNat by omega]; exact HE.out)⟩, HG⟩, by simp [intOf]; omega⟩
          · have HE : As (r = false) := ⟨by
              cases r
              · rfl
              · exfalso
                have h := (HR.out.1 rfl).1
                refine e (h _ ?_)
                have hl := HA.out.1
                rw [List.getD_eq_getElem?_getD, List.getElem?_eq_getElem (by omega)]
                exact List.getElem_mem _⟩
            have hb : (xs.getD i.toNat 0 != 255) = true := by simp only [bne_iff_ne, ne_eq]; exact e
            generalize xs.getD i.toNat 0 = z at *
            go_wp2_with fail
            go_ret
            exact ⟨by rw [HE.out]; rfl, HG.out⟩
        · have HXX : As (allFF xs) := ⟨allFF_of (fun k hk => HI.out k (by have := HA.out.1; omega))⟩
          go_wp2_with fail
          exact ⟨⟨1, rfl, by omega, by omega, ⟨fun _ => HXX.out⟩, ⟨fun h => absurd h (by decide)⟩, HG⟩, by simp [intOf]⟩
    · go_wp2_with fail
      go_loopw [8, 17] (fun v8 v17 w' => ∃ i : Int, v17 = .int .i64 i ∧ 0 ≤ i ∧ i ≤ (m : Int) ∧ As (∀ k : Nat, (k : Int) < i → ys.getD k 0 = 255) ∧ As (Fr None_ w w')) (fun _ v17 _ => m - (intOf v17).toNat)
      case atStart => exact ⟨0, rfl, by omega, by omega, ⟨fun k h => absurd h (by omega)⟩, HF⟩
      case round =>
        obtain ⟨i, rfl, hi0, hi1, HI, HG⟩ := hrel
        by_cases hlt : i < (m : Int)
        · obtain ⟨ad, e, hc⟩ := (HB.out.none_ HG.out).at_ i hi0 hlt
          subst e
          by_cases e : ys.getD i.toNat 0 = 255
          · rw [e] at hc
            have HE := As.mk e
            clear e
            go_wp2_with fail
            exact ⟨⟨i + 1, rfl, by omega, by omega, ⟨fun k hk => by by_cases h : (k : Int) < i; exact HI.out k h; (rw [show k = i.toNat by omega]; exact HE.out)⟩, HG⟩, by simp [intOf]; omega⟩
          · have HE : As (r = false) := ⟨by
              cases r
              · rfl
              · exfalso
                have h := (HR.out.1 rfl).2
                refine e (h _ ?_)
                have hl := HB.out.1
                rw [List.getD_eq_getElem?_getD, List.getElem?_eq_getElem (by omega)]
                exact List.getElem_mem _⟩
            have hb : (ys.getD i.toNat 0 != 255) = true := by simp only [bne_iff_ne, ne_eq]; exact e
            generalize ys.getD i.toNat 0 = z at *
            go_wp2_with fail
            go_ret
            exact ⟨by rw [HE.out]; rfl, HG.out⟩
        · have HYY : As (allFF ys) := ⟨allFF_of (fun k hk => HI.out k (by have := HB.out.1; omega))⟩
          go_wp2_with fail
          exact ⟨⟨2, rfl, by omega, by omega, ⟨fun _ => HX.out (by decide)⟩, ⟨fun _ => HYY.out⟩, HG⟩, by simp [intOf]⟩
    · have HE : As (r = true) := ⟨HR.out.2 ⟨HX.out (by decide), HY.out (by decide)⟩⟩
      go_wp2_with fail
      go_ret
      exact ⟨by rw [HE.out]; rfl, HF.out⟩
end Go.Proofs.Ytlhgbamajabnfaa.Blank

/- stripe.Order: members in the order in which they are programmed. -/
import Derived.Test.YtlhgbamajabnfaaRam3
import Derived.Stop.Asserts
namespace Go.Proofs.Ytlhgbamajabnfaa.Ord
open Go.RowKit Go.Proofs.Ytlhgbamajabnfaa.Gab Go.Proofs.Ytlhgbamajabnfaa.Wr Go.Proofs.Ytlhgbamajabnfaa.Map Go.Proofs.Ytlhgbamajabnfaa.Geom Go.Proofs.Ytlhgbamajabnfaa.Ref Go.Proofs.Ytlhgbamajabnfaa.Ram
set_option linter.unusedVariables false
set_option linter.unusedSimpArgs false

/-- Members as an interface value. -/
def dev (p : Nat) : Value := .iface 30 (.pointer (some ⟨p, 0, none⟩))
def upTo (k : Nat) : List Int := (List.range k).map Int.ofNat
theorem upTo_succ (k : Nat) : upTo (k + 1) = upTo k ++ [(k : Int)] := by simp [upTo, List.range_succ]
def pre (first c : Int) : List Int := if 0 ≤ first ∧ first < c then [first] else []
/-- The order: that which is ahead of all, if it is there; all others. -/
def orderOf (first c : Int) : List Int := pre first c ++ (upTo c.toNat).filter (fun m => decide (m ≠ first))

set_option maxHeartbeats 2000000 in
set_option maxRecDepth 100000 in
theorem Order_calls (p : Nat) (s : St) (c : Int) (w : World) (h : RamE w p s) (hc : 0 ≤ c ∧ c ≤ 100) :
    Calls Try.prog 48 #[dev p, .int .i64 0, .int .i64 c] w fun e w' => ∃ v, e = .returned v ∧ Row 3 .i64 w' w.heap.size v (orderOf s.first c) ∧ Fr None_ w w' := by
  have HA := As.mk (fun w' (hf : Fr None_ w w') => Ahead_calls p s w' (h.none_ hf))
  have HPR : As (pre s.first c = if 0 ≤ s.first ∧ s.first < c then [s.first] else []) := ⟨rfl⟩
  have HO : As (orderOf s.first c = pre s.first c ++ (upTo c.toNat).filter (fun m => decide (m ≠ s.first))) := ⟨rfl⟩
  generalize pre s.first c = pr at *
  generalize orderOf s.first c = res at *
  generalize s.first = first at *
  obtain ⟨hc0, hc1⟩ := hc
  have hta := fun w => run_typeAssert_hasB (P := Try.prog) (t := 30) Try.underlying147 (by kernel_rfl) (.pointer (some ⟨p, 0, none⟩)) 105 w
  unfold dev
  clear h
  have HCASE : As (∃ a b : Bool, decide (0 ≤ first) = a ∧ decide (first < c) = b ∧ pr = if a && b then [first] else []) := ⟨decide (0 ≤ first), decide (first < c), rfl, rfl, by rw [HPR.out]; by_cases h1 : 0 ≤ first <;> by_cases h2 : first < c <;> simp [h1, h2]⟩
  obtain ⟨a, b, ha, hb, hpr⟩ := HCASE.out
  have HP2 := As.mk hpr
  clear hpr
  cases a <;> cases b
  all_goals
    go_enter Try.func48, Try.ntmps48
    go_upto_if 29 with ((with_reducible refine (HA.out _ (Fr.refl _ _)).mono ?_); rintro e w1 ⟨rfl, rfl⟩)
    go_cut [7] (fun v7 wc => As (Row 3 .i64 wc w.heap.size v7 pr) ∧ As (Fr None_ w wc))
    case first =>
      first
        | (have HP3 : As (pr = [first]) := ⟨by rw [HP2.out]; rfl⟩
           go_wp2_with (at_builtin; (with_reducible refine append1 w.heap.size rfl _ _ 39 3 .i64 8 rfl Try.underlying39 infoInt (by decide) (.slice none 0 0) [] _ rfl rfl (Row.nil _ _ _ _) (Nat.le_refl _) (by decide) ?_); intro v1 w2 hrow1 hfr1 hat1; have HR1 := As.mk hrow1; have HF2 := As.mk hfr1; clear hrow1 hfr1 hat1; obtain ⟨A1, n1, c1, e1, _⟩ := HR1.out.rd; subst e1)
           go_meet
           case rel => exact ⟨⟨by rw [HP3.out]; exact HR1.out⟩, ⟨HF2.out.mono (fun i _ h => by cases h)⟩⟩)
        | (have HP3 : As (pr = []) := ⟨by rw [HP2.out]; rfl⟩
           go_wp2
           go_meet
           case rel => exact ⟨⟨by rw [HP3.out]; exact Row.nil _ _ _ _⟩, ⟨Fr.refl _ _⟩⟩)
    case rest =>
      obtain ⟨HR, HF⟩ := hcut
      have HPL : As (pr.length ≤ 1) := ⟨by rw [HP2.out]; simp⟩
      go_wp2
      go_loopw [7, 11] (fun v7 v11 w' => ∃ m : Int, v11 = .int .i64 m ∧ 0 ≤ m ∧ m ≤ c ∧ As (Row 3 .i64 w' w.heap.size v7 (pr ++ (upTo m.toNat).filter (fun m => decide (m ≠ first)))) ∧ As (Fr None_ w w')) (fun _ v11 _ => (c - intOf v11).toNat)
      case atStart => exact ⟨0, rfl, by omega, by omega, ⟨by simpa [upTo] using HR.out⟩, HF⟩
      case round =>
        obtain ⟨m, rfl, m0, m1, HX, HG⟩ := hrel
        obtain ⟨A1, n1, c1, e1, _, hd, _⟩ := HX.out.rd
        have HLN : As ((pr ++ (upTo m.toNat).filter (fun m => decide (m ≠ first))).length ≤ 1 + m.toNat) := ⟨by
          rw [List.length_append]
          have h1 := List.length_filter_le (fun m => decide (m ≠ first)) (upTo m.toNat)
          have h2 : (upTo m.toNat).length = m.toNat := by simp [upTo]
          have h3 := HPL.out
          omega⟩
        have HUP : As ((upTo (m + 1).toNat).filter (fun m => decide (m ≠ first)) = (upTo m.toNat).filter (fun m => decide (m ≠ first)) ++ if m = first then [] else [m]) := ⟨by
          rw [show (m + 1).toNat = m.toNat + 1 by omega, upTo_succ, List.filter_append, show ((m.toNat : Nat) : Int) = m by omega]
          by_cases e : m = first <;> simp [e]⟩
        clear hd
        subst e1
        by_cases hlt : m < c
        · by_cases e : m = first
          · have hbe : (m != first) = false := by simp [e]
            have HU2 : As ((upTo (m + 1).toNat).filter (fun m => decide (m ≠ first)) = (upTo m.toNat).filter (fun m => decide (m ≠ first))) := ⟨by rw [HUP.out, if_pos e, List.append_nil]⟩
            clear e
            go_wp2
            exact ⟨⟨m + 1, rfl, by omega, by omega, ⟨by rw [HU2.out]; exact HX.out⟩, HG⟩, by simp [intOf]; omega⟩
          · have hbe : (m != first) = true := by simp [e]
            have HU2 : As ((upTo (m + 1).toNat).filter (fun m => decide (m ≠ first)) = (upTo m.toNat).filter (fun m => decide (m ≠ first)) ++ [m]) := ⟨by rw [HUP.out, if_neg e]⟩
            clear e
            go_wp2_with (at_builtin; (with_reducible refine append1 w.heap.size rfl _ _ 39 3 .i64 8 rfl Try.underlying39 infoInt (by decide) (.slice A1 n1 c1) (pr ++ (upTo m.toNat).filter (fun m => decide (m ≠ first))) _ rfl rfl HX.out HG.out.size ?k0 ?_); (case k0 => have := HLN.out; omega); intro v1 w2 hrow1 hfr1 hat1; have HR1 := As.mk hrow1; have HF2 := As.mk (row_grow HX.out HG.out hfr1); clear hrow1 hfr1 hat1)
            exact ⟨⟨m + 1, rfl, by omega, by omega, ⟨by rw [HU2.out, ← List.append_assoc]; exact HR1.out⟩, HF2⟩, by simp [intOf]; omega⟩
        · have HE : As (Row 3 .i64 wr w.heap.size (.slice A1 n1 c1) res) := ⟨by rw [HO.out, show c.toNat = m.toNat by omega]; exact HX.out⟩
          go_wp2
          go_ret
          exact ⟨_, rfl, HE.out, HG.out⟩
end Go.Proofs.Ytlhgbamajabnfaa.Ord

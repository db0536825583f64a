/- What wear.Dead comes to: WearEmpty's own copy. -/
import Derived.Test.YtmcooidoemcaoaaCWearEmpty
namespace Go.Proofs.Ytmcooidoemcaoaa.PureWearEmpty
open Go.RowKit Go.Proofs.Ytmcooidoemcaoaa.PWearEmpty Go.Proofs.YtmcooidoemcaoaaW.PrintWords Go.Proofs.YtmcooidoemcaoaaW.PrintLast

/-- Closed, and no page counts. -/
def IsDead (x : S34) : Prop := x.f0 = 2 ∧ x.f1 = 0
instance (x : S34) : Decidable (IsDead x) := by unfold IsDead; infer_instance
/-- The dead ones among the first i. -/
def deadTo (l : List S34) : Nat → List Int
  | 0 => []
  | i + 1 => if IsDead (at_ l i) then deadTo l i ++ [(i : Int)] else deadTo l i
theorem deadTo_le (l : List S34) : ∀ i, (deadTo l i).length ≤ i
  | 0 => by simp [deadTo]
  | i + 1 => by have := deadTo_le l i; unfold deadTo; split <;> (try rw [List.length_append, List.length_singleton]) <;> omega
theorem deadTo_nil {l : List S34} : ∀ i, (∀ j, j < i → ¬ IsDead (at_ l j)) → deadTo l i = []
  | 0, _ => by simp [deadTo]
  | i + 1, h => by unfold deadTo; rw [if_neg (h i (by omega))]; exact deadTo_nil i (fun j hj => h j (by omega))
theorem deadTo_prefix (l : List S34) (i : Nat) : ∀ d, ∃ t, deadTo l (i + d) = deadTo l i ++ t
  | 0 => ⟨[], by simp⟩
  | d + 1 => by
    obtain ⟨t, ht⟩ := deadTo_prefix l i d
    rw [← Nat.add_assoc, deadTo, ht]
    split
    · exact ⟨t ++ [((i + d : Nat) : Int)], by simp⟩
    · exact ⟨t, rfl⟩
theorem dead_loop (l : List S34) (hn : l.length < 17592186044416) (d : Nat) : ∀ (k i : Nat), i ≤ l.length → l.length - i = d → d < k →
    wear_Dead.l0 k (deadTo l i) l (l.length : Int) (i : Int) = some (deadTo l l.length) := by
  induction d with
  | zero =>
    intro k i h0 h1 hk
    obtain ⟨k, rfl⟩ : ∃ m, k = m + 1 := ⟨k - 1, by omega⟩
    obtain rfl : i = l.length := by omega
    simp only [wear_Dead.l0]; rw [if_neg (by omega)]
  | succ d ih =>
    intro k i h0 h1 hk
    obtain ⟨k, rfl⟩ : ∃ m, k = m + 1 := ⟨k - 1, by omega⟩
    have hg := ih k (i + 1) (by omega) (by omega) (by omega)
    have hle := deadTo_le l i
    simp only [wear_Dead.l0]
    rw [if_pos (by omega), if_pos (by omega), if_pos (by omega), w64 (i := i) (by omega), rd_at]
    by_cases c : IsDead (at_ l i)
    · rw [if_pos c.1, if_pos c.2, if_pos (by omega)]
      rw [deadTo, if_pos c] at hg
      exact hg
    · rw [deadTo, if_neg c] at hg
      by_cases c2 : (at_ l i).f0 = 2
      · rw [if_pos c2, if_neg (fun h => c ⟨c2, h⟩)]; exact hg
      · rw [if_neg c2]; exact hg
theorem dead_is (l : List S34) (hn : l.length < 17592186044416) (k : Nat) (hk : l.length < k) : wear_Dead.f k l = some (deadTo l l.length) :=
  dead_loop l hn l.length k 0 (by omega) (by omega) hk

end Go.Proofs.Ytmcooidoemcaoaa.PureWearEmpty

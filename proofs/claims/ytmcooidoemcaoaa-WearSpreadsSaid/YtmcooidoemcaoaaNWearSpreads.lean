/- What wear.Count comes to: WearSpreads's own copy. -/
import Derived.Test.YtmcooidoemcaoaaCWearSpreads
namespace Go.Proofs.Ytmcooidoemcaoaa.PureWearSpreads
open Go.RowKit Go.Proofs.Ytmcooidoemcaoaa.PWearSpreads Go.Proofs.YtmcooidoemcaoaaW.PrintWords Go.Proofs.YtmcooidoemcaoaaW.PrintLast

/-- How many of the first i are of a kind. -/
def cnt (l : List S34) (kind : Int) : Nat → Nat
  | 0 => 0
  | i + 1 => cnt l kind i + if (at_ l i).f0 = kind then 1 else 0
theorem cnt_le (l : List S34) (kind : Int) : ∀ i, cnt l kind i ≤ i
  | 0 => by simp [cnt]
  | i + 1 => by have := cnt_le l kind i; unfold cnt; split <;> omega
theorem cnt_zero {l : List S34} {kind : Int} : ∀ i, (∀ j, j < i → ¬ (at_ l j).f0 = kind) → cnt l kind i = 0
  | 0, _ => by simp [cnt]
  | i + 1, h => by unfold cnt; rw [cnt_zero i (fun j hj => h j (by omega)), if_neg (h i (by omega))]
theorem cnt_all {l : List S34} {kind : Int} : ∀ i, (∀ j, j < i → (at_ l j).f0 = kind) → cnt l kind i = i
  | 0, _ => by simp [cnt]
  | i + 1, h => by unfold cnt; rw [cnt_all i (fun j hj => h j (by omega)), if_pos (h i (by omega))]
theorem cnt_one {l : List S34} {kind : Int} : ∀ i, 0 < cnt l kind i → ∃ j, j < i ∧ (at_ l j).f0 = kind
  | 0, h => by simp [cnt] at h
  | i + 1, h => by
    by_cases c : (at_ l i).f0 = kind
    · exact ⟨i, by omega, c⟩
    · unfold cnt at h
      rw [if_neg c] at h
      obtain ⟨j, hj, e⟩ := cnt_one i (by omega)
      exact ⟨j, by omega, e⟩
theorem cnt_loop (l : List S34) (kind : Int) (hn : l.length < 140737488355328) (d : Nat) : ∀ (k i : Nat), i ≤ l.length → l.length - i = d → d < k →
    wear_Count.l0 k kind (cnt l kind i : Int) l (l.length : Int) (i : Int) = some (cnt l kind l.length : Int) := by
  induction d with
  | zero =>
    intro k i h0 h1 hk
    obtain ⟨k, rfl⟩ : ∃ m, k = m + 1 := ⟨k - 1, by omega⟩
    obtain rfl : i = l.length := by omega
    simp only [wear_Count.l0]; rw [if_neg (by omega)]
  | succ d ih =>
    intro k i h0 h1 hk
    obtain ⟨k, rfl⟩ : ∃ m, k = m + 1 := ⟨k - 1, by omega⟩
    have hg := ih k (i + 1) (by omega) (by omega) (by omega)
    simp only [wear_Count.l0]
    rw [if_pos (by omega), if_pos (by omega), if_pos (by omega), w64 (i := i) (by omega), rd_at]
    by_cases c : (at_ l i).f0 = kind
    · rw [if_pos c, w64 (i := cnt l kind i) (by have := cnt_le l kind i; omega)]
      have e : cnt l kind (i + 1) = cnt l kind i + 1 := by rw [cnt, if_pos c]
      rw [← e]; exact hg
    · rw [if_neg c]
      have e : cnt l kind (i + 1) = cnt l kind i := by rw [cnt, if_neg c]; omega
      rw [← e]; exact hg
theorem cnt_is (l : List S34) (kind : Int) (hn : l.length < 140737488355328) (k : Nat) (hk : l.length < k) : wear_Count.f k l kind = some (cnt l kind l.length : Int) :=
  cnt_loop l kind hn l.length k 0 (by omega) (by omega) hk

end Go.Proofs.Ytmcooidoemcaoaa.PureWearSpreads

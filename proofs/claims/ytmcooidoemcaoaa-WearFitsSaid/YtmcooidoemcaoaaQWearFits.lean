/- WearFits in plain terms: for every list of segments (of a size that fits memory) the printed law answers true. -/
import Derived.Test.YtmcooidoemcaoaaNWearFits
namespace Go.Proofs.Ytmcooidoemcaoaa.PureWearFits
open Go.RowKit Go.Proofs.Ytmcooidoemcaoaa.PWearFits Go.Proofs.YtmcooidoemcaoaaW.PrintWords Go.Proofs.YtmcooidoemcaoaaW.PrintLast

/-- The least and the greatest of the first i, from a first one on. -/
def LmInv (l : List S34) (i : Nat) (a b : Int) : Prop :=
  (∃ j, j < max i 1 ∧ a = (at_ l j).f2) ∧ (∃ j, j < max i 1 ∧ b = (at_ l j).f2) ∧ ∀ j, j < max i 1 → a ≤ (at_ l j).f2 ∧ (at_ l j).f2 ≤ b
theorem lm_step {l : List S34} {i : Nat} {a b : Int} (h : LmInv l i a b) : LmInv l (i + 1) (mn a (at_ l i).f2) (mx b (at_ l i).f2) := by
  obtain ⟨⟨ja, hja, ea⟩, ⟨jb, hjb, eb⟩, hall⟩ := h
  have hm : max (i + 1) 1 = i + 1 := by omega
  have hlt : ∀ j, j < max i 1 → j < i + 1 := fun j hj => by omega
  unfold LmInv
  rw [hm]
  refine ⟨?_, ?_, ?_⟩
  · unfold mn
    split
    · first | exact ⟨i, by omega, rfl⟩ | exact ⟨ja, hlt _ hja, ea⟩
    · first | exact ⟨ja, hlt _ hja, ea⟩ | exact ⟨i, by omega, rfl⟩
  · unfold mx
    split
    · first | exact ⟨i, by omega, rfl⟩ | exact ⟨jb, hlt _ hjb, eb⟩
    · first | exact ⟨jb, hlt _ hjb, eb⟩ | exact ⟨i, by omega, rfl⟩
  · intro j hj
    by_cases e : j = i
    · subst e
      unfold mn mx
      constructor
      · split <;> omega
      · split <;> omega
    · have := hall j (by omega)
      unfold mn mx
      constructor
      · split <;> omega
      · split <;> omega

/-- No closed one is ahead of the victim. -/
def Fits (l : List S34) (v : Nat) (cold : Bool) : Prop := ∀ j, j < l.length → (at_ l j).f0 = 2 → ¬ k1 cold (at_ l j) < k1 cold (at_ l v)
theorem l1_true (l : List S34) (hn : l.length < 140737488355328) (v : Nat) (hv : v < l.length) (a b : Int) (hF : Fits l v (Cold a b)) (d : Nat) : ∀ (k i : Nat), i ≤ l.length → l.length - i = d → d < k →
    gabionlaw15_WearFits.l1 k l (v : Int) a b (i : Int) = some true := by
  induction d with
  | zero =>
    intro k i h0 h1 hk
    obtain ⟨k, rfl⟩ : ∃ m, k = m + 1 := ⟨k - 1, by omega⟩
    obtain rfl : i = l.length := by omega
    simp only [gabionlaw15_WearFits.l1]; rw [if_neg (by omega)]
  | succ d ih =>
    intro k i h0 h1 hk
    obtain ⟨k, rfl⟩ : ∃ m, k = m + 1 := ⟨k - 1, by omega⟩
    have hg := ih k (i + 1) (by omega) (by omega) (by omega)
    simp only [gabionlaw15_WearFits.l1]
    rw [if_pos (by omega), if_pos (by omega), w64 (by omega), rd_at, rd_at]
    by_cases c : (at_ l i).f0 = 2
    · rw [if_pos c]
      have hf := hF i (by omega) c
      by_cases c2 : (b - a) % 4294967296 > 8
      · have : Cold a b = true := decide_eq_true c2
        rw [this] at hf
        simp only [k1, if_true] at hf
        rw [if_pos c2, if_pos (by omega), if_pos (by omega), if_neg hf, if_neg (by omega)]
        exact hg
      · have : Cold a b = false := decide_eq_false c2
        rw [this] at hf
        simp only [k1, Bool.false_eq_true, if_false] at hf
        rw [if_neg c2, if_pos (by omega), if_pos (by omega), if_pos (by omega), if_neg hf]
        exact hg
    · rw [if_neg c]; exact hg
theorem l0_true (l : List S34) (hn : l.length < 140737488355328) (v : Nat) (hv : v < l.length) (a0 b0 : Int) (hE : EndsInv l l.length a0 b0) (hF : Fits l v (Cold a0 b0)) (d : Nat) : ∀ (k i : Nat) (a b : Int), i ≤ l.length → l.length - i = d → d + l.length + 1 < k → LmInv l i a b →
    gabionlaw15_WearFits.l0 k l (v : Int) a b (i : Int) = some true := by
  induction d with
  | zero =>
    intro k i a b h0 h1 hk hI
    obtain ⟨k, rfl⟩ : ∃ m, k = m + 1 := ⟨k - 1, by omega⟩
    obtain rfl : i = l.length := by omega
    simp only [gabionlaw15_WearFits.l0]; rw [if_neg (by omega)]
    have hm : max l.length 1 = l.length := by omega
    obtain ⟨⟨ja, hja, ea⟩, ⟨jb, hjb, eb⟩, hall⟩ := hI
    rw [hm] at hja hjb hall
    rcases hE with ⟨h, _⟩ | ⟨_, ⟨ja', hja', ea'⟩, ⟨jb', hjb', eb'⟩, hall'⟩
    · omega
    · have e1 : a0 = a := by
        have := (hall' ja hja).1
        have := (hall ja' hja').1
        omega
      have e2 : b0 = b := by
        have := (hall' jb hjb).2
        have := (hall jb' hjb').2
        omega
      subst e1 e2
      exact l1_true l hn v hv a0 b0 hF l.length k 0 (by omega) (by omega) (by omega)
  | succ d ih =>
    intro k i a b h0 h1 hk hI
    obtain ⟨k, rfl⟩ : ∃ m, k = m + 1 := ⟨k - 1, by omega⟩
    simp only [gabionlaw15_WearFits.l0]
    rw [if_pos (by omega), if_pos (by omega), w64 (by omega), rd_at]
    exact ih k (i + 1) _ _ (by omega) (by omega) (by omega) (lm_step hI)

theorem WearFits (l : List S34) (hn : l.length < 140737488355328) (hw : ∀ x ∈ l, Wf x) : gabionlaw15_WearFits.f (2 * l.length + 20) l = some true := by
  unfold gabionlaw15_WearFits.f
  rw [chosen_is _ (by omega)]
  simp only [Option.bind_some, if_true]
  show gabionlaw15_WearFits.j0 (2 * l.length + 19 + 1) l _ = _
  simp only [gabionlaw15_WearFits.j0]
  by_cases c : (l.length : Int) > 100
  · rw [if_pos (decide_eq_true c), chosen_is _ (by omega)]; rfl
  · rw [if_neg (by rw [decide_eq_false c]; decide)]
    obtain ⟨a, b, r, hE, _, hr, hV⟩ := vic_all l hn hw (2 * l.length + 19) (by omega)
    rw [hr]
    simp only [Option.bind_some]
    rcases hV with ⟨rfl, h⟩ | ⟨m, rfl, hm, hP, h⟩
    · rw [if_pos (by omega), cnt_is l 2 hn _ (by omega), cnt_zero _ h]; rfl
    · have hP' : (at_ l m).f0 = 2 := hP
      rw [if_neg (by omega), if_neg (by omega), if_pos (by omega), if_pos (by omega), rd_at, hP']
      show gabionlaw15_WearFits.j1 (2 * l.length + 18 + 1) l _ _ = _
      simp only [gabionlaw15_WearFits.j1]
      rw [if_neg (by decide), if_pos (by omega)]
      have h00 : rd_T34 l 0 = at_ l 0 := rd_at l 0
      rw [h00]
      refine l0_true l hn m hm a b hE ?_ l.length _ 0 _ _ (by omega) (by omega) (by omega) ?_
      · intro j hj hp hlt
        exact (h j hj hp).1 (.inl hlt)
      · refine ⟨⟨0, by omega, rfl⟩, ⟨0, by omega, rfl⟩, fun j hj => ?_⟩
        obtain rfl : j = 0 := by omega
        exact ⟨Int.le_refl _, Int.le_refl _⟩

end Go.Proofs.Ytmcooidoemcaoaa.PureWearFits

/- What the loops of package wear come to, in plain terms: WearNexts's own copy. -/
import Derived.Test.YtmcooidoemcaoaaPWearNextsx
namespace Go.Proofs.Ytmcooidoemcaoaa.PureWearNexts
open Go.RowKit Go.Proofs.Ytmcooidoemcaoaa.PWearNexts Go.Proofs.YtmcooidoemcaoaaW.PrintWords Go.Proofs.YtmcooidoemcaoaaW.PrintLast

/-- A segment's numbers are of their kinds. -/
def Wf (x : S34) : Prop := 0 ≤ x.f2 ∧ x.f2 < 4294967296
/-- The n-th segment. -/
def at_ (l : List S34) (i : Nat) : S34 := l.getD i z34
theorem rd_at (l : List S34) (i : Nat) : rd_T34 l (i : Int) = at_ l i := by simp [rd_T34, at_]
theorem wf_at {l : List S34} (h : ∀ x ∈ l, Wf x) (i : Nat) : Wf (at_ l i) := by
  unfold at_
  rw [List.getD_eq_getElem?_getD]
  by_cases hi : i < l.length
  · rw [List.getElem?_eq_getElem hi]; exact h _ (List.getElem_mem hi)
  · rw [List.getElem?_eq_none (by omega)]; exact ⟨by decide, by decide⟩
theorem w64 {i : Nat} (h : i < 140737488355328) : wrap64 ((i : Int) + 1) = ((i + 1 : Nat) : Int) := by
  unfold wrap64; omega

/-! ### ends -/
def EndsInv (l : List S34) (i : Nat) (a b : Int) : Prop :=
  (i = 0 ∧ a = 0 ∧ b = 0) ∨ (0 < i ∧ (∃ j, j < i ∧ a = (at_ l j).f2) ∧ (∃ j, j < i ∧ b = (at_ l j).f2) ∧ ∀ j, j < i → a ≤ (at_ l j).f2 ∧ (at_ l j).f2 ≤ b)
theorem ends_step {l : List S34} {i : Nat} {a b : Int} (h : EndsInv l i a b) (hw : Wf (at_ l i)) :
    EndsInv l (i + 1) (if i = 0 then (at_ l i).f2 else if (at_ l i).f2 < a then (at_ l i).f2 else a) (mx b (at_ l i).f2) := by
  right
  unfold mx
  rcases h with ⟨rfl, rfl, rfl⟩ | ⟨h0, ⟨ja, hja, ea⟩, ⟨jb, hjb, eb⟩, hall⟩
  · refine ⟨by omega, ⟨0, by omega, by simp⟩, ⟨0, by omega, ?_⟩, ?_⟩
    · have := hw.1; split <;> omega
    · intro j hj
      obtain rfl : j = 0 := by omega
      have := hw.1
      simp
      split <;> omega
  · rw [if_neg (by omega)]
    refine ⟨by omega, ?_, ?_, ?_⟩
    · by_cases c : (at_ l i).f2 < a
      · exact ⟨i, by omega, by rw [if_pos c]⟩
      · exact ⟨ja, by omega, by rw [if_neg c]; exact ea⟩
    · split
      · first | exact ⟨i, by omega, rfl⟩ | exact ⟨jb, by omega, eb⟩
      · first | exact ⟨jb, by omega, eb⟩ | exact ⟨i, by omega, rfl⟩
    · intro j hj
      by_cases e : j = i
      · subst e
        constructor
        · split <;> omega
        · split <;> omega
      · have := hall j (by omega)
        constructor
        · split <;> omega
        · split <;> omega
theorem ends_loop (l : List S34) (hn : l.length < 140737488355328) (hw : ∀ x ∈ l, Wf x) (d : Nat) : ∀ (k i : Nat) (a b : Int), i ≤ l.length → l.length - i = d → d < k → EndsInv l i a b →
    ∃ r, wear_ends.l0 k a b l (l.length : Int) (i : Int) = some r ∧ EndsInv l l.length r.1 r.2 := by
  induction d with
  | zero =>
    intro k i a b h0 h1 hk hI
    obtain ⟨k, rfl⟩ : ∃ m, k = m + 1 := ⟨k - 1, by omega⟩
    obtain rfl : i = l.length := by omega
    exact ⟨(a, b), by simp only [wear_ends.l0]; rw [if_neg (by omega)], hI⟩
  | succ d ih =>
    intro k i a b h0 h1 hk hI
    obtain ⟨k, rfl⟩ : ∃ m, k = m + 1 := ⟨k - 1, by omega⟩
    have hs := ends_step hI (wf_at hw i)
    obtain ⟨r, hr, h⟩ := ih k (i + 1) _ _ (by omega) (by omega) (by omega) hs
    refine ⟨r, ?_, h⟩
    simp only [wear_ends.l0]
    rw [if_pos (by omega), if_pos (by omega), if_pos (by omega), w64 (by omega), rd_at]
    by_cases c : i = 0
    · subst c
      rw [if_pos (by rfl)]; exact hr
    · rw [if_neg (by omega)]
      rw [if_neg c] at hr
      by_cases c2 : (at_ l i).f2 < a
      · rw [if_pos c2] at hr ⊢; exact hr
      · rw [if_neg c2] at hr ⊢; exact hr
theorem ends_all (l : List S34) (hn : l.length < 140737488355328) (hw : ∀ x ∈ l, Wf x) (k : Nat) (hk : l.length < k) : ∃ r, wear_ends.f k l = some r ∧ EndsInv l l.length r.1 r.2 :=
  ends_loop l hn hw l.length k 0 0 0 (by omega) (by omega) hk (.inl ⟨rfl, rfl, rfl⟩)

/-! ### better -/
def k1 (cold : Bool) (x : S34) : Int := if cold = true then x.f2 else x.f1
def k2 (cold : Bool) (x : S34) : Int := if cold = true then x.f1 else x.f2
def Bet (cold : Bool) (a b : S34) : Prop := k1 cold a < k1 cold b ∨ (k1 cold a = k1 cold b ∧ k2 cold a < k2 cold b)
instance (cold : Bool) (a b : S34) : Decidable (Bet cold a b) := by unfold Bet; infer_instance
theorem better_is (k : Nat) (cold : Bool) (a b : S34) : wear_better.f (k + 1) a.f0 a.f1 a.f2 b.f0 b.f1 b.f2 cold = some (decide (Bet cold a b)) := by
  unfold wear_better.f
  cases cold
  · rw [if_neg (by decide)]
    simp only [wear_better.j0, Bool.false_eq_true, if_false, Bet, k1, k2]
    by_cases c : a.f1 = b.f1
    · rw [if_pos c]; congr 1; rw [decide_eq_decide]; omega
    · rw [if_neg c]; congr 1; rw [decide_eq_decide]; omega
  · rw [if_pos rfl]
    simp only [wear_better.j0, Bet, k1, k2, if_true]
    by_cases c : a.f2 = b.f2
    · have : (a.f2 != b.f2) = false := by simp [c]
      rw [if_neg (by rw [this]; decide)]
      by_cases c2 : a.f1 = b.f1
      · rw [if_pos c2]; congr 1; rw [decide_eq_decide]; omega
      · rw [if_neg c2]; congr 1; rw [decide_eq_decide]; omega
    · have : (a.f2 != b.f2) = true := by simp [c]
      rw [if_pos this]; congr 1; rw [decide_eq_decide]; omega

/-! ### Victim -/
/-- b is the first of the best of those of a kind ahead of i; -1: there is none. -/
def BestInv (P : S34 → Prop) (R : S34 → S34 → Prop) (l : List S34) (i : Nat) (b : Int) : Prop :=
  (b = -1 ∧ ∀ j, j < i → ¬ P (at_ l j)) ∨ ∃ m : Nat, b = m ∧ m < i ∧ P (at_ l m) ∧ ∀ j, j < i → P (at_ l j) → ¬ R (at_ l j) (at_ l m) ∧ (j < m → R (at_ l m) (at_ l j))
def VInv (cold : Bool) : List S34 → Nat → Int → Prop := BestInv (fun x => x.f0 = 2) (Bet cold)
theorem bet_trans {cold : Bool} {a b c : S34} (h : Bet cold a b) (g : Bet cold b c) : Bet cold a c := by unfold Bet at *; omega
theorem bet_neg {cold : Bool} {a b c : S34} (h : Bet cold a b) (g : ¬ Bet cold c b) : Bet cold a c := by unfold Bet at *; omega
theorem best_skip {P : S34 → Prop} {R : S34 → S34 → Prop} {l : List S34} {i : Nat} {b : Int} (h : BestInv P R l i b) (hp : ¬ P (at_ l i)) : BestInv P R l (i + 1) b := by
  rcases h with ⟨rfl, h⟩ | ⟨m, rfl, hm, hP, h⟩
  · refine .inl ⟨rfl, fun j hj => ?_⟩
    by_cases e : j = i
    · subst e; exact hp
    · exact h j (by omega)
  · refine .inr ⟨m, rfl, by omega, hP, fun j hj hj2 => ?_⟩
    by_cases e : j = i
    · subst e; exact absurd hj2 hp
    · exact h j (by omega) hj2
theorem best_take {P : S34 → Prop} {R : S34 → S34 → Prop} {l : List S34} {i : Nat} (hp : P (at_ l i)) (hirr : ¬ R (at_ l i) (at_ l i)) (h : ∀ j, j < i → P (at_ l j) → ¬ R (at_ l j) (at_ l i) ∧ R (at_ l i) (at_ l j)) : BestInv P R l (i + 1) (i : Int) := by
  refine .inr ⟨i, rfl, by omega, hp, fun j hj hj2 => ?_⟩
  by_cases e : j = i
  · subst e; exact ⟨hirr, fun h => absurd h (by omega)⟩
  · exact ⟨(h j (by omega) hj2).1, fun _ => (h j (by omega) hj2).2⟩
theorem best_keep {P : S34 → Prop} {R : S34 → S34 → Prop} {l : List S34} {i m : Nat} (hm : m < i) (hP : P (at_ l m)) (h : ∀ j, j < i → P (at_ l j) → ¬ R (at_ l j) (at_ l m) ∧ (j < m → R (at_ l m) (at_ l j))) (hn : ¬ R (at_ l i) (at_ l m)) : BestInv P R l (i + 1) (m : Int) := by
  refine .inr ⟨m, rfl, by omega, hP, fun j hj hj2 => ?_⟩
  by_cases e : j = i
  · subst e; exact ⟨hn, fun h => by omega⟩
  · exact h j (by omega) hj2
theorem vic_loop (l : List S34) (hn : l.length < 140737488355328) (cold : Bool) (d : Nat) : ∀ (k i : Nat) (b : Int), i ≤ l.length → l.length - i = d → d < k → VInv cold l i b →
    ∃ r, wear_Victim.l0 k l cold b l (l.length : Int) (i : Int) = some r ∧ VInv cold l l.length r := by
  induction d with
  | zero =>
    intro k i b h0 h1 hk hI
    obtain ⟨k, rfl⟩ : ∃ m, k = m + 1 := ⟨k - 1, by omega⟩
    obtain rfl : i = l.length := by omega
    exact ⟨b, by simp only [wear_Victim.l0]; rw [if_neg (by omega)], hI⟩
  | succ d ih =>
    intro k i b h0 h1 hk hI
    obtain ⟨k, rfl⟩ : ∃ m, k = m + 1 := ⟨k - 1, by omega⟩
    simp only [wear_Victim.l0]
    rw [if_pos (by omega), if_pos (by omega), if_pos (by omega), w64 (by omega), rd_at]
    by_cases c : (at_ l i).f0 = 2
    · rw [if_pos c]
      rcases hI with ⟨rfl, h⟩ | ⟨m, rfl, hm, hP, h⟩
      · rw [if_pos (by omega)]
        exact ih k (i + 1) _ (by omega) (by omega) (by omega) (best_take c (by unfold Bet; omega) (fun j hj hp => absurd hp (h j hj)))
      · rw [if_neg (by omega), if_pos (by omega), if_pos (by omega), rd_at]
        obtain ⟨k, rfl⟩ : ∃ m, k = m + 1 := ⟨k - 1, by omega⟩
        rw [better_is]
        simp only [Option.bind_some, decide_eq_true_eq]
        by_cases c2 : Bet cold (at_ l i) (at_ l m)
        · rw [if_pos c2]
          refine ih (k + 1) (i + 1) _ (by omega) (by omega) (by omega) (best_take c (by unfold Bet; omega) (fun j hj hp => ?_))
          have g := bet_neg c2 (h j hj hp).1
          exact ⟨by unfold Bet at *; omega, g⟩
        · rw [if_neg c2]
          exact ih (k + 1) (i + 1) _ (by omega) (by omega) (by omega) (best_keep hm hP h c2)
    · rw [if_neg c]
      exact ih k (i + 1) _ (by omega) (by omega) (by omega) (best_skip hI c)
/-- The spread is too great. -/
def Cold (a b : Int) : Bool := decide ((b - a) % 4294967296 > 8)
theorem vic_all (l : List S34) (hn : l.length < 140737488355328) (hw : ∀ x ∈ l, Wf x) (k : Nat) (hk : l.length < k) :
    ∃ a b r, EndsInv l l.length a b ∧ wear_ends.f k l = some (a, b) ∧ wear_Victim.f k l = some r ∧ VInv (Cold a b) l l.length r := by
  obtain ⟨⟨a, b⟩, he, hE⟩ := ends_all l hn hw k hk
  obtain ⟨r, hr, hV⟩ := vic_loop l hn (Cold a b) l.length k 0 (-1) (by omega) (by omega) hk (.inl ⟨rfl, fun j hj => by omega⟩)
  refine ⟨a, b, r, hE, he, ?_, hV⟩
  unfold wear_Victim.f
  rw [he]
  exact hr

/-! ### Next -/
def NInv : List S34 → Nat → Int → Prop := BestInv (fun x => x.f0 = 0) (fun a b => a.f2 < b.f2)
theorem next_loop (l : List S34) (hn : l.length < 140737488355328) (d : Nat) : ∀ (k i : Nat) (b : Int), i ≤ l.length → l.length - i = d → d < k → NInv l i b →
    ∃ r, wear_Next.l0 k l b l (l.length : Int) (i : Int) = some r ∧ NInv l l.length r := by
  induction d with
  | zero =>
    intro k i b h0 h1 hk hI
    obtain ⟨k, rfl⟩ : ∃ m, k = m + 1 := ⟨k - 1, by omega⟩
    obtain rfl : i = l.length := by omega
    exact ⟨b, by simp only [wear_Next.l0]; rw [if_neg (by omega)], hI⟩
  | succ d ih =>
    intro k i b h0 h1 hk hI
    obtain ⟨k, rfl⟩ : ∃ m, k = m + 1 := ⟨k - 1, by omega⟩
    simp only [wear_Next.l0]
    rw [if_pos (by omega), if_pos (by omega), if_pos (by omega), w64 (by omega), rd_at]
    by_cases c : (at_ l i).f0 = 0
    · rw [if_pos c]
      rcases hI with ⟨rfl, h⟩ | ⟨m, rfl, hm, hP, h⟩
      · rw [if_pos (by omega)]
        exact ih k (i + 1) _ (by omega) (by omega) (by omega) (best_take c (by omega) (fun j hj hp => absurd hp (h j hj)))
      · rw [if_neg (by omega), if_pos (by omega), if_pos (by omega), rd_at]
        by_cases c2 : (at_ l i).f2 < (at_ l m).f2
        · rw [if_pos c2]
          refine ih k (i + 1) _ (by omega) (by omega) (by omega) (best_take c (by omega) (fun j hj hp => ?_))
          have g := (h j hj hp).1
          exact ⟨by omega, by omega⟩
        · rw [if_neg c2]
          exact ih k (i + 1) _ (by omega) (by omega) (by omega) (best_keep hm hP h c2)
    · rw [if_neg c]
      exact ih k (i + 1) _ (by omega) (by omega) (by omega) (best_skip hI c)
theorem next_all (l : List S34) (hn : l.length < 140737488355328) (k : Nat) (hk : l.length < k) : ∃ r, wear_Next.f k l = some r ∧ NInv l l.length r :=
  next_loop l hn l.length k 0 (-1) (by omega) (by omega) hk (.inl ⟨rfl, fun j hj => by omega⟩)

/-! ### the small example -/
theorem chosen_is (k : Nat) (hk : 4 < k) : gabionlaw15_chosen.f k = some true := by
  have h5 : gabionlaw15_chosen.f 5 = some true := by decide +kernel
  exact at_rounds gabionlaw15_chosen.mono (by omega) h5

end Go.Proofs.Ytmcooidoemcaoaa.PureWearNexts

/- WearNexts in plain terms: for every list of segments and every kind the printed law answers true. -/
import Derived.Test.YtmcooidoemcaoaaNWearNexts
import Derived.Test.YtmcooidoemcaoaaDWearNexts
import Derived.Test.YtmcooidoemcaoaaOWearNexts
namespace Go.Proofs.Ytmcooidoemcaoaa.PureWearNexts
open Go.RowKit Go.Proofs.Ytmcooidoemcaoaa.PWearNexts Go.Proofs.YtmcooidoemcaoaaW.PrintWords Go.Proofs.YtmcooidoemcaoaaW.PrintLast

/-! ### the document's Next -/
def RInv (l : List S34) (i : Nat) (b : Int) : Prop :=
  (b = -1 ∧ ∀ j, i ≤ j → j < l.length → ¬ (at_ l j).f0 = 0) ∨ ∃ m : Nat, b = m ∧ i ≤ m ∧ m < l.length ∧ (at_ l m).f0 = 0 ∧ ∀ j, i ≤ j → j < l.length → (at_ l j).f0 = 0 → ¬ (at_ l j).f2 < (at_ l m).f2 ∧ (j < m → (at_ l m).f2 < (at_ l j).f2)
theorem ref_loop (l : List S34) (hn : l.length < 140737488355328) : ∀ (i k : Nat) (b : Int), i ≤ l.length → i < k → RInv l i b →
    ∃ r, gabionref14_Next.l0 k (l.map conv) b ((i : Int) - 1) = some r ∧ RInv l 0 r := by
  intro i
  induction i with
  | zero =>
    intro k b h0 hk hI
    obtain ⟨k, rfl⟩ : ∃ m, k = m + 1 := ⟨k - 1, by omega⟩
    exact ⟨b, by simp only [gabionref14_Next.l0]; rw [if_neg (by omega)], hI⟩
  | succ i ih =>
    intro k b h0 hk hI
    obtain ⟨k, rfl⟩ : ∃ m, k = m + 1 := ⟨k - 1, by omega⟩
    have e0 : ((i + 1 : Nat) : Int) - 1 = (i : Int) := by omega
    have e1 : wrap64 ((i : Int) - 1) = (i : Int) - 1 := by unfold wrap64; omega
    rw [e0]
    simp only [gabionref14_Next.l0, List.length_map]
    rw [if_pos (by omega), if_pos (by omega), if_pos (by omega), e1, rd_conv]
    by_cases c : (at_ l i).f0 = 0
    · rw [if_pos (show (conv (at_ l i)).f0 = 0 from c)]
      rcases hI with ⟨rfl, h⟩ | ⟨m, rfl, hm1, hm, hP, h⟩
      · rw [if_pos (by omega)]
        refine ih k _ (by omega) (by omega) (.inr ⟨i, rfl, by omega, by omega, c, fun j hj hj2 hj3 => ?_⟩)
        by_cases e : j = i
        · subst e; exact ⟨by omega, by omega⟩
        · exact absurd hj3 (h j (by omega) hj2)
      · rw [if_neg (by omega), if_pos (by omega), if_pos (by omega), rd_conv]
        by_cases c2 : (at_ l i).f2 ≤ (at_ l m).f2
        · rw [if_pos (show (conv (at_ l i)).f2 ≤ (conv (at_ l m)).f2 from c2)]
          refine ih k _ (by omega) (by omega) (.inr ⟨i, rfl, by omega, by omega, c, fun j hj hj2 hj3 => ?_⟩)
          by_cases e : j = i
          · subst e; exact ⟨by omega, by omega⟩
          · have := (h j (by omega) hj2 hj3).1
            exact ⟨by omega, by omega⟩
        · rw [if_neg (show ¬ (conv (at_ l i)).f2 ≤ (conv (at_ l m)).f2 from c2)]
          refine ih k _ (by omega) (by omega) (.inr ⟨m, rfl, by omega, by omega, hP, fun j hj hj2 hj3 => ?_⟩)
          by_cases e : j = i
          · subst e; exact ⟨by omega, by omega⟩
          · exact h j (by omega) hj2 hj3
    · rw [if_neg (show ¬ (conv (at_ l i)).f0 = 0 from c)]
      refine ih k _ (by omega) (by omega) ?_
      rcases hI with ⟨rfl, h⟩ | ⟨m, rfl, hm1, hm, hP, h⟩
      · refine .inl ⟨rfl, fun j hj hj2 => ?_⟩
        by_cases e : j = i
        · subst e; exact c
        · exact h j (by omega) hj2
      · refine .inr ⟨m, rfl, by omega, hm, hP, fun j hj hj2 hj3 => ?_⟩
        by_cases e : j = i
        · subst e; exact absurd hj3 c
        · exact h j (by omega) hj2 hj3
theorem ref_is (l : List S34) (hn : l.length < 140737488355328) (k : Nat) (hk : l.length < k) {r : Int} (h : NInv l l.length r) : gabionref14_Next.f k (l.map conv) = some r := by
  have e : wrap64 (((l.map conv).length : Int) - 1) = (l.length : Int) - 1 := by rw [List.length_map]; unfold wrap64; omega
  obtain ⟨r', hr, hI⟩ := ref_loop l hn l.length k (-1) (by omega) hk (.inl ⟨rfl, fun j _ _ => by omega⟩)
  unfold gabionref14_Next.f
  rw [e, hr]
  congr 1
  refine best_one (P := fun x => x.f0 = 0) (R := fun a b => a.f2 < b.f2) (l := l) (n := l.length) ?_ h
  rcases hI with ⟨rfl, h⟩ | ⟨m, rfl, hm1, hm, hP, h⟩
  · exact .inl ⟨rfl, fun j hj => h j (by omega) hj⟩
  · exact .inr ⟨m, rfl, hm, hP, fun j hj hj3 => h j (by omega) hj hj3⟩

/-! ### the law's loop -/
theorem law_loop (l : List S34) (hn : l.length < 5864062014805) (hw : ∀ x ∈ l, Wf x) (kind : Int) (d : Nat) : ∀ (k i : Nat), i ≤ l.length → l.length - i = d → 3 * d + l.length + 10 < k →
    gabionlaw15_WearNexts.l0 k l kind (cnt l kind i : Int) (deadTo l l.length) ((deadTo l i).length : Int) (i : Int) = some true := by
  induction d with
  | zero =>
    intro k i h0 h1 hk
    obtain ⟨k, rfl⟩ : ∃ m, k = m + 1 := ⟨k - 1, by omega⟩
    obtain rfl : i = l.length := by omega
    obtain ⟨r, hr, hN⟩ := next_all l (by omega) k (by omega)
    simp only [gabionlaw15_WearNexts.l0]
    rw [if_neg (by omega), chosen_is _ (by omega)]
    simp only [Option.bind_some, if_true]
    rw [hr]
    simp only [Option.bind_some]
    rw [of_is l hn hw k (by omega)]
    simp only [Option.bind_some]
    rw [ref_is l (by omega) k (by omega) hN]
    simp only [Option.bind_some, if_true]
    rw [cnt_is l kind (by omega) k (by omega)]
    simp
  | succ d ih =>
    intro k i h0 h1 hk
    obtain ⟨k, rfl⟩ : ∃ m, k = m + 3 := ⟨k - 3, by omega⟩
    have hg := ih k (i + 1) (by omega) (by omega) (by omega)
    have hle := deadTo_le l i
    have hj : gabionlaw15_WearNexts.j1 (k + 1 + 1) l kind (cnt l kind (i + 1) : Int) (deadTo l l.length) ((deadTo l i).length : Int) (i : Int) = some true := by
      simp only [gabionlaw15_WearNexts.j1]
      rw [if_pos (by omega), if_pos (by omega), rd_at]
      by_cases c : IsDead (at_ l i)
      · have hb : ((at_ l i).f1 == 0) = true := by rw [beq_iff_eq]; exact c.2
        rw [if_pos c.1, hb]
        simp only [gabionlaw15_WearNexts.j2, if_true]
        have hd : deadTo l (i + 1) = deadTo l i ++ [(i : Int)] := by rw [deadTo, if_pos c]
        obtain ⟨t, ht⟩ := deadTo_prefix l (i + 1) (l.length - (i + 1))
        rw [show i + 1 + (l.length - (i + 1)) = l.length by omega, hd] at ht
        have hlen : (deadTo l l.length).length = (deadTo l i).length + 1 + t.length := by rw [ht]; simp; omega
        have hrd : rd (deadTo l l.length) ((deadTo l i).length : Int) = (i : Int) := by
          unfold rd
          rw [Int.toNat_natCast, ht, List.append_assoc, List.getD_eq_getElem?_getD, List.getElem?_append_right (Nat.le_refl _)]
          simp
        rw [if_neg (by omega), if_pos (by omega), if_pos (by omega), hrd, if_pos rfl, w64 (i := (deadTo l i).length) (by omega), w64 (i := i) (by omega)]
        rw [hd, List.length_append, List.length_singleton] at hg
        exact hg
      · have hd : deadTo l (i + 1) = deadTo l i := by rw [deadTo, if_neg c]
        rw [hd] at hg
        by_cases c2 : (at_ l i).f0 = 2
        · have hb : ((at_ l i).f1 == 0) = false := by rw [beq_eq_false_iff_ne]; exact fun h => c ⟨c2, h⟩
          rw [if_pos c2, hb]
          simp only [gabionlaw15_WearNexts.j2, Bool.false_eq_true, if_false]
          rw [w64 (i := i) (by omega)]
          exact hg
        · rw [if_neg c2]
          simp only [gabionlaw15_WearNexts.j2, Bool.false_eq_true, if_false]
          rw [w64 (i := i) (by omega)]
          exact hg
    show gabionlaw15_WearNexts.l0 (k + 2 + 1) l _ _ _ _ _ = _
    simp only [gabionlaw15_WearNexts.l0]
    rw [if_pos (by omega), if_pos (by omega), rd_at]
    by_cases c : (at_ l i).f0 = kind
    · have e : cnt l kind (i + 1) = cnt l kind i + 1 := by rw [cnt, if_pos c]
      rw [if_pos c, w64 (i := cnt l kind i) (by have := cnt_le l kind i; omega), ← e]
      exact hj
    · have e : cnt l kind (i + 1) = cnt l kind i := by rw [cnt, if_neg c]; omega
      rw [if_neg c, ← e]
      exact hj
theorem WearNexts (l : List S34) (kind : Int) (hn : l.length < 5864062014805) (hw : ∀ x ∈ l, Wf x) : gabionlaw15_WearNexts.f (4 * l.length + 20) l kind = some true := by
  unfold gabionlaw15_WearNexts.f
  by_cases c : (l.length : Int) > 100
  · rw [if_pos c, chosen_is _ (by omega)]; rfl
  · rw [if_neg c, dead_is l (by omega) _ (by omega)]
    simp only [Option.bind_some]
    exact law_loop l hn hw kind l.length _ 0 (by omega) (by omega) (by omega)

end Go.Proofs.Ytmcooidoemcaoaa.PureWearNexts

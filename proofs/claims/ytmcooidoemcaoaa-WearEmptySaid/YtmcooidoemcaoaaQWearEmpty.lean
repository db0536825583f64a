/- WearEmpty in plain terms: for every list of segments the printed law answers true. -/
import Derived.Test.YtmcooidoemcaoaaDWearEmpty
namespace Go.Proofs.Ytmcooidoemcaoaa.PureWearEmpty
open Go.RowKit Go.Proofs.Ytmcooidoemcaoaa.PWearEmpty Go.Proofs.YtmcooidoemcaoaaW.PrintWords Go.Proofs.YtmcooidoemcaoaaW.PrintLast

/-- The first i are of none of the kinds that are asked away. -/
def Away (a b : Bool) (m : List S34) (i : Nat) : Prop := ∀ j, j < i → (a = true → ¬ (at_ m j).f0 = 2) ∧ (b = true → ¬ (at_ m j).f0 = 0)
theorem at_set (m : List S34) (i j : Nat) (x : S34) (hi : i < m.length) : at_ (m.set i x) j = if j = i then x else at_ m j := by
  unfold at_
  rw [List.getD_eq_getElem?_getD, List.getD_eq_getElem?_getD, List.getElem?_set]
  by_cases e : i = j
  · subst e; simp [hi]
  · rw [if_neg e, if_neg (fun h => e h.symm)]
theorem away_set {a b : Bool} {m : List S34} {i : Nat} (h : Away a b m i) (hi : i < m.length) : Away a b (m.set i ⟨1, (at_ m i).f1, (at_ m i).f2⟩) (i + 1) := by
  intro j hj
  rw [at_set m i j _ hi]
  by_cases e : j = i
  · rw [if_pos e]; exact ⟨fun _ => by show ¬ (1 : Int) = 2; decide, fun _ => by show ¬ (1 : Int) = 0; decide⟩
  · rw [if_neg e]; exact h j (by omega)
theorem away_skip {a b : Bool} {m : List S34} {i : Nat} (h : Away a b m i) (h2 : a = true → ¬ (at_ m i).f0 = 2) (h0 : b = true → ¬ (at_ m i).f0 = 0) : Away a b m (i + 1) := by
  intro j hj
  by_cases e : j = i
  · subst e; exact ⟨h2, h0⟩
  · exact h j (by omega)
theorem wf_set {m : List S34} {i : Nat} (h : ∀ x ∈ m, Wf x) (y : S34) (hy : Wf y) : ∀ x ∈ m.set i y, Wf x := fun x hx => by
  rcases List.mem_or_eq_of_mem_set hx with h1 | h1
  · exact h x h1
  · subst h1; exact hy
theorem empty_end (a b : Bool) (m : List S34) (hn : m.length < 17592186044416) (hw : ∀ x ∈ m, Wf x) (hA : Away a b m m.length) (k : Nat) (hk : m.length < k) :
    gabionlaw15_WearEmpty.l0 (k + 1) a b m (m.length : Int) = some true := by
  obtain ⟨p, q, v, _, _, hv, hV⟩ := vic_all m (by omega) hw k hk
  obtain ⟨n, hnx, hN⟩ := next_all m (by omega) k hk
  simp only [gabionlaw15_WearEmpty.l0]
  rw [if_neg (by omega), hv, hnx, dead_is m hn k hk]
  simp only [Option.bind_some]
  have ha : a = true → v = -1 ∧ deadTo m m.length = [] := by
    intro ha
    constructor
    · rcases hV with ⟨h, _⟩ | ⟨j, _, hj, hP, _⟩
      · exact h
      · exact absurd hP ((hA j hj).1 ha)
    · exact deadTo_nil _ (fun j hj h => (hA j hj).1 ha h.1)
  have hb : b = true → n = -1 := by
    intro hb
    rcases hN with ⟨h, _⟩ | ⟨j, _, hj, hP, _⟩
    · exact h
    · exact absurd hP ((hA j hj).2 hb)
  cases a
  · rw [if_neg (by decide)]
    cases b
    · rw [if_neg (by decide)]
    · rw [if_pos rfl, if_pos (hb rfl)]
  · rw [if_pos rfl, if_pos (ha rfl).1, (ha rfl).2]
    cases b
    · rw [if_neg (by decide)]; rfl
    · rw [if_pos rfl, if_pos (hb rfl)]; rfl
theorem empty_loop (a b : Bool) (d : Nat) : ∀ (k i : Nat) (m : List S34), m.length < 17592186044416 → (∀ x ∈ m, Wf x) → i ≤ m.length → m.length - i = d → d + m.length + 2 < k → Away a b m i →
    gabionlaw15_WearEmpty.l0 k a b m (i : Int) = some true := by
  induction d with
  | zero =>
    intro k i m hn hw h0 h1 hk hA
    obtain ⟨k, rfl⟩ : ∃ m, k = m + 1 := ⟨k - 1, by omega⟩
    obtain rfl : i = m.length := by omega
    exact empty_end a b m hn hw hA k (by omega)
  | succ d ih =>
    intro k i m hn hw h0 h1 hk hA
    obtain ⟨k, rfl⟩ : ∃ m, k = m + 1 := ⟨k - 1, by omega⟩
    have hi : i < m.length := by omega
    have gs := ih k (i + 1) (m.set i ⟨1, (at_ m i).f1, (at_ m i).f2⟩) (by rw [List.length_set]; omega) (wf_set hw _ (wf_at hw i)) (by rw [List.length_set]; omega) (by rw [List.length_set]; omega) (by rw [List.length_set]; omega) (away_set hA hi)
    have gk := fun h2 h0 => ih k (i + 1) m hn hw (by omega) (by omega) (by omega) (away_skip hA h2 h0)
    simp only [gabionlaw15_WearEmpty.l0]
    rw [if_pos (by omega), rd_at, w64 (i := i) (by omega), Int.toNat_natCast]
    have hp : (0 : Int) ≤ (i : Int) := by omega
    cases a
    · rw [if_neg (by decide)]
      cases b
      · rw [if_neg (by decide)]; exact gk (fun h => by cases h) (fun h => by cases h)
      · rw [if_pos rfl, if_pos hp]
        by_cases c : (at_ m i).f0 = 0
        · rw [if_pos c]; exact gs
        · rw [if_neg c]; exact gk (fun h => by cases h) (fun _ => c)
    · rw [if_pos rfl, if_pos hp]
      by_cases c2 : (at_ m i).f0 = 2
      · rw [if_pos c2]; exact gs
      · rw [if_neg c2]
        cases b
        · rw [if_neg (by decide)]; exact gk (fun _ => c2) (fun h => by cases h)
        · rw [if_pos rfl]
          by_cases c : (at_ m i).f0 = 0
          · rw [if_pos c]; exact gs
          · rw [if_neg c]; exact gk (fun _ => c2) (fun _ => c)
theorem WearEmpty (l : List S34) (a b : Bool) (hn : l.length < 5864062014805) (hw : ∀ x ∈ l, Wf x) : gabionlaw15_WearEmpty.f (2 * l.length + 20) l a b = some true := by
  unfold gabionlaw15_WearEmpty.f
  rw [chosen_is _ (by omega)]
  simp only [Option.bind_some, if_true]
  show gabionlaw15_WearEmpty.j0 (2 * l.length + 19 + 1) l _ _ _ = _
  simp only [gabionlaw15_WearEmpty.j0]
  by_cases c : (l.length : Int) > 100
  · rw [if_pos (decide_eq_true c), chosen_is _ (by omega)]; rfl
  · rw [if_neg (by rw [decide_eq_false c]; decide)]
    simp only [Option.bind_some, List.length_nil, List.nil_append]
    rw [if_pos (by omega)]
    exact empty_loop a b l.length _ 0 l (by omega) hw (by omega) (by omega) (by omega) (fun j hj => by omega)

end Go.Proofs.Ytmcooidoemcaoaa.PureWearEmpty

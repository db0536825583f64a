/- WearSpreads in plain terms: for every number and every list of numbers the printed law answers true. -/
import Derived.Test.YtmcooidoemcaoaaNWearSpreads
namespace Go.Proofs.Ytmcooidoemcaoaa.PureWearSpreads
open Go.RowKit Go.Proofs.Ytmcooidoemcaoaa.PWearSpreads Go.Proofs.YtmcooidoemcaoaaW.PrintWords Go.Proofs.YtmcooidoemcaoaaW.PrintLast

theorem at_set (m : List S34) (i j : Nat) (x : S34) (hi : i < m.length) : at_ (m.set i x) j = if j = i then x else at_ m j := by
  unfold at_
  rw [List.getD_eq_getElem?_getD, List.getD_eq_getElem?_getD, List.getElem?_set]
  by_cases e : i = j
  · subst e; simp [hi]
  · rw [if_neg e, if_neg (fun h => e h.symm)]
def one (p : Prop) [Decidable p] : Nat := if p then 1 else 0
theorem cnt_set {l : List S34} {v : Nat} (hv : v < l.length) (x : S34) (kind : Int) : ∀ i, cnt (l.set v x) kind i + one (v < i ∧ (at_ l v).f0 = kind) = cnt l kind i + one (v < i ∧ x.f0 = kind)
  | 0 => by simp [cnt, one]
  | i + 1 => by
    have ih := cnt_set hv x kind i
    unfold cnt
    rw [at_set l v i x hv]
    unfold one at ih ⊢
    by_cases e : i = v
    · subst e
      rw [if_neg (fun h => by omega), if_neg (fun h => by omega)] at ih
      rw [if_pos rfl]
      simp only [show i < i + 1 by omega, true_and]
      omega
    · rw [if_neg e]
      have h1 : (v < i + 1 ∧ (at_ l v).f0 = kind) ↔ (v < i ∧ (at_ l v).f0 = kind) := ⟨fun h => ⟨by omega, h.2⟩, fun h => ⟨by omega, h.2⟩⟩
      have h2 : (v < i + 1 ∧ x.f0 = kind) ↔ (v < i ∧ x.f0 = kind) := ⟨fun h => ⟨by omega, h.2⟩, fun h => ⟨by omega, h.2⟩⟩
      simp only [h1, h2]
      omega

/-- After i fills: kinds, counts of erasures, and how far they are apart. -/
structure Inv (l : List S34) (N i : Nat) : Prop where
  len : l.length = N
  kind : ∀ j, j < N → (at_ l j).f0 = 0 ∨ (at_ l j).f0 = 2
  rng : ∀ j, j < N → 0 ≤ (at_ l j).f2 ∧ (at_ l j).f2 ≤ i
  near : ∀ j k, j < N → k < N → (at_ l j).f2 ≤ (at_ l k).f2 + 9
  young : 2 ≤ cnt l 0 N → ∀ j, j < N → (at_ l j).f2 ≤ 1 ∧ ((at_ l j).f0 = 0 → (at_ l j).f2 = 0)
theorem Inv.wf {l : List S34} {N i : Nat} (h : Inv l N i) (hi : i ≤ 1000) : ∀ x ∈ l, Wf x := by
  intro x hx
  obtain ⟨j, hj, rfl⟩ := List.mem_iff_getElem.1 hx
  have := h.rng j (by rw [← h.len]; exact hj)
  have e : at_ l j = l[j] := by unfold at_; rw [List.getD_eq_getElem?_getD, List.getElem?_eq_getElem hj]; rfl
  rw [e] at this
  exact ⟨this.1, by omega⟩

/-- What a fill leaves of a segment. -/
def filled (y : Int) (x : S34) : S34 := ⟨2, y, (x.f2 + 1) % 4294967296⟩
/-- A fill of a free one among others of which none is far behind it. -/
theorem fill_inv {l : List S34} {N i k : Nat} (y : Int) (hN : l.length = N) (hk : k < N) (hi : i ≤ 1000)
    (kind : ∀ j, j < N → (at_ l j).f0 = 0 ∨ (at_ l j).f0 = 2) (rng : ∀ j, j < N → 0 ≤ (at_ l j).f2 ∧ (at_ l j).f2 ≤ i) (near : ∀ j k, j < N → k < N → (at_ l j).f2 ≤ (at_ l k).f2 + 9)
    (near8 : ∀ j, j < N → (at_ l k).f2 ≤ (at_ l j).f2 + 8) (young : 2 ≤ cnt (l.set k (filled y (at_ l k))) 0 N → (at_ l k).f2 = 0 ∧ ∀ j, j < N → (at_ l j).f2 ≤ 1 ∧ ((at_ l j).f0 = 0 → (at_ l j).f2 = 0)) :
    Inv (l.set k (filled y (at_ l k))) N (i + 1) := by
  have hk' : k < l.length := by omega
  have hr := rng k hk
  have hf : (filled y (at_ l k)).f2 = (at_ l k).f2 + 1 := by
    show ((at_ l k).f2 + 1) % 4294967296 = _
    omega
  refine ⟨by rw [List.length_set]; exact hN, fun j hj => ?_, fun j hj => ?_, fun j j' hj hj' => ?_, fun hc j hj => ?_⟩
  · rw [at_set l k j _ hk']
    split
    · exact .inr rfl
    · exact kind j hj
  · rw [at_set l k j _ hk']
    split
    · rw [hf]; omega
    · have := rng j hj; omega
  · rw [at_set l k j _ hk', at_set l k j' _ hk']
    have h8 := near8 j' hj'
    have hn1 := near j j' hj hj'
    have hn2 := near j k hj hk
    split
    · split
      · omega
      · rw [hf]; omega
    · split
      · rw [hf]; omega
      · omega
  · obtain ⟨h0, hy⟩ := young hc
    rw [at_set l k j _ hk']
    split
    · rw [hf, h0]
      exact ⟨by omega, fun h => absurd h (by show ¬ (2 : Int) = 0; decide)⟩
    · exact hy j hj

/-! ### the spread at the end -/
def LmInv (l : List S34) (i : Nat) (a b : Int) : Prop :=
  (∃ j, j < max i 1 ∧ a = (at_ l j).f2) ∧ (∃ j, j < max i 1 ∧ b = (at_ l j).f2)
theorem lm_step {l : List S34} {i : Nat} {a b : Int} (h : LmInv l i a b) : LmInv l (i + 1) (mn a (at_ l i).f2) (mx b (at_ l i).f2) := by
  obtain ⟨⟨ja, hja, ea⟩, ⟨jb, hjb, eb⟩⟩ := h
  have hm : max (i + 1) 1 = i + 1 := by omega
  have hlt : ∀ j, j < max i 1 → j < i + 1 := fun j hj => by omega
  unfold LmInv
  rw [hm]
  refine ⟨?_, ?_⟩
  · unfold mn
    split
    · first | exact ⟨i, by omega, rfl⟩ | exact ⟨ja, hlt _ hja, ea⟩
    · first | exact ⟨ja, hlt _ hja, ea⟩ | exact ⟨i, by omega, rfl⟩
  · unfold mx
    split
    · first | exact ⟨i, by omega, rfl⟩ | exact ⟨jb, hlt _ hjb, eb⟩
    · first | exact ⟨jb, hlt _ hjb, eb⟩ | exact ⟨i, by omega, rfl⟩
theorem l1_true {l : List S34} {N s : Nat} (hI : Inv l N s) (hN : 4 ≤ N ∧ N ≤ 15) (d : Nat) : ∀ (k i : Nat) (a b : Int), i ≤ N → N - i = d → d < k → LmInv l i a b → a ≤ b →
    gabionlaw15_WearSpreads.l1 k (N : Int) l a b (i : Int) = some true := by
  induction d with
  | zero =>
    intro k i a b h0 h1 hk hL hab
    obtain ⟨k, rfl⟩ : ∃ m, k = m + 1 := ⟨k - 1, by omega⟩
    obtain rfl : i = N := by omega
    simp only [gabionlaw15_WearSpreads.l1]; rw [if_neg (by omega)]
    obtain ⟨⟨ja, hja, ea⟩, ⟨jb, hjb, eb⟩⟩ := hL
    have := hI.near jb ja (by omega) (by omega)
    have h : (b - a) % 4294967296 ≤ (10 + (i : Int) % 4294967296) % 4294967296 := by omega
    rw [decide_eq_true h]
  | succ d ih =>
    intro k i a b h0 h1 hk hL hab
    obtain ⟨k, rfl⟩ : ∃ m, k = m + 1 := ⟨k - 1, by omega⟩
    simp only [gabionlaw15_WearSpreads.l1]
    have := hI.len
    rw [if_pos (by omega), if_pos (by omega), if_pos (by omega), w64 (i := i) (by omega), rd_at]
    exact ih k (i + 1) _ _ (by omega) (by omega) (by omega) (lm_step hL) (by unfold mn mx; split <;> split <;> omega)

/-! ### the fills -/
theorem loop (N : Nat) (hN : 4 ≤ N ∧ N ≤ 15) (fills : List Int) (hfl : fills.length ≤ 400) (d : Nat) : ∀ (k i : Nat) (l : List S34), i ≤ fills.length → fills.length - i = d → 2 * d + 40 < k → Inv l N i →
    gabionlaw15_WearSpreads.l0 k (N : Int) fills l (i : Int) = some true := by
  induction d with
  | zero =>
    intro k i l h0 h1 hk hI
    obtain ⟨k, rfl⟩ : ∃ m, k = m + 1 := ⟨k - 1, by omega⟩
    obtain rfl : i = fills.length := by omega
    have hl := hI.len
    simp only [gabionlaw15_WearSpreads.l0]
    have h00 : rd_T34 l 0 = at_ l 0 := rd_at l 0
    rw [if_neg (by omega), if_pos (by omega), h00]
    exact l1_true hI hN N k 0 _ _ (by omega) (by omega) (by omega) ⟨⟨0, by omega, rfl⟩, ⟨0, by omega, rfl⟩⟩ (Int.le_refl _)
  | succ d ih =>
    intro k i l h0 h1 hk hI
    obtain ⟨k, rfl⟩ : ∃ m, k = m + 2 := ⟨k - 2, by omega⟩
    have hl := hI.len
    have hw := hI.wf (by omega)
    show gabionlaw15_WearSpreads.l0 (k + 1 + 1) _ _ _ _ = _
    simp only [gabionlaw15_WearSpreads.l0]
    rw [if_pos (by omega), cnt_is l 0 (by omega) (k + 1) (by omega), hl]
    simp only [Option.bind_some]
    generalize hy : wrap64 (Int.tmod (IntKind.u64.wrap (rd fills (i : Int))) 40) = y
    by_cases c : ((cnt l 0 N : Nat) : Int) < 2
    · rw [if_pos c]
      obtain ⟨a, b, r, hE, _, hv, hV⟩ := vic_all l (by omega) hw (k + 1) (by omega)
      rw [hv]
      simp only [Option.bind_some]
      rcases hV with ⟨_, hno⟩ | ⟨v, rfl, hvl, hP, hall⟩
      · -- some one is closed
        have hz : cnt l 0 N = N := cnt_all N (fun j hj => by
          rcases hI.kind j hj with h | h
          · exact h
          · exact absurd h (hno j (by omega)))
        omega
      · have hP' : (at_ l v).f0 = 2 := hP
        rw [if_neg (by omega), if_neg (by omega), if_pos (by omega), if_pos (by omega), rd_at, hP']
        simp only [gabionlaw15_WearSpreads.j2]
        rw [if_neg (by decide), if_pos (by omega), if_pos (by omega), rd_at, Int.toNat_natCast]
        -- the victim is cleared
        have hset : ∀ j, at_ (l.set v ⟨0, 0, (at_ l v).f2⟩) j = if j = v then ⟨0, 0, (at_ l v).f2⟩ else at_ l j := fun j => at_set l v j _ hvl
        have hE2 : ∀ j, (at_ (l.set v ⟨0, 0, (at_ l v).f2⟩) j).f2 = (at_ l j).f2 := fun j => by
          rw [hset j]; split
          · rename_i e; rw [e]
          · rfl
        have hcs := cnt_set hvl ⟨0, 0, (at_ l v).f2⟩ 0 N
        have hkind : ∀ j, j < N → (at_ (l.set v ⟨0, 0, (at_ l v).f2⟩) j).f0 = 0 ∨ (at_ (l.set v ⟨0, 0, (at_ l v).f2⟩) j).f0 = 2 := fun j hj => by
          rw [hset j]; split
          · exact .inl rfl
          · exact hI.kind j hj
        have hfv : (at_ (l.set v ⟨0, 0, (at_ l v).f2⟩) v).f0 = 0 := by rw [hset v, if_pos rfl]
        have hlen1 : (l.set v (⟨0, 0, (at_ l v).f2⟩ : S34)).length = N := by rw [List.length_set]; exact hl
        have hother : ∀ j, j < N → (at_ (l.set v ⟨0, 0, (at_ l v).f2⟩) j).f0 ≠ 0 → (at_ l j).f0 = 2 := fun j hj h => by
          rw [hset j] at h
          split at h
          · exact absurd rfl h
          · rcases hI.kind j hj with h' | h'
            · exact absurd h' h
            · exact h'
        generalize hl1 : l.set v (⟨0, 0, (at_ l v).f2⟩ : S34) = l1 at *
        obtain ⟨t, hnx, hNI⟩ := next_all l1 (by omega) k (by omega)
        rcases hNI with ⟨_, hno⟩ | ⟨t, rfl, htl, hT, hbest⟩
        · exact absurd hfv (hno v (by omega))
        · have hT' : (at_ l1 t).f0 = 0 := hT
          have hcs2 := cnt_set htl (filled y (at_ l1 t)) 0 N
          unfold one at hcs hcs2
          rw [if_neg (fun h => by rw [hP'] at h; exact absurd h.2 (by decide)), if_pos ⟨by omega, rfl⟩] at hcs
          rw [if_pos ⟨by omega, hT'⟩, if_neg (fun h => absurd h.2 (by show ¬ (2 : Int) = 0; decide))] at hcs2
          have hInv : Inv (l1.set t (filled y (at_ l1 t))) N (i + 1) := by
            refine fill_inv y hlen1 (by omega) (by omega) hkind (fun j hj => by rw [hE2]; exact hI.rng j hj) (fun j j' hj hj' => by rw [hE2, hE2]; exact hI.near j j' hj hj') (fun j hj => ?_) (fun h => by omega)
            by_cases cc : Cold a b = true
            · -- the spread is too great: the least of all is taken
              have hvle : ∀ j, j < N → (at_ l j).f0 = 2 → (at_ l v).f2 ≤ (at_ l j).f2 := fun j hj h2 => by
                have := (hall j (by omega) h2).1
                rw [cc] at this
                have h3 : ¬ (at_ l j).f2 < (at_ l v).f2 := fun h => this (.inl h)
                omega
              have htv : ¬ (at_ l1 v).f2 < (at_ l1 t).f2 := (hbest v (by omega) hfv).1
              rw [hE2, hE2] at htv
              rw [hE2, hE2]
              by_cases cf : (at_ l1 j).f0 = 0
              · have this : ¬ (at_ l1 j).f2 < (at_ l1 t).f2 := (hbest j (by omega) cf).1
                rw [hE2, hE2] at this
                omega
              · have := hvle j hj (hother j hj cf)
                omega
            · rcases hE with ⟨h, _⟩ | ⟨_, ⟨ja, hja, ea⟩, ⟨jb, hjb, eb⟩, hab⟩
              · omega
              · have h1 := hab t (by omega)
                have h2 := hab j (by omega)
                have h3 := hI.rng jb (by omega)
                have h4 := hI.rng j hj
                have h5 : ¬ (b - a) % 4294967296 > 8 := fun h => cc (decide_eq_true h)
                rw [hE2, hE2]
                have h6 := hab jb hjb
                have h7 := hI.near jb ja (by omega) (by omega)
                omega
          simp only [Option.bind_some]
          rw [hnx]
          simp only [Option.bind_some]
          rw [if_neg (by omega), if_neg (by omega), if_pos (by omega), if_pos (by omega), rd_at, if_pos hT', if_pos (by omega), if_pos (by omega), w64 (i := i) (by omega), Int.toNat_natCast, hy]
          exact ih k (i + 1) _ (by omega) (by omega) (by omega) hInv
    · rw [if_neg c]
      obtain ⟨t, hnx, hNI⟩ := next_all l (by omega) (k + 1) (by omega)
      rcases hNI with ⟨_, hno⟩ | ⟨t, rfl, htl, hT, hbest⟩
      · have := cnt_zero (l := l) (kind := 0) N (fun j hj => hno j (by omega))
        omega
      · have hT' : (at_ l t).f0 = 0 := hT
        have hyo := hI.young (by omega)
        have hInv : Inv (l.set t (filled y (at_ l t))) N (i + 1) := by
          refine fill_inv y hl (by omega) (by omega) hI.kind hI.rng hI.near (fun j hj => ?_) (fun _ => ⟨(hyo t (by omega)).2 hT', hyo⟩)
          have := (hyo t (by omega)).1
          have := (hI.rng j hj).1
          omega
        have hg := ih (k + 1) (i + 1) _ (by omega) (by omega) (by omega) hInv
        rw [hnx]
        simp only [Option.bind_some]
        rw [if_neg (by omega), if_neg (by omega), if_pos (by omega), if_pos (by omega), rd_at, if_pos hT', if_pos (by omega), w64 (i := i) (by omega), Int.toNat_natCast]
        exact hg

theorem num_range (a : Int) : ∃ N : Nat, 4 ≤ N ∧ N ≤ 15 ∧ wrap64 (4 + (wrap64 (Int.tmod (IntKind.u64.wrap a) 12))) = (N : Int) := by
  have h0 : 0 ≤ IntKind.u64.wrap a := by
    simp only [IntKind.wrap, IntKind.bits, IntKind.signed]
    simp
    omega
  generalize IntKind.u64.wrap a = u at *
  have e : Int.tmod u 12 = u % 12 := Int.tmod_eq_emod_of_nonneg h0
  rw [e]
  have e1 : wrap64 (u % 12) = u % 12 := by unfold wrap64; omega
  rw [e1]
  refine ⟨(4 + u % 12).toNat, by omega, by omega, ?_⟩
  unfold wrap64
  omega

theorem WearSpreads : gabionlaw15_WearSpreads.Pure := by
  intro a0 l1 _ _ _ _
  refine ⟨2 * l1.length + 60, ?_⟩
  unfold gabionlaw15_WearSpreads.f
  rw [chosen_is _ (by omega)]
  simp only [Option.bind_some, if_true]
  show gabionlaw15_WearSpreads.j0 (2 * l1.length + 59 + 1) a0 l1 _ = _
  simp only [gabionlaw15_WearSpreads.j0]
  by_cases c : (l1.length : Int) > 400
  · rw [if_pos (decide_eq_true c), chosen_is _ (by omega)]; rfl
  · rw [if_neg (by rw [decide_eq_false c]; decide)]
    obtain ⟨N, h4, h15, e⟩ := num_range a0
    rw [e, if_pos (by omega), if_pos (by omega), Int.toNat_natCast]
    have hz : ∀ j, at_ (List.replicate N z34) j = z34 := fun j => by
      unfold at_
      rw [List.getD_eq_getElem?_getD, List.getElem?_replicate]
      split <;> rfl
    refine loop N ⟨h4, h15⟩ l1 (by omega) l1.length _ 0 _ (by omega) (by omega) (by omega) ⟨by simp, fun j _ => by rw [hz]; exact .inl rfl, fun j _ => by rw [hz]; exact ⟨by decide, by decide⟩, fun j j' _ _ => by rw [hz, hz]; decide, fun _ j _ => by rw [hz]; exact ⟨by decide, fun _ => rfl⟩⟩

end Go.Proofs.Ytmcooidoemcaoaa.PureWearSpreads

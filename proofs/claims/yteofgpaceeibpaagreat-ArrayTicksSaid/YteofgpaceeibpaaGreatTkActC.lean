/- Plain law of ArrayTicks: a page is staged on a whole array; a segment is erased. | gabionlaw13.act: what does nothing; a segment is erased; a Tick of a whole array. -/
import Derived.Test.YteofgpaceeibpaaGreatTkTcPF
import Derived.Test.YteofgpaceeibpaaGreatTkActB
namespace Go.Proofs.YteofgpaceeibpaaGreat.TcPG
open Go.RowKit Gab Geom Par Fields Seal Nand NandC NandH RemapA VolA VolF MemA MemB MemC ArrA ArrC ArrD ArrE ArrF ArrG ArrI AOrd AOrdB AWrA AWrB StgA LawA HeldA ActA PlA PlB AStr TcPA TcPB TcPC TcPD TcPE TcPF
open Wr (InR)
set_option linter.unusedVariables false
set_option linter.unusedSimpArgs false

theorem div_is {q r p S : Nat} (hp : 0 < p) (hr : r < p) : q * p + r = S ↔ q = S / p ∧ r = S % p := by
  constructor
  · rintro rfl
    rw [Nat.mul_comm q p, Nat.mul_add_div hp, Nat.div_eq_of_lt hr, Nat.mul_add_mod, Nat.mod_eq_of_lt hr]
    exact ⟨rfl, rfl⟩
  · rintro ⟨rfl, rfl⟩
    rw [Nat.mul_comm]
    exact Nat.div_add_mod S p
theorem lt_is {q r p S : Nat} (hp : 0 < p) (hr : r = S % p) : q * p + r < S ↔ q < S / p := by
  subst hr
  have h := Nat.div_add_mod S p
  rw [Nat.mul_comm] at h
  constructor
  · intro h1
    have h2 : q * p < S / p * p := by omega
    exact Nat.lt_of_mul_lt_mul_right h2
  · intro h1
    have h2 : q * p < S / p * p := Nat.mul_lt_mul_of_pos_right h1 hp
    omega
theorem ideal_stage {g : Geo} (hg : g.Ok) {H : Held} (h : Head) (d : List Int) (n b q : Nat) : ideal g (H.stage h d) n b q = if b = 4 ∧ (n : Int) < 2 * g.pairs ∧ n / 2 = H.staged.length % g.pairs.toNat ∧ q = H.staged.length / g.pairs.toNat then some (sealed (h, d)) else ideal g H n b q := by
  obtain ⟨h1, h2, h3⟩ := pairs_is hg
  unfold ideal
  by_cases h4 : b = 4
  · subst h4
    simp only [if_true, true_and]
    have e : (H.stage h d).staged = H.staged ++ [(h, d)] := rfl
    rw [e, List.length_append, List.length_singleton, getD_snoc]
    by_cases hn : (n : Int) < 2 * g.pairs
    · have hr : n / 2 < g.pairs.toNat := by omega
      have hdv := div_is (q := q) (S := H.staged.length) (show 0 < g.pairs.toNat by omega) hr
      simp only [hn, true_and]
      by_cases hj : q * g.pairs.toNat + n / 2 = H.staged.length
      · obtain ⟨d1, d2⟩ := hdv.1 hj
        simp only [if_pos (show q * g.pairs.toNat + n / 2 < H.staged.length + 1 by omega), if_neg (show ¬ q * g.pairs.toNat + n / 2 < H.staged.length by omega), if_pos hj, if_pos (show n / 2 = H.staged.length % g.pairs.toNat ∧ q = H.staged.length / g.pairs.toNat from ⟨d2, d1⟩)]
      · have hno : ¬ (n / 2 = H.staged.length % g.pairs.toNat ∧ q = H.staged.length / g.pairs.toNat) := fun hh => hj (hdv.2 ⟨hh.2, hh.1⟩)
        simp only [if_neg hno]
        by_cases hl : q * g.pairs.toNat + n / 2 < H.staged.length
        · simp only [if_pos (show q * g.pairs.toNat + n / 2 < H.staged.length + 1 by omega), if_pos hl]
        · simp only [if_neg (show ¬ q * g.pairs.toNat + n / 2 < H.staged.length + 1 by omega), if_neg hl]
    · simp only [hn, false_and, if_false]
  · simp only [h4, if_false, false_and]
    rfl
/-- A page more is staged. -/
theorem std_stage {σ : Ar} {g : Geo} {V : View} {H : Held} {q : Int} (h : Std σ g V H q) (hn : (H.staged.length : Int) < g.room) {c : Int} (c0 : 0 ≤ c) (c1 : c < 256) :
    ∃ s' V', σ.progs 4 (H.staged.length / g.pairs) (fun _ => (pdat H.staged.length c, sealOf (phead H.staged.length c) (pdat H.staged.length c) [])) (orderAt σ.ahead (2 * (H.staged.length % g.pairs)) 2) = ({ σ with s := s' }, 0, 0) ∧ Std { σ with s := s' } g V' (H.stage (phead H.staged.length c) (pdat H.staged.length c)) q ∧ ∀ n, σ.s.Safe (n + 20) → s'.Safe n := by
  have hgc := h.ok.c
  have hgb := h.ok.b
  have hgp := h.ok.p
  obtain ⟨p1, p2, p3⟩ := pairs_is h.ok
  have hS : H.staged.length < 256 := by
    unfold Geo.room at hn
    have e : g.p * g.pairs ≤ 32 * 8 := by
      have e1 : g.p * g.pairs ≤ 32 * g.pairs := Int.mul_le_mul_of_nonneg_right (by omega) (by omega)
      omega
    omega
  have hdat := room_at (H := H.stage (phead H.staged.length c) (pdat H.staged.length c)) h.ok ⟨h.hok.len, h.hok.row, by show ((H.staged ++ [_]).length : Int) ≤ _; rw [List.length_append, List.length_singleton]; push_cast; omega, fun j hj => by
    show (((H.staged ++ [(phead H.staged.length c, pdat H.staged.length c)]).getD j noPage).1).Ok ∧ _
    have hj' : j < (H.staged ++ [(phead H.staged.length c, pdat H.staged.length c)]).length := hj
    rw [List.length_append, List.length_singleton] at hj'
    show (((H.staged ++ [(phead H.staged.length c, pdat H.staged.length c)]).getD j noPage).1).Ok ∧ 1 ≤ (((H.staged ++ [(phead H.staged.length c, pdat H.staged.length c)]).getD j noPage).1).kind ∧ (((H.staged ++ [(phead H.staged.length c, pdat H.staged.length c)]).getD j noPage).1).kind ≤ 6 ∧ ((((H.staged ++ [(phead H.staged.length c, pdat H.staged.length c)]).getD j noPage).2).length : Int) = g.s ∧ InR 256 (((H.staged ++ [(phead H.staged.length c, pdat H.staged.length c)]).getD j noPage).2)
    rw [getD_snoc]
    by_cases e2 : j < H.staged.length
    · rw [if_pos e2]; exact h.hok.st j e2
    · rw [if_neg e2, if_pos (by omega)]
      exact ⟨phead_ok (by omega) (by omega) c0 c1, by show (1 : Int) ≤ 4; decide, by show (4 : Int) ≤ 6; decide, by show ((pdat _ _).length : Int) = g.s; rw [pdat_len, h.s256]; rfl, pdat_range _ _⟩⟩ (j := H.staged.length) (by show _ < (H.staged ++ [_]).length; rw [List.length_append, List.length_singleton]; omega)
  have hhok : HOk g (H.stage (phead H.staged.length c) (pdat H.staged.length c)) := ⟨h.hok.len, h.hok.row, by show ((H.staged ++ [_]).length : Int) ≤ _; rw [List.length_append, List.length_singleton]; push_cast; omega, fun j hj => by
    have hj' : j < (H.staged ++ [(phead H.staged.length c, pdat H.staged.length c)]).length := hj
    rw [List.length_append, List.length_singleton] at hj'
    show (((H.staged ++ [(phead H.staged.length c, pdat H.staged.length c)]).getD j noPage).1).Ok ∧ 1 ≤ (((H.staged ++ [(phead H.staged.length c, pdat H.staged.length c)]).getD j noPage).1).kind ∧ (((H.staged ++ [(phead H.staged.length c, pdat H.staged.length c)]).getD j noPage).1).kind ≤ 6 ∧ ((((H.staged ++ [(phead H.staged.length c, pdat H.staged.length c)]).getD j noPage).2).length : Int) = g.s ∧ InR 256 (((H.staged ++ [(phead H.staged.length c, pdat H.staged.length c)]).getD j noPage).2)
    rw [getD_snoc]
    by_cases e2 : j < H.staged.length
    · rw [if_pos e2]; exact h.hok.st j e2
    · rw [if_neg e2, if_pos (by omega)]
      exact ⟨phead_ok (by omega) (by omega) c0 c1, by show (1 : Int) ≤ 4; decide, by show (4 : Int) ≤ 6; decide, by show ((pdat _ _).length : Int) = g.s; rw [pdat_len, h.s256]; rfl, pdat_range _ _⟩⟩
  have m0 := Int.emod_nonneg (H.staged.length : Int) (show g.pairs ≠ 0 by omega)
  have m1 := Int.emod_lt_of_pos (H.staged.length : Int) (show 0 < g.pairs by omega)
  have em : (H.staged.length : Int) % g.pairs = ((H.staged.length % g.pairs.toNat : Nat) : Int) := by rw [Int.natCast_emod]; congr 1; omega
  have ed : (H.staged.length : Int) / g.pairs = ((H.staged.length / g.pairs.toNat : Nat) : Int) := by rw [Int.natCast_ediv]; congr 1; omega
  obtain ⟨lo, hlo⟩ : ∃ lo : Nat, lo = 2 * (H.staged.length % g.pairs.toNat) := ⟨_, rfl⟩
  obtain ⟨row, hrow⟩ : ∃ row : Nat, row = H.staged.length / g.pairs.toNat := ⟨_, rfl⟩
  have elo : 2 * ((H.staged.length : Int) % g.pairs) = (lo : Int) := by rw [em, hlo]; push_cast; rfl
  have hlc : (lo : Int) + 1 < g.c := by omega
  have hisn : ∀ n : Nat, ((n : Int) < 2 * g.pairs ∧ n / 2 = H.staged.length % g.pairs.toNat) ↔ (n = lo ∨ n = lo + 1) := fun n => by omega
  rw [ed] at hdat
  have hnx : ∀ n : Nat, n = lo ∨ n = lo + 1 → V.nx n 6 = (row : Int) := fun n hn => by
    obtain ⟨i1, i2⟩ := (hisn n).2 hn
    obtain ⟨N, h1, h2⟩ := h.nx n (by omega) 4 (by omega) (by omega)
    rw [h1, only h2 (M := row) (fun j => by
      unfold ideal
      rw [if_pos rfl]
      have h9 := lt_is (q := j) (S := H.staged.length) (show 0 < g.pairs.toNat by omega) i2
      by_cases e : j < row
      · rw [if_pos ⟨i1, h9.2 (by omega)⟩, decide_eq_true e]; rfl
      · rw [if_neg (fun hh => e (by have := h9.1 hh.2; omega)), decide_eq_false e]; rfl)]
  have hmem : ∀ n : Nat, (n : Int) ∈ [(lo : Int), (lo : Int) + 1] ↔ (n = lo ∨ n = lo + 1) := fun n => by
    simp only [List.mem_cons, List.not_mem_nil, or_false]
    omega
  obtain ⟨s', h1, e1, f1⟩ := whole_progs (seg := 4) (row := row) h.ok (by rw [hrow]; exact hdat) (fun _ => (pdat H.staged.length c, sealOf (phead H.staged.length c) (pdat H.staged.length c) [])) [(lo : Int), (lo : Int) + 1] σ V 0 h.whole (by simp; omega) (fun m hm => by
    have hm' : m = lo ∨ m = (lo : Int) + 1 := by simpa using hm
    exact ⟨by omega, by omega, h.live _, hnx _ (by omega)⟩)
  rw [show ((row : Int)).toNat = row by omega, show ((4 : Int)).toNat + 2 = 6 from rfl] at h1
  refine ⟨s', _, by rw [ahead_none h.whole, elo, orderAt_none (by omega), ed, ← hrow]; exact e1, ⟨h.whole.turn h1, h.ok, h.s256, h.live, h.q0, hhok, fun n hng b hb2 hb j => ?_, fun n hng b hb2 hb => ?_, ⟨fun b j => ?_, fun b => ?_⟩⟩, fun n hs => f1 n (hs.le (by show n + 2 ≤ n + 20; omega))⟩
  · rw [ideal_stage h.ok]
    show (if (n : Int) ∈ [(lo : Int), (lo : Int) + 1] ∧ b + 2 = 6 ∧ j = row then some (pdat H.staged.length c, sealOf (phead H.staged.length c) (pdat H.staged.length c) []) else V.pg n (b + 2) j) = _
    by_cases e : b = 4 ∧ (n = lo ∨ n = lo + 1) ∧ j = row
    · rw [if_pos ⟨(hmem n).2 e.2.1, by omega, e.2.2⟩, if_pos ⟨e.1, ((hisn n).2 e.2.1).1, ((hisn n).2 e.2.1).2, by rw [← hrow]; exact e.2.2⟩]
      rfl
    · rw [if_neg (fun hh => e ⟨by omega, (hmem n).1 hh.1, hh.2.2⟩), if_neg (fun hh => e ⟨hh.1, (hisn n).1 ⟨hh.2.1, hh.2.2.1⟩, by rw [hrow]; exact hh.2.2.2⟩)]
      exact h.pg n hng b hb2 hb j
  · show ∃ N : Nat, (if (n : Int) ∈ [(lo : Int), (lo : Int) + 1] ∧ b + 2 = 6 then (row : Int) + 1 else V.nx n (b + 2)) = (N : Int) ∧ _
    obtain ⟨N, h2, h3⟩ := h.nx n hng b hb2 hb
    by_cases e : b = 4 ∧ (n = lo ∨ n = lo + 1)
    · obtain ⟨rfl, e2⟩ := e
      have hi := (hisn n).2 e2
      refine ⟨row + 1, by rw [if_pos ⟨(hmem n).2 e2, by omega⟩]; push_cast; rfl, fun j => ?_⟩
      have e9 := hnx n e2
      rw [show (4 : Nat) + 2 = 6 from rfl] at h2
      rw [h2] at e9
      have hN : N = row := by omega
      rw [ideal_stage h.ok]
      by_cases e3 : j = row
      · rw [if_pos ⟨rfl, hi.1, hi.2, by rw [← hrow]; exact e3⟩, decide_eq_true (by omega)]; rfl
      · rw [if_neg (fun hh => e3 (by rw [hrow]; exact hh.2.2.2)), h3 j, hN, decide_eq_decide]
        omega
    · refine ⟨N, by rw [if_neg (fun hh => e ⟨by omega, (hmem n).1 hh.1⟩)]; exact h2, fun j => ?_⟩
      rw [ideal_stage h.ok, if_neg (fun hh => e ⟨hh.1, (hisn n).1 ⟨hh.2.1, hh.2.2.1⟩⟩)]
      exact h3 j
  · show (if ((g.c.toNat : Nat) : Int) ∈ [(lo : Int), (lo : Int) + 1] ∧ _ then _ else V.pg g.c.toNat b j) = none
    rw [if_neg (fun hh => by have := (hmem g.c.toNat).1 hh.1; omega)]
    exact h.raw.1 b j
  · show (if ((g.c.toNat : Nat) : Int) ∈ [(lo : Int), (lo : Int) + 1] ∧ _ then _ else V.nx g.c.toNat b) = 0
    rw [if_neg (fun hh => by have := (hmem g.c.toNat).1 hh.1; omega)]
    exact h.raw.2 b
/-- A segment's stripes are gone. -/
def clear (H : Held) (k : Nat) : Held := { rows := fun j => if j = k then [] else H.rows j, staged := H.staged, lost := -1 }
def eraseTo (V : View) (i b : Nat) : View := ⟨V.dead, fun c b' q => if c < i ∧ b' = b then none else V.pg c b' q, fun c b' => if c < i ∧ b' = b then 0 else V.nx c b'⟩
theorem whole_erase {σ : Ar} {g : Geo} {V : View} {q : Int} (h : PlA.Whole σ g V q) (hg : g.Ok) {b : Nat} (hb : (b : Int) < g.b - 5) (hl : ∀ c, V.dead c = false) : ∀ i, i ≤ g.c.toNat → ∃ s', Sees s' g (eraseTo V i (b + 2)) ∧ σ.eraseN b i = ({ σ with s := s' }, 0)
  | 0, _ => ⟨σ.s, h.sees.as (fun _ => rfl) (fun c b' q => by simp [eraseTo]) (fun c b' => by simp [eraseTo]), rfl⟩
  | i + 1, hi => by
    have hgc := hg.c
    obtain ⟨s1, h1, e1⟩ := whole_erase h hg hb hl i (by omega)
    have hw := h.turn h1
    obtain ⟨s2, h2, e2⟩ := h1.erase (c := i) (b + 2) (hl i)
    have hd : σ.set.dead = 255 := by rw [h.set]; rfl
    have hst : Ar.stand { σ with s := s1 } i b = some i := by
      unfold Ar.stand
      show (if σ.set.dead = (i : Int) then _ else _) = _
      rw [hd, if_neg (by omega), first_chip _ hw.set (by omega)]
    refine ⟨s2, h2.as (fun _ => rfl) (fun c b' k => ?_) (fun c b' => ?_), ?_⟩
    · show (if c = i ∧ b' = b + 2 then none else if c < i ∧ b' = b + 2 then none else V.pg c b' k) = if c < i + 1 ∧ b' = b + 2 then none else V.pg c b' k
      by_cases h1 : c = i ∧ b' = b + 2
      · rw [if_pos h1, if_pos ⟨by omega, h1.2⟩]
      · rw [if_neg h1]
        by_cases h2 : c < i ∧ b' = b + 2
        · rw [if_pos h2, if_pos ⟨by omega, h2.2⟩]
        · rw [if_neg h2, if_neg (by omega)]
    · show (if c = i ∧ b' = b + 2 then (0 : Int) else if c < i ∧ b' = b + 2 then 0 else V.nx c b') = if c < i + 1 ∧ b' = b + 2 then 0 else V.nx c b'
      by_cases h1 : c = i ∧ b' = b + 2
      · rw [if_pos h1, if_pos ⟨by omega, h1.2⟩]
      · rw [if_neg h1]
        by_cases h2 : c < i ∧ b' = b + 2
        · rw [if_pos h2, if_pos ⟨by omega, h2.2⟩]
        · rw [if_neg h2, if_neg (by omega)]
    · unfold Ar.eraseN
      rw [e1]
      dsimp only
      rw [if_pos rfl]
      unfold Ar.erase1
      rw [hst]
      dsimp only
      rw [hw.tab (by omega), at_fmt hg hb, e2]
      dsimp only
      rw [if_neg (by decide)]
theorem ideal_clear (g : Geo) (H : Held) (k n b q : Nat) (hk : k < 4) : ideal g (clear H k) n b q = if b = 6 + k then none else ideal g H n b q := by
  unfold ideal
  by_cases hb : b = 6 + k
  · subst hb
    simp only [if_true, if_neg (show ¬ (6 + k = 4) by omega), if_pos (show 6 ≤ 6 + k ∧ 6 + k < 10 from ⟨by omega, by omega⟩), show 6 + k - 6 = k by omega]
    have e : (clear H k).rows k = [] := by show (if k = k then [] else _) = []; rw [if_pos rfl]
    rw [e]
    simp
  · rw [if_neg hb]
    by_cases h4 : b = 4
    · rw [if_pos h4, if_pos h4]
      rfl
    · rw [if_neg h4, if_neg h4]
      by_cases h6 : 6 ≤ b ∧ b < 10
      · rw [if_pos h6, if_pos h6]
        have e : (clear H k).rows (b - 6) = H.rows (b - 6) := by show (if b - 6 = k then _ else _) = _; rw [if_neg (by omega)]
        rw [e]
      · rw [if_neg h6, if_neg h6]
theorem std_erase {σ : Ar} {g : Geo} {V : View} {H : Held} {q : Int} (h : Std σ g V H q) {k : Nat} (hk : k < 4) :
    ∃ s' V', σ.erase (6 + k) = ({ σ with s := s' }, 0) ∧ Std { σ with s := s' } g V' (clear H k) q ∧ ∀ n, σ.s.Safe (n + 20) → s'.Safe n := by
  have hgc := h.ok.c
  have hgb := h.ok.b
  obtain ⟨s', h1, e1⟩ := whole_erase h.whole h.ok (b := 6 + k) (by omega) h.live g.c.toNat (Nat.le_refl _)
  refine ⟨s', _, ?_, ⟨h.whole.turn h1, h.ok, h.s256, h.live, h.q0, ⟨fun j hj => ?_, fun j hj r hr => ?_, h.hok.few, h.hok.st⟩, fun n hng b hb2 hb j => ?_, fun n hng b hb2 hb => ?_, ⟨fun b j => ?_, fun b => ?_⟩⟩, fun n hs => ?_⟩
  · unfold Ar.erase
    rw [if_neg (by rw [h.whole.lost]; decide), h.whole.sees.g]
    exact e1
  · show (if j = k then [] else H.rows j).length ≤ _
    split
    · exact Nat.zero_le _
    · exact h.hok.len j hj
  · have hr' : r < (if j = k then [] else H.rows j).length := hr
    show LOk g ((if j = k then [] else H.rows j).getD r [])
    by_cases e : j = k
    · rw [if_pos e] at hr'
      exact absurd hr' (Nat.not_lt_zero _)
    · rw [if_neg e] at hr' ⊢
      exact h.hok.row j hj r hr'
  · rw [ideal_clear g H k n b j hk]
    show (if n < g.c.toNat ∧ b + 2 = 6 + k + 2 then none else V.pg n (b + 2) j) = _
    by_cases e : b = 6 + k
    · rw [if_pos ⟨by omega, by omega⟩, if_pos e]
    · rw [if_neg (by omega), if_neg e]
      exact h.pg n hng b hb2 hb j
  · show ∃ N : Nat, (if n < g.c.toNat ∧ b + 2 = 6 + k + 2 then (0 : Int) else V.nx n (b + 2)) = (N : Int) ∧ _
    obtain ⟨N, h2, h3⟩ := h.nx n hng b hb2 hb
    by_cases e : b = 6 + k
    · refine ⟨0, by rw [if_pos ⟨by omega, by omega⟩]; rfl, fun j => ?_⟩
      rw [ideal_clear g H k n b j hk, if_pos e]
      simp
    · refine ⟨N, by rw [if_neg (by omega)]; exact h2, fun j => ?_⟩
      rw [ideal_clear g H k n b j hk, if_neg e]
      exact h3 j
  · show (if g.c.toNat < g.c.toNat ∧ _ then none else V.pg g.c.toNat b j) = none
    rw [if_neg (fun hh => absurd hh.1 (Nat.lt_irrefl _))]
    exact h.raw.1 b j
  · show (if g.c.toNat < g.c.toNat ∧ _ then (0 : Int) else V.nx g.c.toNat b) = 0
    rw [if_neg (fun hh => absurd hh.1 (Nat.lt_irrefl _))]
    exact h.raw.2 b
  · have h9 := safe_eraseN (σ := σ) (6 + k) g.c.toNat n (hs.le (by omega))
    rw [e1] at h9
    exact h9
end Go.Proofs.YteofgpaceeibpaaGreat.TcPG
namespace Go.Proofs.YteofgpaceeibpaaGreat.ActC
open Go.RowKit Gab Geom Go.Proofs.YteofgpaceeibpaaGreat.Sum Ref Par Fields Seal Nand NandA NandH ArrA ArrF AOrd AOrdB AWrA AWrB AWrC StgA LawA HeldA ActA TckG
open Wr (InR)
open Heap (cell_is heap_set fr_set1)
open Str (pcells RowV.ne)
set_option linter.unusedVariables false
set_option linter.unusedSimpArgs false

set_option maxHeartbeats 8000000 in
set_option maxRecDepth 100000 in
theorem Act1n_calls (σ : Ar) (K : ALay) (base : Nat) (H : Held) (Y : HLay) (sg c : Int) (w : World) (hA : ArAt w σ K) (hH : HeldAt w base H Y) (hbase : base ≤ w.heap.size) (hn : σ.s.g.p ≤ ((H.rows (u64of sg % 4).toNat).length : Int)) :
    Calls Tryz.prog 16 #[.pointer (some ⟨K.x, 0, none⟩), .pointer (some ⟨Y.hb, 0, none⟩), .agg #[.int .i64 1, .int .i64 sg, .int .u8 c]] w (ActPost σ σ K base H Y.hb w) := by
  have hok : σ.s.g.Ok := hA.nand.ok
  have h0 : IntKind.u64.wrap sg = u64of sg := IntKind.wrap_u64 _
  have h1 : 0 ≤ u64of sg := by unfold u64of; omega
  have h2 : u64of sg < 18446744073709551616 := by unfold u64of; omega
  have h6 : IntKind.u64.wrap (Int.tmod (u64of sg) 4) = u64of sg % 4 := by rw [Int.tmod_eq_emod_of_nonneg h1, IntKind.wrap_u64]; omega
  have h7 : IntKind.i64.wrap (u64of sg % 4) = u64of sg % 4 := by rw [IntKind.wrap_i64]; omega
  have hk0 : 0 ≤ u64of sg % 4 := by omega
  have hk4 : u64of sg % 4 < 4 := by omega
  have HA := As.mk hA
  have HH := As.mk hH
  have hb1 := hok.b
  have hp1 := hok.p
  have hc2 := hok.c
  have hcl := hH.rowc (k := (u64of sg % 4).toNat) (by omega)
  have hrk := hH.rows (u64of sg % 4).toNat (by omega)
  obtain ⟨rA, rc, er, _, _, _⟩ := hrk.rd
  rw [er] at hcl
  have d9 : decide (σ.s.g.p ≤ ((H.rows (u64of sg % 4).toNat).length : Int)) = true := decide_eq_true hn
  generalize u64of sg = u at *
  have HG := As.mk (fun w' (hf : Fr None_ w w') => ArrA.Geo_calls σ K w' (hA.none_ hf))
  have HBASE := As.mk hbase
  unfold Geo.val at HG
  have HOP := As.mk (heap_alloc_new w (.cells #[.int .i64 1, .int .i64 sg, .int .u8 c] 58))
  have HFW : As (Fr None_ w (w.alloc (.cells #[.int .i64 1, .int .i64 sg, .int .u8 c] 58))) := ⟨(Fr.refl _ w).alloc _⟩
  obtain ⟨Q, hQ⟩ : ∃ Q, ActPost σ σ K base H Y.hb w = Q := ⟨_, rfl⟩
  have HQ := As.mk hQ
  rw [hQ]
  clear hA hH hok hbase hQ hrk er hn
  go_enter Tryz.func16, Tryz.ntmps16
  go_wp2_with fail
  ((with_reducible refine (HG.out _ HFW.out).mono ?_); rintro e w1 ⟨rfl, hf1⟩)
  have HF1 := As.mk (HFW.out.after hf1 (fun _ _ h => h))
  have HOP1 := As.mk (hf1.heap HOP.out (fun h => h))
  have HGE := As.mk (heap_alloc_new w1 (.cells #[.int .i64 σ.s.g.c, .int .i64 σ.s.g.b, .int .i64 σ.s.g.p, .int .i64 σ.s.g.s] 24))
  have HOP2 := As.mk (at_old (.cells #[.int .i64 σ.s.g.c, .int .i64 σ.s.g.b, .int .i64 σ.s.g.p, .int .i64 σ.s.g.s] 24) HOP1.out)
  have HF2 := As.mk (HF1.out.alloc (.cells #[.int .i64 σ.s.g.c, .int .i64 σ.s.g.b, .int .i64 σ.s.g.p, .int .i64 σ.s.g.s] 24))
  clear hf1
  go_upto_region 2 with fail
  generalize w1.alloc (.cells #[.int .i64 σ.s.g.c, .int .i64 σ.s.g.b, .int .i64 σ.s.g.p, .int .i64 σ.s.g.s] 24) = w2 at *
  generalize w1.heap.size = gg at *
  have o0 := cell_is (i := 0) HOP2.out rfl
  have o1 := cell_is (i := 1) HOP2.out rfl
  have hl2 : gg < w2.heap.size := (Array.getElem?_eq_some_iff.1 HGE.out).1
  have g0 := cell_is (i := 0) HGE.out rfl
  have g1 := cell_is (i := 1) HGE.out rfl
  have g2 := cell_is (i := 2) HGE.out rfl
  have g3 := cell_is (i := 3) HGE.out rfl
  have hcl2 := HF2.out.cell hcl.1 (fun h => h)
  go_wp2_with fail
  have HFZ := HF2
  rw [← HQ.out]
  exact ⟨rfl, HA.out.none_ HFZ.out, ⟨Y, HH.out.none_ HFZ.out, rfl⟩, HFZ.out.mono (fun _ _ h => h.elim)⟩
set_option maxHeartbeats 8000000 in
set_option maxRecDepth 100000 in
theorem Act2n_calls (σ : Ar) (K : ALay) (base : Nat) (H : Held) (Y : HLay) (sg c : Int) (w : World) (hA : ArAt w σ K) (hH : HeldAt w base H Y) (hbase : base ≤ w.heap.size) (hn : σ.s.g.room ≤ (H.staged.length : Int)) :
    Calls Tryz.prog 16 #[.pointer (some ⟨K.x, 0, none⟩), .pointer (some ⟨Y.hb, 0, none⟩), .agg #[.int .i64 2, .int .i64 sg, .int .u8 c]] w (ActPost σ σ K base H Y.hb w) := by
  have hok : σ.s.g.Ok := hA.nand.ok
  have h0 : IntKind.u64.wrap sg = u64of sg := IntKind.wrap_u64 _
  have h1 : 0 ≤ u64of sg := by unfold u64of; omega
  have h2 : u64of sg < 18446744073709551616 := by unfold u64of; omega
  have h6 : IntKind.u64.wrap (Int.tmod (u64of sg) 4) = u64of sg % 4 := by rw [Int.tmod_eq_emod_of_nonneg h1, IntKind.wrap_u64]; omega
  have h7 : IntKind.i64.wrap (u64of sg % 4) = u64of sg % 4 := by rw [IntKind.wrap_i64]; omega
  have hk0 : 0 ≤ u64of sg % 4 := by omega
  have hk4 : u64of sg % 4 < 4 := by omega
  have HA := As.mk hA
  have HH := As.mk hH
  have hb1 := hok.b
  have hp1 := hok.p
  have hc2 := hok.c
  have hst := hH.staged
  have hc4 := cell_is (i := 4) hH.main rfl
  obtain ⟨rA, rc, er, _, _, _⟩ := hst.rd
  rw [er] at hc4
  have HRM := As.mk (fun w' => Room_calls σ.s.g w' hok)
  unfold Geo.val at HRM
  have d9 : decide (σ.s.g.room ≤ (H.staged.length : Int)) = true := decide_eq_true hn
  generalize u64of sg = u at *
  have HG := As.mk (fun w' (hf : Fr None_ w w') => ArrA.Geo_calls σ K w' (hA.none_ hf))
  have HBASE := As.mk hbase
  unfold Geo.val at HG
  have HOP := As.mk (heap_alloc_new w (.cells #[.int .i64 2, .int .i64 sg, .int .u8 c] 58))
  have HFW : As (Fr None_ w (w.alloc (.cells #[.int .i64 2, .int .i64 sg, .int .u8 c] 58))) := ⟨(Fr.refl _ w).alloc _⟩
  obtain ⟨Q, hQ⟩ : ∃ Q, ActPost σ σ K base H Y.hb w = Q := ⟨_, rfl⟩
  have HQ := As.mk hQ
  rw [hQ]
  clear hA hH hok hbase hQ hst er hn
  go_enter Tryz.func16, Tryz.ntmps16
  go_wp2_with fail
  ((with_reducible refine (HG.out _ HFW.out).mono ?_); rintro e w1 ⟨rfl, hf1⟩)
  have HF1 := As.mk (HFW.out.after hf1 (fun _ _ h => h))
  have HOP1 := As.mk (hf1.heap HOP.out (fun h => h))
  have HGE := As.mk (heap_alloc_new w1 (.cells #[.int .i64 σ.s.g.c, .int .i64 σ.s.g.b, .int .i64 σ.s.g.p, .int .i64 σ.s.g.s] 24))
  have HOP2 := As.mk (at_old (.cells #[.int .i64 σ.s.g.c, .int .i64 σ.s.g.b, .int .i64 σ.s.g.p, .int .i64 σ.s.g.s] 24) HOP1.out)
  have HF2 := As.mk (HF1.out.alloc (.cells #[.int .i64 σ.s.g.c, .int .i64 σ.s.g.b, .int .i64 σ.s.g.p, .int .i64 σ.s.g.s] 24))
  clear hf1
  go_upto_region 2 with fail
  generalize w1.alloc (.cells #[.int .i64 σ.s.g.c, .int .i64 σ.s.g.b, .int .i64 σ.s.g.p, .int .i64 σ.s.g.s] 24) = w2 at *
  generalize w1.heap.size = gg at *
  have o0 := cell_is (i := 0) HOP2.out rfl
  have o1 := cell_is (i := 1) HOP2.out rfl
  have hl2 : gg < w2.heap.size := (Array.getElem?_eq_some_iff.1 HGE.out).1
  have g0 := cell_is (i := 0) HGE.out rfl
  have g1 := cell_is (i := 1) HGE.out rfl
  have g2 := cell_is (i := 2) HGE.out rfl
  have g3 := cell_is (i := 3) HGE.out rfl
  have hcl2 := HF2.out.cell hc4 (fun h => h)
  go_wp2_with fail
  ((with_reducible refine (HRM.out _).mono ?_); rintro e w3 ⟨rfl, hf3⟩)
  have HFZ := As.mk (HF2.out.after hf3 (fun _ _ h => h))
  clear hf3
  go_wp2_with fail
  rw [← HQ.out]
  exact ⟨rfl, HA.out.none_ HFZ.out, ⟨Y, HH.out.none_ HFZ.out, rfl⟩, HFZ.out.mono (fun _ _ h => h.elim)⟩
set_option maxHeartbeats 8000000 in
set_option maxRecDepth 100000 in
theorem Act0_calls (σ : Ar) (K : ALay) (base : Nat) (H : Held) (Y : HLay) (kd sg c : Int) (w : World) (hA : ArAt w σ K) (hH : HeldAt w base H Y) (hbase : base ≤ w.heap.size) (hn : kd ≠ 1 ∧ kd ≠ 2 ∧ kd ≠ 3 ∧ kd ≠ 4) :
    Calls Tryz.prog 16 #[.pointer (some ⟨K.x, 0, none⟩), .pointer (some ⟨Y.hb, 0, none⟩), .agg #[.int .i64 kd, .int .i64 sg, .int .u8 c]] w (ActPost σ σ K base H Y.hb w) := by
  have hok : σ.s.g.Ok := hA.nand.ok
  have h0 : IntKind.u64.wrap sg = u64of sg := IntKind.wrap_u64 _
  have h1 : 0 ≤ u64of sg := by unfold u64of; omega
  have h2 : u64of sg < 18446744073709551616 := by unfold u64of; omega
  have h6 : IntKind.u64.wrap (Int.tmod (u64of sg) 4) = u64of sg % 4 := by rw [Int.tmod_eq_emod_of_nonneg h1, IntKind.wrap_u64]; omega
  have h7 : IntKind.i64.wrap (u64of sg % 4) = u64of sg % 4 := by rw [IntKind.wrap_i64]; omega
  have hk0 : 0 ≤ u64of sg % 4 := by omega
  have hk4 : u64of sg % 4 < 4 := by omega
  have HA := As.mk hA
  have HH := As.mk hH
  have hb1 := hok.b
  have hp1 := hok.p
  have hc2 := hok.c
  have b1 : (kd == 1) = false := beq_eq_false_iff_ne.2 hn.1
  have b2 : (kd == 2) = false := beq_eq_false_iff_ne.2 hn.2.1
  have b3 : (kd == 3) = false := beq_eq_false_iff_ne.2 hn.2.2.1
  have b4 : (kd == 4) = false := beq_eq_false_iff_ne.2 hn.2.2.2
  generalize u64of sg = u at *
  have HG := As.mk (fun w' (hf : Fr None_ w w') => ArrA.Geo_calls σ K w' (hA.none_ hf))
  have HBASE := As.mk hbase
  unfold Geo.val at HG
  have HOP := As.mk (heap_alloc_new w (.cells #[.int .i64 kd, .int .i64 sg, .int .u8 c] 58))
  have HFW : As (Fr None_ w (w.alloc (.cells #[.int .i64 kd, .int .i64 sg, .int .u8 c] 58))) := ⟨(Fr.refl _ w).alloc _⟩
  obtain ⟨Q, hQ⟩ : ∃ Q, ActPost σ σ K base H Y.hb w = Q := ⟨_, rfl⟩
  have HQ := As.mk hQ
  rw [hQ]
  clear hA hH hok hbase hQ hn
  go_enter Tryz.func16, Tryz.ntmps16
  go_wp2_with fail
  ((with_reducible refine (HG.out _ HFW.out).mono ?_); rintro e w1 ⟨rfl, hf1⟩)
  have HF1 := As.mk (HFW.out.after hf1 (fun _ _ h => h))
  have HOP1 := As.mk (hf1.heap HOP.out (fun h => h))
  have HGE := As.mk (heap_alloc_new w1 (.cells #[.int .i64 σ.s.g.c, .int .i64 σ.s.g.b, .int .i64 σ.s.g.p, .int .i64 σ.s.g.s] 24))
  have HOP2 := As.mk (at_old (.cells #[.int .i64 σ.s.g.c, .int .i64 σ.s.g.b, .int .i64 σ.s.g.p, .int .i64 σ.s.g.s] 24) HOP1.out)
  have HF2 := As.mk (HF1.out.alloc (.cells #[.int .i64 σ.s.g.c, .int .i64 σ.s.g.b, .int .i64 σ.s.g.p, .int .i64 σ.s.g.s] 24))
  clear hf1
  go_upto_region 2 with fail
  generalize w1.alloc (.cells #[.int .i64 σ.s.g.c, .int .i64 σ.s.g.b, .int .i64 σ.s.g.p, .int .i64 σ.s.g.s] 24) = w2 at *
  generalize w1.heap.size = gg at *
  have o0 := cell_is (i := 0) HOP2.out rfl
  have o1 := cell_is (i := 1) HOP2.out rfl
  have hl2 : gg < w2.heap.size := (Array.getElem?_eq_some_iff.1 HGE.out).1
  have g0 := cell_is (i := 0) HGE.out rfl
  have g1 := cell_is (i := 1) HGE.out rfl
  have g2 := cell_is (i := 2) HGE.out rfl
  have g3 := cell_is (i := 3) HGE.out rfl
  go_wp2_with fail
  have HFZ := HF2
  rw [← HQ.out]
  exact ⟨rfl, HA.out.none_ HFZ.out, ⟨Y, HH.out.none_ HFZ.out, rfl⟩, HFZ.out.mono (fun _ _ h => h.elim)⟩
set_option maxHeartbeats 8000000 in
set_option maxRecDepth 100000 in
theorem Act4_calls (σ : Ar) (K : ALay) (base : Nat) (H : Held) (Y : HLay) (sg c : Int) (w : World) (hA : ArAt w σ K) (hH : HeldAt w base H Y) (hbase : base ≤ w.heap.size) (hl : σ.lost = false) (hd : σ.set.dead = 255) :
    Calls Tryz.prog 16 #[.pointer (some ⟨K.x, 0, none⟩), .pointer (some ⟨Y.hb, 0, none⟩), .agg #[.int .i64 4, .int .i64 sg, .int .u8 c]] w (ActPost σ σ K base H Y.hb w) := by
  have hok : σ.s.g.Ok := hA.nand.ok
  have h0 : IntKind.u64.wrap sg = u64of sg := IntKind.wrap_u64 _
  have h1 : 0 ≤ u64of sg := by unfold u64of; omega
  have h2 : u64of sg < 18446744073709551616 := by unfold u64of; omega
  have h6 : IntKind.u64.wrap (Int.tmod (u64of sg) 4) = u64of sg % 4 := by rw [Int.tmod_eq_emod_of_nonneg h1, IntKind.wrap_u64]; omega
  have h7 : IntKind.i64.wrap (u64of sg % 4) = u64of sg % 4 := by rw [IntKind.wrap_i64]; omega
  have hk0 : 0 ≤ u64of sg % 4 := by omega
  have hk4 : u64of sg % 4 < 4 := by omega
  have HA := As.mk hA
  have HH := As.mk hH
  have hb1 := hok.b
  have hp1 := hok.p
  have hc2 := hok.c
  have HTI := As.mk (fun w' (hf : Fr None_ w w') => Tick_full σ K w' (hA.none_ hf) hl hd)
  generalize u64of sg = u at *
  have HG := As.mk (fun w' (hf : Fr None_ w w') => ArrA.Geo_calls σ K w' (hA.none_ hf))
  have HBASE := As.mk hbase
  unfold Geo.val at HG
  have HOP := As.mk (heap_alloc_new w (.cells #[.int .i64 4, .int .i64 sg, .int .u8 c] 58))
  have HFW : As (Fr None_ w (w.alloc (.cells #[.int .i64 4, .int .i64 sg, .int .u8 c] 58))) := ⟨(Fr.refl _ w).alloc _⟩
  obtain ⟨Q, hQ⟩ : ∃ Q, ActPost σ σ K base H Y.hb w = Q := ⟨_, rfl⟩
  have HQ := As.mk hQ
  rw [hQ]
  clear hA hH hok hbase hQ hl hd
  go_enter Tryz.func16, Tryz.ntmps16
  go_wp2_with fail
  ((with_reducible refine (HG.out _ HFW.out).mono ?_); rintro e w1 ⟨rfl, hf1⟩)
  have HF1 := As.mk (HFW.out.after hf1 (fun _ _ h => h))
  have HOP1 := As.mk (hf1.heap HOP.out (fun h => h))
  have HGE := As.mk (heap_alloc_new w1 (.cells #[.int .i64 σ.s.g.c, .int .i64 σ.s.g.b, .int .i64 σ.s.g.p, .int .i64 σ.s.g.s] 24))
  have HOP2 := As.mk (at_old (.cells #[.int .i64 σ.s.g.c, .int .i64 σ.s.g.b, .int .i64 σ.s.g.p, .int .i64 σ.s.g.s] 24) HOP1.out)
  have HF2 := As.mk (HF1.out.alloc (.cells #[.int .i64 σ.s.g.c, .int .i64 σ.s.g.b, .int .i64 σ.s.g.p, .int .i64 σ.s.g.s] 24))
  clear hf1
  go_upto_region 2 with fail
  generalize w1.alloc (.cells #[.int .i64 σ.s.g.c, .int .i64 σ.s.g.b, .int .i64 σ.s.g.p, .int .i64 σ.s.g.s] 24) = w2 at *
  generalize w1.heap.size = gg at *
  have o0 := cell_is (i := 0) HOP2.out rfl
  have o1 := cell_is (i := 1) HOP2.out rfl
  have hl2 : gg < w2.heap.size := (Array.getElem?_eq_some_iff.1 HGE.out).1
  have g0 := cell_is (i := 0) HGE.out rfl
  have g1 := cell_is (i := 1) HGE.out rfl
  have g2 := cell_is (i := 2) HGE.out rfl
  have g3 := cell_is (i := 3) HGE.out rfl
  go_wp2_with fail
  ((with_reducible refine (HTI.out _ HF2.out).mono ?_); rintro e w3 ⟨rfl, hf3⟩)
  have HFZ := As.mk (HF2.out.after hf3 (fun _ _ h => h))
  clear hf3
  go_wp2_with fail
  rw [← HQ.out]
  exact ⟨rfl, HA.out.none_ HFZ.out, ⟨Y, HH.out.none_ HFZ.out, rfl⟩, HFZ.out.mono (fun _ _ h => h.elim)⟩
/-- Which segment is being erased. -/
theorem setLost {w : World} {base : Nat} {H : Held} {Y : HLay} (h : HeldAt w base H Y) (x : Int) : HeldAt (w.setCell ⟨Y.hb, 5, none⟩ (.int .i64 x)) base { H with lost := x } Y ∧ Fr (fun b => b = Y.hb) w (w.setCell ⟨Y.hb, 5, none⟩ (.int .i64 x)) := by
  have hf := fr_set1 (w' := w) (b := Y.hb) (i := 5) (.int .i64 x)
  have hne : ∀ {b : Nat} {cs : Array Value} {T : TypeId} {f : Nat × Nat}, w.heap[b]? = some (.cells cs T f) → T ≠ HT → ¬ b = Y.hb := fun hb hT => blk_ne hb h.main hT
  refine ⟨⟨?_, h.low, fun k hk => (h.rows k hk).fr hf (fun b hb => ?_), fun k hk n hn => (h.page k hk n hn).fr hf (fun b hb => ?_) (fun b cs hb => hne hb (by decide)), h.staged.fr hf (fun b hb => ?_), spsTy h.spg hf (fun b cs hb => hne hb (by decide)), h.apart, h.sep⟩, hf⟩
  · rw [(set_main h.main 5 _).1]
    rfl
  · obtain ⟨_, _, cs, hc⟩ := RowV.blk (h.rows k hk) b hb
    exact hne hc (by decide)
  · obtain ⟨_, _, cs, hc⟩ := (h.page k hk n hn).blk hb
    exact hne hc (by decide)
  · obtain ⟨_, _, cs, hc⟩ := RowV.blk h.staged b hb
    exact hne hc (by decide)
def noRows (H : Held) (k : Nat) : Held := { H with rows := fun j => if j = k then [] else H.rows j }
def noRowsY (Y : HLay) (k : Nat) : HLay := { Y with r := fun j => if j = k then .slice none 0 0 else Y.r j, rv := fun j => if j = k then [] else Y.rv j }
theorem setNone {w : World} {base : Nat} {H : Held} {Y : HLay} (h : HeldAt w base H Y) {k : Nat} (hk : k < 4) : HeldAt (w.setCell ⟨Y.hb, k, none⟩ (.slice none 0 0)) base (noRows H k) (noRowsY Y k) ∧ Fr (fun b => b = Y.hb) w (w.setCell ⟨Y.hb, k, none⟩ (.slice none 0 0)) := by
  have hf := fr_set1 (w' := w) (b := Y.hb) (i := k) (.slice none 0 0)
  have hne : ∀ {b : Nat} {cs : Array Value} {T : TypeId} {f : Nat × Nat}, w.heap[b]? = some (.cells cs T f) → T ≠ HT → ¬ b = Y.hb := fun hb hT => blk_ne hb h.main hT
  refine ⟨⟨?_, h.low, fun j hj => ?_, fun j hj n hn => ?_, h.staged.fr hf (fun b hb => ?_), spsTy h.spg hf (fun b cs hb => hne hb (by decide)), fun j j' hj hj' hjj b hb => ?_, fun j hj n hn b hb => ?_⟩, hf⟩
  · show (w.setCell ⟨Y.hb, k, none⟩ (.slice none 0 0)).heap[Y.hb]? = _
    rw [(set_main h.main k _).1]
    have : k = 0 ∨ k = 1 ∨ k = 2 ∨ k = 3 := by omega
    rcases this with rfl | rfl | rfl | rfl <;> rfl
  · show RowV LP 1 _ base (if j = k then .slice none 0 0 else Y.r j) (if j = k then [] else H.rows j).length (if j = k then [] else Y.rv j)
    by_cases e : j = k
    · rw [if_pos e, if_pos e, if_pos e]
      exact RowV.nil _ _ _ _
    · rw [if_neg e, if_neg e, if_neg e]
      refine (h.rows j hj).fr hf (fun b hb => ?_)
      obtain ⟨_, _, cs, hc⟩ := RowV.blk (h.rows j hj) b hb
      exact hne hc (by decide)
  · have hn' : n < (if j = k then [] else H.rows j).length := hn
    show PL _ base ((if j = k then [] else Y.rv j).getD n undef) ((if j = k then [] else H.rows j).getD n [])
    by_cases e : j = k
    · rw [if_pos e] at hn'
      exact absurd hn' (Nat.not_lt_zero _)
    · rw [if_neg e] at hn' ⊢
      rw [if_neg e]
      refine (h.page j hj n hn').fr hf (fun b hb => ?_) (fun b cs hb => hne hb (by decide))
      obtain ⟨_, _, cs, hc⟩ := (h.page j hj n hn').blk hb
      exact hne hc (by decide)
  · obtain ⟨_, _, cs, hc⟩ := RowV.blk h.staged b hb
    exact hne hc (by decide)
  · have hb' : (if j = k then (.slice none 0 0 : Value) else Y.r j).ownBlock = some b := hb
    show (if j' = k then (.slice none 0 0 : Value) else Y.r j').ownBlock ≠ some b
    by_cases e : j = k
    · rw [if_pos e] at hb'
      cases hb'
    · rw [if_neg e] at hb'
      by_cases e2 : j' = k
      · rw [if_pos e2]
        intro h9
        cases h9
      · rw [if_neg e2]
        exact h.apart j j' hj hj' hjj b hb'
  · have hn' : n < (if j = k then [] else H.rows j).length := hn
    have hb' : ((if j = k then [] else Y.rv j).getD n undef).ownBlock = some b := hb
    by_cases e : j = k
    · rw [if_pos e] at hn'
      exact absurd hn' (Nat.not_lt_zero _)
    · rw [if_neg e] at hn' hb'
      exact h.sep j hj n hn' b hb'
/-- A block of what is held is written: an array keeps. -/
theorem keep1 {w w' : World} {σ : Ar} {K : ALay} {base : Nat} {H : Held} {Y : HLay} (h : ArAt w σ K) (hH : HeldAt w base H Y) (hf : Fr (fun b => b = Y.hb) w w') : ArAt w' σ K :=
  keeps h hf (fun b hb _ => by subst hb; exact ⟨_, _, _, hH.main, .inl rfl⟩)

set_option maxHeartbeats 8000000 in
set_option maxRecDepth 100000 in
theorem Act3_calls (σ : Ar) (K : ALay) (base : Nat) (H : Held) (Y : HLay) (sg c : Int) (w : World) (hA : ArAt w σ K) (hH : HeldAt w base H Y) (hbase : base ≤ w.heap.size) (hth : σ.There) (he : (σ.erase (6 + (u64of sg % 4).toNat)).2 = 0) (m0 : Nat) (hs : σ.s.Safe (m0 + 17)) :
    Calls Tryz.prog 16 #[.pointer (some ⟨K.x, 0, none⟩), .pointer (some ⟨Y.hb, 0, none⟩), .agg #[.int .i64 3, .int .i64 sg, .int .u8 c]] w (ActPost (σ.erase (6 + (u64of sg % 4).toNat)).1 σ K base (TcPG.clear H (u64of sg % 4).toNat) Y.hb w) := by
  have hok : σ.s.g.Ok := hA.nand.ok
  have h0 : IntKind.u64.wrap sg = u64of sg := IntKind.wrap_u64 _
  have h1 : 0 ≤ u64of sg := by unfold u64of; omega
  have h2 : u64of sg < 18446744073709551616 := by unfold u64of; omega
  have h6 : IntKind.u64.wrap (Int.tmod (u64of sg) 4) = u64of sg % 4 := by rw [Int.tmod_eq_emod_of_nonneg h1, IntKind.wrap_u64]; omega
  have h7 : IntKind.i64.wrap (u64of sg % 4) = u64of sg % 4 := by rw [IntKind.wrap_i64]; omega
  have hk0 : 0 ≤ u64of sg % 4 := by omega
  have hk4 : u64of sg % 4 < 4 := by omega
  have HA := As.mk hA
  have HH := As.mk hH
  have hb1 := hok.b
  have hp1 := hok.p
  have hc2 := hok.c
  have HER := As.mk (fun (w' : World) (hA' : ArAt w' σ K) => (ArrF.Erase_calls σ K (6 + (u64of sg % 4).toNat) w' hA' hth (by omega) m0 hs))
  unfold ErPost at HER
  rw [he, show (((6 + (u64of sg % 4).toNat : Nat) : Int)) = 6 + u64of sg % 4 by omega] at HER
  have hw6 : IntKind.i64.wrap (6 + u64of sg % 4) = 6 + u64of sg % 4 := by rw [IntKind.wrap_i64]; omega
  have HLTF := As.mk (show ∀ b, AF K σ b → b < w.heap.size from fun b hb => (TckD.af_lt hA hb).1)
  generalize u64of sg = u at *
  have HG := As.mk (fun w' (hf : Fr None_ w w') => ArrA.Geo_calls σ K w' (hA.none_ hf))
  have HBASE := As.mk hbase
  unfold Geo.val at HG
  have HOP := As.mk (heap_alloc_new w (.cells #[.int .i64 3, .int .i64 sg, .int .u8 c] 58))
  have HFW : As (Fr None_ w (w.alloc (.cells #[.int .i64 3, .int .i64 sg, .int .u8 c] 58))) := ⟨(Fr.refl _ w).alloc _⟩
  obtain ⟨Q, hQ⟩ : ∃ Q, ActPost (σ.erase (6 + (u % 4).toNat)).1 σ K base (TcPG.clear H (u % 4).toNat) Y.hb w = Q := ⟨_, rfl⟩
  have HQ := As.mk hQ
  rw [hQ]
  clear hA hH hok hbase hQ hth he hs
  go_enter Tryz.func16, Tryz.ntmps16
  go_wp2_with fail
  ((with_reducible refine (HG.out _ HFW.out).mono ?_); rintro e w1 ⟨rfl, hf1⟩)
  have HF1 := As.mk (HFW.out.after hf1 (fun _ _ h => h))
  have HOP1 := As.mk (hf1.heap HOP.out (fun h => h))
  have HGE := As.mk (heap_alloc_new w1 (.cells #[.int .i64 σ.s.g.c, .int .i64 σ.s.g.b, .int .i64 σ.s.g.p, .int .i64 σ.s.g.s] 24))
  have HOP2 := As.mk (at_old (.cells #[.int .i64 σ.s.g.c, .int .i64 σ.s.g.b, .int .i64 σ.s.g.p, .int .i64 σ.s.g.s] 24) HOP1.out)
  have HF2 := As.mk (HF1.out.alloc (.cells #[.int .i64 σ.s.g.c, .int .i64 σ.s.g.b, .int .i64 σ.s.g.p, .int .i64 σ.s.g.s] 24))
  clear hf1
  go_upto_region 2 with fail
  generalize w1.alloc (.cells #[.int .i64 σ.s.g.c, .int .i64 σ.s.g.b, .int .i64 σ.s.g.p, .int .i64 σ.s.g.s] 24) = w2 at *
  generalize w1.heap.size = gg at *
  have o0 := cell_is (i := 0) HOP2.out rfl
  have o1 := cell_is (i := 1) HOP2.out rfl
  have hl2 : gg < w2.heap.size := (Array.getElem?_eq_some_iff.1 HGE.out).1
  have g0 := cell_is (i := 0) HGE.out rfl
  have g1 := cell_is (i := 1) HGE.out rfl
  have g2 := cell_is (i := 2) HGE.out rfl
  have g3 := cell_is (i := 3) HGE.out rfl
  have HH2 := As.mk (HH.out.none_ HF2.out)
  have HA2 := As.mk (HA.out.none_ HF2.out)
  have y5 := cell_is (i := 5) HH2.out.main rfl
  have z5 := free_of (i := 5) HH2.out.main
  have hl := setLost HH2.out (u % 4)
  have HL := As.mk hl
  have HA3 := As.mk (keep1 HA2.out HH2.out hl.2)
  clear hl
  go_upto_region 27 with fail
  generalize w2.setCell ⟨Y.hb, 5, none⟩ (.int .i64 (u % 4)) = w3 at *
  have HER3 := As.mk (HER.out w3 HA3.out)
  clear y5 z5 o0 o1 g0 g1 g2 g3
  go_wp2_with fail
  ((with_reducible refine (HER3.out).mono ?_); rintro e w4 ⟨rfl, hA4, hf4⟩)
  have HA4 := As.mk hA4
  have HF4 := As.mk hf4
  have HH4 := As.mk (HL.out.1.af HA3.out hf4)
  clear hA4 hf4 HER3
  have hN := setNone HH4.out (k := (u % 4).toNat) (by omega)
  have HN := As.mk hN
  have HA5 := As.mk (keep1 HA4.out HH4.out hN.2)
  have y5 := HH4.out.rowc (k := (u % 4).toNat) (by omega)
  obtain ⟨y5, z5⟩ := y5
  clear hN
  go_upto_region 30 with fail
  generalize w4.setCell ⟨Y.hb, (u % 4).toNat, none⟩ (.slice none 0 0) = w5 at *
  clear y5 z5
  have y5 := cell_is (i := 5) HN.out.1.main rfl
  have z5 := free_of (i := 5) HN.out.1.main
  change w5.cell? ⟨Y.hb, 5, none⟩ = _ at y5
  change w5.frozen? ⟨Y.hb, 5, none⟩ = _ at z5
  have hl := setLost HN.out.1 (-1)
  have HL6 := As.mk hl
  have HA6 := As.mk (keep1 HA5.out HN.out.1 hl.2)
  clear hl
  go_wp2_with fail
  rw [← HQ.out]
  refine ⟨rfl, HA6.out, ⟨_, HL6.out.1, rfl⟩, ?_⟩
  have hb9 : base ≤ Y.hb := HH.out.low
  exact ((((HF2.out.mono (T := fun b => AF K σ b ∨ base ≤ b) (fun _ _ h => h.elim)).after HL.out.2 (fun _ _ h => .inr (by rw [h]; exact hb9))).after HF4.out (fun _ _ h => .inl h)).after HN.out.2 (fun _ _ h => .inr (by rw [h]; exact hb9))).after HL6.out.2 (fun _ _ h => .inr (by rw [h]; exact hb9))
end Go.Proofs.YteofgpaceeibpaaGreat.ActC

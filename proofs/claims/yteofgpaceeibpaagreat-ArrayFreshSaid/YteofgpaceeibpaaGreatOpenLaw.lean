/- That a page is right: its seal, made again from what it says, is what stands there. Plain. -/
import Derived.Test.YteofgpaceeibpaaGreatRef5
namespace Go.Proofs.YteofgpaceeibpaaGreat.OpenLaw
open Go.RowKit Go.Proofs.YteofgpaceeibpaaGreat.Gab Go.Proofs.YteofgpaceeibpaaGreat.Wr Go.Proofs.YteofgpaceeibpaaGreat.Sum Go.Proofs.YteofgpaceeibpaaGreat.Fields Go.Proofs.YteofgpaceeibpaaGreat.Seal Go.Proofs.YteofgpaceeibpaaGreat.Rdr Go.Proofs.YteofgpaceeibpaaGreat.Ref Go.Proofs.YteofgpaceeibpaaGreat.SumR Go.Proofs.YteofgpaceeibpaaGreat.Open
set_option linter.unusedVariables false
set_option linter.unusedSimpArgs false

theorem or_comm64 (a b : Int) : bits .or .u64 a b = bits .or .u64 b a := by simp only [bits, BitVec.or_comm]
theorem wraps_u64 (n : Int) (h0 : 0 ≤ n) (h1 : n < 2 ^ 64) : IntKind.u64.wrap n = n := by rw [IntKind.wrap_u64]; omega
theorem pow_8 (n : Nat) : (2 : Int) ^ (8 * n) = 256 ^ n := by rw [Int.pow_mul]; rfl
theorem pow_le8 {n : Nat} (h : n ≤ 8) : (256 : Int) ^ n ≤ 2 ^ 64 := by
  match n, h with
  | 0, _ => decide
  | 1, _ => decide
  | 2, _ => decide
  | 3, _ => decide
  | 4, _ => decide
  | 5, _ => decide
  | 6, _ => decide
  | 7, _ => decide
  | 8, _ => decide
theorem leNum_val : ∀ (n : Nat) (l : List Int), l.length = n → n ≤ 8 → InR 256 l → leNum l = leVal l
  | 0, l, hl, _, _ => by rw [List.eq_nil_of_length_eq_zero hl]; rfl
  | n + 1, l, hl, hn, hr => by
    obtain ⟨l', c, rfl⟩ : ∃ l' c, l = l' ++ [c] := ⟨l.take n, l[n], by rw [List.take_append_getElem (by omega), List.take_of_length_le (by omega)]⟩
    have hl' : l'.length = n := by simpa using hl
    have hr' : InR 256 l' := fun x hx => hr x (List.mem_append_left _ hx)
    have hc := hr c (List.mem_append_right _ (List.mem_singleton.2 rfl))
    have ih := leNum_val n l' hl' (by omega) hr'
    unfold leNum at *
    rw [orOf_snoc, ih, leVal_snoc, Nat.zero_add, hl', pow_8]
    have hrg := leVal_range l' hr'
    rw [hl'] at hrg
    have h1 := pow_le8 (n := n) (by omega)
    have h2 := pow_le8 hn
    rw [Int.pow_succ] at h2
    have h0 : (0 : Int) ≤ 256 ^ n := Int.pow_nonneg (by decide)
    have hm : 0 ≤ c * 256 ^ n := Int.mul_nonneg (by omega) h0
    have hm2 : c * 256 ^ n ≤ 255 * 256 ^ n := Int.mul_le_mul_of_nonneg_right (by omega) h0
    have hmm : c * 256 ^ n < 2 ^ 64 := by omega
    rw [wraps_u64 _ hm hmm, or_comm64]
    rw [bits_join .u64 64 (by decide) wraps_u64 (8 * n) (c * 256 ^ n) (leVal l') hm (by rw [pow_8]; exact Int.mul_emod_left _ _) hmm hrg.1 (by rw [pow_8]; exact hrg.2) (by omega)]
    omega
theorem numAt_val {bs : List Int} (hr : InR 256 bs) (i k : Nat) (hk : k ≤ 8) (hi : i + k ≤ bs.length) : numAt bs i k = leVal ((bs.drop i).take k) := by
  have hl : ((bs.drop i).take k).length = k := by rw [List.length_take, List.length_drop]; omega
  have hr' := inR_take (inR_drop hr i) k
  unfold numAt
  rw [leNum_val k _ hl hk hr']
  have h := leVal_range _ hr'
  rw [hl] at h
  exact Int.emod_eq_of_lt h.1 h.2

theorem le_val : ∀ (l : List Int), InR 256 l → le (leVal l) l.length = l
  | [], _ => rfl
  | x :: l, h => by
    have hx := h x List.mem_cons_self
    have ih := le_val l (fun y hy => h y (List.mem_cons_of_mem _ hy))
    rw [List.length_cons, le, leVal]
    rw [show (x + 256 * leVal l) % 256 = x by omega, show (x + 256 * leVal l) / 256 = leVal l by omega, ih]
theorem val_le : ∀ (n : Nat) (v : Int), 0 ≤ v → v < 256 ^ n → leVal (le v n) = v
  | 0, v, h0, h1 => by simp at h1; simp [le, leVal]; omega
  | n + 1, v, h0, h1 => by
    rw [le, leVal, val_le n (v / 256) (by omega) (by rw [Int.pow_succ] at h1; omega)]
    omega
theorem le_numAt {bs : List Int} (hr : InR 256 bs) (i k : Nat) (hk : k ≤ 8) (hi : i + k ≤ bs.length) : le (numAt bs i k) k = (bs.drop i).take k := by
  have hl : ((bs.drop i).take k).length = k := by rw [List.length_take, List.length_drop]; omega
  rw [numAt_val hr i k hk hi]
  have := le_val _ (inR_take (inR_drop hr i) k)
  rwa [hl] at this
theorem numAt_range {bs : List Int} (hr : InR 256 bs) (i k : Nat) (hk : k ≤ 8) (hi : i + k ≤ bs.length) : 0 ≤ numAt bs i k ∧ numAt bs i k < 256 ^ k := by
  have hl : ((bs.drop i).take k).length = k := by rw [List.length_take, List.length_drop]; omega
  rw [numAt_val hr i k hk hi]
  have := leVal_range _ (inR_take (inR_drop hr i) k)
  rwa [hl] at this
/-- A number stands there, if its bytes do. -/
theorem numAt_iff {bs : List Int} (hr : InR 256 bs) (i k : Nat) (hk : k ≤ 8) (hi : i + k ≤ bs.length) (v : Int) (h0 : 0 ≤ v) (h1 : v < 256 ^ k) : numAt bs i k = v ↔ (bs.drop i).take k = le v k := by
  constructor
  · rintro rfl
    exact (le_numAt hr i k hk hi).symm
  · intro h
    rw [numAt_val hr i k hk hi, h, val_le k v h0 h1]
theorem head_ok {bs : List Int} (hr : InR 256 bs) (hl : bs.length = 64) : (headOf bs).Ok :=
  ⟨numAt_range hr 2 1 (by decide) (by omega), numAt_range hr 4 4 (by decide) (by omega), numAt_range hr 8 4 (by decide) (by omega), numAt_range hr 12 2 (by decide) (by omega), numAt_range hr 14 2 (by decide) (by omega), numAt_range hr 16 4 (by decide) (by omega), numAt_range hr 20 4 (by decide) (by omega)⟩
theorem part_add (bs : List Int) (i j k : Nat) : (bs.drop i).take j ++ (bs.drop (i + j)).take k = (bs.drop i).take (j + k) := by
  rw [List.take_add, List.drop_drop]
/-- What a header's bytes are, but for the mark and the nought. -/
theorem head_bytes {bs : List Int} (hr : InR 256 bs) (hl : bs.length = 64) : (headOf bs).bytes = le 22356 2 ++ (bs.drop 2).take 1 ++ le 0 1 ++ (bs.drop 4).take 20 := by
  have h1 := le_numAt hr 2 1 (by decide) (by omega)
  have h2 := le_numAt hr 4 4 (by decide) (by omega)
  have h3 := le_numAt hr 8 4 (by decide) (by omega)
  have h4 := le_numAt hr 12 2 (by decide) (by omega)
  have h5 := le_numAt hr 14 2 (by decide) (by omega)
  have h6 := le_numAt hr 16 4 (by decide) (by omega)
  have h7 := le_numAt hr 20 4 (by decide) (by omega)
  have e : (bs.drop 4).take 20 = (bs.drop 4).take 4 ++ (bs.drop 8).take 4 ++ (bs.drop 12).take 2 ++ (bs.drop 14).take 2 ++ (bs.drop 16).take 4 ++ (bs.drop 20).take 4 := by
    rw [part_add bs 4 4 4, part_add bs 4 8 2, part_add bs 4 10 2, part_add bs 4 12 4, part_add bs 4 16 4]
  rw [e, ← h1, ← h2, ← h3, ← h4, ← h5, ← h6, ← h7]
  simp [Head.bytes, headOf, les]
theorem parts {bs : List Int} (hl : bs.length = 64) : bs = bs.take 2 ++ (bs.drop 2).take 1 ++ (bs.drop 3).take 1 ++ (bs.drop 4).take 20 ++ (bs.drop 24).take 4 ++ (bs.drop 28).take 4 ++ bs.drop 32 := by
  have h0 : bs.take 2 = (bs.drop 0).take 2 := by simp
  rw [h0, part_add bs 0 2 1, part_add bs 0 3 1, part_add bs 0 4 20, part_add bs 0 24 4, part_add bs 0 28 4]
  simp
/-- The reference's test is the program's. -/
theorem open_law {bs data : List Int} (hr : InR 256 bs) (hl : bs.length = 64) : rightB bs data = decide (sealOf (headOf bs) data (bs.drop 32) = bs) := by
  have ht : tailOf (bs.drop 32) = bs.drop 32 := by
    unfold tailOf
    rw [List.take_of_length_le (by rw [List.length_drop]; omega), padTo_le (by rw [List.length_drop]; omega)]
  have hb := head_bytes hr hl
  have hbl : (headOf bs).bytes.length = 24 := by
    rw [hb]
    simp only [List.length_append, le_length, List.length_take, List.length_drop]
    omega
  have hs : sealOf (headOf bs) data (bs.drop 32) = (headOf bs).bytes ++ le (sumOf [(headOf bs).bytes, data, bs.drop 32]) 4 ++ List.replicate 4 0 ++ bs.drop 32 := by
    unfold sealOf padTo
    rw [ht, List.length_append, le_length, hbl]
  rw [hs]
  have hsr := sum_range [(headOf bs).bytes, data, bs.drop 32]
  have i1 := numAt_iff hr 0 2 (by decide) (by omega) 22356 (by decide) (by decide)
  have i2 := numAt_iff hr 3 1 (by decide) (by omega) 0 (by decide) (by decide)
  have i3 := numAt_iff hr 28 4 (by decide) (by omega) 0 (by decide) (by decide)
  have hz : le 0 4 = List.replicate 4 0 := by decide
  rw [hz] at i3
  rw [List.drop_zero] at i1
  have hp := parts hl
  have hpl : ((bs.drop 2).take 1).length = 1 ∧ ((bs.drop 4).take 20).length = 20 ∧ ((bs.drop 24).take 4).length = 4 ∧ ((bs.drop 28).take 4).length = 4 ∧ (bs.take 2).length = 2 ∧ ((bs.drop 3).take 1).length = 1 := by
    refine ⟨?_, ?_, ?_, ?_, ?_, ?_⟩ <;> simp <;> omega
  obtain ⟨l1, l2, l3, l4, l5, l6⟩ := hpl
  rw [Bool.eq_iff_iff, decide_eq_true_eq]
  unfold rightB
  simp only [Bool.and_eq_true, beq_iff_eq]
  constructor
  · rintro ⟨⟨⟨h1, h2⟩, h3⟩, h4⟩
    have h1' := i1.1 h1
    have h2' := i2.1 h2
    have h3' := i3.1 h3
    have e24 : bs.take 24 = (headOf bs).bytes := by
      rw [hb, ← h1', ← h2']
      have h0 : bs.take 2 = (bs.drop 0).take 2 := by simp
      rw [h0, part_add bs 0 2 1, part_add bs 0 3 1, part_add bs 0 4 20]
      simp
    rw [e24] at h4
    have h4' := (numAt_iff hr 24 4 (by decide) (by omega) _ hsr.1 hsr.2).1 h4
    rw [← h4', ← h3', hb, ← h1', ← h2']
    exact hp.symm
  · intro h
    generalize hsm : le (sumOf [(headOf bs).bytes, data, bs.drop 32]) 4 = sm at h
    have hsl : sm.length = 4 := by rw [← hsm, le_length]
    have hh : (headOf bs).bytes ++ sm ++ List.replicate 4 0 ++ bs.drop 32 = bs.take 2 ++ (bs.drop 2).take 1 ++ (bs.drop 3).take 1 ++ (bs.drop 4).take 20 ++ (bs.drop 24).take 4 ++ (bs.drop 28).take 4 ++ bs.drop 32 := h.trans hp
    obtain ⟨h, _⟩ := List.append_inj hh (by simp [hbl, hsl, l1, l2, l3, l4, l5, l6])
    obtain ⟨h, h3⟩ := List.append_inj h (by simp [hbl, hsl, l1, l2, l3, l4, l5, l6])
    obtain ⟨h, h4⟩ := List.append_inj h (by simp [hbl, hsl, l1, l2, l3, l4, l5, l6])
    have e24 : bs.take 24 = (headOf bs).bytes := by
      rw [h]
      have h0 : bs.take 2 = (bs.drop 0).take 2 := by simp
      rw [h0, part_add bs 0 2 1, part_add bs 0 3 1, part_add bs 0 4 20]
      simp
    rw [hb] at h
    obtain ⟨h, _⟩ := List.append_inj h (by simp [le_length, l1, l2, l3, l4, l5, l6])
    obtain ⟨h, h2⟩ := List.append_inj h (by simp [le_length, l1, l2, l3, l4, l5, l6])
    obtain ⟨h1, _⟩ := List.append_inj h (by simp [le_length, l1, l2, l3, l4, l5, l6])
    rw [e24]
    exact ⟨⟨⟨i1.2 h1.symm, i2.2 h2.symm⟩, i3.2 h3.symm⟩, (numAt_iff hr 24 4 (by decide) (by omega) _ hsr.1 hsr.2).2 (by rw [hsm]; exact h4.symm)⟩
theorem okB_law {bs data : List Int} (hr : InR 256 bs) : okB data bs = (decide (bs.length = 64) && (decide (1 ≤ (headOf bs).kind) && decide ((headOf bs).kind ≤ 6) && decide (sealOf (headOf bs) data (bs.drop 32) = bs))) := by
  unfold okB
  by_cases hl : bs.length = 64
  · rw [open_law hr hl, hl, Bool.and_comm (decide (sealOf _ _ _ = _))]
    rfl
  · rw [decide_eq_false hl, beq_eq_false_iff_ne.mpr hl]
    rfl
end Go.Proofs.YteofgpaceeibpaaGreat.OpenLaw

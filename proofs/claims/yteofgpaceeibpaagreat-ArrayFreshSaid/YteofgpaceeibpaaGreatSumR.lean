/- The reference's sum of bytes is the program's, of one list. -/
import Derived.Test.YteofgpaceeibpaaGreatRef
namespace Go.Proofs.YteofgpaceeibpaaGreat.SumR
open Go.RowKit Go.Proofs.YteofgpaceeibpaaGreat.Gab Go.Proofs.YteofgpaceeibpaaGreat.Wr Go.Proofs.YteofgpaceeibpaaGreat.Sum
set_option linter.unusedVariables false
set_option linter.unusedSimpArgs false

theorem and_one (s : Int) (h0 : 0 ≤ s) (h1 : s < 4294967296) : (bits .and .u32 s 1 == 1) = (s % 2 == 1) := by
  rw [u32_and s 1 h0 h1 (by decide) (by decide), show Int.toNat 1 = 1 from rfl, nat_mask1]
  rw [show ((s.toNat % 2 : Nat) : Int) = s % 2 by omega]
theorem not_u32 (s : Int) (h0 : 0 ≤ s) (h1 : s < 4294967296) : bits .xor .u32 (IntKind.u32.max) s = 4294967295 - s := by
  rw [show IntKind.u32.max = 4294967295 from rfl, u32_xor 4294967295 s (by decide) (by decide) h0 h1, show Int.toNat 4294967295 = 4294967295 from rfl]
  have hs : s.toNat < 2 ^ 32 := by omega
  have h := BitVec.toNat_not (x := BitVec.ofNat 32 s.toNat)
  have e : (4294967295 ^^^ s.toNat) = (~~~ (BitVec.ofNat 32 s.toNat)).toNat := by
    rw [BitVec.not_def, BitVec.toNat_xor, BitVec.toNat_allOnes, BitVec.toNat_ofNat, Nat.mod_eq_of_lt hs]
  rw [e, h, BitVec.toNat_ofNat, Nat.mod_eq_of_lt hs]
  omega
theorem step_range {s : Int} (h0 : 0 ≤ s) (h1 : s < 4294967296) : 0 ≤ crcStep s ∧ crcStep s < 4294967296 := by
  unfold crcStep
  split
  · exact bits_range _ _ _
  · omega
theorem steps_range : ∀ (n : Nat) {s : Int}, 0 ≤ s → s < 4294967296 → 0 ≤ crcSteps n s ∧ crcSteps n s < 4294967296
  | 0, s, h0, h1 => ⟨h0, h1⟩
  | n + 1, s, h0, h1 => by
    have := steps_range n h0 h1
    exact step_range this.1 this.2
theorem byte_range (s c : Int) : 0 ≤ crcByte s c ∧ crcByte s c < 4294967296 := by
  have := bits_range .xor s c
  exact steps_range 8 this.1 this.2
theorem list_range {s : Int} (h0 : 0 ≤ s) (h1 : s < 4294967296) : ∀ l : List Int, 0 ≤ crcList s l ∧ crcList s l < 4294967296 := by
  intro l
  induction l generalizing s with
  | nil => exact ⟨h0, h1⟩
  | cons c l ih => exact ih (byte_range s c).1 (byte_range s c).2
/-- Of lists one behind the other. -/
theorem sum_one (ls : List (List Int)) : sumOf ls = sumOf [ls.flatten] := by
  have h : ∀ (s : Int), ls.foldl crcList s = crcList s ls.flatten := by
    intro s
    induction ls generalizing s with
    | nil => rfl
    | cons l ls ih => rw [List.foldl_cons, ih, List.flatten_cons]; unfold crcList; rw [List.foldl_append]
  unfold sumOf crcAll
  rw [h]
  rfl

set_option maxHeartbeats 2000000 in
set_option maxRecDepth 100000 in
theorem Of_calls (xs : List Int) (A : Option Addr) (n c : Nat) (w : World) (hA : Rd .u8 w A n xs) (hr : InR 256 xs) :
    Calls Tryz.prog 91 #[.slice A n c] w fun e w' => e = .returned (.int .u32 (sumOf [xs])) ∧ w = w' := by
  have HA := As.mk hA
  have HI := As.mk hr
  have hn := hA.2.1
  clear hA hr
  go_enter Tryz.func91, Tryz.ntmps91
  go_wp2
  go_loop [3, 4, 5, 6] (fun v3 v4 v5 v6 => ∃ (t : Int) (j : Nat), v3 = .int .u32 t ∧ v4 = .int .i64 (j : Int) ∧ j ≤ n ∧ 0 ≤ t ∧ t < 4294967296 ∧ As (crcList 4294967295 (xs.take j) = t)) (fun _ v4 _ _ => n - (intOf v4).toNat)
  case atStart => exact ⟨4294967295, 0, rfl, rfl, by omega, by omega, by omega, ⟨rfl⟩⟩
  case round =>
    obtain ⟨t, j, rfl, rfl, hj, ht0, ht1, HT⟩ := hrel
    by_cases hlt : j < n
    · obtain ⟨ad, rfl, hc⟩ := HA.out.at_ j (by omega) (by omega)
      have hjl : j < xs.length := by have := HA.out.1; omega
      have hx := inR_at HI.out hjl
      have HJ : As (crcList 4294967295 (xs.take (j + 1)) = crcByte t (xs.getD j 0)) := ⟨by unfold crcList at *; rw [foldl_snoc crcByte _ 0 xs _ hjl, HT.out]⟩
      rw [show Int.toNat (j : Int) = j by omega] at hc
      clear hjl
      generalize xs.getD j 0 = x at *
      obtain ⟨hx0, hx1⟩ := hx
      go_wp2
      go_loop [3, 5, 6] (fun v3 v5 v6 => ∃ (u : Int) (k : Nat), v3 = .int .u32 u ∧ v5 = .int .i64 (k : Int) ∧ k ≤ 8 ∧ 0 ≤ u ∧ u < 4294967296 ∧ As (crcSteps k (bits .xor .u32 t x) = u)) (fun _ v5 _ => 8 - (intOf v5).toNat)
      case atStart =>
        have := bits_range .xor t x
        exact ⟨_, 0, rfl, rfl, by omega, this.1, this.2, ⟨rfl⟩⟩
      case round =>
        obtain ⟨u, k, rfl, rfl, hk, hu0, hu1, HU⟩ := hrel
        have HU2 : As (crcSteps (k + 1) (bits .xor .u32 t x) = crcStep u) := ⟨by rw [crcSteps, HU.out]⟩
        have HS := As.mk (step_range hu0 hu1)
        have HA1 := As.mk (and_one u hu0 hu1)
        by_cases hlk : k < 8
        · by_cases hb : u % 2 = 1
          · have HU3 : As (crcStep u = bits .xor .u32 (u / 2) 2197175160) := ⟨by rw [crcStep, HA1.out, if_pos (beq_iff_eq.mpr hb)]⟩
            go_wp2
            exact ⟨⟨_, k + 1, rfl, by go_num, by omega, by rw [← HU3.out]; exact HS.out.1, by rw [← HU3.out]; exact HS.out.2, ⟨by rw [HU2.out, HU3.out]⟩⟩, by simp [intOf]; omega⟩
          · have HU3 : As (crcStep u = u / 2) := ⟨by rw [crcStep, HA1.out, if_neg (fun h => hb (beq_iff_eq.mp h))]⟩
            go_wp2
            exact ⟨⟨_, k + 1, rfl, by go_num, by omega, by rw [← HU3.out]; exact HS.out.1, by rw [← HU3.out]; exact HS.out.2, ⟨by rw [HU2.out, HU3.out]⟩⟩, by simp [intOf]; omega⟩
        · have HU3 : As (crcByte t x = u) := ⟨by have h := HU.out; rw [show k = 8 by omega] at h; exact h⟩
          go_wp2
          exact ⟨⟨u, j + 1, rfl, by go_num, by omega, hu0, hu1, ⟨by rw [HJ.out, HU3.out]⟩⟩, by simp [intOf]; omega⟩
    · have HF : As (crcAll [xs] = t) := ⟨by have h := HT.out; rw [List.take_of_length_le (by have := HA.out.1; omega)] at h; exact h⟩
      have HG := As.mk (not_u32 t ht0 ht1)
      go_wp2
      go_ret
      refine ⟨?_, rfl⟩
      unfold sumOf
      rw [HF.out, HG.out]
      rfl
end Go.Proofs.YteofgpaceeibpaaGreat.SumR

/- What is sealed is opened. -/
import Derived.Test.YteofgpaceeibpaaGreatOpenLaw
namespace Go.Proofs.YteofgpaceeibpaaGreat.OS
open Go.RowKit Go.Proofs.YteofgpaceeibpaaGreat.Gab Go.Proofs.YteofgpaceeibpaaGreat.Wr Go.Proofs.YteofgpaceeibpaaGreat.Sum Go.Proofs.YteofgpaceeibpaaGreat.Fields Go.Proofs.YteofgpaceeibpaaGreat.Seal Go.Proofs.YteofgpaceeibpaaGreat.Open Go.Proofs.YteofgpaceeibpaaGreat.OpenLaw
set_option linter.unusedVariables false
set_option linter.unusedSimpArgs false

theorem tail_len (b : List Int) : (tailOf b).length = 32 := by unfold tailOf; rw [padTo_length, List.length_take]; omega
theorem tail_tail (b : List Int) : tailOf (tailOf b) = tailOf b := by
  rw [show tailOf (tailOf b) = padTo ((tailOf b).take 32) 32 from rfl, List.take_of_length_le (by rw [tail_len]; omega), padTo_le (by rw [tail_len]; omega)]
theorem bytes_len (h : Head) : h.bytes.length = 24 := by simp [Head.bytes, les_length]
theorem front_len (h : Head) (data b : List Int) : (padTo (h.bytes ++ le (sumOf [h.bytes, data, tailOf b]) 4) 32).length = 32 := by rw [padTo_length, List.length_append, bytes_len, le_length]; rfl
theorem seal_len (h : Head) (data b : List Int) : (sealOf h data b).length = 64 := by unfold sealOf; rw [List.length_append, front_len, tail_len]
theorem seal_tail (h : Head) (data b : List Int) : (sealOf h data b).drop 32 = tailOf b := by
  unfold sealOf
  rw [List.drop_append, front_len, List.drop_of_length_le (by rw [front_len]; omega)]
  simp
theorem seal_again (h : Head) (data b : List Int) : sealOf h data (tailOf b) = sealOf h data b := by unfold sealOf; rw [tail_tail]
theorem seal_part (h : Head) (data b : List Int) (i k : Nat) (hik : i + k ≤ 24) : ((sealOf h data b).drop i).take k = (h.bytes.drop i).take k := by
  unfold sealOf padTo
  rw [List.append_assoc, List.append_assoc, List.drop_append_of_le_length (by rw [bytes_len]; omega), List.take_append_of_le_length (by rw [List.length_drop, bytes_len]; omega)]
theorem seal_range' {h : Head} {data b : List Int} (hb : InR 256 b) : InR 256 (sealOf h data b) := inR_append (pad_range (inR_append (bytes_range h) (le_range 4 _)) _) (tail_range hb)
theorem head_seal {h : Head} (ho : h.Ok) {data b : List Int} (hb : InR 256 b) : headOf (sealOf h data b) = h := by
  have hr := seal_range' (h := h) (data := data) hb
  have hl := seal_len h data b
  have k : ∀ (i k : Nat) (v : Int), k ≤ 8 → i + k ≤ 24 → 0 ≤ v → v < 256 ^ k → (h.bytes.drop i).take k = le v k → numAt (sealOf h data b) i k = v := fun i k v hk hik h0 h1 he => (numAt_iff hr i k hk (by omega) v h0 h1).2 (by rw [seal_part h data b i k hik]; exact he)
  have h1 := k 2 1 h.kind (by decide) (by decide) ho.kind.1 (by have := ho.kind.2; omega) (by simp [Head.bytes, les, le])
  have h2 := k 4 4 h.epoch (by decide) (by decide) ho.epoch.1 (by have := ho.epoch.2; omega) (by simp [Head.bytes, les, le])
  have h3 := k 8 4 h.batch (by decide) (by decide) ho.batch.1 (by have := ho.batch.2; omega) (by simp [Head.bytes, les, le])
  have h4 := k 12 2 h.index (by decide) (by decide) ho.index.1 (by have := ho.index.2; omega) (by simp [Head.bytes, les, le])
  have h5 := k 14 2 h.count (by decide) (by decide) ho.count.1 (by have := ho.count.2; omega) (by simp [Head.bytes, les, le])
  have h6 := k 16 4 h.block (by decide) (by decide) ho.block.1 (by have := ho.block.2; omega) (by simp [Head.bytes, les, le])
  have h7 := k 20 4 h.more (by decide) (by decide) ho.more.1 (by have := ho.more.2; omega) (by simp [Head.bytes, les, le])
  unfold headOf
  rw [h1, h2, h3, h4, h5, h6, h7]
/-- What is sealed is opened. -/
theorem open_seal {h : Head} (ho : h.Ok) (hk1 : 1 ≤ h.kind) (hk6 : h.kind ≤ 6) {data b : List Int} (hb : InR 256 b) : openOf data (sealOf h data b) = (h, true) := by
  have hok : okB data (sealOf h data b) = true := by
    rw [okB_law (seal_range' hb), seal_len, head_seal ho hb, seal_tail, seal_again]
    simp [hk1, hk6]
  unfold openOf
  rw [if_pos hok, head_seal ho hb]
end Go.Proofs.YteofgpaceeibpaaGreat.OS

/- record.Seal: the bytes beside a page. -/
import Derived.Test.YteofgpaceeibpaaGreatFields
import Derived.Test.YteofgpaceeibpaaGreatSum

namespace Go.Proofs.YteofgpaceeibpaaGreat.Seal
open Go.RowKit Go.Proofs.YteofgpaceeibpaaGreat.Gab Go.Proofs.YteofgpaceeibpaaGreat.Wr Go.Proofs.YteofgpaceeibpaaGreat.Fields Go.Proofs.YteofgpaceeibpaaGreat.Sum
set_option linter.unusedVariables false
set_option linter.unusedSimpArgs false

def tailOf (beside : List Int) : List Int := padTo (beside.take 32) 32
def sealOf (h : Head) (data beside : List Int) : List Int := padTo (h.bytes ++ le (sumOf [h.bytes, data, tailOf beside]) 4) 32 ++ tailOf beside

theorem le_range : ∀ (n : Nat) (v : Int), InR 256 (le v n)
  | 0, _ => by intro x hx; simp [le] at hx
  | n + 1, v => by
    intro x hx
    rw [le, List.mem_cons] at hx
    rcases hx with rfl | hx
    · omega
    · exact le_range n _ x hx
theorem les_range (n : Nat) (l : List Int) : InR 256 (les n l) := by
  intro x hx
  obtain ⟨v, _, hv⟩ := List.mem_flatMap.1 hx
  exact le_range n v x hv
theorem inR_append {m : Int} {l r : List Int} (h : InR m l) (g : InR m r) : InR m (l ++ r) := fun x hx => by
  rcases List.mem_append.1 hx with h1 | h1
  · exact h x h1
  · exact g x h1
theorem bytes_range (h : Head) : InR 256 h.bytes := by
  unfold Head.bytes
  exact inR_append (inR_append (inR_append (inR_append (les_range _ _) (les_range _ _)) (les_range _ _)) (les_range _ _)) (les_range _ _)
theorem pad_range {l : List Int} (h : InR 256 l) (n : Nat) : InR 256 (padTo l n) := inR_append h (fun x hx => by obtain ⟨_, rfl⟩ := List.mem_replicate.1 hx; decide)
theorem tail_range {l : List Int} (h : InR 256 l) : InR 256 (tailOf l) := pad_range (fun x hx => h x (List.mem_of_mem_take hx)) _

set_option maxHeartbeats 4000000 in
set_option maxRecDepth 100000 in
theorem Seal_calls (h : Head) (data beside : List Int) (A B : Option Addr) (n m c cb : Nat) (w : World) (hh : h.Ok) (hA : Rd .u8 w A n data) (hB : Rd .u8 w B m beside) (hc : n ≤ c) (hcb : m ≤ cb) (hr : InR 256 data) (hrb : InR 256 beside) :
    Calls Tryz.prog 86 #[.agg h.vals, .slice A n c, .slice B m cb] w fun e w' => ∃ v, e = .returned v ∧ Row 5 .u8 w' w.heap.size v (sealOf h data beside) ∧ Fr None_ w w' := by
  have HH := As.mk hh
  have HA := As.mk hA
  have HB := As.mk hB
  have HC := As.mk hc
  have HCB := As.mk hcb
  have HR := As.mk hr
  have HRB := As.mk hrb
  clear hh hA hB hr hrb
  have hf := fun w => fields_calls h w HH.out
  unfold Head.vals at hf
  have HF := As.mk hf
  clear hf
  have HT : As (tailOf beside = padTo (beside.take 32) 32) := ⟨rfl⟩
  unfold Head.vals
  go_enter Tryz.func86, Tryz.ntmps86
  go_upto_if 16 with ((with_reducible refine (HF.out _).mono ?_); rintro e w1 ⟨vf, rfl, hrf, hff⟩; have HRF := As.mk hrf; have HFF := As.mk hff; clear hrf hff; obtain ⟨Af, nf, cf, ef, HMF, HDF, HBF⟩ := HRF.out.rd; subst ef)

  go_cut [2] (fun v2 wc => ∃ (B2 : Option Addr) (m2 c2 : Nat), v2 = .slice B2 m2 c2 ∧ As (Rd .u8 w B2 m2 (beside.take 32)) ∧ As (wc = w1))
  case first =>
    by_cases h32 : 32 < m
    · have HB2 := As.mk (HB.out.take 32 (by omega))
      go_wp2
      go_meet
      case rel => exact ⟨B, 32, cb, rfl, HB2, ⟨rfl⟩⟩
    · have HB2 : As (Rd .u8 w B m (beside.take 32)) := ⟨by rw [List.take_of_length_le (by have := HB.out.1; omega)]; exact HB.out⟩
      go_wp2
      go_meet
      case rel => exact ⟨B, m, cb, rfl, HB2, ⟨rfl⟩⟩
  case rest =>
    obtain ⟨B2, m2, c2, rfl, HB2, ⟨rfl⟩⟩ := hcut
    -- the first writer, empty
    have hp1 : wc.heap[w.heap.size + 1]? = some (.cells #[.slice none 0 0] 182 (0, 0)) := by
      refine HFF.out.heap ?_ (fun h => h)
      have := heap_alloc_new (w.alloc (.cells h.vals 112)) (.cells #[.slice none 0 0] 182)
      rw [show (w.alloc (.cells h.vals 112)).heap.size = w.heap.size + 1 by simp] at this
      exact this
    have F1 : Fr None_ w wc := (((Fr.refl None_ w).alloc _).alloc _).after HFF.out (fun _ _ h => h)
    have HF1 := As.mk F1
    have HP1 := As.mk hp1
    have hs1 : w.heap.size + 1 < wc.heap.size := (Array.getElem?_eq_some_iff.1 hp1).1
    clear hp1 F1
    -- the tail, by a second one
    have HW2 := As.mk (Wr.new (heap_alloc_new wc (.cells #[.slice none 0 0] 182)) wc.heap.size (Nat.le_refl _))
    have HB3 := As.mk ((HB2.out.none_ HF1.out).none_ ((Fr.refl None_ wc).alloc (.cells #[.slice none 0 0] 182)))
    have HL2 : As ((beside.take 32).length ≤ 32 ∧ m2 ≤ 32) := ⟨by have := HB2.out.1; have h := List.length_take_le 32 beside; omega⟩
    go_wp2_with fail
    ((with_reducible refine (Raw_calls wc.heap.size wc.heap.size [] (beside.take 32) B2 m2 c2 _ HW2.out ?b0 HB3.out ?b1).mono ?_); (case b0 => simp); (case b1 => have := HL2.out; simp; omega); rintro e w3 ⟨rfl, hw3, hs3⟩)
    have HW3 := As.mk hw3
    have HF3 := As.mk (HW2.out.fr hs3 (Nat.le_refl _) ((Fr.refl None_ wc).alloc (.cells #[.slice none 0 0] 182)))
    clear hw3 hs3
    go_wp2_with fail
    ((with_reducible refine (Pad_calls wc.heap.size wc.heap.size ([] ++ beside.take 32) 32 _ HW3.out ?b0 (by decide) ?b1).mono ?_); (case b0 => exact HF3.out.size); (case b1 => have := HL2.out; simp; omega); rintro e w4 ⟨rfl, hw4, hs4⟩)
    have HW4 : As (Wr w4 wc.heap.size wc.heap.size (tailOf beside)) := ⟨hw4⟩
    have HF4 := As.mk (HW3.out.fr hs4 (Nat.le_refl _) HF3.out)
    have HLT : As ((tailOf beside).length = 32) := ⟨by unfold tailOf; rw [padTo_length, List.length_take]; omega⟩
    clear hw4 hs4
    go_wp2_with fail
    ((with_reducible refine (Bytes_calls wc.heap.size wc.heap.size (tailOf beside) _ HW4.out ?b0).mono ?_); (case b0 => have := HLT.out; omega); rintro e w5 ⟨vt, rfl, hrt, hft⟩)
    have HRT := As.mk hrt
    have HF5 := As.mk (HF4.out.after hft (fun _ _ h => h))
    clear hrt hft
    obtain ⟨At, nt, ct, et, HMT, HDT, HBT⟩ := HRT.out.rd
    subst et
    -- behind it: the first writer, the fields, the data as they were
    have HP5 := As.mk (HF5.out.heap HP1.out (fun h => h))
    have HW5 := As.mk (Wr.new HP5.out w.heap.size (by omega))
    have HRF5 := As.mk (HRF.out.none_ HF5.out)
    have HG5 := As.mk (HF1.out.after HF5.out (fun _ _ h => h))
    have hs5 : wc.heap.size ≤ w5.heap.size := HF5.out.size
    have HV : As (∀ b, (Value.slice Af nf cf).ownBlock = some b → b < w5.heap.size ∧ b ≠ w.heap.size + 1) := ⟨fun b hb => ⟨(HRF5.out.blk b hb).2.1, fun e => Row.ne HRF5.out HP5.out (by decide) (e ▸ hb)⟩⟩
    have HU : As (∀ b, (Value.slice At nt ct).ownBlock = some b → b < w5.heap.size ∧ b ≠ w.heap.size + 1) := ⟨fun b hb => ⟨(HRT.out.blk b hb).2.1, fun e => Row.ne HRT.out HP5.out (by decide) (e ▸ hb)⟩⟩
    have HLF : As (h.bytes.length = 24) := ⟨by simp [Head.bytes, les_length]⟩
    have HDF5 : As (Rd .u8 w5 Af nf h.bytes) := ⟨HDF.out.none_ HF5.out⟩
    go_wp2_with fail
    ((with_reducible refine (Raw_calls w.heap.size (w.heap.size + 1) [] h.bytes Af nf cf _ HW5.out ?b0 HDF5.out ?b1).mono ?_); (case b0 => omega); (case b1 => have := HLF.out; have := HDF5.out.1; simp; omega); rintro e w6 ⟨rfl, hw6, hs6⟩)
    have HW6 := As.mk hw6
    have HG6 := As.mk (HW5.out.fr hs6 (Nat.le_refl _) HG5.out)
    have HY6 := As.mk ((Young.new (N := w5.heap.size) HP5.out).step hs6 (Nat.le_refl _))
    have HRF6 := As.mk (row_old HRF5.out HV.out (Young.new (N := w5.heap.size) HP5.out) hs6)
    have HRT6 := As.mk (row_old HRT.out HU.out (Young.new (N := w5.heap.size) HP5.out) hs6)
    have hs56 : w5.heap.size ≤ w6.heap.size := hs6.fr.size
    clear hw6 hs6
    obtain ⟨Af6, nf6, cf6, ef6, HMF6, HDF6, _⟩ := HRF6.out.rd
    obtain ⟨rfl, rfl, rfl⟩ : Af = Af6 ∧ nf = nf6 ∧ cf = cf6 := by cases ef6; exact ⟨rfl, rfl, rfl⟩
    obtain ⟨At6, nt6, ct6, et6, HMT6, HDT6, _⟩ := HRT6.out.rd
    obtain ⟨rfl, rfl, rfl⟩ : At = At6 ∧ nt = nt6 ∧ ct = ct6 := by cases et6; exact ⟨rfl, rfl, rfl⟩
    have HA6 := As.mk (HA.out.none_ HG6.out)
    have HFA := As.mk ((Fr.refl None_ w6).alloc (.cells #[.slice Af nf cf, .slice A n c, .slice At nt ct] 48))
    have HRS := As.mk (RdS.three (heap_alloc_new w6 (.cells #[.slice Af nf cf, .slice A n c, .slice At nt ct] 48)) HMF.out HC.out HMT.out (HDF6.out.none_ HFA.out) (HA6.out.none_ HFA.out) (HDT6.out.none_ HFA.out))
    have HIN : As (∀ l ∈ [h.bytes, data, tailOf beside], InR 256 l) := ⟨by
      intro l hl
      simp only [List.mem_cons, List.not_mem_nil, or_false] at hl
      rcases hl with rfl | rfl | rfl
      · exact bytes_range h
      · exact HR.out
      · exact tail_range HRB.out⟩
    go_wp2_with fail
    ((with_reducible refine (Of_calls [h.bytes, data, tailOf beside] _ 3 3 _ HRS.out HIN.out).mono ?_); rintro e w7 ⟨rfl, rfl⟩)
    have HSU : As (sealOf h data beside = padTo (h.bytes ++ le (sumOf [h.bytes, data, tailOf beside]) 4) 32 ++ tailOf beside) := ⟨rfl⟩
    have hsr := sum_range [h.bytes, data, tailOf beside]
    generalize sumOf [h.bytes, data, tailOf beside] = s at hsr HSU ⊢
    have HSR := As.mk hsr
    clear hsr
    have HW7 := As.mk ((HW6.out.none_ HFA.out).none_ ((Fr.refl None_ (w6.alloc (.cells #[.slice Af nf cf, .slice A n c, .slice At nt ct] 48))).alloc (.cells #[.int .u32 s] 37)))
    have HY7 := As.mk ((HY6.out.none_ HFA.out HW6.out.lt).none_ ((Fr.refl None_ (w6.alloc (.cells #[.slice Af nf cf, .slice A n c, .slice At nt ct] 48))).alloc (.cells #[.int .u32 s] 37)) (HW6.out.none_ HFA.out).lt)
    have HRT7 := As.mk ((HRT6.out.none_ HFA.out).none_ ((Fr.refl None_ (w6.alloc (.cells #[.slice Af nf cf, .slice A n c, .slice At nt ct] 48))).alloc (.cells #[.int .u32 s] 37)))
    have HG7 := As.mk ((HG6.out.alloc (.cells #[.slice Af nf cf, .slice A n c, .slice At nt ct] 48)).alloc (.cells #[.int .u32 s] 37))
    have HX := As.mk (Bx.made 37 .u32 [s] (HW6.out.none_ HFA.out).lt (HW6.out.none_ HFA.out).row_lt)
    obtain ⟨Ax, ex, hax, hsx⟩ := HX.out.rd (by simp)
    have HAX : As (Rd .u32 ((w6.alloc (.cells #[.slice Af nf cf, .slice A n c, .slice At nt ct] 48)).alloc (.cells #[.int .u32 s] 37)) (some ⟨w6.heap.size + 1, 0, none⟩) 1 [s]) := ⟨by
      have e : Ax = some ⟨w6.heap.size + 1, 0, none⟩ := by cases ex; simp
      rw [← e]; exact hax⟩
    have HSX : As (∀ ad, (some ⟨w6.heap.size + 1, 0, none⟩ : Option Addr) = some ad → 0 < 1 → ¬ (ad.block = w.heap.size + 1 ∨ rowOf ((w6.alloc (.cells #[.slice Af nf cf, .slice A n c, .slice At nt ct] 48)).alloc (.cells #[.int .u32 s] 37)) (w.heap.size + 1) = some ad.block)) := ⟨by
      have e : Ax = some ⟨w6.heap.size + 1, 0, none⟩ := by cases ex; simp
      rw [← e]; exact hsx⟩
    clear hax hsx ex
    go_wp2_with fail
    ((with_reducible refine (U32_calls w.heap.size (w.heap.size + 1) ([] ++ h.bytes) [s] _ 1 1 _ HW7.out ?b0 HAX.out ?b1 HSX.out ?b2).mono ?_); (case b0 => simp; omega); (case b1 => intro x hx; simp at hx; subst hx; exact HSR.out); (case b2 => have := HLF.out; simp; omega); rintro e w8 ⟨rfl, hw8, hs8⟩)
    have HW8 := As.mk hw8
    have HG8 := As.mk (HW7.out.fr hs8 (Nat.le_refl _) HG7.out)
    have HY8 := As.mk (HY7.out.step hs8 (by simp; omega))
    have HRT8 := As.mk (row_old HRT7.out HU.out HY7.out hs8)
    have hs68 : w5.heap.size ≤ w8.heap.size := by have := hs8.fr.size; simp at this; omega
    clear hw8 hs8
    go_wp2_with fail
    ((with_reducible refine (Pad_calls w.heap.size (w.heap.size + 1) ([] ++ h.bytes ++ les 4 [s]) 32 _ HW8.out ?b0 (by decide) ?b1).mono ?_); (case b0 => omega); (case b1 => have := HLF.out; simp [les_length]; omega); rintro e w9 ⟨rfl, hw9, hs9⟩)
    have HW9 := As.mk hw9
    have HG9 := As.mk (HW8.out.fr hs9 (Nat.le_refl _) HG8.out)
    have HY9 := As.mk (HY8.out.step hs9 hs68)
    have HRT9 := As.mk (row_old HRT8.out HU.out HY8.out hs9)
    have hs79 : w5.heap.size ≤ w9.heap.size := by have := hs9.fr.size; omega
    clear hw9 hs9
    obtain ⟨At9, nt9, ct9, et9, HMT9, HDT9, _⟩ := HRT9.out.rd
    obtain ⟨rfl, rfl, rfl⟩ : At = At9 ∧ nt = nt9 ∧ ct = ct9 := by cases et9; exact ⟨rfl, rfl, rfl⟩
    have HLP : As ((padTo ([] ++ h.bytes ++ les 4 [s]) (Int.toNat 32)).length = 32) := ⟨by rw [padTo_length]; have := HLF.out; simp [les_length]; omega⟩
    go_wp2_with fail
    ((with_reducible refine (Raw_calls w.heap.size (w.heap.size + 1) (padTo ([] ++ h.bytes ++ les 4 [s]) (Int.toNat 32)) (tailOf beside) At nt ct _ HW9.out ?b0 HDT9.out ?b1).mono ?_); (case b0 => omega); (case b1 => have := HLP.out; have := HLT.out; have := HDT9.out.1; omega); rintro e w10 ⟨rfl, hw10, hs10⟩)
    have HW10 := As.mk hw10
    have HG10 := As.mk (HW9.out.fr hs10 (Nat.le_refl _) HG9.out)
    clear hw10 hs10
    go_wp2_with fail
    ((with_reducible refine (Bytes_calls w.heap.size (w.heap.size + 1) _ _ HW10.out ?b0).mono ?_); (case b0 => have := HLP.out; have := HLT.out; rw [List.length_append]; omega); rintro e w11 ⟨vr, rfl, hrr, hfr⟩)
    have HRR := As.mk hrr
    have HFR := As.mk (HG10.out.after hfr (fun _ _ h => h))
    have HSZ := As.mk HG10.out.size
    clear hrr hfr
    obtain ⟨Ar, nr, cr, er, _, _, _⟩ := HRR.out.rd
    subst er
    go_wp2
    go_ret
    refine ⟨_, rfl, ?_, HFR.out⟩
    rw [HSU.out]
    have e4 : les 4 [s] = le s 4 := by simp [les]
    have := HRR.out.lower HSZ.out
    rw [e4, List.nil_append] at this
    exact this
end Go.Proofs.YteofgpaceeibpaaGreat.Seal

/- sum.Of: what it computes. | record.Seal: the bytes beside a page. -/
import Derived.Test.YteofgpaceeibpaaGreatTkRead
import Derived.Test.YteofgpaceeibpaaGreatTkFields
namespace Go.Proofs.YteofgpaceeibpaaGreat.Sum
open Go.RowKit Gab Wr
set_option linter.unusedVariables false
set_option linter.unusedSimpArgs false

/-- A slice of slices of numbers that is read. -/
def RdS (k : IntKind) (w : World) (A : Option Addr) (n : Nat) (ls : List (List Int)) : Prop :=
  ls.length = n ∧ n ≤ 9223372036854775807 ∧ (0 < n → ∃ ad, A = some ad ∧ ∀ j, j < n → ∃ Aj nj cj, w.cell? (ad.add j) = some (.slice Aj nj cj) ∧ nj ≤ cj ∧ Rd k w Aj nj (ls.getD j []))
theorem RdS.at_ {k : IntKind} {w : World} {A : Option Addr} {n : Nat} {ls : List (List Int)} (h : RdS k w A n ls) (i : Int) (h0 : 0 ≤ i) (h1 : i < n) :
    ∃ ad Aj nj cj, A = some ad ∧ w.cell? (ad.add i.toNat) = some (.slice Aj nj cj) ∧ As (nj ≤ cj) ∧ As (Rd k w Aj nj (ls.getD i.toNat [])) := by
  obtain ⟨ad, e, hc⟩ := h.2.2 (by omega)
  obtain ⟨Aj, nj, cj, h1, h2, h3⟩ := hc i.toNat (by omega)
  exact ⟨ad, Aj, nj, cj, e, h1, ⟨h2⟩, ⟨h3⟩⟩

/-- One bit's step, one byte's, a list's, many lists'. -/
def crcStep (s : Int) : Int := if (bits .and .u32 s 1 == 1) = true then bits .xor .u32 (s / 2) 2197175160 else s / 2
def crcSteps : Nat → Int → Int
  | 0, s => s
  | n + 1, s => crcStep (crcSteps n s)
def crcByte (s c : Int) : Int := crcSteps 8 (bits .xor .u32 s c)
def crcList (s : Int) (l : List Int) : Int := l.foldl crcByte s
def crcAll (ls : List (List Int)) : Int := ls.foldl crcList 4294967295
/-- The sum. -/
def sumOf (ls : List (List Int)) : Int := bits .xor .u32 (IntKind.u32.max) (crcAll ls)
theorem foldl_snoc {α β : Type} (f : β → α → β) (z : β) (d : α) (l : List α) (i : Nat) (hi : i < l.length) : (l.take (i + 1)).foldl f z = f ((l.take i).foldl f z) (l.getD i d) := by
  rw [List.take_succ_eq_append_getElem hi, List.foldl_append, List.getD_eq_getElem?_getD, List.getElem?_eq_getElem hi]
  rfl

theorem bits_range (op : BinOp) (a b : Int) : 0 ≤ bits op .u32 a b ∧ bits op .u32 a b < 4294967296 := by
  unfold bits
  cases op <;> simp only [IntKind.wrap_u32] <;> omega
theorem sum_range (ls : List (List Int)) : 0 ≤ sumOf ls ∧ sumOf ls < 4294967296 := bits_range _ _ _
theorem RdS.three {k : IntKind} {w : World} {g T : Nat} {fr : Nat × Nat} {A B C : Option Addr} {n m l cn cm cl : Nat} {xs ys zs : List Int} (h : w.heap[g]? = some (.cells #[.slice A n cn, .slice B m cm, .slice C l cl] T fr))
    (hn : n ≤ cn) (hm : m ≤ cm) (hl : l ≤ cl) (hA : Rd k w A n xs) (hB : Rd k w B m ys) (hC : Rd k w C l zs) : RdS k w (some ⟨g, 0, none⟩) 3 [xs, ys, zs] := by
  refine ⟨rfl, by decide, fun _ => ⟨_, rfl, fun j hj => ?_⟩⟩
  rw [add_at]
  match j, hj with
  | 0, _ => exact ⟨A, n, cn, by simp [World.cell?, h], hn, hA⟩
  | 1, _ => exact ⟨B, m, cm, by simp [World.cell?, h], hm, hB⟩
  | 2, _ => exact ⟨C, l, cl, by simp [World.cell?, h], hl, hC⟩

set_option maxHeartbeats 2000000 in
set_option maxRecDepth 100000 in
theorem Of_calls (ls : List (List Int)) (A : Option Addr) (n c : Nat) (w : World) (hR : RdS .u8 w A n ls) (hr : ∀ l ∈ ls, InR 256 l) :
    Calls Tryz.prog 76 #[.slice A n c] w fun e w' => e = .returned (.int .u32 (sumOf ls)) ∧ w = w' := by
  have HR := As.mk hR
  have HI := As.mk hr
  have HN := As.mk hR.1
  have hn := hR.2.1
  clear hR hr
  go_enter Tryz.func76, Tryz.ntmps76
  go_wp2
  go_loop [3, 5, 7, 10] (fun v3 v5 v7 v10 => ∃ (s i : Int), v3 = .int .u32 s ∧ v10 = .int .i64 i ∧ 0 ≤ i ∧ i ≤ (n : Int) ∧ As ((ls.take i.toNat).foldl crcList 4294967295 = s)) (fun _ _ _ v10 => n - (intOf v10).toNat)
  case atStart => exact ⟨4294967295, 0, rfl, rfl, by omega, by omega, ⟨rfl⟩⟩
  case round =>
    obtain ⟨s, i, rfl, rfl, hi0, hi, HS⟩ := hrel
    by_cases hlt : i < (n : Int)
    · obtain ⟨ad, Aj, nj, cj, rfl, hc, HJ, HD⟩ := HR.out.at_ i hi0 hlt
      have hil : i.toNat < ls.length := by have := HN.out; omega
      have HL : As ((ls.take (i + 1).toNat).foldl crcList 4294967295 = crcList s (ls.getD i.toNat [])) := ⟨by rw [show (i + 1).toNat = i.toNat + 1 by omega, foldl_snoc crcList _ [] ls _ hil, HS.out]⟩
      have HX : As (InR 256 (ls.getD i.toNat [])) := ⟨by rw [List.getD_eq_getElem?_getD, List.getElem?_eq_getElem hil]; exact HI.out _ (List.getElem_mem hil)⟩
      have hnj := HD.out.2.1
      have HK := As.mk HD.out.1
      clear hil
      generalize ls.getD i.toNat [] = l at *
      go_wp2
      go_loop [3, 7, 16] (fun v3 v7 v16 => ∃ (t j : Int), v3 = .int .u32 t ∧ v16 = .int .i64 j ∧ 0 ≤ j ∧ j ≤ (nj : Int) ∧ As (crcList s (l.take j.toNat) = t)) (fun _ _ v10 => nj - (intOf v10).toNat)
      case atStart => exact ⟨s, 0, rfl, rfl, by omega, by omega, ⟨rfl⟩⟩
      case round =>
        obtain ⟨t, j, rfl, rfl, hj0, hj, HT⟩ := hrel
        by_cases hlj : j < (nj : Int)
        · obtain ⟨ad2, rfl, hc2⟩ := HD.out.at_ j hj0 hlj
          have hx := inR_at HX.out (i := j.toNat) (by have := HK.out; omega)
          have HJ2 : As (crcList s (l.take (j + 1).toNat) = crcByte t (l.getD j.toNat 0)) := ⟨by rw [show (j + 1).toNat = j.toNat + 1 by omega]; unfold crcList at *; rw [foldl_snoc crcByte _ 0 l _ (by have := HK.out; omega), HT.out]⟩
          generalize l.getD j.toNat 0 = x at *
          obtain ⟨hx0, hx1⟩ := hx
          go_wp2
          go_loop [3, 24] (fun v3 v24 => ∃ (u k : Int), v3 = .int .u32 u ∧ v24 = .int .i64 k ∧ 0 ≤ k ∧ k ≤ 8 ∧ As (crcSteps k.toNat (bits .xor .u32 t x) = u)) (fun _ v10 => 8 - (intOf v10).toNat)
          case atStart => exact ⟨_, 0, rfl, rfl, by omega, by omega, ⟨rfl⟩⟩
          case round =>
            obtain ⟨u, k, rfl, rfl, hk0, hk, HU⟩ := hrel
            have HU2 : As (crcSteps (k + 1).toNat (bits .xor .u32 t x) = crcStep u) := ⟨by rw [show (k + 1).toNat = k.toNat + 1 by omega, crcSteps, HU.out]⟩
            by_cases hlk : k < 8
            · by_cases hb : (bits .and .u32 u 1 == 1) = true
              · have HU3 : As (crcSteps (k + 1).toNat (bits .xor .u32 t x) = bits .xor .u32 (u / 2) 2197175160) := ⟨by rw [HU2.out, crcStep, if_pos hb]⟩
                go_wp2
                exact ⟨⟨_, k + 1, rfl, rfl, by omega, by omega, HU3⟩, by simp [intOf]; omega⟩
              · have HU3 : As (crcSteps (k + 1).toNat (bits .xor .u32 t x) = u / 2) := ⟨by rw [HU2.out, crcStep, if_neg hb]⟩
                have hb2 : (bits .and .u32 u 1 == 1) = false := by simpa using hb
                clear hb
                go_wp2
                exact ⟨⟨_, k + 1, rfl, rfl, by omega, by omega, HU3⟩, by simp [intOf]; omega⟩
            · have HU3 : As (crcByte t x = u) := ⟨by have h := HU.out; rw [show k.toNat = 8 by omega] at h; exact h⟩
              go_wp2
              exact ⟨⟨u, j + 1, rfl, rfl, by omega, by omega, ⟨by rw [HJ2.out, HU3.out]⟩⟩, by simp [intOf]; omega⟩
        · have HT2 : As (crcList s l = t) := ⟨by have h := HT.out; rw [List.take_of_length_le (by have := HK.out; omega)] at h; exact h⟩
          go_wp2
          exact ⟨⟨t, i + 1, rfl, rfl, by omega, by omega, ⟨by rw [HL.out, HT2.out]⟩⟩, by simp [intOf]; omega⟩
    · have HF : As (crcAll ls = s) := ⟨by have h := HS.out; rw [List.take_of_length_le (by have := HN.out; omega)] at h; exact h⟩
      go_wp2
      go_ret
      exact ⟨by rw [sumOf, HF.out]; rfl, rfl⟩
end Go.Proofs.YteofgpaceeibpaaGreat.Sum
namespace Go.Proofs.YteofgpaceeibpaaGreat.Seal
open Go.RowKit Gab Wr Fields Go.Proofs.YteofgpaceeibpaaGreat.Sum
set_option linter.unusedVariables false
set_option linter.unusedSimpArgs false

def tailOf (beside : List Int) : List Int := padTo (beside.take 32) 32
def sealOf (h : Head) (data beside : List Int) : List Int := padTo (h.bytes ++ le (sumOf [h.bytes, data, tailOf beside]) 4) 32 ++ tailOf beside

theorem le_range : ∀ (n : Nat) (v : Int), InR 256 (le v n)
  | 0, _ => by intro x hx; simp [le] at hx
  | n + 1, v => by
    intro x hx
    rw [le, List.mem_cons] at hx
    rcases hx with rfl | hx
    · omega
    · exact le_range n _ x hx
theorem les_range (n : Nat) (l : List Int) : InR 256 (les n l) := by
  intro x hx
  obtain ⟨v, _, hv⟩ := List.mem_flatMap.1 hx
  exact le_range n v x hv
theorem inR_append {m : Int} {l r : List Int} (h : InR m l) (g : InR m r) : InR m (l ++ r) := fun x hx => by
  rcases List.mem_append.1 hx with h1 | h1
  · exact h x h1
  · exact g x h1
theorem bytes_range (h : Head) : InR 256 h.bytes := by
  unfold Head.bytes
  exact inR_append (inR_append (inR_append (inR_append (les_range _ _) (les_range _ _)) (les_range _ _)) (les_range _ _)) (les_range _ _)
theorem pad_range {l : List Int} (h : InR 256 l) (n : Nat) : InR 256 (padTo l n) := inR_append h (fun x hx => by obtain ⟨_, rfl⟩ := List.mem_replicate.1 hx; decide)
theorem tail_range {l : List Int} (h : InR 256 l) : InR 256 (tailOf l) := pad_range (fun x hx => h x (List.mem_of_mem_take hx)) _

set_option maxHeartbeats 4000000 in
set_option maxRecDepth 100000 in
theorem Seal_calls (h : Head) (data beside : List Int) (A B : Option Addr) (n m c cb : Nat) (w : World) (hh : h.Ok) (hA : Rd .u8 w A n data) (hB : Rd .u8 w B m beside) (hc : n ≤ c) (hcb : m ≤ cb) (hr : InR 256 data) (hrb : InR 256 beside) :
    Calls Tryz.prog 86 #[.agg h.vals, .slice A n c, .slice B m cb] w fun e w' => ∃ v, e = .returned v ∧ Row 5 .u8 w' w.heap.size v (sealOf h data beside) ∧ Fr None_ w w' := by
  have HH := As.mk hh
  have HA := As.mk hA
  have HB := As.mk hB
  have HC := As.mk hc
  have HCB := As.mk hcb
  have HR := As.mk hr
  have HRB := As.mk hrb
  clear hh hA hB hr hrb
  have hf := fun w => fields_calls h w HH.out
  unfold Head.vals at hf
  have HF := As.mk hf
  clear hf
  have HT : As (tailOf beside = padTo (beside.take 32) 32) := ⟨rfl⟩
  unfold Head.vals
  go_enter Tryz.func86, Tryz.ntmps86
  go_upto_if 16 with ((with_reducible refine (HF.out _).mono ?_); rintro e w1 ⟨vf, rfl, hrf, hff⟩; have HRF := As.mk hrf; have HFF := As.mk hff; clear hrf hff; obtain ⟨Af, nf, cf, ef, HMF, HDF, HBF⟩ := HRF.out.rd; subst ef)

  go_cut [2] (fun v2 wc => ∃ (B2 : Option Addr) (m2 c2 : Nat), v2 = .slice B2 m2 c2 ∧ As (Rd .u8 w B2 m2 (beside.take 32)) ∧ As (wc = w1))
  case first =>
    by_cases h32 : 32 < m
    · have HB2 := As.mk (HB.out.take 32 (by omega))
      go_wp2
      go_meet
      case rel => exact ⟨B, 32, cb, rfl, HB2, ⟨rfl⟩⟩
    · have HB2 : As (Rd .u8 w B m (beside.take 32)) := ⟨by rw [List.take_of_length_le (by have := HB.out.1; omega)]; exact HB.out⟩
      go_wp2
      go_meet
      case rel => exact ⟨B, m, cb, rfl, HB2, ⟨rfl⟩⟩
  case rest =>
    obtain ⟨B2, m2, c2, rfl, HB2, ⟨rfl⟩⟩ := hcut
    -- the first writer, empty
    have hp1 : wc.heap[w.heap.size + 1]? = some (.cells #[.slice none 0 0] 182 (0, 0)) := by
      refine HFF.out.heap ?_ (fun h => h)
      have := heap_alloc_new (w.alloc (.cells h.vals 112)) (.cells #[.slice none 0 0] 182)
      rw [show (w.alloc (.cells h.vals 112)).heap.size = w.heap.size + 1 by simp] at this
      exact this
    have F1 : Fr None_ w wc := (((Fr.refl None_ w).alloc _).alloc _).after HFF.out (fun _ _ h => h)
    have HF1 := As.mk F1
    have HP1 := As.mk hp1
    have hs1 : w.heap.size + 1 < wc.heap.size := (Array.getElem?_eq_some_iff.1 hp1).1
    clear hp1 F1
    -- the tail, by a second one
    have HW2 := As.mk (Wr.new (heap_alloc_new wc (.cells #[.slice none 0 0] 182)) wc.heap.size (Nat.le_refl _))
    have HB3 := As.mk ((HB2.out.none_ HF1.out).none_ ((Fr.refl None_ wc).alloc (.cells #[.slice none 0 0] 182)))
    have HL2 : As ((beside.take 32).length ≤ 32 ∧ m2 ≤ 32) := ⟨by have := HB2.out.1; have h := List.length_take_le 32 beside; omega⟩
    go_wp2_with fail
    ((with_reducible refine (Raw_calls wc.heap.size wc.heap.size [] (beside.take 32) B2 m2 c2 _ HW2.out ?b0 HB3.out ?b1).mono ?_); (case b0 => simp); (case b1 => have := HL2.out; simp; omega); rintro e w3 ⟨rfl, hw3, hs3⟩)
    have HW3 := As.mk hw3
    have HF3 := As.mk (HW2.out.fr hs3 (Nat.le_refl _) ((Fr.refl None_ wc).alloc (.cells #[.slice none 0 0] 182)))
    clear hw3 hs3
    go_wp2_with fail
    ((with_reducible refine (Pad_calls wc.heap.size wc.heap.size ([] ++ beside.take 32) 32 _ HW3.out ?b0 (by decide) ?b1).mono ?_); (case b0 => exact HF3.out.size); (case b1 => have := HL2.out; simp; omega); rintro e w4 ⟨rfl, hw4, hs4⟩)
    have HW4 : As (Wr w4 wc.heap.size wc.heap.size (tailOf beside)) := ⟨hw4⟩
    have HF4 := As.mk (HW3.out.fr hs4 (Nat.le_refl _) HF3.out)
    have HLT : As ((tailOf beside).length = 32) := ⟨by unfold tailOf; rw [padTo_length, List.length_take]; omega⟩
    clear hw4 hs4
    go_wp2_with fail
    ((with_reducible refine (Bytes_calls wc.heap.size wc.heap.size (tailOf beside) _ HW4.out ?b0).mono ?_); (case b0 => have := HLT.out; omega); rintro e w5 ⟨vt, rfl, hrt, hft⟩)
    have HRT := As.mk hrt
    have HF5 := As.mk (HF4.out.after hft (fun _ _ h => h))
    clear hrt hft
    obtain ⟨At, nt, ct, et, HMT, HDT, HBT⟩ := HRT.out.rd
    subst et
    -- behind it: the first writer, the fields, the data as they were
    have HP5 := As.mk (HF5.out.heap HP1.out (fun h => h))
    have HW5 := As.mk (Wr.new HP5.out w.heap.size (by omega))
    have HRF5 := As.mk (HRF.out.none_ HF5.out)
    have HG5 := As.mk (HF1.out.after HF5.out (fun _ _ h => h))
    have hs5 : wc.heap.size ≤ w5.heap.size := HF5.out.size
    have HV : As (∀ b, (Value.slice Af nf cf).ownBlock = some b → b < w5.heap.size ∧ b ≠ w.heap.size + 1) := ⟨fun b hb => ⟨(HRF5.out.blk b hb).2.1, fun e => Row.ne HRF5.out HP5.out (by decide) (e ▸ hb)⟩⟩
    have HU : As (∀ b, (Value.slice At nt ct).ownBlock = some b → b < w5.heap.size ∧ b ≠ w.heap.size + 1) := ⟨fun b hb => ⟨(HRT.out.blk b hb).2.1, fun e => Row.ne HRT.out HP5.out (by decide) (e ▸ hb)⟩⟩
    have HLF : As (h.bytes.length = 24) := ⟨by simp [Head.bytes, les_length]⟩
    have HDF5 : As (Rd .u8 w5 Af nf h.bytes) := ⟨HDF.out.none_ HF5.out⟩
    go_wp2_with fail
    ((with_reducible refine (Raw_calls w.heap.size (w.heap.size + 1) [] h.bytes Af nf cf _ HW5.out ?b0 HDF5.out ?b1).mono ?_); (case b0 => omega); (case b1 => have := HLF.out; have := HDF5.out.1; simp; omega); rintro e w6 ⟨rfl, hw6, hs6⟩)
    have HW6 := As.mk hw6
    have HG6 := As.mk (HW5.out.fr hs6 (Nat.le_refl _) HG5.out)
    have HY6 := As.mk ((Young.new (N := w5.heap.size) HP5.out).step hs6 (Nat.le_refl _))
    have HRF6 := As.mk (row_old HRF5.out HV.out (Young.new (N := w5.heap.size) HP5.out) hs6)
    have HRT6 := As.mk (row_old HRT.out HU.out (Young.new (N := w5.heap.size) HP5.out) hs6)
    have hs56 : w5.heap.size ≤ w6.heap.size := hs6.fr.size
    clear hw6 hs6
    obtain ⟨Af6, nf6, cf6, ef6, HMF6, HDF6, _⟩ := HRF6.out.rd
    obtain ⟨rfl, rfl, rfl⟩ : Af = Af6 ∧ nf = nf6 ∧ cf = cf6 := by cases ef6; exact ⟨rfl, rfl, rfl⟩
    obtain ⟨At6, nt6, ct6, et6, HMT6, HDT6, _⟩ := HRT6.out.rd
    obtain ⟨rfl, rfl, rfl⟩ : At = At6 ∧ nt = nt6 ∧ ct = ct6 := by cases et6; exact ⟨rfl, rfl, rfl⟩
    have HA6 := As.mk (HA.out.none_ HG6.out)
    have HFA := As.mk ((Fr.refl None_ w6).alloc (.cells #[.slice Af nf cf, .slice A n c, .slice At nt ct] 48))
    have HRS := As.mk (RdS.three (heap_alloc_new w6 (.cells #[.slice Af nf cf, .slice A n c, .slice At nt ct] 48)) HMF.out HC.out HMT.out (HDF6.out.none_ HFA.out) (HA6.out.none_ HFA.out) (HDT6.out.none_ HFA.out))
    have HIN : As (∀ l ∈ [h.bytes, data, tailOf beside], InR 256 l) := ⟨by
      intro l hl
      simp only [List.mem_cons, List.not_mem_nil, or_false] at hl
      rcases hl with rfl | rfl | rfl
      · exact bytes_range h
      · exact HR.out
      · exact tail_range HRB.out⟩
    go_wp2_with fail
    ((with_reducible refine (Of_calls [h.bytes, data, tailOf beside] _ 3 3 _ HRS.out HIN.out).mono ?_); rintro e w7 ⟨rfl, rfl⟩)
    have HSU : As (sealOf h data beside = padTo (h.bytes ++ le (sumOf [h.bytes, data, tailOf beside]) 4) 32 ++ tailOf beside) := ⟨rfl⟩
    have hsr := sum_range [h.bytes, data, tailOf beside]
    generalize sumOf [h.bytes, data, tailOf beside] = s at hsr HSU ⊢
    have HSR := As.mk hsr
    clear hsr
    have HW7 := As.mk ((HW6.out.none_ HFA.out).none_ ((Fr.refl None_ (w6.alloc (.cells #[.slice Af nf cf, .slice A n c, .slice At nt ct] 48))).alloc (.cells #[.int .u32 s] 37)))
    have HY7 := As.mk ((HY6.out.none_ HFA.out HW6.out.lt).none_ ((Fr.refl None_ (w6.alloc (.cells #[.slice Af nf cf, .slice A n c, .slice At nt ct] 48))).alloc (.cells #[.int .u32 s] 37)) (HW6.out.none_ HFA.out).lt)
    have HRT7 := As.mk ((HRT6.out.none_ HFA.out).none_ ((Fr.refl None_ (w6.alloc (.cells #[.slice Af nf cf, .slice A n c, .slice At nt ct] 48))).alloc (.cells #[.int .u32 s] 37)))
    have HG7 := As.mk ((HG6.out.alloc (.cells #[.slice Af nf cf, .slice A n c, .slice At nt ct] 48)).alloc (.cells #[.int .u32 s] 37))
    have HX := As.mk (Bx.made 37 .u32 [s] (HW6.out.none_ HFA.out).lt (HW6.out.none_ HFA.out).row_lt)
    obtain ⟨Ax, ex, hax, hsx⟩ := HX.out.rd (by simp)
    have HAX : As (Rd .u32 ((w6.alloc (.cells #[.slice Af nf cf, .slice A n c, .slice At nt ct] 48)).alloc (.cells #[.int .u32 s] 37)) (some ⟨w6.heap.size + 1, 0, none⟩) 1 [s]) := ⟨by
      have e : Ax = some ⟨w6.heap.size + 1, 0, none⟩ := by cases ex; simp
      rw [← e]; exact hax⟩
    have HSX : As (∀ ad, (some ⟨w6.heap.size + 1, 0, none⟩ : Option Addr) = some ad → 0 < 1 → ¬ (ad.block = w.heap.size + 1 ∨ rowOf ((w6.alloc (.cells #[.slice Af nf cf, .slice A n c, .slice At nt ct] 48)).alloc (.cells #[.int .u32 s] 37)) (w.heap.size + 1) = some ad.block)) := ⟨by
      have e : Ax = some ⟨w6.heap.size + 1, 0, none⟩ := by cases ex; simp
      rw [← e]; exact hsx⟩
    clear hax hsx ex
    go_wp2_with fail
    ((with_reducible refine (U32_calls w.heap.size (w.heap.size + 1) ([] ++ h.bytes) [s] _ 1 1 _ HW7.out ?b0 HAX.out ?b1 HSX.out ?b2).mono ?_); (case b0 => simp; omega); (case b1 => intro x hx; simp at hx; subst hx; exact HSR.out); (case b2 => have := HLF.out; simp; omega); rintro e w8 ⟨rfl, hw8, hs8⟩)
    have HW8 := As.mk hw8
    have HG8 := As.mk (HW7.out.fr hs8 (Nat.le_refl _) HG7.out)
    have HY8 := As.mk (HY7.out.step hs8 (by simp; omega))
    have HRT8 := As.mk (row_old HRT7.out HU.out HY7.out hs8)
    have hs68 : w5.heap.size ≤ w8.heap.size := by have := hs8.fr.size; simp at this; omega
    clear hw8 hs8
    go_wp2_with fail
    ((with_reducible refine (Pad_calls w.heap.size (w.heap.size + 1) ([] ++ h.bytes ++ les 4 [s]) 32 _ HW8.out ?b0 (by decide) ?b1).mono ?_); (case b0 => omega); (case b1 => have := HLF.out; simp [les_length]; omega); rintro e w9 ⟨rfl, hw9, hs9⟩)
    have HW9 := As.mk hw9
    have HG9 := As.mk (HW8.out.fr hs9 (Nat.le_refl _) HG8.out)
    have HY9 := As.mk (HY8.out.step hs9 hs68)
    have HRT9 := As.mk (row_old HRT8.out HU.out HY8.out hs9)
    have hs79 : w5.heap.size ≤ w9.heap.size := by have := hs9.fr.size; omega
    clear hw9 hs9
    obtain ⟨At9, nt9, ct9, et9, HMT9, HDT9, _⟩ := HRT9.out.rd
    obtain ⟨rfl, rfl, rfl⟩ : At = At9 ∧ nt = nt9 ∧ ct = ct9 := by cases et9; exact ⟨rfl, rfl, rfl⟩
    have HLP : As ((padTo ([] ++ h.bytes ++ les 4 [s]) (Int.toNat 32)).length = 32) := ⟨by rw [padTo_length]; have := HLF.out; simp [les_length]; omega⟩
    go_wp2_with fail
    ((with_reducible refine (Raw_calls w.heap.size (w.heap.size + 1) (padTo ([] ++ h.bytes ++ les 4 [s]) (Int.toNat 32)) (tailOf beside) At nt ct _ HW9.out ?b0 HDT9.out ?b1).mono ?_); (case b0 => omega); (case b1 => have := HLP.out; have := HLT.out; have := HDT9.out.1; omega); rintro e w10 ⟨rfl, hw10, hs10⟩)
    have HW10 := As.mk hw10
    have HG10 := As.mk (HW9.out.fr hs10 (Nat.le_refl _) HG9.out)
    clear hw10 hs10
    go_wp2_with fail
    ((with_reducible refine (Bytes_calls w.heap.size (w.heap.size + 1) _ _ HW10.out ?b0).mono ?_); (case b0 => have := HLP.out; have := HLT.out; rw [List.length_append]; omega); rintro e w11 ⟨vr, rfl, hrr, hfr⟩)
    have HRR := As.mk hrr
    have HFR := As.mk (HG10.out.after hfr (fun _ _ h => h))
    have HSZ := As.mk HG10.out.size
    clear hrr hfr
    obtain ⟨Ar, nr, cr, er, _, _, _⟩ := HRR.out.rd
    subst er
    go_wp2
    go_ret
    refine ⟨_, rfl, ?_, HFR.out⟩
    rw [HSU.out]
    have e4 : les 4 [s] = le s 4 := by simp [les]
    have := HRR.out.lower HSZ.out
    rw [e4, List.nil_append] at this
    exact this
end Go.Proofs.YteofgpaceeibpaaGreat.Seal

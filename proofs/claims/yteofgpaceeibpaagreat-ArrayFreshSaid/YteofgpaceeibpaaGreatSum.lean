/- sum.Of: what it computes. -/
import Derived.Test.YteofgpaceeibpaaGreatWr
namespace Go.Proofs.YteofgpaceeibpaaGreat.Sum
open Go.RowKit Go.Proofs.YteofgpaceeibpaaGreat.Gab Go.Proofs.YteofgpaceeibpaaGreat.Wr
set_option linter.unusedVariables false
set_option linter.unusedSimpArgs false

/-- A slice of slices of numbers that is read. -/
def RdS (k : IntKind) (w : World) (A : Option Addr) (n : Nat) (ls : List (List Int)) : Prop :=
  ls.length = n ∧ n ≤ 9223372036854775807 ∧ (0 < n → ∃ ad, A = some ad ∧ ∀ j, j < n → ∃ Aj nj cj, w.cell? (ad.add j) = some (.slice Aj nj cj) ∧ nj ≤ cj ∧ Rd k w Aj nj (ls.getD j []))
theorem RdS.at_ {k : IntKind} {w : World} {A : Option Addr} {n : Nat} {ls : List (List Int)} (h : RdS k w A n ls) (i : Int) (h0 : 0 ≤ i) (h1 : i < n) :
    ∃ ad Aj nj cj, A = some ad ∧ w.cell? (ad.add i.toNat) = some (.slice Aj nj cj) ∧ As (nj ≤ cj) ∧ As (Rd k w Aj nj (ls.getD i.toNat [])) := by
  obtain ⟨ad, e, hc⟩ := h.2.2 (by omega)
  obtain ⟨Aj, nj, cj, h1, h2, h3⟩ := hc i.toNat (by omega)
  exact ⟨ad, Aj, nj, cj, e, h1, ⟨h2⟩, ⟨h3⟩⟩

/-- One bit's step, one byte's, a list's, many lists'. -/
def crcStep (s : Int) : Int := if (bits .and .u32 s 1 == 1) = true then bits .xor .u32 (s / 2) 2197175160 else s / 2
def crcSteps : Nat → Int → Int
  | 0, s => s
  | n + 1, s => crcStep (crcSteps n s)
def crcByte (s c : Int) : Int := crcSteps 8 (bits .xor .u32 s c)
def crcList (s : Int) (l : List Int) : Int := l.foldl crcByte s
def crcAll (ls : List (List Int)) : Int := ls.foldl crcList 4294967295
/-- The sum. -/
def sumOf (ls : List (List Int)) : Int := bits .xor .u32 (IntKind.u32.max) (crcAll ls)
theorem foldl_snoc {α β : Type} (f : β → α → β) (z : β) (d : α) (l : List α) (i : Nat) (hi : i < l.length) : (l.take (i + 1)).foldl f z = f ((l.take i).foldl f z) (l.getD i d) := by
  rw [List.take_succ_eq_append_getElem hi, List.foldl_append, List.getD_eq_getElem?_getD, List.getElem?_eq_getElem hi]
  rfl

theorem bits_range (op : BinOp) (a b : Int) : 0 ≤ bits op .u32 a b ∧ bits op .u32 a b < 4294967296 := by
  unfold bits
  cases op <;> simp only [IntKind.wrap_u32] <;> omega
theorem sum_range (ls : List (List Int)) : 0 ≤ sumOf ls ∧ sumOf ls < 4294967296 := bits_range _ _ _
theorem RdS.three {k : IntKind} {w : World} {g T : Nat} {fr : Nat × Nat} {A B C : Option Addr} {n m l cn cm cl : Nat} {xs ys zs : List Int} (h : w.heap[g]? = some (.cells #[.slice A n cn, .slice B m cm, .slice C l cl] T fr))
    (hn : n ≤ cn) (hm : m ≤ cm) (hl : l ≤ cl) (hA : Rd k w A n xs) (hB : Rd k w B m ys) (hC : Rd k w C l zs) : RdS k w (some ⟨g, 0, none⟩) 3 [xs, ys, zs] := by
  refine ⟨rfl, by decide, fun _ => ⟨_, rfl, fun j hj => ?_⟩⟩
  rw [add_at]
  match j, hj with
  | 0, _ => exact ⟨A, n, cn, by simp [World.cell?, h], hn, hA⟩
  | 1, _ => exact ⟨B, m, cm, by simp [World.cell?, h], hm, hB⟩
  | 2, _ => exact ⟨C, l, cl, by simp [World.cell?, h], hl, hC⟩

set_option maxHeartbeats 2000000 in
set_option maxRecDepth 100000 in
theorem Of_calls (ls : List (List Int)) (A : Option Addr) (n c : Nat) (w : World) (hR : RdS .u8 w A n ls) (hr : ∀ l ∈ ls, InR 256 l) :
    Calls Tryz.prog 76 #[.slice A n c] w fun e w' => e = .returned (.int .u32 (sumOf ls)) ∧ w = w' := by
  have HR := As.mk hR
  have HI := As.mk hr
  have HN := As.mk hR.1
  have hn := hR.2.1
  clear hR hr
  go_enter Tryz.func76, Tryz.ntmps76
  go_wp2
  go_loop [3, 5, 7, 10] (fun v3 v5 v7 v10 => ∃ (s i : Int), v3 = .int .u32 s ∧ v10 = .int .i64 i ∧ 0 ≤ i ∧ i ≤ (n : Int) ∧ As ((ls.take i.toNat).foldl crcList 4294967295 = s)) (fun _ _ _ v10 => n - (intOf v10).toNat)
  case atStart => exact ⟨4294967295, 0, rfl, rfl, by omega, by omega, ⟨rfl⟩⟩
  case round =>
    obtain ⟨s, i, rfl, rfl, hi0, hi, HS⟩ := hrel
    by_cases hlt : i < (n : Int)
    · obtain ⟨ad, Aj, nj, cj, rfl, hc, HJ, HD⟩ := HR.out.at_ i hi0 hlt
      have hil : i.toNat < ls.length := by have := HN.out; omega
      have HL : As ((ls.take (i + 1).toNat).foldl crcList 4294967295 = crcList s (ls.getD i.toNat [])) := ⟨by rw [show (i + 1).toNat = i.toNat + 1 by omega, foldl_snoc crcList _ [] ls _ hil, HS.out]⟩
      have HX : As (InR 256 (ls.getD i.toNat [])) := ⟨by rw [List.getD_eq_getElem?_getD, List.getElem?_eq_getElem hil]; exact HI.out _ (List.getElem_mem hil)⟩
      have hnj := HD.out.2.1
      have HK := As.mk HD.out.1
      clear hil
      generalize ls.getD i.toNat [] = l at *
      go_wp2
      go_loop [3, 7, 16] (fun v3 v7 v16 => ∃ (t j : Int), v3 = .int .u32 t ∧ v16 = .int .i64 j ∧ 0 ≤ j ∧ j ≤ (nj : Int) ∧ As (crcList s (l.take j.toNat) = t)) (fun _ _ v10 => nj - (intOf v10).toNat)
      case atStart => exact ⟨s, 0, rfl, rfl, by omega, by omega, ⟨rfl⟩⟩
      case round =>
        obtain ⟨t, j, rfl, rfl, hj0, hj, HT⟩ := hrel
        by_cases hlj : j < (nj : Int)
        · obtain ⟨ad2, rfl, hc2⟩ := HD.out.at_ j hj0 hlj
          have hx := inR_at HX.out (i := j.toNat) (by have := HK.out; omega)
          have HJ2 : As (crcList s (l.take (j + 1).toNat) = crcByte t (l.getD j.toNat 0)) := ⟨by rw [show (j + 1).toNat = j.toNat + 1 by omega]; unfold crcList at *; rw [foldl_snoc crcByte _ 0 l _ (by have := HK.out; omega), HT.out]⟩
          generalize l.getD j.toNat 0 = x at *
          obtain ⟨hx0, hx1⟩ := hx
          go_wp2
          go_loop [3, 24] (fun v3 v24 => ∃ (u k : Int), v3 = .int .u32 u ∧ v24 = .int .i64 k ∧ 0 ≤ k ∧ k ≤ 8 ∧ As (crcSteps k.toNat (bits .xor .u32 t x) = u)) (fun _ v10 => 8 - (intOf v10).toNat)
          case atStart => exact ⟨_, 0, rfl, rfl, by omega, by omega, ⟨rfl⟩⟩
          case round =>
            obtain ⟨u, k, rfl, rfl, hk0, hk, HU⟩ := hrel
            have HU2 : As (crcSteps (k + 1).toNat (bits .xor .u32 t x) = crcStep u) := ⟨by rw [show (k + 1).toNat = k.toNat + 1 by omega, crcSteps, HU.out]⟩
            by_cases hlk : k < 8
            · by_cases hb : (bits .and .u32 u 1 == 1) = true
              · have HU3 : As (crcSteps (k + 1).toNat (bits .xor .u32 t x) = bits .xor .u32 (u / 2) 2197175160) := ⟨by rw [HU2.out, crcStep, if_pos hb]⟩
                go_wp2
                exact ⟨⟨_, k + 1, rfl, rfl, by omega, by omega, HU3⟩, by simp [intOf]; omega⟩
              · have HU3 : As (crcSteps (k + 1).toNat (bits .xor .u32 t x) = u / 2) := ⟨by rw [HU2.out, crcStep, if_neg hb]⟩
                have hb2 : (bits .and .u32 u 1 == 1) = false := by simpa using hb
                clear hb
                go_wp2
                exact ⟨⟨_, k + 1, rfl, rfl, by omega, by omega, HU3⟩, by simp [intOf]; omega⟩
            · have HU3 : As (crcByte t x = u) := ⟨by have h := HU.out; rw [show k.toNat = 8 by omega] at h; exact h⟩
              go_wp2
              exact ⟨⟨u, j + 1, rfl, rfl, by omega, by omega, ⟨by rw [HJ2.out, HU3.out]⟩⟩, by simp [intOf]; omega⟩
        · have HT2 : As (crcList s l = t) := ⟨by have h := HT.out; rw [List.take_of_length_le (by have := HK.out; omega)] at h; exact h⟩
          go_wp2
          exact ⟨⟨t, i + 1, rfl, rfl, by omega, by omega, ⟨by rw [HL.out, HT2.out]⟩⟩, by simp [intOf]; omega⟩
    · have HF : As (crcAll ls = s) := ⟨by have h := HS.out; rw [List.take_of_length_le (by have := HN.out; omega)] at h; exact h⟩
      go_wp2
      go_ret
      exact ⟨by rw [sumOf, HF.out]; rfl, rfl⟩
end Go.Proofs.YteofgpaceeibpaaGreat.Sum

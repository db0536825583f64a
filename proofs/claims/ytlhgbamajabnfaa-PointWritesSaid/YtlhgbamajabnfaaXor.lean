/- Plain facts of xor: what is missing is all others together. -/
import Derived.Test.YtlhgbamajabnfaaAgain
namespace Go.Proofs.Ytlhgbamajabnfaa.Xor
open Go.RowKit Go.Proofs.Ytlhgbamajabnfaa.Par Go.Proofs.Ytlhgbamajabnfaa.Ord
open Go.Proofs.Ytlhgbamajabnfaa.Wr (InR)
set_option linter.unusedVariables false
set_option linter.unusedSimpArgs false

theorem bx_is {a b : Int} (a0 : 0 ≤ a) (a1 : a < 256) (b0 : 0 ≤ b) (b1 : b < 256) : bx a b = ((a.toNat ^^^ b.toNat : Nat) : Int) := by
  unfold bx
  exact u8_xor a b a0 a1 b0 b1
theorem bx_range (a b : Int) : 0 ≤ bx a b ∧ bx a b < 256 := Str.bx_range a b
theorem bx_comm {a b : Int} (a0 : 0 ≤ a) (a1 : a < 256) (b0 : 0 ≤ b) (b1 : b < 256) : bx a b = bx b a := by
  rw [bx_is a0 a1 b0 b1, bx_is b0 b1 a0 a1, Nat.xor_comm]
theorem bx_assoc {a b c : Int} (a0 : 0 ≤ a) (a1 : a < 256) (b0 : 0 ≤ b) (b1 : b < 256) (c0 : 0 ≤ c) (c1 : c < 256) : bx (bx a b) c = bx a (bx b c) := by
  have h1 := bx_range a b
  have h2 := bx_range b c
  rw [bx_is h1.1 h1.2 c0 c1, bx_is a0 a1 h2.1 h2.2, bx_is a0 a1 b0 b1, bx_is b0 b1 c0 c1, Int.toNat_natCast, Int.toNat_natCast, Nat.xor_assoc]
theorem bx_zero {a : Int} (a0 : 0 ≤ a) (a1 : a < 256) : bx a 0 = a := by
  rw [bx_is a0 a1 (by decide) (by decide)]
  simp
  omega
theorem bx_zero' {a : Int} (a0 : 0 ≤ a) (a1 : a < 256) : bx 0 a = a := by
  rw [bx_is (by decide) (by decide) a0 a1]
  simp
  omega
theorem bx_self {a : Int} (a0 : 0 ≤ a) (a1 : a < 256) : bx a a = 0 := by
  rw [bx_is a0 a1 a0 a1, Nat.xor_self]
  rfl
/-- Of lists. -/
abbrev zx (x y : List Int) : List Int := List.zipWith bx x y
theorem zx_len (x y : List Int) : (zx x y).length = min x.length y.length := List.length_zipWith
theorem zx_range (x y : List Int) : InR 256 (zx x y) := Str.zip_range x y
theorem inR_get {m : Int} {l : List Int} (h : InR m l) {i : Nat} (hi : i < l.length) : 0 ≤ l[i] ∧ l[i] < m := h _ (List.getElem_mem hi)
theorem zx_comm {x y : List Int} (hx : InR 256 x) (hy : InR 256 y) (hl : x.length = y.length) : zx x y = zx y x := by
  apply List.ext_getElem
  · simp [zx_len]; omega
  · intro i h1 h2
    have hix : i < x.length := by rw [zx_len] at h1; omega
    have hiy : i < y.length := by omega
    obtain ⟨a0, a1⟩ := inR_get hx hix
    obtain ⟨b0, b1⟩ := inR_get hy hiy
    rw [List.getElem_zipWith, List.getElem_zipWith, bx_comm a0 a1 b0 b1]
theorem zx_assoc {x y z : List Int} (hx : InR 256 x) (hy : InR 256 y) (hz : InR 256 z) : zx (zx x y) z = zx x (zx y z) := by
  apply List.ext_getElem
  · simp only [zx_len]; omega
  · intro i h1 h2
    rw [zx_len, zx_len] at h1
    obtain ⟨a0, a1⟩ := inR_get hx (i := i) (by omega)
    obtain ⟨b0, b1⟩ := inR_get hy (i := i) (by omega)
    obtain ⟨c0, c1⟩ := inR_get hz (i := i) (by omega)
    rw [List.getElem_zipWith, List.getElem_zipWith, List.getElem_zipWith, List.getElem_zipWith, bx_assoc a0 a1 b0 b1 c0 c1]
theorem zx_self {x : List Int} (hx : InR 256 x) : zx x x = List.replicate x.length 0 := by
  apply List.ext_getElem
  · simp [zx_len]
  · intro i h1 h2
    rw [zx_len] at h1
    obtain ⟨a0, a1⟩ := inR_get hx (i := i) (by omega)
    rw [List.getElem_zipWith, bx_self a0 a1, List.getElem_replicate]
theorem zx_zero {x : List Int} (hx : InR 256 x) {n : Nat} (hn : x.length ≤ n) : zx x (List.replicate n 0) = x := by
  apply List.ext_getElem
  · simp [zx_len]; omega
  · intro i h1 h2
    obtain ⟨a0, a1⟩ := inR_get hx (i := i) (by omega)
    rw [List.getElem_zipWith, List.getElem_replicate, bx_zero a0 a1]
theorem zx_zero' {x : List Int} (hx : InR 256 x) {n : Nat} (hn : x.length ≤ n) : zx (List.replicate n 0) x = x := by
  apply List.ext_getElem
  · simp [zx_len]; omega
  · intro i h1 h2
    obtain ⟨a0, a1⟩ := inR_get hx (i := i) (by omega)
    rw [List.getElem_zipWith, List.getElem_replicate, bx_zero' a0 a1]
theorem rep_range (n : Nat) : InR 256 (List.replicate n 0) := fun x hx => by obtain ⟨_, rfl⟩ := List.mem_replicate.1 hx; decide
/-- All of the same length, all bytes. -/
def Good (N : Nat) (ls : List (List Int)) : Prop := ∀ l ∈ ls, l.length = N ∧ InR 256 l
theorem Good.tail {N : Nat} {l : List Int} {ls : List (List Int)} (h : Good N (l :: ls)) : Good N ls := fun x hx => h x (List.mem_cons_of_mem _ hx)
theorem fold_cons (N : Nat) : ∀ (ls : List (List Int)) (z : List Int), Good N ls → z.length = N → InR 256 z → ls.foldl (List.zipWith bx) z = zx z (xorAll N ls)
  | [], z, _, hz, hr => by
    show z = zx z (List.replicate N 0)
    rw [zx_zero hr (by omega)]
  | l :: ls, z, hg, hz, hr => by
    have h1 := hg l List.mem_cons_self
    have hN : (List.replicate N (0 : Int)).length = N := by simp
    have hzl : (zx z l).length = N := by rw [zx_len]; omega
    unfold xorAll
    have e : List.zipWith bx (List.replicate N 0) l = l := zx_zero' h1.2 (by omega)
    rw [List.foldl_cons, List.foldl_cons, fold_cons N ls (zx z l) hg.tail hzl (zx_range _ _), e, fold_cons N ls l hg.tail h1.1 h1.2]
    have hx : InR 256 (xorAll N ls) := Str.xor_range _ _
    rw [zx_assoc hr h1.2 hx]
theorem xorAll_cons {N : Nat} {l : List Int} {ls : List (List Int)} (h : Good N (l :: ls)) : xorAll N (l :: ls) = zx l (xorAll N ls) := by
  have h1 := h l List.mem_cons_self
  show List.foldl (List.zipWith bx) (zx (List.replicate N 0) l) ls = _
  rw [zx_zero' h1.2 (by omega), fold_cons N ls l h.tail h1.1 h1.2]
theorem xorAll_length {N : Nat} {ls : List (List Int)} (h : Good N ls) : (xorAll N ls).length = N := xorAll_len N ls _ (by simp) (fun l hl => (h l hl).1)
theorem xorAll_mid {N : Nat} (l : List Int) : ∀ (xs ys : List (List Int)), Good N (xs ++ l :: ys) → xorAll N (xs ++ l :: ys) = zx l (xorAll N (xs ++ ys))
  | [], ys, h => xorAll_cons h
  | x :: xs, ys, h => by
    have hx := h x List.mem_cons_self
    have hl := h l (by simp)
    have ht : Good N (xs ++ l :: ys) := Good.tail h
    have ht2 : Good N (xs ++ ys) := fun y hy => ht y (by rcases List.mem_append.1 hy with h1 | h1; exact List.mem_append_left _ h1; exact List.mem_append_right _ (List.mem_cons_of_mem _ h1))
    have h2 : Good N (x :: (xs ++ ys)) := fun y hy => by
      rcases List.mem_cons.1 hy with rfl | hy
      · exact hx
      · exact ht2 y hy
    have h' : Good N (x :: (xs ++ l :: ys)) := h
    rw [List.cons_append, xorAll_cons h', xorAll_mid l xs ys ht, List.cons_append, xorAll_cons h2]
    have hr : InR 256 (xorAll N (xs ++ ys)) := Str.xor_range _ _
    rw [← zx_assoc hx.2 hl.2 hr, zx_comm hx.2 hl.2 (by rw [hx.1, hl.1]), zx_assoc hl.2 hx.2 hr]
/-- What is missing. -/
theorem xor_missing {N : Nat} (l : List Int) (xs ys : List (List Int)) (h : Good N (xs ++ l :: ys)) : xorAll N (xorAll N (xs ++ l :: ys) :: (xs ++ ys)) = l := by
  have hl := h l (by simp)
  have ht2 : Good N (xs ++ ys) := fun y hy => h y (by rcases List.mem_append.1 hy with h1 | h1; exact List.mem_append_left _ h1; exact List.mem_append_right _ (List.mem_cons_of_mem _ h1))
  have hr : InR 256 (xorAll N (xs ++ ys)) := Str.xor_range _ _
  have hP : xorAll N (xs ++ l :: ys) = zx l (xorAll N (xs ++ ys)) := xorAll_mid l xs ys h
  rw [xorAll_cons (l := xorAll N (xs ++ l :: ys)) (fun y hy => by
    rcases List.mem_cons.1 hy with rfl | hy
    · exact ⟨xorAll_length h, Str.xor_range _ _⟩
    · exact ht2 y hy), hP, zx_assoc hl.2 hr hr, zx_self hr, xorAll_length ht2, zx_zero hl.2 (by omega)]
/-- All, with what they make together, are nothing. -/
theorem xor_even {N : Nat} (ls : List (List Int)) (h : Good N ls) : xorAll N (xorAll N ls :: ls) = List.replicate N 0 := by
  rw [xorAll_cons (fun y hy => by
    rcases List.mem_cons.1 hy with rfl | hy
    · exact ⟨xorAll_length h, Str.xor_range _ _⟩
    · exact h y hy), zx_self (Str.xor_range _ _), xorAll_length h]

/-! ### which members -/
theorem upTo_map_succ (f : Int → List Int × List Int) (k : Nat) : (upTo (k + 1)).map f = (upTo k).map f ++ [f k] := by rw [upTo_succ, List.map_append]; rfl
def memOf (k s : Int) : Int := if k ≤ s then s + 1 else s
theorem upTo_but (k : Int) (hk : 0 ≤ k) : ∀ i : Nat, (upTo i).filter (fun n => decide (n ≠ k)) = (upTo (if (i : Int) ≤ k then i else i - 1)).map (memOf k)
  | 0 => by simp [upTo]
  | i + 1 => by
    rw [upTo_succ, List.filter_append, upTo_but k hk i]
    by_cases h1 : (i : Int) = k
    · rw [if_pos (by omega), if_neg (by omega)]
      simp [h1]
    · by_cases h2 : (i : Int) ≤ k
      · rw [if_pos h2, if_pos (by omega), upTo_succ, List.map_append]
        simp [h1, memOf, show ¬ k ≤ (i : Int) by omega]
      · rw [if_neg h2, if_neg (by omega), show i + 1 - 1 = (i - 1) + 1 by omega, upTo_succ, List.map_append]
        have : memOf k ((i - 1 : Nat) : Int) = i := by unfold memOf; rw [if_pos (by omega)]; omega
        simp [h1, this]
end Go.Proofs.Ytlhgbamajabnfaa.Xor

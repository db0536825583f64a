/- Plain facts of xor: what is missing is all others together. | Plain facts of stripes over an array: what is made out of the others is what was written. | Plain law of ArrayTicks: an array that is read; one member may be dead. | Plain law of ArrayTicks: what is held stands, and is read, one member being dead. -/
import Derived.Test.YteofgpaceeibpaaGreatTkAAgn
import Derived.Test.YteofgpaceeibpaaGreatTkARowW
import Derived.Test.YteofgpaceeibpaaGreatTkBlank
import Derived.Test.YteofgpaceeibpaaGreatTkFmtd
import Derived.Test.YteofgpaceeibpaaGreatTkTckC
namespace Go.Proofs.YteofgpaceeibpaaGreat.AXor
open Go.RowKit Par AOrd
open Wr (InR)
set_option linter.unusedVariables false
set_option linter.unusedSimpArgs false

theorem bx_is {a b : Int} (a0 : 0 ≤ a) (a1 : a < 256) (b0 : 0 ≤ b) (b1 : b < 256) : bx a b = ((a.toNat ^^^ b.toNat : Nat) : Int) := by
  unfold bx
  exact u8_xor a b a0 a1 b0 b1
theorem bx_range (a b : Int) : 0 ≤ bx a b ∧ bx a b < 256 := Str.bx_range a b
theorem bx_comm {a b : Int} (a0 : 0 ≤ a) (a1 : a < 256) (b0 : 0 ≤ b) (b1 : b < 256) : bx a b = bx b a := by
  rw [bx_is a0 a1 b0 b1, bx_is b0 b1 a0 a1, Nat.xor_comm]
theorem bx_assoc {a b c : Int} (a0 : 0 ≤ a) (a1 : a < 256) (b0 : 0 ≤ b) (b1 : b < 256) (c0 : 0 ≤ c) (c1 : c < 256) : bx (bx a b) c = bx a (bx b c) := by
  have h1 := bx_range a b
  have h2 := bx_range b c
  rw [bx_is h1.1 h1.2 c0 c1, bx_is a0 a1 h2.1 h2.2, bx_is a0 a1 b0 b1, bx_is b0 b1 c0 c1, Int.toNat_natCast, Int.toNat_natCast, Nat.xor_assoc]
theorem bx_zero {a : Int} (a0 : 0 ≤ a) (a1 : a < 256) : bx a 0 = a := by
  rw [bx_is a0 a1 (by decide) (by decide)]
  simp
  omega
theorem bx_zero' {a : Int} (a0 : 0 ≤ a) (a1 : a < 256) : bx 0 a = a := by
  rw [bx_is (by decide) (by decide) a0 a1]
  simp
  omega
theorem bx_self {a : Int} (a0 : 0 ≤ a) (a1 : a < 256) : bx a a = 0 := by
  rw [bx_is a0 a1 a0 a1, Nat.xor_self]
  rfl
/-- Of lists. -/
abbrev zx (x y : List Int) : List Int := List.zipWith bx x y
theorem zx_len (x y : List Int) : (zx x y).length = min x.length y.length := List.length_zipWith
theorem zx_range (x y : List Int) : InR 256 (zx x y) := Str.zip_range x y
theorem inR_get {m : Int} {l : List Int} (h : InR m l) {i : Nat} (hi : i < l.length) : 0 ≤ l[i] ∧ l[i] < m := h _ (List.getElem_mem hi)
theorem zx_comm {x y : List Int} (hx : InR 256 x) (hy : InR 256 y) (hl : x.length = y.length) : zx x y = zx y x := by
  apply List.ext_getElem
  · simp [zx_len]; omega
  · intro i h1 h2
    have hix : i < x.length := by rw [zx_len] at h1; omega
    have hiy : i < y.length := by omega
    obtain ⟨a0, a1⟩ := inR_get hx hix
    obtain ⟨b0, b1⟩ := inR_get hy hiy
    rw [List.getElem_zipWith, List.getElem_zipWith, bx_comm a0 a1 b0 b1]
theorem zx_assoc {x y z : List Int} (hx : InR 256 x) (hy : InR 256 y) (hz : InR 256 z) : zx (zx x y) z = zx x (zx y z) := by
  apply List.ext_getElem
  · simp only [zx_len]; omega
  · intro i h1 h2
    rw [zx_len, zx_len] at h1
    obtain ⟨a0, a1⟩ := inR_get hx (i := i) (by omega)
    obtain ⟨b0, b1⟩ := inR_get hy (i := i) (by omega)
    obtain ⟨c0, c1⟩ := inR_get hz (i := i) (by omega)
    rw [List.getElem_zipWith, List.getElem_zipWith, List.getElem_zipWith, List.getElem_zipWith, bx_assoc a0 a1 b0 b1 c0 c1]
theorem zx_self {x : List Int} (hx : InR 256 x) : zx x x = List.replicate x.length 0 := by
  apply List.ext_getElem
  · simp [zx_len]
  · intro i h1 h2
    rw [zx_len] at h1
    obtain ⟨a0, a1⟩ := inR_get hx (i := i) (by omega)
    rw [List.getElem_zipWith, bx_self a0 a1, List.getElem_replicate]
theorem zx_zero {x : List Int} (hx : InR 256 x) {n : Nat} (hn : x.length ≤ n) : zx x (List.replicate n 0) = x := by
  apply List.ext_getElem
  · simp [zx_len]; omega
  · intro i h1 h2
    obtain ⟨a0, a1⟩ := inR_get hx (i := i) (by omega)
    rw [List.getElem_zipWith, List.getElem_replicate, bx_zero a0 a1]
theorem zx_zero' {x : List Int} (hx : InR 256 x) {n : Nat} (hn : x.length ≤ n) : zx (List.replicate n 0) x = x := by
  apply List.ext_getElem
  · simp [zx_len]; omega
  · intro i h1 h2
    obtain ⟨a0, a1⟩ := inR_get hx (i := i) (by omega)
    rw [List.getElem_zipWith, List.getElem_replicate, bx_zero' a0 a1]
/-- All of the same length, all bytes. -/
def Good (N : Nat) (ls : List (List Int)) : Prop := ∀ l ∈ ls, l.length = N ∧ InR 256 l
theorem Good.tail {N : Nat} {l : List Int} {ls : List (List Int)} (h : Good N (l :: ls)) : Good N ls := fun x hx => h x (List.mem_cons_of_mem _ hx)
theorem fold_cons (N : Nat) : ∀ (ls : List (List Int)) (z : List Int), Good N ls → z.length = N → InR 256 z → ls.foldl (List.zipWith bx) z = zx z (xorAll N ls)
  | [], z, _, hz, hr => by
    show z = zx z (List.replicate N 0)
    rw [zx_zero hr (by omega)]
  | l :: ls, z, hg, hz, hr => by
    have h1 := hg l List.mem_cons_self
    have hN : (List.replicate N (0 : Int)).length = N := by simp
    have hzl : (zx z l).length = N := by rw [zx_len]; omega
    unfold xorAll
    have e : List.zipWith bx (List.replicate N 0) l = l := zx_zero' h1.2 (by omega)
    rw [List.foldl_cons, List.foldl_cons, fold_cons N ls (zx z l) hg.tail hzl (zx_range _ _), e, fold_cons N ls l hg.tail h1.1 h1.2]
    have hx : InR 256 (xorAll N ls) := Str.xor_range _ _
    rw [zx_assoc hr h1.2 hx]
theorem xorAll_cons {N : Nat} {l : List Int} {ls : List (List Int)} (h : Good N (l :: ls)) : xorAll N (l :: ls) = zx l (xorAll N ls) := by
  have h1 := h l List.mem_cons_self
  show List.foldl (List.zipWith bx) (zx (List.replicate N 0) l) ls = _
  rw [zx_zero' h1.2 (by omega), fold_cons N ls l h.tail h1.1 h1.2]
theorem xorAll_length {N : Nat} {ls : List (List Int)} (h : Good N ls) : (xorAll N ls).length = N := xorAll_len N ls _ (by simp) (fun l hl => (h l hl).1)
theorem xorAll_mid {N : Nat} (l : List Int) : ∀ (xs ys : List (List Int)), Good N (xs ++ l :: ys) → xorAll N (xs ++ l :: ys) = zx l (xorAll N (xs ++ ys))
  | [], ys, h => xorAll_cons h
  | x :: xs, ys, h => by
    have hx := h x List.mem_cons_self
    have hl := h l (by simp)
    have ht : Good N (xs ++ l :: ys) := Good.tail h
    have ht2 : Good N (xs ++ ys) := fun y hy => ht y (by rcases List.mem_append.1 hy with h1 | h1; exact List.mem_append_left _ h1; exact List.mem_append_right _ (List.mem_cons_of_mem _ h1))
    have h2 : Good N (x :: (xs ++ ys)) := fun y hy => by
      rcases List.mem_cons.1 hy with rfl | hy
      · exact hx
      · exact ht2 y hy
    have h' : Good N (x :: (xs ++ l :: ys)) := h
    rw [List.cons_append, xorAll_cons h', xorAll_mid l xs ys ht, List.cons_append, xorAll_cons h2]
    have hr : InR 256 (xorAll N (xs ++ ys)) := Str.xor_range _ _
    rw [← zx_assoc hx.2 hl.2 hr, zx_comm hx.2 hl.2 (by rw [hx.1, hl.1]), zx_assoc hl.2 hx.2 hr]
/-- What is missing. -/
theorem xor_missing {N : Nat} (l : List Int) (xs ys : List (List Int)) (h : Good N (xs ++ l :: ys)) : xorAll N (xorAll N (xs ++ l :: ys) :: (xs ++ ys)) = l := by
  have hl := h l (by simp)
  have ht2 : Good N (xs ++ ys) := fun y hy => h y (by rcases List.mem_append.1 hy with h1 | h1; exact List.mem_append_left _ h1; exact List.mem_append_right _ (List.mem_cons_of_mem _ h1))
  have hr : InR 256 (xorAll N (xs ++ ys)) := Str.xor_range _ _
  have hP : xorAll N (xs ++ l :: ys) = zx l (xorAll N (xs ++ ys)) := xorAll_mid l xs ys h
  rw [xorAll_cons (l := xorAll N (xs ++ l :: ys)) (fun y hy => by
    rcases List.mem_cons.1 hy with rfl | hy
    · exact ⟨xorAll_length h, Str.xor_range _ _⟩
    · exact ht2 y hy), hP, zx_assoc hl.2 hr hr, zx_self hr, xorAll_length ht2, zx_zero hl.2 (by omega)]
/-! ### which members -/
def memOf (k s : Int) : Int := if k ≤ s then s + 1 else s
theorem upTo_but (k : Int) (hk : 0 ≤ k) : ∀ i : Nat, (upTo i).filter (fun n => decide (n ≠ k)) = (upTo (if (i : Int) ≤ k then i else i - 1)).map (memOf k)
  | 0 => by simp [upTo]
  | i + 1 => by
    rw [upTo_succ, List.filter_append, upTo_but k hk i]
    by_cases h1 : (i : Int) = k
    · rw [if_pos (by omega), if_neg (by omega)]
      simp [h1]
    · by_cases h2 : (i : Int) ≤ k
      · rw [if_pos h2, if_pos (by omega), upTo_succ, List.map_append]
        simp [h1, memOf, show ¬ k ≤ (i : Int) by omega]
      · rw [if_neg h2, if_neg (by omega), show i + 1 - 1 = (i - 1) + 1 by omega, upTo_succ, List.map_append]
        have : memOf k ((i - 1 : Nat) : Int) = i := by unfold memOf; rw [if_pos (by omega)]; omega
        simp [h1, this]
end Go.Proofs.YteofgpaceeibpaaGreat.AXor
namespace Go.Proofs.YteofgpaceeibpaaGreat.AStr
open Go.RowKit Gab Geom Par Fields Seal AOrd AWrA ARead Miss AAgn AXor
open Wr (InR)
open Str (parOf take_snoc)
open Go.Proofs.YteofgpaceeibpaaGreat.Open (openOf)
set_option linter.unusedVariables false
set_option linter.unusedSimpArgs false

/-- Pages that may be written. -/
structure LOk (g : Geo) (l : List (Head × List Int)) : Prop where
  len : (l.length : Int) = g.c - 1
  head : ∀ q ∈ l, q.1.Ok ∧ 1 ≤ q.1.kind ∧ q.1.kind ≤ 6
  data : ∀ q ∈ l, (q.2.length : Int) = g.s ∧ InR 256 q.2
theorem getD_mem {α : Type} {l : List α} {i : Nat} (h : i < l.length) (d : α) : l.getD i d ∈ l := by rw [List.getD_eq_getElem?_getD, List.getElem?_eq_getElem h]; exact List.getElem_mem h
theorem nil_range : InR 256 [] := fun x hx => by cases hx
/-- A member's page. -/
theorem data_page {g : Geo} {l : List (Head × List Int)} (hg : g.Ok) (hl : LOk g l) {seg row m : Int} (hm0 : 0 ≤ m) (hm1 : m < g.c) (hd : m ≠ g.par seg row) :
    ∃ sl : Nat, sl < l.length ∧ (sl : Int) = g.slot seg row m ∧ pageOf g l seg row m = ((l.getD sl noPage).2, sealOf (l.getD sl noPage).1 (l.getD sl noPage).2 []) := by
  have hdt : g.isData seg row m = true := by unfold Geo.isData; simpa using hd
  obtain ⟨h0, h1⟩ := slot_range hg hm0 hm1 hdt
  have hlen := hl.len
  refine ⟨(g.slot seg row m).toNat, by omega, by omega, ?_⟩
  unfold pageOf
  rw [if_pos hdt]
  exact sealed_get (by omega)
theorem par_page {g : Geo} {l : List (Head × List Int)} (seg row : Int) : pageOf g l seg row (g.par seg row) = parPage g l seg row := by
  unfold pageOf
  rw [if_neg (by unfold Geo.isData; simp)]
theorem good_data {g : Geo} {l : List (Head × List Int)} (hl : LOk g l) (hg : g.Ok) : AXor.Good g.s.toNat ((sealedOf l).map (·.1)) := by
  intro x hx
  obtain ⟨q, hq, rfl⟩ := List.mem_map.1 hx
  obtain ⟨q', hq', rfl⟩ := List.mem_map.1 hq
  have h1 := hl.data q' hq'
  have h2 := hg.s
  exact ⟨by show q'.2.length = _; omega, h1.2⟩
theorem good_heads {g : Geo} {l : List (Head × List Int)} (hl : LOk g l) : AXor.Good 32 ((sealedOf l).map fun p => p.2.take 32) := by
  intro x hx
  obtain ⟨q, hq, rfl⟩ := List.mem_map.1 hx
  obtain ⟨q', hq', rfl⟩ := List.mem_map.1 hq
  refine ⟨?_, fun y hy => seal_range (h := q'.1) (data := q'.2) nil_range y (List.mem_of_mem_take hy)⟩
  show ((sealOf q'.1 q'.2 []).take 32).length = 32
  rw [List.length_take, sealOf_len]
  rfl
theorem par_open {g : Geo} {l : List (Head × List Int)} (hg : g.Ok) (hl : LOk g l) {seg row : Int} (ha : g.At seg row) : openOf (parPage g l seg row).1 (parPage g l seg row).2 = (parHead l seg row, true) := by
  have h0 : 0 < l.length := by have := hl.len; have := hg.c; omega
  have hh := (hl.head _ (getD_mem h0 noPage)).1
  have ha1 := ha.seg
  have ha2 := ha.row
  have hb := hg.b
  have hp := hg.p
  have hpo : (parHead l seg row).Ok := ⟨by show (0 : Int) ≤ 5 ∧ (5 : Int) < 256; decide, hh.epoch, hh.batch, by show 0 ≤ row ∧ row < 65536; omega, by show 0 ≤ seg ∧ seg < 65536; omega, by show (0 : Int) ≤ 0 ∧ (0 : Int) < 4294967296; decide, by show (0 : Int) ≤ 0 ∧ (0 : Int) < 4294967296; decide⟩
  exact OS.open_seal hpo (by show (1 : Int) ≤ 5; decide) (by show (5 : Int) ≤ 6; decide) (Str.xor_range _ _)
/-- What a member's page is: as long as it must be, sealed. -/
theorem page_ok {g : Geo} {l : List (Head × List Int)} (hg : g.Ok) (hl : LOk g l) {seg row m : Int} (ha : g.At seg row) (hm0 : 0 ≤ m) (hm1 : m < g.c) :
    ((pageOf g l seg row m).1.length : Int) = g.s ∧ (pageOf g l seg row m).2.length = 64 ∧ ∃ h, openOf (pageOf g l seg row m).1 (pageOf g l seg row m).2 = (h, true) := by
  have hgs := hg.s
  by_cases hd : m = g.par seg row
  · subst hd
    rw [par_page]
    refine ⟨?_, sealOf_len _ _ _, parHead l seg row, ?_⟩
    · have := xorAll_length (good_data hl hg)
      show ((xorAll g.s.toNat ((sealedOf l).map (·.1))).length : Int) = g.s
      omega
    · exact par_open hg hl ha
  · obtain ⟨sl, h1, h2, h3⟩ := data_page hg hl hm0 hm1 hd
    rw [h3]
    have hd := hl.data _ (getD_mem h1 noPage)
    have hh := hl.head _ (getD_mem h1 noPage)
    exact ⟨hd.1, sealOf_len _ _ _, _, OS.open_seal hh.1 hh.2.1 hh.2.2 nil_range⟩
theorem mem_is (g : Geo) (seg row s : Int) : g.mem seg row s = memOf (g.par seg row) s := rfl
theorem slot_mem {g : Geo} (hg : g.Ok) (seg row s : Int) (h0 : 0 ≤ s) : g.slot seg row (g.mem seg row s) = s := by
  obtain ⟨h1, h2⟩ := par_range hg seg row
  unfold Geo.slot Geo.mem
  by_cases h : g.par seg row ≤ s
  · rw [if_pos h, if_neg (by omega), if_pos (by omega)]; omega
  · rw [if_neg h, if_neg (by omega), if_neg (by omega)]
theorem filter_and {α : Type} (p q : α → Bool) (l : List α) : l.filter (fun x => p x && q x) = (l.filter q).filter p := List.filter_filter.symm
theorem pick_but (L : List (List Int × List Int)) (d : List Int × List Int) (sl : Nat) (hs : sl < L.length) : ((upTo L.length).filter fun t => decide (t ≠ (sl : Int))).map (fun t => L.getD t.toNat d) = L.take sl ++ L.drop (sl + 1) := by
  rw [upTo_but (sl : Int) (by omega) L.length, if_neg (by omega), List.map_map]
  apply List.ext_getElem
  · simp [upTo]; omega
  · intro i h1 h2
    have hi : i < L.length - 1 := by simpa [upTo] using h1
    rw [List.getElem_map]
    have hu : (upTo (L.length - 1))[i]'(by simpa [upTo] using hi) = (i : Int) := by simp [upTo]
    rw [hu]
    show L.getD (memOf (sl : Int) (i : Int)).toNat d = _
    by_cases hle : sl ≤ i
    · have e : (memOf (sl : Int) (i : Int)).toNat = i + 1 := by unfold memOf; rw [if_pos (by omega)]; omega
      rw [e, List.getElem_append_right (by simp; omega), List.getD_eq_getElem?_getD, List.getElem?_eq_getElem (by omega)]
      simp
      congr 1
      omega
    · have e : (memOf (sl : Int) (i : Int)).toNat = i := by unfold memOf; rw [if_neg (by omega)]; omega
      rw [e, List.getElem_append_left (by simp; omega), List.getD_eq_getElem?_getD, List.getElem?_eq_getElem (by omega)]
      simp
theorem split_at {α : Type} (L : List α) (sl : Nat) (hs : sl < L.length) (d : α) : L = L.take sl ++ L.getD sl d :: L.drop (sl + 1) := by
  rw [List.getD_eq_getElem?_getD, List.getElem?_eq_getElem hs, Option.getD_some, ← List.drop_eq_getElem_cons hs, List.take_append_drop]


/-- All others of the missing member's stripe: the pages but its own, in their order. -/
theorem others_are {g : Geo} {l : List (Head × List Int)} {seg row : Int} {sl : Nat} (hg : g.Ok) (hl : LOk g l) (hsl : sl < l.length) {fD fO : Int → List Int} (hf : ∀ n, 0 ≤ n → n < g.c → n ≠ g.mem seg row sl → fD n = (pageOf g l seg row n).1 ∧ fO n = (pageOf g l seg row n).2) :
    othersTo (g.par seg row) (g.mem seg row sl) fD fO g.c.toNat = (sealedOf l).take sl ++ (sealedOf l).drop (sl + 1) := by
  have hlen := hl.len
  have hc := hg.c
  have hL : (sealedOf l).length = l.length := by simp [sealedOf]
  obtain ⟨k0, k1⟩ := par_range hg seg row
  rw [← pick_but (sealedOf l) ([], []) sl (by omega), hL]
  unfold othersTo
  rw [filter_and, upTo_but _ k0 g.c.toNat, if_neg (by omega), List.filter_map, List.map_map, show g.c.toNat - 1 = l.length by omega]
  have hin : ∀ t ∈ upTo l.length, 0 ≤ t ∧ t < (l.length : Int) := by
    intro t ht
    unfold upTo at ht
    obtain ⟨k, hk, rfl⟩ := List.mem_map.1 ht
    have := List.mem_range.1 hk
    simp only [Int.ofNat_eq_natCast]
    omega
  have hinj : ∀ t ∈ upTo l.length, (memOf (g.par seg row) t = g.mem seg row sl ↔ t = (sl : Int)) := by
    intro t ht
    have := hin t ht
    rw [mem_is]
    unfold memOf
    constructor
    · intro e; split at e <;> split at e <;> omega
    · rintro rfl; rfl
  have hff : (upTo l.length).filter ((fun n => decide (n ≠ g.mem seg row sl)) ∘ memOf (g.par seg row)) = (upTo l.length).filter fun t => decide (t ≠ (sl : Int)) := by
    apply List.filter_congr
    intro t ht
    simp only [Function.comp, decide_eq_decide, ne_eq]
    exact not_congr (hinj t ht)
  rw [hff]
  apply List.map_congr_left
  intro t ht
  have htm := (List.mem_filter.1 ht).1
  have htn : t ≠ (sl : Int) := by simpa using (List.mem_filter.1 ht).2
  obtain ⟨t0, t1⟩ := hin t htm
  have hmx : memOf (g.par seg row) t ≠ g.mem seg row sl := fun e => htn ((hinj t htm).1 e)
  have hr := mem_range hg seg row t t0 (by omega)
  rw [mem_is] at hr
  have hp := hf _ hr.1 hr.2.1 hmx
  simp only [Function.comp]
  rw [hp.1, hp.2]
  have hd : g.isData seg row (memOf (g.par seg row) t) = true := by unfold Geo.isData; simpa using hr.2.2
  unfold pageOf
  rw [if_pos hd, ← mem_is, slot_mem hg seg row t t0]
theorem head_even {g : Geo} {l : List (Head × List Int)} {seg row : Int} (hl : LOk g l) : (parPage g l seg row).2.drop 32 = xorAll 32 ((sealedOf l).map fun p => p.2.take 32) := by
  show (sealOf _ _ _).drop 32 = _
  rw [OS.seal_tail]
  have h1 := xorAll_length (good_heads hl)
  unfold tailOf
  rw [List.take_of_length_le (by omega), Wr.padTo_le (by omega)]
theorem seal_whole (h : Head) (data : List Int) : (sealOf h data []).take 32 ++ List.replicate 32 0 = sealOf h data [] := by
  have h1 := OS.seal_tail h data []
  have h2 : tailOf [] = List.replicate 32 0 := rfl
  rw [h2] at h1
  rw [← h1, List.take_append_drop]
/-- What is made is what was written. -/
theorem makes {g : Geo} {l : List (Head × List Int)} {seg row : Int} {sl : Nat} (hg : g.Ok) (hl : LOk g l) (hsl : sl < l.length) {fD fO : Int → List Int} (hf : ∀ n, 0 ≤ n → n < g.c → n ≠ g.mem seg row sl → fD n = (pageOf g l seg row n).1 ∧ fO n = (pageOf g l seg row n).2) :
    missD g.s.toNat (fD (g.par seg row)) (othersTo (g.par seg row) (g.mem seg row sl) fD fO g.c.toNat) = (l.getD sl noPage).2 ∧
    missO (fO (g.par seg row)) (othersTo (g.par seg row) (g.mem seg row sl) fD fO g.c.toNat) = sealOf (l.getD sl noPage).1 (l.getD sl noPage).2 [] := by
  have hlen := hl.len
  have hc := hg.c
  have hgs := hg.s
  obtain ⟨k0, k1⟩ := par_range hg seg row
  have hr := mem_range hg seg row sl (by omega) (by omega)
  have hpp := hf _ k0 k1 (fun e => hr.2.2 e.symm)
  rw [par_page] at hpp
  have hL : (sealedOf l).length = l.length := by simp [sealedOf]
  have hsp := split_at (sealedOf l) sl (by omega) ([], [])
  rw [sealed_get hsl] at hsp
  have hoth := others_are hg hl hsl hf
  rw [hpp.1, hpp.2, hoth]
  constructor
  · show xorAll _ (xorAll g.s.toNat ((sealedOf l).map (·.1)) :: _) = _
    have hgd := good_data hl hg
    have hm : ((sealedOf l).map (·.1)) = ((sealedOf l).take sl).map (·.1) ++ (l.getD sl noPage).2 :: ((sealedOf l).drop (sl + 1)).map (·.1) := by
      conv => lhs; rw [hsp]
      rw [List.map_append, List.map_cons]
    rw [hm] at hgd ⊢
    rw [List.map_append]
    exact xor_missing _ _ _ hgd
  · unfold missO
    rw [head_even hl]
    have hgh := good_heads hl
    have hx : xorAll 32 (xorAll 32 ((sealedOf l).map fun p => p.2.take 32) :: ((sealedOf l).take sl ++ (sealedOf l).drop (sl + 1)).map fun p => p.2.take 32) = (sealOf (l.getD sl noPage).1 (l.getD sl noPage).2 []).take 32 := by
      have hm : ((sealedOf l).map fun p => p.2.take 32) = ((sealedOf l).take sl).map (fun p => p.2.take 32) ++ (sealOf (l.getD sl noPage).1 (l.getD sl noPage).2 []).take 32 :: ((sealedOf l).drop (sl + 1)).map (fun p => p.2.take 32) := by
        conv => lhs; rw [hsp]
        rw [List.map_append, List.map_cons]
      rw [hm] at hgh ⊢
      rw [List.map_append]
      exact xor_missing _ _ _ hgh
    rw [hx]
    exact seal_whole _ _
theorem page_range {g : Geo} {l : List (Head × List Int)} (hg : g.Ok) (hl : LOk g l) {seg row m : Int} (hm0 : 0 ≤ m) (hm1 : m < g.c) : InR 256 (pageOf g l seg row m).1 ∧ InR 256 (pageOf g l seg row m).2 := by
  by_cases hd : m = g.par seg row
  · subst hd
    rw [par_page]
    exact ⟨Str.xor_range _ _, seal_range (Str.xor_range _ _)⟩
  · obtain ⟨sl, h1, h2, h3⟩ := data_page hg hl hm0 hm1 hd
    rw [h3]
    exact ⟨(hl.data _ (getD_mem h1 noPage)).2, seal_range nil_range⟩
end Go.Proofs.YteofgpaceeibpaaGreat.AStr
namespace Go.Proofs.YteofgpaceeibpaaGreat.TcPA
open Go.RowKit Gab Geom Par Fields Seal Nand NandC NandH RemapA VolA MemA MemC ArrA ArrC ArrD AOrd AWrA StgA ARead AGet Miss AAgn AMade HeldA AllA PlA AStr
open Wr (InR)
open Go.Proofs.YteofgpaceeibpaaGreat.Open (openOf)
open Blank (allFF)
open ARowW (Scan)
set_option linter.unusedVariables false
set_option linter.unusedSimpArgs false

/-- An array that is read: which chip a member has, which member is dead (-1: none). -/
structure Rdy (σ : Ar) (g : Geo) (V : View) (ch : Nat → Nat) (dm : Int) : Prop where
  sees : Sees σ.s g V
  ok : g.Ok
  lost : σ.lost = false
  dead : σ.set.dead = if dm < 0 then 255 else dm
  rng : -1 ≤ dm ∧ dm < g.c
  chip : ∀ n : Nat, (n : Int) < g.c → σ.chip n = ch n
  vol : ∀ n : Nat, (n : Int) < g.c → (n : Int) ≠ dm → σ.vol (ch n) = some (tb g)
  live : ∀ n : Nat, (n : Int) < g.c → (n : Int) ≠ dm → V.dead (ch n) = false
theorem Rdy.seen {σ : Ar} {g : Geo} {V W : View} {ch : Nat → Nat} {dm : Int} (h : Rdy σ g V ch dm) {s' : St} (hs : Sees s' g W) (hd : ∀ c, W.dead c = V.dead c) : Rdy { σ with s := s' } g W ch dm :=
  ⟨hs, h.ok, h.lost, h.dead, h.rng, h.chip, h.vol, fun n h1 h2 => (hd _).trans (h.live n h1 h2)⟩
theorem Rdy.there {σ : Ar} {g : Geo} {V : View} {ch : Nat → Nat} {dm : Int} (h : Rdy σ g V ch dm) : σ.There := fun _ m hm hne => by
  rw [h.sees.g] at hm
  have hg := h.ok.c
  have h2 : (m : Int) ≠ dm := fun e => by
    have h3 := h.dead
    have h4 := h.rng
    rw [if_neg (by omega)] at h3
    omega
  exact ⟨_, by rw [h.chip m hm]; exact h.vol m hm h2⟩
theorem Rdy.nd {σ : Ar} {g : Geo} {V : View} {ch : Nat → Nat} {dm : Int} (h : Rdy σ g V ch dm) {n : Nat} (hn : (n : Int) < g.c) (hne : (n : Int) ≠ dm) : σ.set.dead ≠ (n : Int) := by
  have h3 := h.dead
  have hg := h.ok.c
  split at h3 <;> omega
theorem Rdy.read {σ : Ar} {g : Geo} {V : View} {ch : Nat → Nat} {dm : Int} (h : Rdy σ g V ch dm) {n : Nat} (hn : (n : Int) < g.c) (hne : (n : Int) ≠ dm) : σ.read n = ({ σ with s := σ.s.more }, 0) := by
  unfold Ar.read
  rw [h.lost, if_neg (by decide), if_neg (h.nd hn hne), h.sees.read_ok (by rw [h.chip n hn]; exact h.live n hn hne)]
  rfl
theorem Rdy.readd {σ : Ar} {g : Geo} {V : View} {ch : Nat → Nat} {dm : Int} (h : Rdy σ g V ch dm) {n : Nat} (he : (n : Int) = dm) : σ.read n = (σ, 71) := by
  have h3 := h.dead
  rw [if_neg (by omega)] at h3
  unfold Ar.read
  rw [h.lost, if_neg (by decide), if_pos (h3.trans he.symm)]
theorem Rdy.bytes {σ : Ar} {g : Geo} {V : View} {ch : Nat → Nat} {dm : Int} (h : Rdy σ g V ch dm) {n b : Nat} (k : Nat) (hn : (n : Int) < g.c) (hne : (n : Int) ≠ dm) (hb : (b : Int) < g.b - 5) : σ.bytes n b k = σ.s.bytes (ch n) (b + 2) k := by
  have ht : σ.tab (ch n) = tb g := by unfold Ar.tab; rw [h.vol n hn hne]; rfl
  unfold Ar.bytes
  rw [h.chip n hn, ht, at_fmt h.ok hb]
/-- So many pages were read. -/
def adv (σ : Ar) : Nat → Ar
  | 0 => σ
  | k + 1 => { adv σ k with s := (adv σ k).s.more }
theorem adv_same (σ : Ar) : ∀ k, (adv σ k).vol = σ.vol ∧ (adv σ k).set = σ.set ∧ (adv σ k).lost = σ.lost ∧ (adv σ k).s.g = σ.s.g
  | 0 => ⟨rfl, rfl, rfl, rfl⟩
  | k + 1 => adv_same σ k
theorem Rdy.adv {σ : Ar} {g : Geo} {V : View} {ch : Nat → Nat} {dm : Int} (h : Rdy σ g V ch dm) : ∀ k, Rdy (adv σ k) g V ch dm
  | 0 => h
  | k + 1 => (h.adv k).seen (h.adv k).sees.more (fun _ => rfl)
theorem Rdy.safe {σ : Ar} {g : Geo} {V : View} {ch : Nat → Nat} {dm : Int} (h : Rdy σ g V ch dm) {n : Nat} : ∀ k, σ.s.Safe (n + k) → (TcPA.adv σ k).s.Safe n
  | 0, hs => hs
  | k + 1, hs => PlC.safe_more (h.adv k).sees (h.safe (n := n + 1) k (by rw [show n + 1 + k = n + (k + 1) by omega]; exact hs))
/-- How many of the first members are read. -/
def rdn (dm : Int) (i : Nat) : Nat := if 0 ≤ dm ∧ dm < i then i - 1 else i
theorem rdn_succ {dm : Int} {i : Nat} (h : (i : Int) ≠ dm) : rdn dm (i + 1) = rdn dm i + 1 := by
  unfold rdn
  split <;> split <;> omega
theorem rdn_skip {dm : Int} {i : Nat} (h : (i : Int) = dm) : rdn dm (i + 1) = rdn dm i := by
  unfold rdn
  split <;> split <;> omega
theorem rdn_le (dm : Int) (i : Nat) : rdn dm i ≤ i := by unfold rdn; split <;> omega
theorem rdn_zero (dm : Int) : rdn dm 0 = 0 := by unfold rdn; split <;> omega
/-- A member's page is read. -/
theorem Rdy.one {σ : Ar} {g : Geo} {V : View} {ch : Nat → Nat} {dm : Int} (h : Rdy σ g V ch dm) {n b : Nat} (q k : Nat) (hn : (n : Int) < g.c) (hne : (n : Int) ≠ dm) (hb : (b : Int) < g.b - 5) {x : List Int × List Int} (hx : σ.s.bytes (ch n) (b + 2) q = x) (hr : InR 256 x.1 ∧ InR 256 x.2) : One σ n b q (TcPA.adv σ 1, 0) x :=
  ⟨h.read hn hne, by rw [h.bytes q hn hne hb, hx], fun _ => hr⟩
theorem Rdy.oned {σ : Ar} {g : Geo} {V : View} {ch : Nat → Nat} {dm : Int} (h : Rdy σ g V ch dm) {n b : Nat} (q : Nat) (he : (n : Int) = dm) : One σ n b q (σ, 71) (σ.bytes n b q) :=
  ⟨h.readd he, rfl, fun e => absurd (show (71 : Int) = 0 from e) (by decide)⟩
/-- A stripe that stands. -/
structure RowIs (g : Geo) (V : View) (ch : Nat → Nat) (dm : Int) (seg row : Int) (l : List (Head × List Int)) : Prop where
  at_ : g.At seg row
  ok : LOk g l
  pg : ∀ n : Nat, (n : Int) < g.c → (n : Int) ≠ dm → V.pg (ch n) (seg.toNat + 2) row.toNat = some (pageOf g l seg row n)
theorem RowIs.one {σ : Ar} {g : Geo} {V : View} {ch : Nat → Nat} {dm seg row : Int} {l : List (Head × List Int)} (h : Rdy σ g V ch dm) (hr : RowIs g V ch dm seg row l) {n : Nat} (hn : (n : Int) < g.c) (hne : (n : Int) ≠ dm) : One σ n seg.toNat row.toNat (adv σ 1, 0) (pageOf g l seg row n) :=
  h.one _ 0 hn hne (by have := hr.at_.seg; omega) (h.sees.bytes (hr.pg n hn hne)) (page_range h.ok hr.ok (by omega) hn)
theorem reads_of {σ : Ar} {g : Geo} {V : View} {ch : Nat → Nat} {dm seg row : Int} {l : List (Head × List Int)} (h : Rdy σ g V ch dm) (hr : RowIs g V ch dm seg row l) (h0 : 0 ≤ dm) (n0 : Nat) (hs : σ.s.Safe (n0 + g.c.toNat)) :
    Reads σ seg row dm (fun i => adv σ (rdn dm i)) (fun n => (pageOf g l seg row n).1) (fun n => (pageOf g l seg row n).2) := by
  have hg := h.sees.g
  refine ⟨by show adv σ (rdn dm 0) = σ; rw [rdn_zero]; rfl, fun n hn => (h.adv _).there, fun n hn => (adv_same σ _).2.2.2, fun n hn => ⟨0, ?_⟩, fun n hn hne => ?_, fun n he => ?_, fun n n0' n1 hne => ?_⟩
  · rw [hg] at hn
    refine (h.safe (n := 1) (rdn dm n) (hs.le ?_)).le (by omega)
    have := rdn_le dm n
    omega
  · rw [hg] at hn
    show One (adv σ (rdn dm n)) n _ _ (adv σ (rdn dm (n + 1)), 0) _
    rw [rdn_succ hne]
    exact RowIs.one (h.adv _) hr hn hne
  · show adv σ (rdn dm (n + 1)) = adv σ (rdn dm n)
    rw [rdn_skip he]
  · rw [hg] at n1 ⊢
    obtain ⟨a, b, _⟩ := page_ok h.ok hr.ok hr.at_ n0' n1
    obtain ⟨c, d⟩ := page_range h.ok hr.ok (seg := seg) (row := row) n0' n1
    exact ⟨a, b, c, d⟩
/-- A page of a stripe that stands is read. -/
theorem row_ok {σ : Ar} {g : Geo} {V : View} {ch : Nat → Nat} {dm seg row : Int} {l : List (Head × List Int)} (K : ALay) (h : Rdy σ g V ch dm) (hr : RowIs g V ch dm seg row l) {sl : Nat} (hsl : sl < l.length) (n0 : Nat) (hs : σ.s.Safe (n0 + g.c.toNat)) :
    ∃ k, k ≤ g.c.toNat ∧ RdOk K σ (adv σ k) seg row sl (l.getD sl noPage) := by
  have hg := h.sees.g
  have hlen := hr.ok.len
  have hc := h.ok.c
  have hm := mem_range h.ok seg row sl (by omega) (by omega)
  have hh := hr.ok.head _ (getD_mem hsl noPage)
  have hdt := hr.ok.data _ (getD_mem hsl noPage)
  have hopen := OS.open_seal hh.1 hh.2.1 hh.2.2 (data := (l.getD sl noPage).2) nil_range
  have hmt : ((g.mem seg row sl).toNat : Int) = g.mem seg row sl := by omega
  by_cases e : g.mem seg row sl = dm
  · have hrd := reads_of h hr (by omega) n0 hs
    refine ⟨rdn dm g.c.toNat, rdn_le _ _, fun w hA => ?_⟩
    have hmk := makes h.ok hr.ok hsl (seg := seg) (row := row) (fD := fun n => (pageOf g l seg row n).1) (fO := fun n => (pageOf g l seg row n).2) (fun n _ _ _ => ⟨rfl, rfl⟩)
    rw [e] at hmk
    have hpar := par_range h.ok seg row
    have hpo := par_open h.ok hr.ok hr.at_
    have hag := fun (w' : World) (hA' : ArAt w' σ K) => again_calls σ K seg row sl dm (fun i => adv σ (rdn dm i)) (fun n => (pageOf g l seg row n).1) (fun n => (pageOf g l seg row n).2) w' (parHead l seg row) (l.getD sl noPage).1 hA' (by rw [hg]; exact hr.at_) (by rw [hg]; omega) (by rw [hg]; omega) hrd
      (fun n h0 h1 h2 h3 => by
        rw [hg] at h1
        obtain ⟨_, _, hd, hx⟩ := page_ok h.ok hr.ok hr.at_ h0 h1
        rw [hx])
      (by rw [hg, par_page]; exact hpo) rfl
      (by rw [hg, hmk.1, hmk.2]; exact hopen)
    have hrm := Read_made σ σ (adv σ (rdn dm g.c.toNat)) K seg row sl w (l.getD sl noPage).1 (l.getD sl noPage).2 (σ.bytes (g.mem seg row sl).toNat seg.toNat row.toNat) hA h.there (by rw [hg]; exact hr.at_) (by omega) (by rw [hg]; omega) (by rw [hg]; exact h.oned _ (by omega)) 0 (hs.le (by omega)) (fun w' hA' => by
        have h1 := hag w' hA'
        rw [hg, hmk.1] at h1
        rw [hg, e]
        exact h1)
    exact hrm
  · refine ⟨1, by omega, fun w hA => ?_⟩
    obtain ⟨s2, h1, h2, h3⟩ := data_page h.ok hr.ok hm.1 hm.2.1 hm.2.2
    rw [slot_mem h.ok seg row sl (by omega)] at h2
    obtain rfl : s2 = sl := by omega
    have ho := RowIs.one h hr (n := (g.mem seg row s2).toNat) (by omega) (by omega)
    rw [hmt, h3] at ho
    have hrd := Read_direct σ K seg row s2 w (l.getD s2 noPage).1 (adv σ 1, 0) ((l.getD s2 noPage).2, sealOf (l.getD s2 noPage).1 (l.getD s2 noPage).2 []) hA h.there (by rw [hg]; exact hr.at_) (by omega) (by rw [hg]; omega) (by rw [hg]; exact ho.read) rfl (by rw [hg]; exact ho.bytes) hopen (ho.inr rfl) 0 (hs.le (by omega))
    exact hrd
/-- A row is looked at. -/
theorem scan_of {σ : Ar} {g : Geo} {V : View} {ch : Nat → Nat} {dm seg row : Int} (good : Bool) (h : Rdy σ g V ch dm) (ha : g.At seg row) (n0 : Nat) (hs : σ.s.Safe (n0 + g.c.toNat))
    (hx : ∀ n : Nat, (n : Int) < g.c → (n : Int) ≠ dm → ∃ x, (∀ s, Sees s g V → s.bytes (ch n) (seg.toNat + 2) row.toNat = x) ∧ (InR 256 x.1 ∧ InR 256 x.2) ∧ (good = true → (openOf x.1 x.2).2 = true ∧ ¬ (allFF x.1 ∧ allFF x.2)) ∧ (good = false → allFF x.1 ∧ allFF x.2)) : Scan σ seg row dm good (fun i => adv σ (rdn dm i)) := by
  have hg := h.sees.g
  refine ⟨by show adv σ (rdn dm 0) = σ; rw [rdn_zero]; rfl, fun n hn => (h.adv _).there, fun n hn => (adv_same σ _).2.2.2, fun n hn => ⟨0, ?_⟩, by rw [hg]; exact h.rng, fun n hn hne => ?_, fun n hn he => ⟨(adv σ (rdn dm n)).bytes n seg.toNat row.toNat, ?_⟩⟩
  · rw [hg] at hn
    refine (h.safe (n := 1) (rdn dm n) (hs.le ?_)).le (by omega)
    have := rdn_le dm n
    omega
  · rw [hg] at hn
    obtain ⟨x, h1, h2, h3, h4⟩ := hx n hn hne
    refine ⟨x, ?_, h3, h4⟩
    show One (adv σ (rdn dm n)) n _ _ (adv σ (rdn dm (n + 1)), 0) _
    rw [rdn_succ hne]
    exact (h.adv _).one _ 0 hn hne (by have := ha.seg; omega) (h1 _ (h.adv _).sees) h2
  · show One (adv σ (rdn dm n)) n _ _ (adv σ (rdn dm (n + 1)), 71) _
    rw [rdn_skip he]
    exact (h.adv _).oned _ he
end Go.Proofs.YteofgpaceeibpaaGreat.TcPA
namespace Go.Proofs.YteofgpaceeibpaaGreat.TcPB
open Go.RowKit Gab Geom Par Fields Seal Nand NandC NandH RemapA VolA MemA MemC ArrA ArrC ArrD AOrd AWrA StgA ARead AGet Miss AAgn AMade HeldA AllA PlA AStr TcPA
open Wr (InR)
open Go.Proofs.YteofgpaceeibpaaGreat.Open (openOf)
open Blank (allFF)
set_option linter.unusedVariables false
set_option linter.unusedSimpArgs false

def sealed (q : Head × List Int) : List Int × List Int := (q.2, sealOf q.1 q.2 [])
/-- What is held may be. -/
structure HOk (g : Geo) (H : Held) : Prop where
  len : ∀ k, k < 4 → (H.rows k).length ≤ g.p.toNat
  row : ∀ k, k < 4 → ∀ r, r < (H.rows k).length → LOk g ((H.rows k).getD r [])
  few : (H.staged.length : Int) ≤ g.room
  st : ∀ j, j < H.staged.length → (H.staged.getD j noPage).1.Ok ∧ 1 ≤ (H.staged.getD j noPage).1.kind ∧ (H.staged.getD j noPage).1.kind ≤ 6 ∧ ((H.staged.getD j noPage).2.length : Int) = g.s ∧ InR 256 (H.staged.getD j noPage).2
/-- The page that stands at a member's row. -/
def ideal (g : Geo) (H : Held) (n b q : Nat) : Option (List Int × List Int) :=
  if b = 4 then (if (n : Int) < 2 * g.pairs ∧ q * g.pairs.toNat + n / 2 < H.staged.length then some (sealed (H.staged.getD (q * g.pairs.toNat + n / 2) noPage)) else none)
  else if 6 ≤ b ∧ b < 10 then (if q < (H.rows (b - 6)).length then some (pageOf g ((H.rows (b - 6)).getD q []) b q n) else none) else none
def Stand (g : Geo) (V : View) (ch : Nat → Nat) (dm : Int) (H : Held) : Prop := ∀ n : Nat, (n : Int) < g.c → (n : Int) ≠ dm → ∀ b : Nat, 2 ≤ b → (b : Int) < g.b - 5 → ∀ q, V.pg (ch n) (b + 2) q = ideal g H n b q
theorem ideal_row {g : Geo} {H : Held} {n k r : Nat} (hk : k < 4) (hr : r < (H.rows k).length) : ideal g H n (6 + k) r = some (pageOf g ((H.rows k).getD r []) (6 + k) r n) := by
  unfold ideal
  rw [if_neg (by omega), if_pos ⟨by omega, by omega⟩, show 6 + k - 6 = k by omega, if_pos hr]
  rw [show (((6 + k : Nat) : Int)) = 6 + (k : Int) by omega]
theorem Stand.rowIs {g : Geo} {V : View} {ch : Nat → Nat} {dm : Int} {H : Held} (h : Stand g V ch dm H) (hg : g.Ok) (hH : HOk g H) {k r : Nat} (hk : k < 4) (hr : r < (H.rows k).length) : RowIs g V ch dm (6 + k) r ((H.rows k).getD r []) := by
  have hb := hg.b
  have hp := hg.p
  have hl := hH.len k hk
  refine ⟨⟨by omega, by omega⟩, hH.row k hk r hr, fun n hn hne => ?_⟩
  rw [show (6 + (k : Int)).toNat = 6 + k by omega, show ((r : Int)).toNat = r by omega, h n hn hne (6 + k) (by omega) (by omega), ideal_row hk hr]
theorem pairs_is {g : Geo} (hg : g.Ok) : 1 ≤ g.pairs ∧ 2 * g.pairs ≤ g.c ∧ g.pairs ≤ 8 := by have := hg.c; unfold Geo.pairs; omega
/-- Where a staged page stands. -/
theorem ideal_st {g : Geo} (hg : g.Ok) {H : Held} {j n : Nat} (hj : j < H.staged.length) (hn : (n : Int) = 2 * ((j : Int) % g.pairs) ∨ (n : Int) = 2 * ((j : Int) % g.pairs) + 1) : (n : Int) < g.c ∧ (n : Int) < 2 * g.pairs ∧ ideal g H n 4 ((j : Int) / g.pairs).toNat = some (sealed (H.staged.getD j noPage)) := by
  obtain ⟨h1, h2, h3⟩ := pairs_is hg
  have m0 := Int.emod_nonneg (j : Int) (show g.pairs ≠ 0 by omega)
  have m1 := Int.emod_lt_of_pos (j : Int) (show 0 < g.pairs by omega)
  have d0 := Int.ediv_nonneg (show 0 ≤ (j : Int) by omega) (show 0 ≤ g.pairs by omega)
  have hdm := Int.mul_ediv_add_emod (j : Int) g.pairs
  have e : (((j : Int) / g.pairs).toNat * g.pairs.toNat + n / 2 : Nat) = j := by
    have e1 : ((((j : Int) / g.pairs).toNat * g.pairs.toNat : Nat) : Int) = g.pairs * ((j : Int) / g.pairs) := by
      push_cast
      rw [show ((((j : Int) / g.pairs).toNat : Nat) : Int) = (j : Int) / g.pairs by omega, show ((g.pairs.toNat : Nat) : Int) = g.pairs by omega, Int.mul_comm]
    omega
  refine ⟨by omega, by omega, ?_⟩
  unfold ideal
  rw [if_pos rfl, e, if_pos ⟨by omega, hj⟩]
theorem room_at {g : Geo} (hg : g.Ok) {H : Held} (hH : HOk g H) {j : Nat} (hj : j < H.staged.length) : g.At 4 ((j : Int) / g.pairs) := by
  obtain ⟨h1, h2, h3⟩ := pairs_is hg
  have hf := hH.few
  have hb := hg.b
  refine ⟨by omega, Int.ediv_nonneg (by omega) (by omega), ?_⟩
  refine Int.ediv_lt_of_lt_mul (by omega) ?_
  unfold Geo.room at hf
  omega
theorem adv_adv (σ : Ar) (k : Nat) : ∀ j, adv (adv σ k) j = adv σ (k + j)
  | 0 => rfl
  | j + 1 => by
    show { adv (adv σ k) j with s := (adv (adv σ k) j).s.more } = { adv σ (k + j) with s := (adv σ (k + j)).s.more }
    rw [adv_adv σ k j]
theorem sealed_inr {q : Head × List Int} (h : InR 256 q.2) : InR 256 (sealed q).1 ∧ InR 256 (sealed q).2 := ⟨h, seal_range nil_range⟩
/-- A staged page is read. -/
theorem st_ok {σ : Ar} {g : Geo} {V : View} {ch : Nat → Nat} {dm : Int} {H : Held} (K : ALay) (h : Rdy σ g V ch dm) (hS : Stand g V ch dm H) (hH : HOk g H) {j : Nat} (hj : j < H.staged.length) (n0 : Nat) (hs : σ.s.Safe (n0 + 2)) :
    ∃ k, k ≤ 2 ∧ GtOk K σ (adv σ k) j (H.staged.getD j noPage) := by
  have hg := h.sees.g
  obtain ⟨h1, h2, h3⟩ := pairs_is h.ok
  have hb := h.ok.b
  obtain ⟨q1, q2, q3, q4, q5⟩ := hH.st j hj
  have hat := room_at h.ok hH hj
  have m0 := Int.emod_nonneg (j : Int) (show g.pairs ≠ 0 by omega)
  have m1 := Int.emod_lt_of_pos (j : Int) (show 0 < g.pairs by omega)
  have hopen : openOf (sealed (H.staged.getD j noPage)).1 (sealed (H.staged.getD j noPage)).2 = ((H.staged.getD j noPage).1, true) := OS.open_seal q1 q2 q3 nil_range
  have hlast : ∀ (τ : Ar) (n : Nat), Rdy τ g V ch dm → ((n : Int) = 2 * ((j : Int) % g.pairs) ∨ (n : Int) = 2 * ((j : Int) % g.pairs) + 1) → (n : Int) ≠ dm → Last τ n 4 ((j : Int) / g.pairs).toNat (H.staged.getD j noPage).1 (H.staged.getD j noPage).2 (adv τ 1) := fun τ n hr hn hne => by
    obtain ⟨i1, i2, i3⟩ := ideal_st h.ok hj hn
    refine ⟨sealed (H.staged.getD j noPage), hr.one _ 0 i1 hne (by omega) (hr.sees.bytes ?_) (sealed_inr q5), hopen, rfl⟩
    rw [hS n i1 hne 4 (by decide) (by omega), i3]
  have hfew := hH.few
  have hget : ∀ σ' : Ar, Gets σ (2 * ((j : Int) % g.pairs)).toNat 4 ((j : Int) / g.pairs).toNat (H.staged.getD j noPage).1 (H.staged.getD j noPage).2 σ' → GtOk K σ σ' j (H.staged.getD j noPage) := fun σ' hgt w hA => by
    have hc := Get_calls σ σ' K 0 j (H.staged.getD j noPage).1 (H.staged.getD j noPage).2 w hA h.there ⟨by decide, by decide⟩ (by omega) (by rw [hg]; omega) (by rw [hg]; exact hgt) n0 hs
    exact hc
  by_cases e : (((2 * ((j : Int) % g.pairs)).toNat : Nat) : Int) = dm
  · exact ⟨1, by decide, hget _ (.inr ⟨σ, 71, _, h.there, h.oned _ e, .inl rfl, hlast σ _ h (.inr (by omega)) (by omega)⟩)⟩
  · exact ⟨1, by decide, hget _ (.inl (hlast σ _ h (.inl (by omega)) e))⟩
/-- So many reads are left. -/
def RI (σ : Ar) (n : Nat) (τ : Ar) : Prop := (∃ k, τ = adv σ k) ∧ τ.s.Safe (20 * n)
/-- All that is held can be read. -/
theorem tells {σ : Ar} {g : Geo} {V : View} {ch : Nat → Nat} {dm : Int} {H : Held} (K : ALay) (h : Rdy σ g V ch dm) (hS : Stand g V ch dm H) (hH : HOk g H) : Tells K g H (RI σ) (fun _ => True) := by
  have hc := h.ok.c
  have hp := h.ok.p
  have hpr := pairs_is h.ok
  refine ⟨fun n τ hI => ?_, fun n m τ hI hm => ⟨hI.1, hI.2.le (by omega)⟩, ?_, ?_, ?_, ?_, ?_, ?_⟩
  · obtain ⟨⟨k, rfl⟩, _⟩ := hI
    exact (adv_same σ k).2.2.2.trans h.sees.g
  · rintro n τ ⟨⟨k, rfl⟩, hs⟩ i hi _ m hm s hsl
    have hr := h.adv k
    obtain ⟨j, hj, hrd⟩ := row_ok K hr (hS.rowIs h.ok hH hi hm) hsl (20 * n + 4) (hs.le (by omega))
    exact ⟨adv (adv σ k) j, ⟨⟨k + j, adv_adv σ k j⟩, hr.safe j (hs.le (by omega))⟩, hrd⟩
  · rintro n τ ⟨⟨k, rfl⟩, hs⟩ m hm
    have hr := h.adv k
    obtain ⟨j, hj, hrd⟩ := st_ok K hr hS hH hm (20 * n + 4) (hs.le (by omega))
    exact ⟨adv (adv σ k) j, ⟨⟨k + j, adv_adv σ k j⟩, hr.safe j (hs.le (by omega))⟩, trivial, hrd⟩
  · exact fun k hk m hm s hs => ((hH.row k hk m hm).data _ (getD_mem hs noPage)).2
  · exact fun m hm => (hH.st m hm).2.2.2.2
  · refine fun k hk => ⟨by have := hH.len k hk; omega, fun m hm => ?_⟩
    have := (hH.row k hk m hm).len
    omega
  · have hf := hH.few
    unfold Geo.room at hf
    have e : g.p * g.pairs ≤ 32 * 8 := by
      have e1 : g.p * g.pairs ≤ 32 * g.pairs := Int.mul_le_mul_of_nonneg_right (by omega) (by omega)
      omega
    omega
end Go.Proofs.YteofgpaceeibpaaGreat.TcPB

/- The writer of package cursor: each of its methods lays its bytes behind those that are there. | The reader of package cursor, where there are bytes enough. | cursor.Read: a function reads bytes; where it doesn't run out, and where it does. -/
import Derived.Test.YteofgpaceeibpaaGreatProg
import Derived.Test.YteofgpaceeibpaaGreatTkGab
import Derived.Defers
import Derived.Recover
import Derived.Laws.Pointers
namespace Go.Proofs.YteofgpaceeibpaaGreat.Wr
open Go.RowKit Gab
set_option linter.unusedVariables false
set_option linter.unusedSimpArgs false

theorem infoByte : (Tryz.prog.info? 5).map (fun i => (i.zero, i.size, i.bytes)) = some (some (.int .u8 0), 1, 1) := by kernel_rfl

/-- A writer at block p that holds xs: its one cell is a slice of its own, a row from base on. -/
def Wr (w : World) (base p : Nat) (xs : List Int) : Prop :=
  base ≤ p ∧ ∃ v, w.heap[p]? = some (.cells #[v] 182 (0, 0)) ∧ Row 5 .u8 w base v xs
/-- The row's block of a writer. -/
def rowOf (w : World) (p : Nat) : Option Nat := match w.heap[p]? with
  | some (.cells cs _ _) => match cs[0]? with
    | some v => v.ownBlock
    | none => none
  | _ => none
/-- What a writer's method may change: its block, and its row's; its row is the same behind it, or a new one. -/
structure Step (p : Nat) (w w' : World) : Prop where
  fr : Fr (fun b => b = p ∨ rowOf w p = some b) w w'
  row : rowOf w' p = rowOf w p ∨ ∀ b, rowOf w' p = some b → w.heap.size ≤ b
theorem Step.refl (p : Nat) (w : World) : Step p w w := ⟨Fr.refl _ w, .inl rfl⟩
theorem Step.trans {p : Nat} {a b c : World} (h : Step p a b) (k : Step p b c) : Step p a c := by
  refine ⟨h.fr.after k.fr (fun i hi ht => ?_), ?_⟩
  · rcases ht with ht | ht
    · exact .inl ht
    · rcases h.row with hr | hr
      · exact .inr (hr ▸ ht)
      · exact absurd hi (by have := hr i ht; omega)
  · rcases k.row with kr | kr
    · rcases h.row with hr | hr
      · exact .inl (kr.trans hr)
      · exact .inr (fun b hb => hr b (kr ▸ hb))
    · exact .inr (fun b hb => Nat.le_trans h.fr.size (kr b hb))
theorem rowOf_is {w : World} {p : Nat} {v : Value} {T : TypeId} {fr : Nat × Nat} (h : w.heap[p]? = some (.cells #[v] T fr)) : rowOf w p = v.ownBlock := by simp [rowOf, h]

/-- What an append to a writer's slice leaves, once it is stored. -/
theorem wr_put {wr w1 : World} {base p : Nat} {sv v1 : Value} {ys : List Int} (hbp : base ≤ p) (hC : wr.heap[p]? = some (.cells #[sv] 182 (0, 0))) (hH : w1.heap[p]? = some (.cells #[sv] 182 (0, 0)))
    (hR : Row 5 .u8 w1 base v1 ys) (hF : Fr (fun b => sv.ownBlock = some b) wr w1) (hA : v1.ownBlock = sv.ownBlock ∨ ∃ b, v1.ownBlock = some b ∧ wr.heap.size ≤ b) :
    Wr (w1.setCell ⟨p, 0, none⟩ v1) base p ys ∧ Step p wr (w1.setCell ⟨p, 0, none⟩ v1) := by
  have hset := set_of (u := v1) hH
  refine ⟨⟨hbp, v1, hset, hR.fr (S := fun b => b = p) ((Fr.refl (fun b => b = p) w1).setCell (p := ⟨p, 0, none⟩) (fun _ => rfl) v1) (fun b hb e => ?_)⟩, ?_, ?_⟩
  · subst e
    exact Row.ne hR hH (by decide) hb
  · rw [rowOf_is hC]
    exact (hF.mono (fun i _ h => .inr h)).setCell (fun _ => .inl rfl) v1
  · rw [rowOf_is hC, rowOf_is hset]
    rcases hA with h | ⟨b, h, hb⟩
    · exact .inl h
    · exact .inr (fun c hc => by rw [h] at hc; injection hc with hc; omega)

/-- The n lowest bytes of a number, the lowest first. -/
def le : Int → Nat → List Int
  | _, 0 => []
  | v, n + 1 => v % 256 :: le (v / 256) n
theorem le_length : ∀ (n : Nat) (v : Int), (le v n).length = n
  | 0, _ => rfl
  | n + 1, v => by simp [le, le_length n]
theorem le_snoc : ∀ (n : Nat) (v : Int), le v (n + 1) = le v n ++ [v / 256 ^ n % 256]
  | 0, v => by simp [le]
  | n + 1, v => by
    rw [le, le_snoc n, le, List.cons_append, Int.ediv_ediv_of_nonneg (by decide), Int.pow_succ, Int.mul_comm]

set_option maxHeartbeats 1000000 in
set_option maxRecDepth 100000 in
theorem num_calls (base p : Nat) (xs : List Int) (v n : Int) (w : World) (hW : Wr w base p xs) (hb : base ≤ w.heap.size) (hn0 : 0 ≤ n) (hn8 : n ≤ 8) (hv0 : 0 ≤ v) (hl : xs.length ≤ 70368744177664) :
    Calls Tryz.prog 117 #[.pointer (some ⟨p, 0, none⟩), .int .u64 v, .int .i64 n] w fun e w' => e = .returned (.pointer (some ⟨p, 0, none⟩)) ∧ Wr w' base p (xs ++ le v n.toNat) ∧ Step p w w' := by
  have HW := As.mk hW
  have HL := As.mk hl
  clear hW hl
  go_enter Tryz.func117, Tryz.ntmps117
  go_wp2
  go_loopw [1, 10] (fun v1 v10 w' => ∃ i : Nat, v1 = .int .u64 (v / 256 ^ i) ∧ v10 = .int .i64 (i : Int) ∧ (i : Int) ≤ n ∧ As (Wr w' base p (xs ++ le v i)) ∧ As (Step p w w')) (fun _ v10 _ => n.toNat - (intOf v10).toNat)
  case atStart => exact ⟨0, by simp, rfl, by omega, ⟨by simpa [le] using HW.out⟩, ⟨Step.refl p w⟩⟩
  case round =>
    obtain ⟨i, rfl, rfl, hi, HI, HS⟩ := hrel
    by_cases hlt : (i : Int) < n
    · obtain ⟨hbp, sv, hcell, hrow⟩ := HI.out
      have HC := As.mk hcell
      have HR := As.mk hrow
      have hc : wr.cell? ⟨p, 0, none⟩ = some sv := by simp [World.cell?, hcell]
      have hf : wr.frozen? ⟨p, 0, none⟩ = false := by simp [World.frozen?, hcell]
      clear hcell hrow
      have hv : 0 ≤ v / 256 ^ i := Int.ediv_nonneg hv0 (Int.pow_nonneg (by decide))
      have HV : As (v / 256 ^ i / 256 = v / 256 ^ (i + 1)) := ⟨by rw [Int.ediv_ediv_of_nonneg (Int.pow_nonneg (by decide)), Int.pow_succ]⟩

      generalize hvi : v / 256 ^ i = vi at HV hv ⊢
      have HM := As.mk hvi
      clear hvi
      go_wp2_with (at_builtin; (with_reducible refine append1 base rfl _ _ 48 5 .u8 1 rfl Tryz.underlying48 infoByte (by decide) sv (xs ++ le v i) _ rfl rfl HR.out ?c0 ?c1 ?_); (case c0 => have := (HS.out).fr.size; omega); (case c1 => have := HL.out; rw [List.length_append, le_length]; omega); intro v1 w1 hrow1 hfr1 hat1; have hh1 := hfr1.heap HC.out (Row.ne HR.out HC.out (by decide)); have hc1 := cell_of hh1; have hf1 := free_of (i := 0) hh1; have HH1 := As.mk hh1; have HR1 := As.mk hrow1; have HF1 := As.mk hfr1; have HA1 := As.mk hat1; clear hrow1 hfr1 hat1 hh1 hc hf; obtain ⟨A1, n1, c1, e1, _⟩ := HR1.out.rd; subst e1)
      obtain ⟨hw1, hs1⟩ := wr_put hbp HC.out HH1.out HR1.out HF1.out HA1.out
      refine ⟨⟨i + 1, by rw [HV.out], by go_num, by omega, ⟨?_⟩, ⟨HS.out.trans hs1⟩⟩, by simp [intOf]; omega⟩
      rw [le_snoc, ← List.append_assoc, HM.out]
      exact hw1
    · have hin : n.toNat = i := by omega
      go_wp2
      go_ret
      exact ⟨rfl, HI.out, HS.out⟩

/-- Numbers of n bytes each, one behind the other. -/
def les (n : Nat) (l : List Int) : List Int := l.flatMap fun v => le v n
theorem les_length (n : Nat) (l : List Int) : (les n l).length = n * l.length := by
  induction l with
  | nil => simp [les]
  | cons v l ih => simp only [les, List.flatMap_cons, List.length_append, le_length, List.length_cons] at *; rw [ih, Nat.mul_add]; omega
theorem les_snoc (n : Nat) {l : List Int} {i : Nat} (hi : i < l.length) : les n (l.take (i + 1)) = les n (l.take i) ++ le (l.getD i 0) n := by
  unfold les
  rw [List.take_succ_eq_append_getElem hi, List.flatMap_append, List.getD_eq_getElem?_getD, List.getElem?_eq_getElem hi]
  simp only [List.flatMap_cons, List.flatMap_nil, List.append_nil, Option.getD_some]
/-- All from 0 on, below m. -/
def InR (m : Int) (l : List Int) : Prop := ∀ x ∈ l, 0 ≤ x ∧ x < m
theorem inR_at {m : Int} {l : List Int} (h : InR m l) {i : Nat} (hi : i < l.length) : 0 ≤ l.getD i 0 ∧ l.getD i 0 < m := by
  rw [List.getD_eq_getElem?_getD, List.getElem?_eq_getElem hi]
  exact h _ (List.getElem_mem hi)

set_option maxHeartbeats 1000000 in
set_option maxRecDepth 100000 in
theorem U32_calls (base p : Nat) (xs l : List Int) (A : Option Addr) (n c : Nat) (w : World) (hW : Wr w base p xs) (hb : base ≤ w.heap.size) (hR : Rd .u32 w A n l) (hr : InR 4294967296 l)
    (hS : ∀ ad, A = some ad → 0 < n → ¬ (ad.block = p ∨ rowOf w p = some ad.block)) (hl : xs.length + 4 * n ≤ 70368744177664) :
    Calls Tryz.prog 96 #[.pointer (some ⟨p, 0, none⟩), .slice A n c] w fun e w' => e = .returned (.pointer (some ⟨p, 0, none⟩)) ∧ Wr w' base p (xs ++ les 4 l) ∧ Step p w w' := by
  have HW := As.mk hW
  have HL := As.mk hl
  have HR := As.mk hR
  have HI := As.mk hr
  have HS := As.mk hS
  have HN := As.mk hR.1
  have HM := As.mk hR.2.1
  have hn63 : n < 140737488355328 := by omega
  clear hW hl hR hr hS
  go_enter Tryz.func96, Tryz.ntmps96
  go_wp2
  go_loopw [9] (fun v9 w' => ∃ i : Int, v9 = .int .i64 i ∧ 0 ≤ i ∧ i ≤ (n : Int) ∧ As (Wr w' base p (xs ++ les 4 (l.take i.toNat))) ∧ As (Step p w w')) (fun v9 _ => n - (intOf v9).toNat)
  case atStart => exact ⟨0, rfl, by omega, by omega, ⟨by simpa [les] using HW.out⟩, ⟨Step.refl p w⟩⟩
  case round =>
    obtain ⟨i, rfl, hi0, hi, HX, HT⟩ := hrel
    by_cases hlt : i < (n : Int)
    · obtain ⟨ad, rfl, hc⟩ := (HR.out.fr HT.out.fr HS.out).at_ i hi0 hlt
      have hx := inR_at HI.out (i := i.toNat) (by have := HN.out; omega)
      have HE : As (les 4 (l.take (i + 1).toNat) = les 4 (l.take i.toNat) ++ le (l.getD i.toNat 0) 4) := ⟨by rw [show (i + 1).toNat = i.toNat + 1 by omega]; exact les_snoc 4 (by have := HN.out; omega)⟩
      have HK : As ((les 4 (l.take i.toNat)).length ≤ 4 * n) := ⟨by rw [les_length]; exact Nat.mul_le_mul_left _ (Nat.le_trans (List.length_take_le _ _) (by omega))⟩
      generalize l.getD i.toNat 0 = x at *
      obtain ⟨hx0, hx1⟩ := hx
      go_wp2_with (go_at_call 117; (with_reducible refine (num_calls base p (xs ++ les 4 (l.take i.toNat)) x 4 _ HX.out ?b0 (by decide) (by decide) hx0 ?b1).mono ?_); (case b0 => have := HT.out.fr.size; omega); (case b1 => have := HL.out; have := HK.out; rw [List.length_append]; omega); rintro e w1 ⟨rfl, hw1, hs1⟩; have HW1 := As.mk hw1; have HS1 := As.mk hs1; clear hw1 hs1)
      refine ⟨⟨i + 1, by go_num, by omega, by omega, ⟨?_⟩, ⟨HT.out.trans HS1.out⟩⟩, by simp [intOf]; omega⟩
      rw [HE.out, ← List.append_assoc]
      exact HW1.out
    · have HF : As (Wr wr base p (xs ++ les 4 l)) := ⟨by have h := HX.out; rw [List.take_of_length_le (by have := HN.out; omega)] at h; exact h⟩
      go_wp2
      go_ret
      exact ⟨rfl, HF.out, HT.out⟩

set_option maxHeartbeats 1000000 in
set_option maxRecDepth 100000 in
theorem U16_calls (base p : Nat) (xs l : List Int) (A : Option Addr) (n c : Nat) (w : World) (hW : Wr w base p xs) (hb : base ≤ w.heap.size) (hR : Rd .u16 w A n l) (hr : InR 65536 l)
    (hS : ∀ ad, A = some ad → 0 < n → ¬ (ad.block = p ∨ rowOf w p = some ad.block)) (hl : xs.length + 2 * n ≤ 70368744177664) :
    Calls Tryz.prog 98 #[.pointer (some ⟨p, 0, none⟩), .slice A n c] w fun e w' => e = .returned (.pointer (some ⟨p, 0, none⟩)) ∧ Wr w' base p (xs ++ les 2 l) ∧ Step p w w' := by
  have HW := As.mk hW
  have HL := As.mk hl
  have HR := As.mk hR
  have HI := As.mk hr
  have HS := As.mk hS
  have HN := As.mk hR.1
  have HM := As.mk hR.2.1
  have hn63 : n < 140737488355328 := by omega
  clear hW hl hR hr hS
  go_enter Tryz.func98, Tryz.ntmps98
  go_wp2
  go_loopw [9] (fun v9 w' => ∃ i : Int, v9 = .int .i64 i ∧ 0 ≤ i ∧ i ≤ (n : Int) ∧ As (Wr w' base p (xs ++ les 2 (l.take i.toNat))) ∧ As (Step p w w')) (fun v9 _ => n - (intOf v9).toNat)
  case atStart => exact ⟨0, rfl, by omega, by omega, ⟨by simpa [les] using HW.out⟩, ⟨Step.refl p w⟩⟩
  case round =>
    obtain ⟨i, rfl, hi0, hi, HX, HT⟩ := hrel
    by_cases hlt : i < (n : Int)
    · obtain ⟨ad, rfl, hc⟩ := (HR.out.fr HT.out.fr HS.out).at_ i hi0 hlt
      have hx := inR_at HI.out (i := i.toNat) (by have := HN.out; omega)
      have HE : As (les 2 (l.take (i + 1).toNat) = les 2 (l.take i.toNat) ++ le (l.getD i.toNat 0) 2) := ⟨by rw [show (i + 1).toNat = i.toNat + 1 by omega]; exact les_snoc 2 (by have := HN.out; omega)⟩
      have HK : As ((les 2 (l.take i.toNat)).length ≤ 2 * n) := ⟨by rw [les_length]; exact Nat.mul_le_mul_left _ (Nat.le_trans (List.length_take_le _ _) (by omega))⟩
      generalize l.getD i.toNat 0 = x at *
      obtain ⟨hx0, hx1⟩ := hx
      go_wp2_with (go_at_call 117; (with_reducible refine (num_calls base p (xs ++ les 2 (l.take i.toNat)) x 2 _ HX.out ?b0 (by decide) (by decide) hx0 ?b1).mono ?_); (case b0 => have := HT.out.fr.size; omega); (case b1 => have := HL.out; have := HK.out; rw [List.length_append]; omega); rintro e w1 ⟨rfl, hw1, hs1⟩; have HW1 := As.mk hw1; have HS1 := As.mk hs1; clear hw1 hs1)
      refine ⟨⟨i + 1, by go_num, by omega, by omega, ⟨?_⟩, ⟨HT.out.trans HS1.out⟩⟩, by simp [intOf]; omega⟩
      rw [HE.out, ← List.append_assoc]
      exact HW1.out
    · have HF : As (Wr wr base p (xs ++ les 2 l)) := ⟨by have h := HX.out; rw [List.take_of_length_le (by have := HN.out; omega)] at h; exact h⟩
      go_wp2
      go_ret
      exact ⟨rfl, HF.out, HT.out⟩

set_option maxHeartbeats 1000000 in
set_option maxRecDepth 100000 in
theorem U8_calls (base p : Nat) (xs l : List Int) (A : Option Addr) (n c : Nat) (w : World) (hW : Wr w base p xs) (hb : base ≤ w.heap.size) (hR : Rd .u8 w A n l) (hr : InR 256 l)
    (hS : ∀ ad, A = some ad → 0 < n → ¬ (ad.block = p ∨ rowOf w p = some ad.block)) (hl : xs.length + 1 * n ≤ 70368744177664) :
    Calls Tryz.prog 97 #[.pointer (some ⟨p, 0, none⟩), .slice A n c] w fun e w' => e = .returned (.pointer (some ⟨p, 0, none⟩)) ∧ Wr w' base p (xs ++ les 1 l) ∧ Step p w w' := by
  have HW := As.mk hW
  have HL := As.mk hl
  have HR := As.mk hR
  have HI := As.mk hr
  have HS := As.mk hS
  have HN := As.mk hR.1
  have HM := As.mk hR.2.1
  have hn63 : n < 140737488355328 := by omega
  clear hW hl hR hr hS
  go_enter Tryz.func97, Tryz.ntmps97
  go_wp2
  go_loopw [9] (fun v9 w' => ∃ i : Int, v9 = .int .i64 i ∧ 0 ≤ i ∧ i ≤ (n : Int) ∧ As (Wr w' base p (xs ++ les 1 (l.take i.toNat))) ∧ As (Step p w w')) (fun v9 _ => n - (intOf v9).toNat)
  case atStart => exact ⟨0, rfl, by omega, by omega, ⟨by simpa [les] using HW.out⟩, ⟨Step.refl p w⟩⟩
  case round =>
    obtain ⟨i, rfl, hi0, hi, HX, HT⟩ := hrel
    by_cases hlt : i < (n : Int)
    · obtain ⟨ad, rfl, hc⟩ := (HR.out.fr HT.out.fr HS.out).at_ i hi0 hlt
      have hx := inR_at HI.out (i := i.toNat) (by have := HN.out; omega)
      have HE : As (les 1 (l.take (i + 1).toNat) = les 1 (l.take i.toNat) ++ le (l.getD i.toNat 0) 1) := ⟨by rw [show (i + 1).toNat = i.toNat + 1 by omega]; exact les_snoc 1 (by have := HN.out; omega)⟩
      have HK : As ((les 1 (l.take i.toNat)).length ≤ 1 * n) := ⟨by rw [les_length]; exact Nat.mul_le_mul_left _ (Nat.le_trans (List.length_take_le _ _) (by omega))⟩
      generalize l.getD i.toNat 0 = x at *
      obtain ⟨hx0, hx1⟩ := hx
      go_wp2_with (go_at_call 117; (with_reducible refine (num_calls base p (xs ++ les 1 (l.take i.toNat)) x 1 _ HX.out ?b0 (by decide) (by decide) hx0 ?b1).mono ?_); (case b0 => have := HT.out.fr.size; omega); (case b1 => have := HL.out; have := HK.out; rw [List.length_append]; omega); rintro e w1 ⟨rfl, hw1, hs1⟩; have HW1 := As.mk hw1; have HS1 := As.mk hs1; clear hw1 hs1)
      refine ⟨⟨i + 1, by go_num, by omega, by omega, ⟨?_⟩, ⟨HT.out.trans HS1.out⟩⟩, by simp [intOf]; omega⟩
      rw [HE.out, ← List.append_assoc]
      exact HW1.out
    · have HF : As (Wr wr base p (xs ++ les 1 l)) := ⟨by have h := HX.out; rw [List.take_of_length_le (by have := HN.out; omega)] at h; exact h⟩
      go_wp2
      go_ret
      exact ⟨rfl, HF.out, HT.out⟩


set_option maxHeartbeats 1000000 in
set_option maxRecDepth 100000 in
theorem Raw_calls (base p : Nat) (xs ys : List Int) (A : Option Addr) (n c : Nat) (w : World) (hW : Wr w base p xs) (hb : base ≤ w.heap.size) (hR : Rd .u8 w A n ys) (hl : xs.length + n ≤ 70368744177664) :
    Calls Tryz.prog 112 #[.pointer (some ⟨p, 0, none⟩), .slice A n c] w fun e w' => e = .returned (.pointer (some ⟨p, 0, none⟩)) ∧ Wr w' base p (xs ++ ys) ∧ Step p w w' := by
  have HL := As.mk hl
  have HY := As.mk hR
  obtain ⟨hbp, sv, hcell, hrow⟩ := hW
  have HC := As.mk hcell
  have HR := As.mk hrow
  have hc : w.cell? ⟨p, 0, none⟩ = some sv := cell_of hcell
  clear hl hR hcell hrow
  go_enter Tryz.func112, Tryz.ntmps112
  go_wp2_with (at_builtin; (with_reducible refine appendRow base rfl _ _ 48 5 .u8 1 rfl Tryz.underlying48 infoByte (by decide) sv xs ys A n c rfl rfl HR.out HY.out hb ?c1 ?_); (case c1 => have := HL.out; omega); intro v1 w1 hrow1 hfr1 hat1; have hh1 := hfr1.heap HC.out (Row.ne HR.out HC.out (by decide)); have hc1 := cell_of hh1; have hf1 := free_of (i := 0) hh1; have HH1 := As.mk hh1; have HR1 := As.mk hrow1; have HF1 := As.mk hfr1; have HA1 := As.mk hat1; clear hrow1 hfr1 hat1 hh1 hc; obtain ⟨A1, n1, c1, e1, _⟩ := HR1.out.rd; subst e1)
  go_ret
  obtain ⟨hw1, hs1⟩ := wr_put hbp HC.out HH1.out HR1.out HF1.out HA1.out
  exact ⟨rfl, hw1, hs1⟩

/-- With noughts up to a length. -/
def padTo (xs : List Int) (n : Nat) : List Int := xs ++ List.replicate (n - xs.length) 0
theorem padTo_le {xs : List Int} {n : Nat} (h : n ≤ xs.length) : padTo xs n = xs := by unfold padTo; rw [show n - xs.length = 0 by omega]; simp
theorem padTo_snoc {xs : List Int} {n : Nat} (h : xs.length < n) : padTo (xs ++ [0]) n = padTo xs n := by
  unfold padTo
  rw [List.length_append, List.length_singleton, show n - xs.length = (n - (xs.length + 1)) + 1 by omega, List.replicate_succ, List.append_assoc]
  rfl
theorem padTo_length (xs : List Int) (n : Nat) : (padTo xs n).length = max n xs.length := by unfold padTo; simp; omega

set_option maxHeartbeats 1000000 in
set_option maxRecDepth 100000 in
theorem Pad_calls (base p : Nat) (xs : List Int) (n : Int) (w : World) (hW : Wr w base p xs) (hb : base ≤ w.heap.size) (hn : n ≤ 70368744177664) (hl : xs.length ≤ 70368744177664) :
    Calls Tryz.prog 99 #[.pointer (some ⟨p, 0, none⟩), .int .i64 n] w fun e w' => e = .returned (.pointer (some ⟨p, 0, none⟩)) ∧ Wr w' base p (padTo xs n.toNat) ∧ Step p w w' := by
  have HW := As.mk hW
  have HL := As.mk hl
  have HN := As.mk hn
  clear hW hl hn
  go_enter Tryz.func99, Tryz.ntmps99
  go_wp2
  go_loopg [] (n.toNat - xs.length) (fun g w' => ∃ ys, As (Wr w' base p ys) ∧ As (padTo ys n.toNat = padTo xs n.toNat ∧ n.toNat - ys.length = g ∧ xs.length ≤ ys.length ∧ ys.length ≤ 70368744177664) ∧ As (Step p w w'))
  case atStart => exact ⟨xs, HW, ⟨rfl, rfl, Nat.le_refl _, HL.out⟩, ⟨Step.refl p w⟩⟩
  case round =>
    obtain ⟨ys, HY, HP, HS⟩ := hrel
    obtain ⟨hbp, sv, hcell, hrow⟩ := HY.out
    have HC := As.mk hcell
    have HR := As.mk hrow
    have hc : wr.cell? ⟨p, 0, none⟩ = some sv := cell_of hcell
    have hf : wr.frozen? ⟨p, 0, none⟩ = false := free_of hcell
    clear hcell hrow
    obtain ⟨A0, m0, c0, e0, HM, HD, _⟩ := HR.out.rd
    subst e0
    have HE : As (ys.length = m0) := ⟨HD.out.1⟩
    have hm63 : m0 ≤ 70368744177664 := by have := HE.out; have := HP.out.2.2.2; omega
    by_cases hlt : (m0 : Int) < n
    · go_wp2_with (at_builtin; (with_reducible refine append1 base rfl _ _ 48 5 .u8 1 rfl Tryz.underlying48 infoByte (by decide) (.slice A0 m0 c0) ys _ rfl rfl HR.out ?c0 ?c1 ?_); (case c0 => have := (HS.out).fr.size; omega); (case c1 => have := HP.out.2.2.2; omega); intro v1 w1 hrow1 hfr1 hat1; have hh1 := hfr1.heap HC.out (Row.ne HR.out HC.out (by decide)); have hc1 := cell_of hh1; have hf1 := free_of (i := 0) hh1; have HH1 := As.mk hh1; have HR1 := As.mk hrow1; have HF1 := As.mk hfr1; have HA1 := As.mk hat1; clear hrow1 hfr1 hat1 hh1 hc hf; obtain ⟨A1, n1, c1, e1, _⟩ := HR1.out.rd; subst e1)
      obtain ⟨hw1, hs1⟩ := wr_put hbp HC.out HH1.out HR1.out HF1.out HA1.out
      have hp := HP.out
      have he := HE.out
      have hn := HN.out
      go_roundg (n.toNat - (ys.length + 1))
      case rel => exact ⟨ys ++ [0], ⟨hw1⟩, ⟨by rw [padTo_snoc (by omega)]; exact hp.1, by rw [List.length_append, List.length_singleton], by rw [List.length_append]; omega, by rw [List.length_append, List.length_singleton]; omega⟩, ⟨HS.out.trans hs1⟩⟩
      case measure => omega
    · have HF : As (Wr wr base p (padTo xs n.toNat)) := ⟨by rw [← HP.out.1, padTo_le (by have := HE.out; omega)]; exact HY.out⟩
      go_wp2
      go_ret
      exact ⟨rfl, HF.out, HS.out⟩

set_option maxHeartbeats 1000000 in
set_option maxRecDepth 100000 in
theorem Bytes_calls (base p : Nat) (xs : List Int) (w : World) (hW : Wr w base p xs) (hl : xs.length ≤ 70368744177664) :
    Calls Tryz.prog 100 #[.pointer (some ⟨p, 0, none⟩)] w fun e w' => ∃ v, e = .returned v ∧ Row 5 .u8 w' w.heap.size v xs ∧ Fr None_ w w' := by
  have HL := As.mk hl
  obtain ⟨hbp, sv, hcell, hrow⟩ := hW
  have hc : w.cell? ⟨p, 0, none⟩ = some sv := cell_of hcell
  obtain ⟨A0, m0, c0, e0, HM, HD, _⟩ := hrow.rd
  subst e0
  have HE : As (xs.length = m0) := ⟨HD.out.1⟩
  clear hl hcell hrow
  go_enter Tryz.func100, Tryz.ntmps100
  go_wp2_with (at_builtin; (with_reducible refine appendRow w.heap.size rfl _ _ 48 5 .u8 1 rfl Tryz.underlying48 infoByte (by decide) (.slice none 0 0) [] xs A0 m0 c0 rfl rfl (Row.nil _ _ _ _) HD.out (Nat.le_refl _) ?c1 ?_); (case c1 => have := HL.out; have := HE.out; simp; omega); intro v1 w1 hrow1 hfr1 hat1; have HR1 := As.mk hrow1; have HF1 := As.mk hfr1; clear hrow1 hfr1 hat1; obtain ⟨A1, n1, c1, e1, _⟩ := HR1.out.rd; subst e1)
  go_ret
  exact ⟨_, rfl, HR1.out, HF1.out.mono (fun i _ h => by cases h)⟩

/-- What a writer's step leaves of an elder world, if all of the writer is younger. -/
theorem Wr.fr {a w w' : World} {base p : Nat} {xs : List Int} {S : Nat → Prop} (hW : Wr w base p xs) (hs : Step p w w') (hb : a.heap.size ≤ base) (hf : Fr S a w) : Fr S a w' := by
  obtain ⟨hbp, v, hc, hr⟩ := hW
  refine hf.after hs.fr (fun i hi h => ?_)
  rcases h with h | h
  · omega
  · rw [rowOf_is hc] at h
    have := (hr.blk i h).1
    omega
/-- A block of another type stays. -/
theorem Wr.heap {w w' : World} {base p : Nat} {xs : List Int} (hW : Wr w base p xs) (hs : Step p w w') {b : Nat} {cs : Array Value} {T : TypeId} {fr : Nat × Nat} (hb : w.heap[b]? = some (.cells cs T fr)) (hp : b ≠ p) (hT : T ≠ 5) : w'.heap[b]? = some (.cells cs T fr) := by
  obtain ⟨hbp, v, hc, hr⟩ := hW
  refine hs.fr.heap hb ?_
  rintro (h | h)
  · exact hp h
  · rw [rowOf_is hc] at h
    exact Row.ne hr hb hT h
theorem Wr.lt {w : World} {base p : Nat} {xs : List Int} (hW : Wr w base p xs) : p < w.heap.size := by
  obtain ⟨_, v, hc, _⟩ := hW
  exact (Array.getElem?_eq_some_iff.1 hc).1
theorem Wr.row_lt {w : World} {base p : Nat} {xs : List Int} (hW : Wr w base p xs) : ∀ g, rowOf w p = some g → g < w.heap.size := by
  obtain ⟨_, v, hc, hr⟩ := hW
  intro g hg
  rw [rowOf_is hc] at hg
  exact (hr.blk g hg).2.1
theorem Wr.none_ {w w' : World} {base p : Nat} {xs : List Int} (hW : Wr w base p xs) (hf : Fr None_ w w') : Wr w' base p xs := by
  obtain ⟨h0, v, hc, hr⟩ := hW
  exact ⟨h0, v, hf.heap hc (fun h => h), hr.none_ hf⟩
/-- A new writer. -/
theorem Wr.new {w : World} {p : Nat} (h : w.heap[p]? = some (.cells #[.slice none 0 0] 182 (0, 0))) (base : Nat) (hb : base ≤ p) : Wr w base p [] := ⟨hb, _, h, Row.nil _ _ _ _⟩

/-- The writer's row is none of the blocks below N. -/
def Young (N : Nat) (w : World) (p : Nat) : Prop := ∀ b, rowOf w p = some b → N ≤ b
theorem Young.new {N : Nat} {w : World} {p : Nat} {T : TypeId} {fr : Nat × Nat} (h : w.heap[p]? = some (.cells #[.slice none 0 0] T fr)) : Young N w p := by
  intro b hb
  rw [rowOf_is h] at hb
  simp [Value.ownBlock] at hb
theorem Young.step {N : Nat} {w w' : World} {p : Nat} (h : Young N w p) (hs : Step p w w') (hN : N ≤ w.heap.size) : Young N w' p := by
  intro b hb
  rcases hs.row with h1 | h1
  · exact h b (h1 ▸ hb)
  · exact Nat.le_trans hN (h1 b hb)
theorem Young.none_ {N : Nat} {w w' : World} {p : Nat} (h : Young N w p) (hf : Fr None_ w w') (hp : p < w.heap.size) : Young N w' p := by
  intro b hb
  unfold rowOf at hb
  rw [hf.block p hp (fun h => h)] at hb
  exact h b hb
/-- A row that is older than the writer's. -/
theorem row_old {e : TypeId} {k : IntKind} {w w' : World} {base N p : Nat} {v : Value} {xs : List Int} (h : Row e k w base v xs) (hv : ∀ b, v.ownBlock = some b → b < N ∧ b ≠ p) (hy : Young N w p) (hs : Step p w w') : Row e k w' base v xs :=
  h.fr hs.fr (fun b hb => by
    obtain ⟨h1, h2⟩ := hv b hb
    rintro (h3 | h3)
    · exact h2 h3
    · have := hy b h3
      omega)

end Go.Proofs.YteofgpaceeibpaaGreat.Wr
namespace Go.Proofs.YteofgpaceeibpaaGreat.Rdr
open Go.RowKit Gab Wr
set_option linter.unusedVariables false
set_option linter.unusedSimpArgs false

/-- A reader at block p, of the bytes of a slice, at a place. -/
def Rr (w : World) (p : Nat) (A : Option Addr) (n c : Nat) (i : Int) : Prop := w.heap[p]? = some (.cells #[.slice A n c, .int .i64 i] 196 (0, 0))
theorem Rr.c0 {w : World} {p : Nat} {A : Option Addr} {n c : Nat} {i : Int} (h : Rr w p A n c i) : w.cell? ⟨p, 0, none⟩ = some (.slice A n c) := by unfold Rr at h; simp [World.cell?, h]
theorem Rr.c1 {w : World} {p : Nat} {A : Option Addr} {n c : Nat} {i : Int} (h : Rr w p A n c i) : w.cell? ⟨p, 1, none⟩ = some (.int .i64 i) := by unfold Rr at h; simp [World.cell?, h]
theorem Rr.f1 {w : World} {p : Nat} {A : Option Addr} {n c : Nat} {i : Int} (h : Rr w p A n c i) : w.frozen? ⟨p, 1, none⟩ = false := by unfold Rr at h; simp [World.frozen?, h]
theorem Rr.set {w : World} {p : Nat} {A : Option Addr} {n c : Nat} {i : Int} (h : Rr w p A n c i) (j : Int) : Rr (w.setCell ⟨p, 1, none⟩ (.int .i64 j)) p A n c j := by
  unfold Rr at *
  simp [World.setCell, Array.getElem?_modify, h]
theorem Rr.drewN {w : World} {p : Nat} {A : Option Addr} {n c : Nat} {i : Int} (h : Rr w p A n c i) (k : Nat) : Rr (w.drewN k) p A n c i := h
/-- Where a cut lies. -/
def cutAt (A : Option Addr) (c i : Nat) : Option Addr := if c = i then A else A.map (·.add i)

set_option maxHeartbeats 2000000 in
set_option maxRecDepth 100000 in
theorem take_calls (p : Nat) (A : Option Addr) (n c : Nat) (i k : Int) (w : World) (hR : Rr w p A n c i) (h0 : 0 ≤ i) (hk0 : 0 ≤ k) (hk : i + k ≤ (n : Int)) (hc : n ≤ c) (hn : n ≤ 9223372036854775807) :
    Calls Tryz.prog 119 #[.pointer (some ⟨p, 0, none⟩), .int .i64 k] w fun e w' => e = .returned (.slice (cutAt A c i.toNat) k.toNat (c - i.toNat)) ∧ Rr w' p A n c (i + k) ∧ Fr (fun b => b = p) w w' := by
  have HR := As.mk hR
  have hc0 := hR.c0
  have hc1 := hR.c1
  have hf1 := hR.f1
  clear hR
  have d1 : decide (k < 0) = false := decide_eq_false (by omega)
  have d2 : decide ((n : Int) - i < k) = false := decide_eq_false (by omega)
  have hi9 : i ≤ 9223372036854775807 := by omega
  have hk9 : k ≤ 9223372036854775807 := by omega
  have hs : i + k ≤ 9223372036854775807 := by omega
  go_enter Tryz.func119, Tryz.ntmps119
  go_wp2
  go_quiet (fail)
  go_wp2
  go_quiet (fail)
  go_wp2
  all_goals
    go_ret
    have hk2 : (i + k).toNat - i.toNat = k.toNat := by omega
    refine ⟨?_, ?_, ?_⟩
    · simp [cutAt, hk2, *]
    · first | exact (HR.out.drewN _).set _ | (have e : c = i.toNat := (by assumption); rw [← e]; exact (HR.out.drewN _).set _)
    · exact ((Fr.refl (fun b => b = p) w).drewN _).setCell (p := ⟨p, 1, none⟩) (fun _ => rfl) _

/-- The number of bytes, the lowest first: as the code reckons it. -/
def orOf (v : Int) : Nat → List Int → Int
  | _, [] => v
  | i, c :: l => orOf (bits .or .u64 v (IntKind.u64.wrap (c * 2 ^ (8 * i)))) (i + 1) l
def leNum (l : List Int) : Int := orOf 0 0 l
theorem orOf_snoc : ∀ (l : List Int) (v : Int) (i : Nat) (c : Int), orOf v i (l ++ [c]) = bits .or .u64 (orOf v i l) (IntKind.u64.wrap (c * 2 ^ (8 * (i + l.length))))
  | [], v, i, c => by simp [orOf]
  | x :: l, v, i, c => by
    rw [List.cons_append, orOf, orOf_snoc l, orOf, List.length_cons, show i + 1 + l.length = i + (l.length + 1) by omega]

set_option maxHeartbeats 2000000 in
set_option maxRecDepth 100000 in
theorem num_calls (p : Nat) (A : Option Addr) (n c : Nat) (i k : Int) (bs : List Int) (w : World) (hR : Rr w p A n c i) (hA : Rd .u8 w A n bs) (hS : ∀ ad, A = some ad → 0 < n → ad.block ≠ p) (hr : InR 256 bs)
    (h0 : 0 ≤ i) (hk0 : 0 ≤ k) (hk8 : k ≤ 8) (hk : i + k ≤ (n : Int)) (hc : n ≤ c) :
    Calls Tryz.prog 106 #[.pointer (some ⟨p, 0, none⟩), .int .i64 k] w fun e w' => e = .returned (.int .u64 (leNum ((bs.drop i.toNat).take k.toNat))) ∧ Rr w' p A n c (i + k) ∧ Fr (fun b => b = p) w w' := by
  have HR := As.mk hR
  have HA := As.mk hA
  have HS := As.mk hS
  have HI := As.mk hr
  have hn := hA.2.1
  have HN := As.mk hA.1
  clear hR hA hS hr
  go_enter Tryz.func106, Tryz.ntmps106
  go_wp2_with fail
  ((with_reducible refine (take_calls p A n c i k _ HR.out h0 hk0 hk hc hn).mono ?_); rintro e w1 ⟨rfl, hr1, hf1⟩)
  have HR1 := As.mk hr1
  have HF1 := As.mk hf1
  have HD : As (Rd .u8 w1 (cutAt A c i.toNat) k.toNat ((bs.drop i.toNat).take k.toNat)) := ⟨((HA.out.fr hf1 HS.out).drop (c := c) i.toNat (by omega) hc).take k.toNat (by omega)⟩
  have HRG : As (InR 256 ((bs.drop i.toNat).take k.toNat)) := ⟨fun x hx => HI.out x (List.mem_of_mem_drop (List.mem_of_mem_take hx))⟩
  have HKL := As.mk HD.out.1
  generalize hl : (bs.drop i.toNat).take k.toNat = l at *
  have HLE := As.mk hl
  clear hl
  generalize cutAt A c i.toNat = B at *
  clear hr1 hf1
  go_wp2
  go_loopw [5, 6, 7, 12] (fun v5 _ _ v12 w' => ∃ j : Int, v12 = .int .i64 j ∧ 0 ≤ j ∧ j ≤ k ∧ v5 = .int .u64 (leNum (l.take j.toNat)) ∧ w' = w1) (fun _ _ _ v12 _ => k.toNat - (intOf v12).toNat)
  case atStart => exact ⟨0, rfl, by omega, by omega, rfl, rfl⟩
  case round =>
    obtain ⟨j, rfl, hj0, hj, rfl, rfl⟩ := hrel
    have hkt : (k.toNat : Int) = k := by omega
    by_cases hlt : j < k
    · obtain ⟨ad, rfl, hcell⟩ := HD.out.at_ j hj0 (by omega)
      have hx := inR_at HRG.out (i := j.toNat) (by have := HKL.out; omega)
      have HSN : As (leNum (l.take (j + 1).toNat) = bits .or .u64 (leNum (l.take j.toNat)) (IntKind.u64.wrap (l.getD j.toNat 0 * 2 ^ (8 * j).toNat))) := ⟨by
        have hjl : j.toNat < l.length := by have := HKL.out; omega
        unfold leNum
        rw [show (j + 1).toNat = j.toNat + 1 by omega, List.take_succ_eq_append_getElem hjl, orOf_snoc, List.length_take, List.getD_eq_getElem?_getD, List.getElem?_eq_getElem hjl]
        simp only [Option.getD_some, Nat.zero_add]
        rw [Nat.min_eq_left (by omega), show (8 * j).toNat = 8 * j.toNat by omega]⟩
      generalize l.getD j.toNat 0 = x at *
      obtain ⟨hx0, hx1⟩ := hx
      go_wp2
      exact ⟨⟨j + 1, rfl, by omega, by omega, by rw [HSN.out], trivial⟩, by simp [intOf]; omega⟩
    · have hjk : j = k := by omega
      subst hjk
      have hlk : l.take j.toNat = l := List.take_of_length_le (by have := HKL.out; omega)
      rw [hlk]
      go_wp2
      go_ret
      exact ⟨by rw [HLE.out]; rfl, HR1.out, HF1.out⟩


set_option maxHeartbeats 1000000 in
set_option maxRecDepth 100000 in
theorem U8_calls (p : Nat) (A : Option Addr) (n c : Nat) (i : Int) (bs : List Int) (w : World) (hR : Rr w p A n c i) (hA : Rd .u8 w A n bs) (hS : ∀ ad, A = some ad → 0 < n → ad.block ≠ p) (hr : InR 256 bs)
    (h0 : 0 ≤ i) (hk : i + 1 ≤ (n : Int)) (hc : n ≤ c) :
    Calls Tryz.prog 69 #[.pointer (some ⟨p, 0, none⟩)] w fun e w' => e = .returned (.int .u8 (leNum ((bs.drop i.toNat).take 1) % 256)) ∧ Rr w' p A n c (i + 1) ∧ Fr (fun b => b = p) w w' := by
  go_enter Tryz.func69, Tryz.ntmps69
  go_wp2_with fail
  ((with_reducible refine (num_calls p A n c i 1 bs _ hR hA hS hr h0 (by decide) (by decide) hk hc).mono ?_); rintro e w1 ⟨rfl, hr1, hf1⟩)
  have HR1 := As.mk hr1
  have HF1 := As.mk hf1
  clear hr1 hf1
  generalize hl : leNum ((bs.drop i.toNat).take (Int.toNat 1)) = v
  have HL := As.mk hl
  clear hl hR hA hS hr h0 hk hc
  go_wp2
  go_ret
  exact ⟨by rw [← HL.out]; rfl, HR1.out, HF1.out⟩


set_option maxHeartbeats 1000000 in
set_option maxRecDepth 100000 in
theorem U16_calls (p : Nat) (A : Option Addr) (n c : Nat) (i : Int) (bs : List Int) (w : World) (hR : Rr w p A n c i) (hA : Rd .u8 w A n bs) (hS : ∀ ad, A = some ad → 0 < n → ad.block ≠ p) (hr : InR 256 bs)
    (h0 : 0 ≤ i) (hk : i + 2 ≤ (n : Int)) (hc : n ≤ c) :
    Calls Tryz.prog 70 #[.pointer (some ⟨p, 0, none⟩)] w fun e w' => e = .returned (.int .u16 (leNum ((bs.drop i.toNat).take 2) % 65536)) ∧ Rr w' p A n c (i + 2) ∧ Fr (fun b => b = p) w w' := by
  go_enter Tryz.func70, Tryz.ntmps70
  go_wp2_with fail
  ((with_reducible refine (num_calls p A n c i 2 bs _ hR hA hS hr h0 (by decide) (by decide) hk hc).mono ?_); rintro e w1 ⟨rfl, hr1, hf1⟩)
  have HR1 := As.mk hr1
  have HF1 := As.mk hf1
  clear hr1 hf1
  generalize hl : leNum ((bs.drop i.toNat).take (Int.toNat 2)) = v
  have HL := As.mk hl
  clear hl hR hA hS hr h0 hk hc
  go_wp2
  go_ret
  exact ⟨by rw [← HL.out]; rfl, HR1.out, HF1.out⟩


set_option maxHeartbeats 1000000 in
set_option maxRecDepth 100000 in
theorem U32_calls (p : Nat) (A : Option Addr) (n c : Nat) (i : Int) (bs : List Int) (w : World) (hR : Rr w p A n c i) (hA : Rd .u8 w A n bs) (hS : ∀ ad, A = some ad → 0 < n → ad.block ≠ p) (hr : InR 256 bs)
    (h0 : 0 ≤ i) (hk : i + 4 ≤ (n : Int)) (hc : n ≤ c) :
    Calls Tryz.prog 68 #[.pointer (some ⟨p, 0, none⟩)] w fun e w' => e = .returned (.int .u32 (leNum ((bs.drop i.toNat).take 4) % 4294967296)) ∧ Rr w' p A n c (i + 4) ∧ Fr (fun b => b = p) w w' := by
  go_enter Tryz.func68, Tryz.ntmps68
  go_wp2_with fail
  ((with_reducible refine (num_calls p A n c i 4 bs _ hR hA hS hr h0 (by decide) (by decide) hk hc).mono ?_); rintro e w1 ⟨rfl, hr1, hf1⟩)
  have HR1 := As.mk hr1
  have HF1 := As.mk hf1
  clear hr1 hf1
  generalize hl : leNum ((bs.drop i.toNat).take (Int.toNat 4)) = v
  have HL := As.mk hl
  clear hl hR hA hS hr h0 hk hc
  go_wp2
  go_ret
  exact ⟨by rw [← HL.out]; rfl, HR1.out, HF1.out⟩

end Go.Proofs.YteofgpaceeibpaaGreat.Rdr
namespace Go.Proofs.YteofgpaceeibpaaGreat.Read
open Go.RowKit Gab Wr Rdr
set_option linter.unusedVariables false
set_option linter.unusedSimpArgs false

/-- The deferred closure, where nothing panicked. -/
theorem idle (p : Addr) (w : World) :
    CallsD Tryz.prog 105 #[.pointer (some p)] .returning w fun e u' w' => e = .returned (.tuple #[]) ∧ u' = .returning ∧ w' = w := by
  refine callsD_of_wpS Tryz.func105 rfl fun c₀ cs hu => ?_
  apply wpS_seq
  apply wpS_region
  simp [wpOpsS, go_sem, recoverD, hu, Tryz.ntmps105, Exit.thenS]
  apply wpS_seq
  apply wpS_region
  simp [wpOpsS, go_sem, Exit.thenS]
  refine wpS_cond (t := false) (by simp [Act.eval, Array.replicate]) ?_
  simp only [Bool.false_eq_true, if_false]
  refine wpS_of_wp (wp_skip ?_)
  cases c₀
  simp_all [bodyPostS, results, Tryz.results105]

set_option maxHeartbeats 2000000 in
set_option maxRecDepth 100000 in
theorem Read_ok (F : FuncId) (caps : Array Value) (A : Option Addr) (n c : Nat) (w : World) (R : World → Prop) (hE : ∀ args w, Sem.run Tryz.prog (callFunc F args) w = .ok (.enter F args) w)
    (hF : Calls Tryz.prog F (#[.pointer (some ⟨w.heap.size + 1, 0, none⟩)] ++ caps) ((w.alloc (.cells #[.int .i64 0] 27)).alloc (.cells #[.slice A n c, .int .i64 0] 196)) fun e w' => e = .returned (.tuple #[]) ∧ R w' ∧ w'.heap[w.heap.size]? = some (.cells #[.int .i64 0] 27 (0, 0))) :
    Calls Tryz.prog 66 #[.slice A n c, .func (.func F) #[] caps] w fun e w' => e = .returned (.int .i64 0) ∧ ∃ w1, R w1 ∧ w' = w1.setCell ⟨w.heap.size, 0, none⟩ (.int .i64 0) := by
  have hmf : ∀ (fn : Fn) (first cap : Array Value) (w : World), (Instr.makeFunc fn first cap).run Tryz.prog w = .ok (.func fn first cap) w := fun _ _ _ _ => rfl
  have hnil : ∀ w : World, (binOp BinOp.eql 147 (.func (.func F) #[] caps) .nilFunc).run Tryz.prog w = .ok (.bool false) w := fun _ => rfl
  have HF := As.mk hF
  clear hF
  go_enter_defers Tryz.func66, Tryz.ntmps66
  go_wp2_with fail
  refine HF.out.mono ?_
  rintro e w1 ⟨rfl, hr, hh⟩
  have HR := As.mk hr
  have HH := As.mk hh
  have hc := cell_of hh
  have hf := free_of (i := 0) hh
  clear hr hh
  go_wp2
  refine leaves_cons (f := 105) (args := #[.pointer (some ⟨w.heap.size, 0, none⟩)]) (by simp) (by simp [go_sem]) ?_
  refine (idle ⟨w.heap.size, 0, none⟩ _).mono ?_
  rintro e u' w'' ⟨rfl, rfl, rfl⟩
  have hc2 := set_of (u := .int .i64 0) HH.out
  have hc3 := cell_of hc2
  simp [Leaves, settle, results, Tryz.results66, go_sem, hc3]
  exact ⟨w1, HR.out, rfl⟩
end Go.Proofs.YteofgpaceeibpaaGreat.Read

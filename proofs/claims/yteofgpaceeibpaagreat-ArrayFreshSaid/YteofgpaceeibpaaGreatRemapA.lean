/- remap: tables in memory, list. -/
import Derived.Test.YteofgpaceeibpaaGreatGeom
import Derived.Test.YteofgpaceeibpaaGreatRef
import Derived.Test.YteofgpaceeibpaaGreatHeap
import Derived.Test.YteofgpaceeibpaaGreatStep
namespace Go.Proofs.YteofgpaceeibpaaGreat.RemapA
open Go.RowKit Go.Proofs.YteofgpaceeibpaaGreat.Gab Go.Proofs.YteofgpaceeibpaaGreat.Wr Go.Proofs.YteofgpaceeibpaaGreat.Geom Go.Proofs.YteofgpaceeibpaaGreat.Ref Go.Proofs.YteofgpaceeibpaaGreat.Heap
set_option linter.unusedVariables false
set_option linter.unusedSimpArgs false

/-- A table. -/
structure Tab where
  seq : Int
  place : List Int
  spare : List Int
  t0 : Int
  t1 : Int
/-- A value that is one. -/
def TabV (w : World) (v : Value) (t : Tab) : Prop := ∃ A1 n1 c1 A2 n2 c2, v = .agg #[.int .u32 t.seq, .slice A1 n1 c1, .slice A2 n2 c2, .int .i64 t.t0, .int .i64 t.t1] ∧ n1 ≤ c1 ∧ Rd .i64 w A1 n1 t.place ∧ n2 ≤ c2 ∧ Rd .i64 w A2 n2 t.spare
theorem TabV.none_ {w w' : World} {v : Value} {t : Tab} (h : TabV w v t) (hf : Fr None_ w w') : TabV w' v t := by
  obtain ⟨A1, n1, c1, A2, n2, c2, rfl, h1, h2, h3, h4⟩ := h
  exact ⟨A1, n1, c1, A2, n2, c2, rfl, h1, h2.none_ hf, h3, h4.none_ hf⟩
theorem step_alloc {p : Nat} {w w' : World} (h : Step p w w') (hp : p < w'.heap.size) (o : Obj) : Step p w (w'.alloc o) :=
  h.trans ⟨(Fr.refl _ _).alloc o, .inl (by unfold rowOf; rw [Below.heap_alloc w' o p hp])⟩
theorem one_u8 (w : World) (x : Int) : Rd .u8 (w.alloc (.cells #[.int .u8 x] 5)) (some ⟨w.heap.size, 0, none⟩) 1 [x] := by
  refine ⟨rfl, by decide, fun _ => ⟨_, rfl, fun j hj => ?_⟩⟩
  obtain rfl : j = 0 := by omega
  exact cell_is (heap_alloc_new w _) rfl
theorem les_one_snoc (a : Int) (l : List Int) {i : Nat} (hi : i < l.length) : les 1 (a :: l.take (i + 1)) = les 1 (a :: l.take i) ++ les 1 [l.getD i 0] := by
  show les 1 ([a] ++ _) = les 1 ([a] ++ _) ++ _
  unfold les
  rw [List.flatMap_append, List.flatMap_append, List.append_assoc]
  congr 1
  have := les_snoc 1 hi
  unfold les at this
  rw [this]
  simp

set_option maxHeartbeats 1000000 in
set_option maxRecDepth 100000 in
theorem list_calls (base p : Nat) (xs l : List Int) (A : Option Addr) (n c : Nat) (w : World) (hW : Wr w base p xs) (hb : base ≤ w.heap.size) (hR : Rd .i64 w A n l) (hr : InR 256 l) (hn : n < 256)
    (hS : ∀ ad, A = some ad → 0 < n → ¬ (ad.block = p ∨ rowOf w p = some ad.block)) (hl : xs.length ≤ 1000000) :
    Calls Tryz.prog 125 #[.pointer (some ⟨p, 0, none⟩), .slice A n c] w fun e w' => e = .returned (.tuple #[]) ∧ Wr w' base p (xs ++ les 1 ((n : Int) :: l)) ∧ Step p w w' := by
  have HW := As.mk hW
  have HL := As.mk hl
  have HR := As.mk hR
  have HI := As.mk hr
  have HS := As.mk hS
  have HN := As.mk hR.1
  have HW0 := As.mk (hW.none_ ((Fr.refl None_ w).alloc (.cells #[.int .u8 (n : Int)] 5)))
  have HR0 := As.mk (one_u8 w n)
  have HT0 := As.mk (step_alloc (Step.refl p w) hW.lt (.cells #[.int .u8 (n : Int)] 5))
  have HU := As.mk (fun (W : World) (ys : List Int) (hw : Wr W base p ys) (x : Int) (h0 : 0 ≤ x) (h1 : x < 256) (hb : base ≤ W.heap.size) (hl : ys.length ≤ 2000000) => U8_calls base p ys [x] (some ⟨W.heap.size, 0, none⟩) 1 1 (W.alloc (.cells #[.int .u8 x] 5)) (hw.none_ ((Fr.refl None_ W).alloc _)) (by simp; omega) (one_u8 W x) (by intro y hy; simp at hy; omega)
    (fun ad e _ => by
      injection e with e
      subst e
      rintro (e | e)
      · have := hw.lt
        have : W.heap.size = p := e
        omega
      · have h1 : rowOf (W.alloc (.cells #[.int .u8 x] 5)) p = rowOf W p := by unfold rowOf; rw [Below.heap_alloc W _ p hw.lt]
        rw [h1] at e
        have := hw.row_lt _ e
        exact absurd this (Nat.lt_irrefl _)) (by omega))
  clear hW hl hR hr hS
  go_enter Tryz.func125, Tryz.ntmps125
  go_wp2_with (go_at_call 97; (with_reducible refine (HU.out w xs HW.out n (by omega) (by omega) hb (by have := HL.out; omega)).mono ?_); rintro e w1 ⟨rfl, hw1, hs1⟩; have HW1 := As.mk hw1; have HS1 := As.mk (HT0.out.trans hs1); clear hw1 hs1)
  go_loopw [5, 14] (fun v5 v14 w' => ∃ i : Nat, v14 = .int .i64 (i : Int) ∧ i ≤ n ∧ As (Wr w' base p (xs ++ les 1 ((n : Int) :: l.take i))) ∧ As (Step p w w')) (fun _ v14 _ => n - (intOf v14).toNat)
  case atStart => exact ⟨0, rfl, by omega, by simpa using HW1, HS1⟩
  case round =>
    obtain ⟨i, rfl, hi, HX, HT⟩ := hrel
    by_cases hlt : i < n
    · have hltI : (i : Int) < (n : Int) := by omega
      obtain ⟨ad, rfl, hc⟩ := (HR.out.fr HT.out.fr HS.out).at_ i (by omega) hltI
      have hx := inR_at HI.out (i := i) (by have := HN.out; omega)
      have HE := As.mk (les_one_snoc n l (i := i) (by have := HN.out; omega))
      have HK : As ((les 1 ((n : Int) :: l.take i)).length ≤ 1000) := ⟨by rw [les_length]; have := List.length_take_le i l; simp only [List.length_cons]; omega⟩
      simp only [Int.toNat_natCast] at hc
      generalize l.getD i 0 = x at *
      obtain ⟨hx0, hx1⟩ := hx
      go_wp2_with (go_at_call 97; (with_reducible refine (HU.out wr _ HX.out x hx0 hx1 ?b0 ?b1).mono ?_); (case b0 => have := HT.out.fr.size; omega); (case b1 => have := HL.out; have := HK.out; rw [List.length_append]; omega); rintro e w2 ⟨rfl, hw2, hs2⟩; have HW2 := As.mk hw2; have HS2 := As.mk ((step_alloc HT.out HX.out.lt _).trans hs2); clear hw2 hs2)
      refine ⟨⟨i + 1, rfl, by omega, ⟨?_⟩, HS2⟩, by simp [intOf]; omega⟩
      rw [HE.out, ← List.append_assoc]
      exact HW2.out
    · have HF : As (Wr wr base p (xs ++ les 1 ((n : Int) :: l))) := ⟨by have h := HX.out; rw [List.take_of_length_le (by have := HN.out; omega)] at h; exact h⟩
      go_wp2
      go_end0
      exact ⟨rfl, HF.out, HT.out⟩
end Go.Proofs.YteofgpaceeibpaaGreat.RemapA

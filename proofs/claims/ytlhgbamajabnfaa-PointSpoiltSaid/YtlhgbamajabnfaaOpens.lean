/- gabionref14.Opens. -/
import Derived.Test.YtlhgbamajabnfaaPoint1
import Derived.Test.YtlhgbamajabnfaaReads
import Derived.Test.YtlhgbamajabnfaaDec5
namespace Go.Proofs.Ytlhgbamajabnfaa.Opens
open Go.RowKit Go.Proofs.Ytlhgbamajabnfaa.Gab Go.Proofs.Ytlhgbamajabnfaa.Geom Go.Proofs.Ytlhgbamajabnfaa.Kept Go.Proofs.Ytlhgbamajabnfaa.Reads Go.Proofs.Ytlhgbamajabnfaa.Ref Go.Proofs.Ytlhgbamajabnfaa.Fields Go.Proofs.Ytlhgbamajabnfaa.Point1
open Go.Proofs.Ytlhgbamajabnfaa.Wr (InR)
open Go.Proofs.Ytlhgbamajabnfaa.Case (fr_set7)
open Go.Proofs.Ytlhgbamajabnfaa.Open (openOf)
open Go.Proofs.Ytlhgbamajabnfaa.OpenR (Open_calls)
set_option linter.unusedVariables false
set_option linter.unusedSimpArgs false

set_option maxHeartbeats 4000000 in
set_option maxRecDepth 100000 in
theorem opens_n (ad : Addr) (n c : Nat) (xs : List Int) (w : World) (hn : n = 320) (hA : Rd .u8 w (some ad) n xs) (hr : InR 256 xs) (hc : n ≤ c) :
    Calls Try.prog 42 #[.slice (some ad) n c] w fun e w' => e = .returned (.bool (openOf (xs.take 256) (xs.drop 256)).2) ∧ Fr None_ w w' := by
  have hc8b : ¬ c = 256 := by omega
  have hc8i : (256 : Int) ≤ c := by omega
  have hc8j : (0 : Int) ≤ c := by omega
  have hdr8 := hA.drop 256 (by omega) hc
  rw [if_neg hc8b, show n - 256 = 64 by omega] at hdr8
  change Rd .u8 w (some ⟨ad.block, ad.off + 256, none⟩) 64 (xs.drop 256) at hdr8
  have HOP := As.mk (fun (w' : World) (hf : Fr None_ w w') => Open_calls (some ⟨ad.block, ad.off + 256, none⟩) (some ad) 64 (c - 256) 256 c (xs.drop 256) (xs.take 256) w' (hdr8.none_ hf) ((hA.take 256 (by omega)).none_ hf) (fun y hy => hr y (List.mem_of_mem_drop hy)) (fun y hy => hr y (List.mem_of_mem_take hy)) (by omega) (by omega) (by decide) (by decide))
  unfold Go.Proofs.Ytlhgbamajabnfaa.Ref5.rvals at HOP
  have hs1 : ∀ W, (Instr.slice 23 (.slice (some ad) n c) none (some (.int .i64 256)) none).run Try.prog W = .ok (.slice (some ad) 256 c) W := fun W => by
    simp [Instr.slice, Instr.sliceBounds, Instr.sliceBound, asIntOf, run_underlying Try.underlying23, go_sem, hc8b, hc8i, hc8j]
  have hs2 : ∀ W, (Instr.slice 23 (.slice (some ad) n c) (some (.int .i64 256)) none none).run Try.prog W = .ok (.slice (some ⟨ad.block, ad.off + 256, none⟩) 64 (c - 256)) W := fun W => by
    have h := Dec1.run_from (some ad) n c 256 W (by omega) hc
    unfold Rdr.cutAt at h
    rw [if_neg hc8b, show n - 256 = 64 by omega] at h
    exact h
  have hw : IntKind.i64.wrap ((n : Int) - 64) = 256 := by rw [i64_in _ (by omega) (by omega)]; omega
  generalize (openOf (xs.take 256) (xs.drop 256)).2 = ok at *
  clear hdr8 hA hr hn hc8b hc8i hc8j hc
  go_enter Try.func42, Try.ntmps42
  go_wp2_with fail
  go_region_held3 (fun w' => True) (exact True.intro) (first | ((with_reducible refine (HOP.out _ ?_).mono ?_); (focus repeat (first | exact Fr.refl _ _ | apply Fr.drew | apply Fr.drewN | apply Fr.alloc)); rintro e w9 ⟨rfl, hf9⟩; try (have hb9 := hf9.heap (heap_alloc_new _ _) (fun h => h); have r0 := cell_is (i := 0) hb9 rfl; have q0 := free_of (i := 0) hb9; have r1 := cell_is (i := 1) hb9 rfl; have q1 := free_of (i := 1) hb9; have r2 := cell_is (i := 2) hb9 rfl; have q2 := free_of (i := 2) hb9; have r3 := cell_is (i := 3) hb9 rfl; have q3 := free_of (i := 3) hb9; have r4 := cell_is (i := 4) hb9 rfl; have q4 := free_of (i := 4) hb9; have r5 := cell_is (i := 5) hb9 rfl; have q5 := free_of (i := 5) hb9; have r6 := cell_is (i := 6) hb9 rfl; have q6 := free_of (i := 6) hb9; clear hb9)))
  all_goals
    go_wp2_with fail
    go_ret
    refine ⟨rfl, ?_⟩
    first
    | ((with_reducible refine Fr.alloc ?_ _); exact (Fr.refl None_ w).drew.after hf9 (fun _ _ h => h))
    | ((with_reducible refine fr_set7 ?_ ?_ _ _ _ _ _ _ _); exact (((Fr.refl None_ w).drew.alloc _).after hf9 (fun _ _ h => h)); exact (fun h => absurd h (Nat.lt_irrefl _)))
theorem Opens_calls (ad : Addr) (c : Nat) (xs : List Int) (w : World) (hA : Rd .u8 w (some ad) 320 xs) (hr : InR 256 xs) (hc : 320 ≤ c) :
    Calls Try.prog 42 #[.slice (some ad) 320 c] w fun e w' => e = .returned (.bool (openOf (xs.take 256) (xs.drop 256)).2) ∧ Fr None_ w w' := opens_n ad 320 c xs w rfl hA hr hc
end Go.Proofs.Ytlhgbamajabnfaa.Opens

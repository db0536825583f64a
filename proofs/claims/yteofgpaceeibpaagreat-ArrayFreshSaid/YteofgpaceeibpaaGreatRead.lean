/- cursor.Read: a function reads bytes; where it doesn't run out, and where it does. -/
import Derived.Test.YteofgpaceeibpaaGreatRdr
import Derived.Defers
import Derived.Recover
import Derived.Laws.Pointers
namespace Go.Proofs.YteofgpaceeibpaaGreat.Read
open Go.RowKit Go.Proofs.YteofgpaceeibpaaGreat.Gab Go.Proofs.YteofgpaceeibpaaGreat.Wr Go.Proofs.YteofgpaceeibpaaGreat.Rdr
set_option linter.unusedVariables false
set_option linter.unusedSimpArgs false

/-- The deferred closure, where nothing panicked. -/
theorem idle (p : Addr) (w : World) :
    CallsD Tryz.prog 105 #[.pointer (some p)] .returning w fun e u' w' => e = .returned (.tuple #[]) ∧ u' = .returning ∧ w' = w := by
  refine callsD_of_wpS Tryz.func105 rfl fun c₀ cs hu => ?_
  apply wpS_seq
  apply wpS_region
  simp [wpOpsS, go_sem, recoverD, hu, Tryz.ntmps105, Exit.thenS]
  apply wpS_seq
  apply wpS_region
  simp [wpOpsS, go_sem, Exit.thenS]
  refine wpS_cond (t := false) (by simp [Act.eval, Array.replicate]) ?_
  simp only [Bool.false_eq_true, if_false]
  refine wpS_of_wp (wp_skip ?_)
  cases c₀
  simp_all [bodyPostS, results, Tryz.results105]

set_option maxHeartbeats 2000000 in
set_option maxRecDepth 100000 in
theorem Read_ok (F : FuncId) (caps : Array Value) (A : Option Addr) (n c : Nat) (w : World) (R : World → Prop) (hE : ∀ args w, Sem.run Tryz.prog (callFunc F args) w = .ok (.enter F args) w)
    (hF : Calls Tryz.prog F (#[.pointer (some ⟨w.heap.size + 1, 0, none⟩)] ++ caps) ((w.alloc (.cells #[.int .i64 0] 27)).alloc (.cells #[.slice A n c, .int .i64 0] 196)) fun e w' => e = .returned (.tuple #[]) ∧ R w' ∧ w'.heap[w.heap.size]? = some (.cells #[.int .i64 0] 27 (0, 0))) :
    Calls Tryz.prog 66 #[.slice A n c, .func (.func F) #[] caps] w fun e w' => e = .returned (.int .i64 0) ∧ ∃ w1, R w1 ∧ w' = w1.setCell ⟨w.heap.size, 0, none⟩ (.int .i64 0) := by
  have hmf : ∀ (fn : Fn) (first cap : Array Value) (w : World), (Instr.makeFunc fn first cap).run Tryz.prog w = .ok (.func fn first cap) w := fun _ _ _ _ => rfl
  have hnil : ∀ w : World, (binOp BinOp.eql 147 (.func (.func F) #[] caps) .nilFunc).run Tryz.prog w = .ok (.bool false) w := fun _ => rfl
  have HF := As.mk hF
  clear hF
  go_enter_defers Tryz.func66, Tryz.ntmps66
  go_wp2_with fail
  refine HF.out.mono ?_
  rintro e w1 ⟨rfl, hr, hh⟩
  have HR := As.mk hr
  have HH := As.mk hh
  have hc := cell_of hh
  have hf := free_of (i := 0) hh
  clear hr hh
  go_wp2
  refine leaves_cons (f := 105) (args := #[.pointer (some ⟨w.heap.size, 0, none⟩)]) (by simp) (by simp [go_sem]) ?_
  refine (idle ⟨w.heap.size, 0, none⟩ _).mono ?_
  rintro e u' w'' ⟨rfl, rfl, rfl⟩
  have hc2 := set_of (u := .int .i64 0) HH.out
  have hc3 := cell_of hc2
  simp [Leaves, settle, results, Tryz.results66, go_sem, hc3]
  exact ⟨w1, HR.out, rfl⟩
end Go.Proofs.YteofgpaceeibpaaGreat.Read

/- geom.Rows, and its iterator, inside the widest fence. -/
import Derived.Test.YtlhgbamajabnfaaPoint1
import Derived.RangeFuncNested
import Derived.RangeFuncBound
import Derived.RangeFuncCalls
import Derived.RangeFuncLeaves
import Derived.RangeFuncWrites
import Derived.Shelf.Abstract
import Derived.OwnWalkIn
import Derived.TacticsInMore
import Derived.LoopNIn
import Derived.LoopIn
namespace Go.Proofs.Ytlhgbamajabnfaa.Iter
open Go.RowKit Go.Proofs.Ytlhgbamajabnfaa.Gab Go.Proofs.Ytlhgbamajabnfaa.Geom
attribute [local go_sem] Oper.semAt_some
set_option linter.unusedVariables false
set_option linter.unusedSimpArgs false

theorem Fr.grownBy {w w' : World} (h : Fr None_ w w') : w.grownBy w' none := ⟨h.os, h.tape, h.output, h.size, fun k hk _ => h.block k hk (fun h => h)⟩
/-- What a round must leave as it is: what the iterator has captured. -/
def Caught (gb sb : Nat) (W W' : World) : Prop := W'.heap[gb]? = W.heap[gb]? ∧ W'.heap[sb]? = W.heap[sb]?
def encs (g : Geo) (seg : Int) {N : Nat} (k : Fin N) : Array Value := #[.int .i64 (k.val : Int), .int .i64 (g.par seg k.val)]

set_option maxHeartbeats 2000000 in
set_option maxRecDepth 100000 in
theorem Rows_calls (g : Geo) (seg : Int) (w : World) : Calls Try.prog 71 #[g.val, .int .i64 seg] w fun e w' => e = .returned (.func (.func 86) #[] #[.pointer (some ⟨w.heap.size, 0, none⟩), .pointer (some ⟨w.heap.size + 1, 0, none⟩)]) ∧
    Fr None_ w w' ∧ w'.heap.size = w.heap.size + 2 ∧ w'.heap[w.heap.size]? = some (.cells #[.int .i64 g.c, .int .i64 g.b, .int .i64 g.p, .int .i64 g.s] 28 (0, 0)) ∧ w'.heap[w.heap.size + 1]? = some (.cells #[.int .i64 seg] 3 (0, 0)) := by
  have hmf : ∀ (fn : Fn) (first cap : Array Value) (w : World), (Instr.makeFunc fn first cap).run Try.prog w = .ok (.func fn first cap) w := fun _ _ _ _ => rfl
  unfold Geo.val
  go_enter Try.func71, Try.ntmps71
  go_wp2
  go_ret
  refine ⟨rfl, ((Fr.refl None_ w).alloc _).alloc _, size_new _ (size_new _ rfl), at_old _ (heap_alloc_new w _), at_new _ (size_new _ rfl)⟩

set_option maxHeartbeats 4000000 in
set_option maxRecDepth 100000 in
theorem rows_in (n : Nat) (hn : 1 ≤ n) (g : Geo) (hg : g.Ok) (seg : Int) (hs : 0 ≤ seg ∧ seg < g.b - 5) (gb sb l : Nat) (J Jx : List (Fin g.p.toNat) → World → Prop) (W : World) (hJ : AbidesFrom W.heap.size J)
    (hY : ∀ pre x W1, J pre W1 → pre.length < g.p.toNat → YieldAt Fence.wide (n - 1) Try.prog l (encs g seg x) W1 fun e W' =>
      (e = .returned (.bool true) ∧ J (pre ++ [x]) W' ∧ Caught gb sb W1 W') ∨ (e = .returned (.bool false) ∧ Jx (pre ++ [x]) W'))
    (hgb : W.heap[gb]? = some (.cells #[.int .i64 g.c, .int .i64 g.b, .int .i64 g.p, .int .i64 g.s] 28 (0, 0))) (hsb : W.heap[sb]? = some (.cells #[.int .i64 seg] 3 (0, 0))) (h0 : J [] W) :
    CallsIn Fence.wide n Try.prog 86 #[.func (.yield l) #[] #[], .pointer (some ⟨gb, 0, none⟩), .pointer (some ⟨sb, 0, none⟩)] W fun e W' => (∃ v, e = .returned v) ∧
      ((∃ ys, ys.map Fin.val = List.range g.p.toNat ∧ J ys W') ∨ (∃ pre, (∃ j, j < g.p.toNat ∧ pre.map Fin.val = List.range (j + 1)) ∧ Jx pre W')) := by
  have hp := hg.p
  have HPR := As.mk (fun (k : Nat) (h1 : k < g.p.toNat) (w : World) => (Parity_calls g seg k w hg ⟨hs, by omega⟩))
  unfold Geo.val at HPR
  have hg2 := Point1.cell_is (i := 2) hgb rfl
  have hm : max (0 : Int) g.p = g.p := Int.max_eq_right (by omega)
  refine callsIn_of_wp Try.func86 rfl trivial ?_ rfl
  simp only [Try.ntmps86, List.size_toArray, List.length_cons, List.length_nil, Nat.reduceAdd, Nat.reduceSub, Array.replicate_succ, Array.replicate_zero, List.push_toArray, List.append_toArray, List.nil_append, List.cons_append]
  gi_wp2
  gi_loopw [4, 8] (fun v4 v8 wr => ∃ (k : Nat) (pre : List (Fin g.p.toNat)), v8 = .int .i64 (k : Int) ∧ k ≤ g.p.toNat ∧ pre.map Fin.val = List.range k ∧ J pre wr ∧ (wr.heap[gb]? = W.heap[gb]? ∧ wr.heap[sb]? = W.heap[sb]?)) (fun _ v8 _ => g.p.toNat - (intOf v8).toNat)
  case atStart => exact ⟨0, [], rfl, by omega, rfl, h0, rfl, rfl⟩
  case round =>
    obtain ⟨k, pre, rfl, hk, hpre, hJs, hc1, hc2⟩ := hrel
    by_cases hlt : k < g.p.toNat
    · have hltI : (k : Int) < g.p := by omega
      have hge := hc1.trans hgb
      have hse := hc2.trans hsb
      have a0 := Point1.cell_is (i := 0) hge rfl
      have a1 := Point1.cell_is (i := 1) hge rfl
      have a2 := Point1.cell_is (i := 2) hge rfl
      have a3 := Point1.cell_is (i := 3) hge rfl
      have a4 := cell_of hse
      have hplen : pre.length = k := by rw [← List.length_map (f := Fin.val), hpre, List.length_range]
      have HPk := As.mk (HPR.out k hlt)
      have hYk := fun (w1 : World) (hf : Fr None_ wr w1) => hY pre ⟨k, hlt⟩ w1 (hJ pre wr w1 none hJs (Fr.grownBy hf) (fun r e => by cases e)) (by omega)
      unfold encs at hYk
      dsimp only at hYk
      have HYk := As.mk hYk
      have HH := As.mk (And.intro hge (And.intro hse (And.intro hc1 hc2)))
      clear hYk hY hc1 hc2 hge hse
      gi_wp2
      refine ⟨trivial, (callsIn_wide.2 (HPk.out wr)).mono ?_⟩
      rintro e w1 ⟨rfl, hf1⟩
      obtain ⟨fn, tmps, assign, body, hy, hRR⟩ := HYk.out w1 hf1
      have HF1 := As.mk hf1
      clear hf1 a0 a1 a2 a3 a4
      gi_wp2
      refine hRR.mono ?_
      have HR2 : As (List.range (k + 1) = List.range k ++ [k]) := ⟨List.range_succ⟩
      rintro e W3 (⟨rfl, hJ3, hk3⟩ | ⟨rfl, hJx3⟩)
      · gi_wp2
        go_roundw
        case rel =>
          obtain ⟨h1, h2, h3, h4⟩ := HH.out
          exact ⟨k + 1, pre ++ [⟨k, hlt⟩], rfl, by omega, by rw [List.map_append, hpre, HR2.out]; rfl, hJ3, (hk3.1.trans ((HF1.out.heap h1 (fun h => h)).trans h1.symm)).trans h3, (hk3.2.trans ((HF1.out.heap h2 (fun h => h)).trans h2.symm)).trans h4⟩
        case measure => simp [intOf]; omega
      · gi_wp2
        refine bodyPost_ret (results_none rfl _ _ _) rfl ?_
        exact ⟨⟨_, rfl⟩, .inr ⟨pre ++ [⟨k, hlt⟩], ⟨k, hlt, by rw [List.map_append, hpre, HR2.out]; rfl⟩, hJx3⟩⟩
    · have hltI : ¬ (k : Int) < g.p := by omega
      obtain rfl : k = g.p.toNat := by omega
      gi_wp2
      go_end0
      exact ⟨⟨_, rfl⟩, .inl ⟨pre, hpre, hJs⟩⟩
end Go.Proofs.Ytlhgbamajabnfaa.Iter

import Derived.Test.YtlhgbamajabnfaaRead
import Derived.WalkLawsBesides
import Derived.Handy
import Derived.Stop.Asserts
import Derived.Test.YtlhgbamajabnfaaPoint7
import Derived.Deep.RegionLaw
/- cursor.Reader where it runs out; Left, Zero. -/
namespace Go.Proofs.Ytlhgbamajabnfaa.Dec1
open Go.RowKit Go.Proofs.Ytlhgbamajabnfaa.Gab Go.Proofs.Ytlhgbamajabnfaa.Wr Go.Proofs.Ytlhgbamajabnfaa.Rdr
set_option linter.unusedVariables false
set_option linter.unusedSimpArgs false

/-- What a reader that runs out panics with. -/
def Ran (e : Ending) : Prop := ∃ i : Int, e = .panicked [{ v := .iface 160 (.agg #[.int .i64 i]), recovered := false }]
set_option maxHeartbeats 2000000 in
set_option maxRecDepth 100000 in
theorem take_short (p : Nat) (A : Option Addr) (n c : Nat) (i k : Int) (w : World) (hR : Rr w p A n c i) (h0 : 0 ≤ i) (hk0 : 0 ≤ k) (hin : i ≤ (n : Int)) (hk : (n : Int) < i + k) (hc : n ≤ c) (hn : n ≤ 9223372036854775807) (hk9 : k ≤ 9223372036854775807) :
    Calls Try.prog 85 #[.pointer (some ⟨p, 0, none⟩), .int .i64 k] w fun e w' => Ran e ∧ Fr None_ w w' := by
  have hc0 := hR.c0
  have hc1 := hR.c1
  have hf1 := hR.f1
  clear hR
  have d1 : decide (k < 0) = false := decide_eq_false (by omega)
  have d2 : decide ((n : Int) - i < k) = true := decide_eq_true (by omega)
  have hi9 : i ≤ 9223372036854775807 := by omega
  go_enter Try.func85, Try.ntmps85
  go_wp2
  go_quiet (fail)
  go_wp2
  exact ⟨rfl, ⟨i, rfl⟩, (Fr.refl None_ w).drewN _⟩
set_option maxHeartbeats 2000000 in
set_option maxRecDepth 100000 in
theorem num_short (p : Nat) (A : Option Addr) (n c : Nat) (i k : Int) (w : World) (hR : Rr w p A n c i) (h0 : 0 ≤ i) (hk0 : 0 ≤ k) (hin : i ≤ (n : Int)) (hk : (n : Int) < i + k) (hc : n ≤ c) (hn : n ≤ 9223372036854775807) (hk9 : k ≤ 9223372036854775807) :
    Calls Try.prog 84 #[.pointer (some ⟨p, 0, none⟩), .int .i64 k] w fun e w' => Ran e ∧ Fr None_ w w' := by
  have HT := As.mk (take_short p A n c i k w hR h0 hk0 hin hk hc hn hk9)
  clear hR h0 hk0 hin hk hc hn hk9
  go_enter Try.func84, Try.ntmps84
  go_wp2_with fail
  ((with_reducible refine (HT.out).mono ?_); rintro e w1 ⟨⟨j, rfl⟩, hf1⟩)
  exact ⟨rfl, ⟨j, rfl⟩, hf1⟩
set_option maxHeartbeats 2000000 in
set_option maxRecDepth 100000 in
theorem U32_short (p : Nat) (A : Option Addr) (n c : Nat) (i : Int) (w : World) (hR : Rr w p A n c i) (h0 : 0 ≤ i) (hin : i ≤ (n : Int)) (hk : (n : Int) < i + 4) (hc : n ≤ c) (hn : n ≤ 9223372036854775807) :
    Calls Try.prog 62 #[.pointer (some ⟨p, 0, none⟩)] w fun e w' => Ran e ∧ Fr None_ w w' := by
  have HT := As.mk (num_short p A n c i 4 w hR h0 (by decide) hin hk hc hn (by decide))
  clear hR h0 hin hk hc hn
  go_enter Try.func62, Try.ntmps62
  go_wp2_with fail
  ((with_reducible refine (HT.out).mono ?_); rintro e w1 ⟨⟨j, rfl⟩, hf1⟩)
  exact ⟨rfl, ⟨j, rfl⟩, hf1⟩
set_option maxHeartbeats 2000000 in
set_option maxRecDepth 100000 in
theorem Raw_short (p : Nat) (A : Option Addr) (n c : Nat) (i k : Int) (w : World) (hR : Rr w p A n c i) (h0 : 0 ≤ i) (hk0 : 0 ≤ k) (hin : i ≤ (n : Int)) (hk : (n : Int) < i + k) (hc : n ≤ c) (hn : n ≤ 9223372036854775807) (hk9 : k ≤ 9223372036854775807) :
    Calls Try.prog 64 #[.pointer (some ⟨p, 0, none⟩), .int .i64 k] w fun e w' => Ran e ∧ Fr None_ w w' := by
  have HT := As.mk (take_short p A n c i k w hR h0 hk0 hin hk hc hn hk9)
  clear hR h0 hk0 hin hk hc hn hk9
  go_enter Try.func64, Try.ntmps64
  go_wp2_with fail
  ((with_reducible refine (HT.out).mono ?_); rintro e w1 ⟨⟨j, rfl⟩, hf1⟩)
  exact ⟨rfl, ⟨j, rfl⟩, hf1⟩
set_option maxHeartbeats 2000000 in
set_option maxRecDepth 100000 in
theorem Left_calls (p : Nat) (A : Option Addr) (n c : Nat) (i : Int) (w : World) (hR : Rr w p A n c i) (h0 : 0 ≤ i) (hin : i ≤ (n : Int)) (hn : n ≤ 9223372036854775807) :
    Calls Try.prog 63 #[.pointer (some ⟨p, 0, none⟩)] w fun e w' => e = .returned (.int .i64 (n - i)) ∧ Fr None_ w w' := by
  have hc0 := hR.c0
  have hc1 := hR.c1
  clear hR
  go_enter Try.func63, Try.ntmps63
  go_wp2
  go_quiet (fail)
  go_wp2
  go_ret
  exact ⟨rfl, (Fr.refl None_ w).drewN _⟩
theorem run_from (A : Option Addr) (n c k : Nat) (W : World) (h1 : k ≤ n) (h2 : n ≤ c) :
    (Instr.slice 23 (.slice A n c) (some (.int .i64 (k : Int))) none none).run Try.prog W = .ok (.slice (cutAt A c k) (n - k) (c - k)) W := by
  have h3 : k ≤ c := by omega
  by_cases e : c = k
  · have e2 : n = k := by omega
    subst e
    subst e2
    simp [Instr.slice, Instr.sliceBounds, Instr.sliceBound, asIntOf, run_underlying Try.underlying23, go_sem, cutAt]
  · rcases A with _ | ad
    · simp [Instr.slice, Instr.sliceBounds, Instr.sliceBound, asIntOf, run_underlying Try.underlying23, go_sem, cutAt, h1, h2, h3, e]
    · simp [Instr.slice, Instr.sliceBounds, Instr.sliceBound, asIntOf, run_underlying Try.underlying23, go_sem, cutAt, h1, h2, h3, e]
set_option maxHeartbeats 2000000 in
set_option maxRecDepth 100000 in
theorem Zero_calls (p : Nat) (A : Option Addr) (n c : Nat) (i : Int) (bs : List Int) (w : World) (hR : Rr w p A n c i) (hA : Rd .u8 w A n bs) (h0 : 0 ≤ i) (hin : i ≤ (n : Int)) (hc : n ≤ c) :
    Calls Try.prog 65 #[.pointer (some ⟨p, 0, none⟩)] w fun e w' => e = .returned (.bool ((bs.drop i.toNat).all (· == 0))) ∧ Fr None_ w w' := by
  have hn := hA.2.1
  obtain ⟨k, rfl⟩ := Int.eq_ofNat_of_zero_le h0
  have HD := As.mk (hA.drop (c := c) k (by omega) hc)
  have hc0 := hR.c0
  have hc1 := hR.c1
  have hsl := fun W => run_from A n c k W (by omega) hc
  have hnk : n - k ≤ 9223372036854775807 := by omega
  change As (Rd .u8 w (cutAt A c k) (n - k) (bs.drop k)) at HD
  rw [show Int.toNat (k : Int) = k by omega]
  generalize cutAt A c k = B at *
  generalize bs.drop k = xs at *
  generalize n - k = m at *
  generalize c - k = d at *
  clear hR hA h0
  go_enter Try.func65, Try.ntmps65
  go_wp2
  go_quiet (fail)
  go_wp2
  have HDd := As.mk (HD.out.none_ ((Fr.refl None_ w).drewN nq))
  go_loopw [4, 17] (fun v4 v17 w' => ∃ j : Nat, v17 = .int .i64 (j : Int) ∧ j ≤ m ∧ w' = w.drewN nq ∧ As ((xs.take j).all (· == 0) = true)) (fun _ v17 _ => m - (intOf v17).toNat)
  case atStart => exact ⟨0, rfl, by omega, (by first | rfl | trivial), ⟨rfl⟩⟩
  case round =>
    obtain ⟨j, rfl, hj, rfl, HJ⟩ := hrel
    by_cases hlt : j < m
    · obtain ⟨ad, rfl, hc⟩ := HDd.out.at_ j (by omega) (by omega)
      have hjl : j < xs.length := by have := HD.out.1; omega
      have HT : As ((xs.take (j + 1)).all (· == 0) = ((xs.getD j 0) == 0)) := ⟨by
        rw [List.take_succ_eq_append_getElem hjl, List.all_append, HJ.out, List.getD_eq_getElem?_getD, List.getElem?_eq_getElem hjl]; simp⟩
      have HQ : As ((xs.getD j 0 == 0) = false → xs.all (· == 0) = false) := ⟨fun h => by
        rw [Bool.eq_false_iff]
        intro ha
        rw [List.all_eq_true] at ha
        have := ha (xs.getD j 0) (by rw [List.getD_eq_getElem?_getD, List.getElem?_eq_getElem hjl]; exact List.getElem_mem hjl)
        rw [h] at this; cases this⟩
      clear hjl
      rw [show Int.toNat (j : Int) = j by omega] at hc
      generalize xs.getD j 0 = x at *
      by_cases hz : x = 0
      · subst hz
        go_wp2
        exact ⟨⟨j + 1, by go_num, by omega, (by first | rfl | trivial), ⟨by rw [HT.out]; rfl⟩⟩, by simp [intOf]; omega⟩
      · have HN : As (xs.all (· == 0) = false) := ⟨HQ.out (beq_eq_false_iff_ne.mpr hz)⟩
        go_wp2
        go_ret
        exact ⟨by rw [HN.out]; rfl, (Fr.refl None_ w).drewN _⟩
    · have HN : As (xs.all (· == 0) = true) := ⟨by have h := HJ.out; rwa [List.take_of_length_le (by have := HD.out.1; omega)] at h⟩
      go_wp2
      go_ret
      exact ⟨by rw [HN.out]; rfl, (Fr.refl None_ w).drewN _⟩
end Go.Proofs.Ytlhgbamajabnfaa.Dec1

/- cursor.Read, where the function runs out. -/
namespace Go.Proofs.Ytlhgbamajabnfaa.Dec2
open Go.RowKit Go.Proofs.Ytlhgbamajabnfaa.Gab Go.Proofs.Ytlhgbamajabnfaa.Wr Go.Proofs.Ytlhgbamajabnfaa.Rdr Go.Proofs.Ytlhgbamajabnfaa.Dec1
set_option linter.unusedVariables false
set_option linter.unusedSimpArgs false

theorem heap_set1 {w : World} {p : Nat} {v : Value} {T : TypeId} (h : w.heap[p]? = some (.cells #[v] T (0, 0))) (x : Value) : (w.setCell ⟨p, 0, none⟩ x).cell? ⟨p, 0, none⟩ = some x := cell_of (set_of (u := x) h)
set_option maxHeartbeats 2000000 in
set_option maxRecDepth 100000 in
theorem catch_short (p : Nat) (x i : Int) (older : List PanicEntry) (w : World) (hc : w.heap[p]? = some (.cells #[.int .i64 x] 42 (0, 0))) :
    CallsD Try.prog 83 #[.pointer (some ⟨p, 0, none⟩)] (.panicking ({ v := .iface 160 (.agg #[.int .i64 i]), recovered := false } :: older)) w fun e u' w' =>
      e = .returned (.tuple #[]) ∧ u' = .panicking ({ v := .iface 160 (.agg #[.int .i64 i]), recovered := true } :: older) ∧ w' = (w.alloc (.cells #[.int .i64 i] 160)).setCell ⟨p, 0, none⟩ (.int .i64 62) := by
  have hta : ∀ W : World, (Instr.typeAssert (.iface 160 (.agg #[.int .i64 i])) 20 160 true).run Try.prog W = .ok (.tuple #[.agg #[.int .i64 i], .bool true]) W := fun W => by
    simp [Instr.typeAssert, run_underlying Try.underlying160, go_sem, Result.andThen]
  have hca := at_old (.cells #[.int .i64 i] 160) hc
  have hc1 := cell_of hca
  have hf1 := free_of (i := 0) hca
  clear hca
  refine callsD_of_wpS Try.func83 rfl fun c₀ cs hu => ?_
  apply wpS_seq
  apply wpS_region
  simp [wpOpsS, go_sem, recoverD, hu, Try.ntmps83, Exit.thenS]
  refine wpS_of_wp ?_
  simp only [Array.replicate_succ, Array.replicate_zero, List.push_toArray, List.append_toArray, List.nil_append, List.cons_append, List.setIfInBounds_toArray, List.set_cons_zero, List.set_cons_succ]
  go_wp2
  cases c₀
  simp_all [bodyPostS, results, Try.results83]

set_option maxHeartbeats 2000000 in
set_option maxRecDepth 100000 in
theorem Read_short (F : FuncId) (caps : Array Value) (A : Option Addr) (n c : Nat) (w : World) (R : World → Prop) (hE : ∀ args w, Sem.run Try.prog (callFunc F args) w = .ok (.enter F args) w)
    (hF : Calls Try.prog F (#[.pointer (some ⟨w.heap.size + 1, 0, none⟩)] ++ caps) ((w.alloc (.cells #[.int .i64 0] 42)).alloc (.cells #[.slice A n c, .int .i64 0] 163)) fun e w' => Ran e ∧ R w' ∧ w'.heap[w.heap.size]? = some (.cells #[.int .i64 0] 42 (0, 0))) :
    Calls Try.prog 60 #[.slice A n c, .func (.func F) #[] caps] w fun e w' => e = .returned (.int .i64 62) ∧ ∃ w1 i, R w1 ∧ w' = (w1.alloc (.cells #[.int .i64 i] 160)).setCell ⟨w.heap.size, 0, none⟩ (.int .i64 62) := by
  have hmf : ∀ (fn : Fn) (first cap : Array Value) (w : World), (Instr.makeFunc fn first cap).run Try.prog w = .ok (.func fn first cap) w := fun _ _ _ _ => rfl
  have hnil : ∀ w : World, (binOp BinOp.eql 134 (.func (.func F) #[] caps) .nilFunc).run Try.prog w = .ok (.bool false) w := fun _ => rfl
  have HF := As.mk hF
  clear hF
  go_enter_defers Try.func60, Try.ntmps60
  go_wp2_with fail
  refine HF.out.mono ?_
  rintro e w1 ⟨⟨i, rfl⟩, hr, hh⟩
  have HR := As.mk hr
  have HH := As.mk hh
  clear hr hh
  refine leaves_cons (f := 83) (args := #[.pointer (some ⟨w.heap.size, 0, none⟩)]) (by simp) (by simp [go_sem]) ?_
  refine (catch_short w.heap.size 0 i [] _ HH.out).mono ?_
  rintro e u' w'' ⟨rfl, rfl, rfl⟩
  have hc2 := heap_set1 (at_old (.cells #[.int .i64 i] 160) HH.out) (.int .i64 62)
  simp [Leaves, settle, results, Try.results60, go_sem, hc2]
  exact ⟨w1, HR.out, i, rfl⟩
end Go.Proofs.Ytlhgbamajabnfaa.Dec2

/- point.Decode: its closure, where there are bytes enough. -/
namespace Go.Proofs.Ytlhgbamajabnfaa.Dec3
open Go.RowKit Go.Proofs.Ytlhgbamajabnfaa.Gab Go.Proofs.Ytlhgbamajabnfaa.Wr Go.Proofs.Ytlhgbamajabnfaa.Rdr Go.Proofs.Ytlhgbamajabnfaa.Dec1
open Go.Proofs.Ytlhgbamajabnfaa.Str (take_snoc)
open Go.Proofs.Ytlhgbamajabnfaa.Point1 (cell_is)
open Go.Proofs.Ytlhgbamajabnfaa.Case (heap_set)
open Go.Proofs.Ytlhgbamajabnfaa.Ram (step_appendRow)
set_option linter.unusedVariables false
set_option linter.unusedSimpArgs false

/-- A call, where the region draws its order. -/
theorem step_callee {P : Program} {ops : Array Oper} {o : Oper} {a : Act} {K : Act → World → Prop} {Q : Exit → Act → World → Prop} {E : Prop} {W : World} (hgd : o.guard = none) (f : FuncId) (x : Operand) (t : TypeId)
    (ho : o.op = .call { callee := .value (.func f), args := #[x], argTypes := #[t] }) (v0 : Value) (hargs : a.eval x = v0) (hE : ∀ args W, (callFunc f args).run P W = .ok (.enter f args) W) {R : Ending → World → Prop} (hC : Calls P f #[v0] W R)
    (hR : ∀ e w', R e w' → ∃ v, e = .returned v) (h : ∀ v w', R (.returned v) w' → K (a.put o.dst v) w') :
    if Region.wanted o (yielded ops a.tmps) = true then Oper.wp P o a W K Q else E := by
  have hw : Region.wanted o (yielded ops a.tmps) = true := by simp [Region.wanted, hgd]
  rw [if_pos hw]
  unfold Oper.wp
  have hrun : (execOp a.eval o).run P W = .ok (.enter f #[v0]) W := by
    unfold execOp
    rw [← hargs]
    simp [ho, resolve, invoke, go_sem, hE]
  rw [hrun, Oper.upon_enter]
  refine hC.mono fun e w' hr => ?_
  obtain ⟨v, rfl⟩ := hR e w' hr
  exact h v w' hr
theorem infoU32 : (Try.prog.info? 51).map (fun i => (i.zero, i.size, i.bytes)) = some (some (.int .u32 0), 1, 4) := by kernel_rfl

/-- The number at a place. -/
def nb (bs : List Int) (i : Nat) : Int := leNum ((bs.drop i).take 4) % 4294967296
theorem nb_range (bs : List Int) (i : Nat) : 0 ≤ nb bs i ∧ nb bs i < 4294967296 := by unfold nb; omega
def nbs (bs : List Int) (i k : Nat) : List Int := (List.range k).map fun j => nb bs (i + 4 * j)
theorem nbs_len (bs : List Int) (i k : Nat) : (nbs bs i k).length = k := by simp [nbs]
theorem nbs_get (bs : List Int) (i k j : Nat) (h : j < k) : (nbs bs i k).getD j 0 = nb bs (i + 4 * j) := by simp [nbs, List.getD_eq_getElem?_getD, h]
theorem nbs_succ (bs : List Int) (i k : Nat) : nbs bs i (k + 1) = nbs bs i k ++ [nb bs (i + 4 * k)] := by simp [nbs, List.range_succ]
/-- Have the bytes a point's numbers? -/
def Fits (bs : List Int) : Prop := 16 ≤ bs.length ∧ nb bs 8 ≤ (((bs.length - 16) / 4 : Nat) : Int) ∧ nb bs 12 ≤ (((bs.length - 16) / 4 : Nat) : Int) - nb bs 8

/-- The closure's memory. -/
structure In (w w' : World) (p pb zb : Nat) (A : Option Addr) (n c : Nat) (i : Int) (cs : Array Value) (z : Bool) : Prop where
  fr : Fr (fun b => b = p ∨ b = pb ∨ b = zb) w w'
  rd : Rr w' p A n c i
  pt : w'.heap[pb]? = some (.cells cs 73 (0, 0))
  z : w'.heap[zb]? = some (.cells #[.bool z] 4 (0, 0))
theorem In.ne {w w' : World} {p pb zb : Nat} {A : Option Addr} {n c : Nat} {i : Int} {cs : Array Value} {z : Bool} (h : In w w' p pb zb A n c i cs z) : p ≠ pb ∧ p ≠ zb ∧ pb ≠ zb := by
  have h1 := h.rd
  unfold Rr at h1
  refine ⟨fun e => ?_, fun e => ?_, fun e => ?_⟩
  · rw [e, h.pt] at h1; injection h1 with h1; injection h1 with _ h1; exact absurd h1 (by decide)
  · rw [e, h.z] at h1; injection h1 with h1; injection h1 with _ h1; exact absurd h1 (by decide)
  · have h2 := h.pt; rw [e, h.z] at h2; injection h2 with h2; injection h2 with _ h2; exact absurd h2 (by decide)
theorem In.read {w w' w2 : World} {p pb zb : Nat} {A : Option Addr} {n c : Nat} {i j : Int} {cs : Array Value} {z : Bool} (h : In w w' p pb zb A n c i cs z) (hr : Rr w2 p A n c j) (hf : Fr (fun b => b = p) w' w2) : In w w2 p pb zb A n c j cs z :=
  ⟨h.fr.after hf (fun _ _ e => .inl e), hr, hf.heap h.pt (fun e => h.ne.1 e.symm), hf.heap h.z (fun e => h.ne.2.1 e.symm)⟩
theorem In.none_ {w w' w2 : World} {p pb zb : Nat} {A : Option Addr} {n c : Nat} {i : Int} {cs : Array Value} {z : Bool} (h : In w w' p pb zb A n c i cs z) (hf : Fr None_ w' w2) : In w w2 p pb zb A n c i cs z :=
  ⟨h.fr.after hf (fun _ _ e => e.elim), hf.heap h.rd (fun e => e), hf.heap h.pt (fun e => e), hf.heap h.z (fun e => e)⟩
theorem In.set {w w' : World} {p pb zb : Nat} {A : Option Addr} {n c : Nat} {i : Int} {cs : Array Value} {z : Bool} (h : In w w' p pb zb A n c i cs z) (k : Nat) (v : Value) : In w (w'.setCell ⟨pb, k, none⟩ v) p pb zb A n c i (cs.setIfInBounds k v) z := by
  have hf : Fr (fun b => b = pb) w' (w'.setCell ⟨pb, k, none⟩ v) := (Fr.refl (fun b => b = pb) w').setCell (p := ⟨pb, k, none⟩) (fun _ => rfl) v
  exact ⟨h.fr.after hf (fun _ _ e => .inr (.inl e)), hf.heap h.rd h.ne.1, heap_set h.pt k v, hf.heap h.z (fun e => h.ne.2.2 e.symm)⟩
theorem In.setz {w w' : World} {p pb zb : Nat} {A : Option Addr} {n c : Nat} {i : Int} {cs : Array Value} {z : Bool} (h : In w w' p pb zb A n c i cs z) (b : Bool) : In w (w'.setCell ⟨zb, 0, none⟩ (.bool b)) p pb zb A n c i cs b := by
  have hf : Fr (fun b => b = zb) w' (w'.setCell ⟨zb, 0, none⟩ (.bool b)) := (Fr.refl (fun b => b = zb) w').setCell (p := ⟨zb, 0, none⟩) (fun _ => rfl) (.bool b)
  exact ⟨h.fr.after hf (fun _ _ e => .inr (.inr e)), hf.heap h.rd h.ne.2.1, hf.heap h.pt h.ne.2.2, set_of h.z⟩
theorem In.rdA {w w' : World} {p pb zb : Nat} {A : Option Addr} {n c : Nat} {i : Int} {cs : Array Value} {z : Bool} {bs : List Int} (h : In w w' p pb zb A n c i cs z) (hA : Rd .u8 w A n bs) (hS : ∀ ad, A = some ad → 0 < n → ¬ (ad.block = p ∨ ad.block = pb ∨ ad.block = zb)) : Rd .u8 w' A n bs := hA.fr h.fr hS
theorem In.lts {w w' : World} {p pb zb : Nat} {A : Option Addr} {n c : Nat} {i : Int} {cs : Array Value} {z : Bool} (h : In w w' p pb zb A n c i cs z) : p < w'.heap.size ∧ pb < w'.heap.size ∧ zb < w'.heap.size :=
  ⟨(Array.getElem?_eq_some_iff.1 h.rd).1, (Array.getElem?_eq_some_iff.1 h.pt).1, (Array.getElem?_eq_some_iff.1 h.z).1⟩
/-- What an append to a row of one's own leaves. -/
theorem In.grow {w w' w2 : World} {B p pb zb : Nat} {A : Option Addr} {n c : Nat} {i : Int} {cs : Array Value} {z : Bool} {v : Value} {xs : List Int} (h : In w w' p pb zb A n c i cs z) (hB : w.heap.size ≤ B) (hrow : Row 51 .u32 w' B v xs) (hf : Fr (fun b => v.ownBlock = some b) w' w2) : In w w2 p pb zb A n c i cs z :=
  ⟨h.fr.after hf (fun b hb hv => absurd hb (by have := (hrow.blk b hv).1; omega)), hf.heap h.rd (Row.ne hrow h.rd (by decide)), hf.heap h.pt (Row.ne hrow h.pt (by decide)), hf.heap h.z (Row.ne hrow h.z (by decide))⟩
theorem Row.inset {w w' : World} {B p pb zb : Nat} {A : Option Addr} {n c : Nat} {i : Int} {cs : Array Value} {z : Bool} {v : Value} {xs : List Int} (h : In w w' p pb zb A n c i cs z) (hrow : Row 51 .u32 w' B v xs) (k : Nat) (u : Value) : Row 51 .u32 (w'.setCell ⟨pb, k, none⟩ u) B v xs :=
  hrow.fr (S := fun b => b = pb) ((Fr.refl (fun b => b = pb) w').setCell (p := ⟨pb, k, none⟩) (fun _ => rfl) u) (fun b hb e => by subst e; exact Row.ne hrow h.pt (by decide) hb)
theorem Row.inread {w w' w2 : World} {B p pb zb : Nat} {A : Option Addr} {n c : Nat} {i : Int} {cs : Array Value} {z : Bool} {v : Value} {xs : List Int} (h : In w w' p pb zb A n c i cs z) (hrow : Row 51 .u32 w' B v xs) (hf : Fr (fun b => b = p) w' w2) : Row 51 .u32 w2 B v xs :=
  hrow.fr hf (fun b hb e => by subst e; exact Row.ne hrow h.rd (by decide) hb)
/-- A row of one's own that is elder. -/
theorem Row.apart {w2 w3 : World} {b1 N : Nat} {v u : Value} {xs ys : List Int} (h1 : Row 51 .u32 w2 b1 v xs) (hlt : ∀ b, v.ownBlock = some b → b < N) (h2 : Row 51 .u32 w2 N u ys) (hf : Fr (fun b => u.ownBlock = some b) w2 w3) : Row 51 .u32 w3 b1 v xs :=
  h1.fr hf (fun b hb hu => by have := (h2.blk b hu).1; have := hlt b hb; omega)
end Go.Proofs.Ytlhgbamajabnfaa.Dec3

/- point.Decode's closure: the walk. -/
namespace Go.Proofs.Ytlhgbamajabnfaa.Dec4
open Go.RowKit Go.Proofs.Ytlhgbamajabnfaa.Geom Go.Proofs.Ytlhgbamajabnfaa.Gab Go.Proofs.Ytlhgbamajabnfaa.Wr Go.Proofs.Ytlhgbamajabnfaa.Rdr Go.Proofs.Ytlhgbamajabnfaa.Dec1 Go.Proofs.Ytlhgbamajabnfaa.Dec3
open Go.Proofs.Ytlhgbamajabnfaa.Str (take_snoc)
open Go.Proofs.Ytlhgbamajabnfaa.Point1 (cell_is)
open Go.Proofs.Ytlhgbamajabnfaa.Case (heap_set)
open Go.Proofs.Ytlhgbamajabnfaa.Ram (step_appendRow)
set_option linter.unusedVariables false
set_option linter.unusedSimpArgs false

/-- What the closure leaves where the bytes are enough. -/
def ByOk (w : World) (p pb zb : Nat) (A : Option Addr) (n c : Nat) (bs : List Int) (e : Ending) (w' : World) : Prop :=
  e = .returned (.tuple #[]) ∧ ∃ vM vE i, In w w' p pb zb A n c i #[.int .u32 (nb bs 0), .int .u32 (nb bs 4), vM, vE] ((bs.drop (16 + 4 * (nb bs 8).toNat + 4 * (nb bs 12).toNat)).all (· == 0)) ∧
    Row 51 .u32 w' w.heap.size vM (nbs bs 16 (nb bs 8).toNat) ∧ Row 51 .u32 w' w.heap.size vE (nbs bs (16 + 4 * (nb bs 8).toNat) (nb bs 12).toNat)

set_option maxHeartbeats 8000000 in
set_option maxRecDepth 100000 in
theorem by_ok (p pb zb : Nat) (A : Option Addr) (n c : Nat) (bs : List Int) (w : World) (h : In w w p pb zb A n c 0 #[.int .u32 0, .int .u32 0, .slice none 0 0, .slice none 0 0] false) (hA : Rd .u8 w A n bs) (hr : InR 256 bs) (hc : n ≤ c)
    (hS : ∀ ad, A = some ad → 0 < n → ¬ (ad.block = p ∨ ad.block = pb ∨ ad.block = zb)) (hfit : Fits bs) (hn : n ≤ 1000000) :
    Calls Try.prog 61 #[.pointer (some ⟨p, 0, none⟩), .pointer (some ⟨pb, 0, none⟩), .pointer (some ⟨zb, 0, none⟩)] w (ByOk w p pb zb A n c bs) := by
  obtain ⟨hf16, hfn, hfk⟩ := hfit
  have hl := hA.1
  rw [hl] at hf16 hfn hfk
  have hSp : ∀ ad, A = some ad → 0 < n → ad.block ≠ p := fun ad e hp h => hS ad e hp (.inl h)
  have HU := As.mk (fun (i : Nat) (w' : World) (cs : Array Value) (h' : In w w' p pb zb A n c i cs false) (hk : (i : Int) + 4 ≤ (n : Int)) => U32_calls p A n c i bs w' h'.rd (h'.rdA hA hS) hSp hr (by omega) hk hc)
  change As (∀ (i : Nat) (w' : World) (cs : Array Value) (h' : In w w' p pb zb A n c i cs false) (hk : (i : Int) + 4 ≤ (n : Int)), Calls Try.prog 62 #[.pointer (some ⟨p, 0, none⟩)] w' fun e w'' => e = .returned (.int .u32 (nb bs i)) ∧ Rr w'' p A n c ((i : Int) + 4) ∧ Fr (fun b => b = p) w' w'') at HU
  have HLF := As.mk (fun (i : Int) (w' : World) (cs : Array Value) (h' : In w w' p pb zb A n c i cs false) (h0 : 0 ≤ i) (hk : i ≤ (n : Int)) => Left_calls p A n c i w' h'.rd h0 hk (by omega))
  have HZR := As.mk (fun (i : Int) (w' : World) (cs : Array Value) (h' : In w w' p pb zb A n c i cs false) (h0 : 0 ≤ i) (hk : i ≤ (n : Int)) => Zero_calls p A n c i bs w' h'.rd (h'.rdA hA hS) h0 hk hc)
  have hEU : ∀ args w, (callFunc 62 args).run Try.prog w = .ok (.enter 62 args) w := fun _ _ => rfl
  have H0 := As.mk h
  have hrb0 := nb_range bs 0
  have hrb4 := nb_range bs 4
  have hrb8 := nb_range bs 8
  have hrb12 := nb_range bs 12
  clear h hA hS hSp hr hl
  go_enter Try.func61, Try.ntmps61
  go_wp2_with fail
  ((with_reducible refine (HU.out 0 w _ H0.out (by omega)).mono ?_); rintro e w1 ⟨rfl, hr1, hf1⟩)
  have H1 := As.mk (H0.out.read (j := ((4 : Nat) : Int)) hr1 hf1)
  clear hr1 hf1
  go_wp2_with fail
  ((with_reducible refine (HU.out 4 w1 _ H1.out (by omega)).mono ?_); rintro e w2 ⟨rfl, hr2, hf2⟩)
  have H2 := As.mk (H1.out.read (j := ((8 : Nat) : Int)) hr2 hf2)
  clear hr2 hf2
  have c0 := cell_is (i := 0) H2.out.pt rfl
  have f0 := free_of (i := 0) H2.out.pt
  have c1 := cell_is (i := 1) H2.out.pt rfl
  have f1 := free_of (i := 1) H2.out.pt
  have H3 := As.mk ((H2.out.set 0 (.int .u32 (nb bs 0))).set 1 (.int .u32 (nb bs 4)))
  simp only [List.setIfInBounds_toArray, List.set_cons_zero, List.set_cons_succ] at H3
  go_upto_region 2 with fail
  generalize (w2.setCell ⟨pb, 0, none⟩ (.int .u32 (nb bs 0))).setCell ⟨pb, 1, none⟩ (.int .u32 (nb bs 4)) = w3 at *
  clear c0 f0 c1 f1
  go_wp2_with fail
  ((with_reducible refine (HU.out 8 w3 _ H3.out (by omega)).mono ?_); rintro e w4 ⟨rfl, hr4, hf4⟩)
  have H4 := As.mk (H3.out.read (j := ((12 : Nat) : Int)) hr4 hf4)
  clear hr4 hf4
  go_wp2_with fail
  ((with_reducible refine (HU.out 12 w4 _ H4.out (by omega)).mono ?_); rintro e w5 ⟨rfl, hr5, hf5⟩)
  have H5 := As.mk (H4.out.read (j := ((16 : Nat) : Int)) hr5 hf5)
  clear hr5 hf5
  obtain ⟨N, hN⟩ : ∃ N : Nat, nb bs 8 = N := ⟨(nb bs 8).toNat, by omega⟩
  obtain ⟨M, hM⟩ : ∃ M : Nat, nb bs 12 = M := ⟨(nb bs 12).toNat, by omega⟩
  have hPost := fun (e : Ending) (w' : World) (h : e = .returned (.tuple #[]) ∧ ∃ vM vE i, In w w' p pb zb A n c i #[.int .u32 (nb bs 0), .int .u32 (nb bs 4), vM, vE] ((bs.drop (16 + 4 * N + 4 * M)).all (· == 0)) ∧
    Row 51 .u32 w' w.heap.size vM (nbs bs 16 N) ∧ Row 51 .u32 w' w.heap.size vE (nbs bs (16 + 4 * N) M)) => (by
      unfold ByOk
      rw [hN, hM]
      exact h : ByOk w p pb zb A n c bs e w')
  have HPost := As.mk hPost
  rw [hN] at hfn hfk hrb8
  rw [hM] at hfk hrb12
  have hLn : 16 + 4 * N + 4 * M ≤ n := by omega
  have hw64 : IntKind.i64.wrap (N : Int) = N := i64_in _ (by omega) (by omega)
  have hw65 : IntKind.i64.wrap (M : Int) = M := i64_in _ (by omega) (by omega)
  clear hPost
  rw [hN, hM]
  clear hN hM
  go_wp2_with fail
  ((with_reducible refine (HLF.out _ w5 _ H5.out (by omega) (by omega)).mono ?_); rintro e w6 ⟨rfl, hf6⟩)
  have H6 := As.mk (H5.out.none_ hf6)
  clear hf6
  have d1 : decide (((n : Int) - 16) / 4 < (N : Int)) = false := decide_eq_false (by omega)
  have d2 : decide (((n : Int) - 16) / 4 - (N : Int) < (M : Int)) = false := decide_eq_false (by omega)
  go_wp2_with fail
  ((with_reducible refine (HLF.out _ w6 _ H6.out (by omega) (by omega)).mono ?_); rintro e w7 ⟨rfl, hf7⟩)
  have H7 := As.mk (H6.out.none_ hf7)
  clear hf7
  go_wp2_with fail
  go_loopw [38] (fun vS w' => ∃ (j : Nat) (vM : Value), vS = .int .i64 (j : Int) ∧ j ≤ N ∧ As (In w w' p pb zb A n c ((16 + 4 * j : Nat) : Int) #[.int .u32 (nb bs 0), .int .u32 (nb bs 4), vM, .slice none 0 0] false) ∧ As (Row 51 .u32 w' w.heap.size vM (nbs bs (16) j))) (fun vS _ => N - (intOf vS).toNat)
  case atStart => exact ⟨0, _, rfl, by omega, H7, ⟨Row.nil _ _ _ _⟩⟩
  case round =>
    obtain ⟨j, vM, rfl, hj, HI, HX⟩ := hrel
    obtain ⟨A1, n1, c1, e1, _, hd1, _⟩ := HX.out.rd
    subst e1
    have hn1 : j = n1 := by rw [← hd1.out.1, nbs_len]
    subst hn1
    clear hd1
    by_cases hlt : j < N
    · have hltI : (j : Int) < (N : Int) := by omega
      have HUc := As.mk (HU.out (16 + 4 * j) wr.drew _ (HI.out.none_ (Fr.refl None_ wr).drew) (by omega))
      have k2 := cell_is (i := 2) HI.out.pt rfl
      change wr.cell? ⟨pb, 2, none⟩ = some (.slice A1 j c1) at k2
      have HSC := As.mk (nbs_succ bs (16) j)
      have HLE := As.mk (nbs_len bs (16) j)
      have hxr := nb_range bs (16 + 4 * j)
      generalize nb bs (16 + 4 * j) = x at *
      generalize nbs bs (16) j = xs at *
      go_upto_region 6 with fail
      go_region_law (first
        | ((with_reducible refine step_callee rfl 62 _ _ rfl (.pointer (some ⟨p, 0, none⟩)) rfl hEU HUc.out (fun e w' h => ⟨_, h.1⟩) ?_); rintro v w1 ⟨hv, hr1, hf1⟩; injection hv with hv; subst hv; have H1 := As.mk ((HI.out.none_ (Fr.refl None_ wr).drew).read (j := ((16 + 4 * (j + 1) : Nat) : Int)) (by rw [show ((16 + 4 * (j + 1) : Nat) : Int) = ((16 + 4 * j : Nat) : Int) + 4 by omega]; exact hr1) hf1); have HX1 := As.mk (Row.inread (HI.out.none_ (Fr.refl None_ wr).drew) (HX.out.none_ (Fr.refl None_ wr).drew) hf1); have hfa : Fr None_ w1 (w1.alloc (.cells #[.int .u32 x] 51)) := (Fr.refl None_ w1).alloc _; have H1a := As.mk (H1.out.none_ hfa); have HX1a := As.mk (HX1.out.none_ hfa); have HRx : As (Rd .u32 (w1.alloc (.cells #[.int .u32 x] 51)) (some ⟨w1.heap.size, 0, none⟩) 1 [x]) := ⟨rfl, by decide, fun _ => ⟨_, rfl, fun i hi => by have hi0 : i = 0 := (by omega); subst hi0; exact cell_is (i := 0) (heap_alloc_new w1 _) rfl⟩⟩; have k21 := cell_is (i := 2) H1.out.pt rfl; have k22 := cell_is (i := 2) H1a.out.pt rfl; change w1.cell? ⟨pb, 2, none⟩ = some (.slice A1 j c1) at k21; change (w1.alloc (.cells #[.int .u32 x] 51)).cell? ⟨pb, 2, none⟩ = some (.slice A1 j c1) at k22; have hzb : w.heap.size ≤ (w1.alloc (.cells #[.int .u32 x] 51)).heap.size := H1a.out.fr.size; clear hr1 hf1 hfa)
        | ((with_reducible refine step_appendRow w.heap.size rfl _ _ 71 51 .u32 4 rfl Try.underlying71 infoU32 (by decide) (.slice A1 j c1) xs [x] (some ⟨w1.heap.size, 0, none⟩) 1 1 rfl rfl HX1a.out HRx.out hzb ?k1 ?_); (case k1 => rw [HLE.out]; omega); intro v9 w9 hrow9 hfr9 hat9; have H9 := As.mk (H1a.out.grow (Nat.le_refl _) HX1a.out hfr9); have HX9 := As.mk hrow9; have k29 := cell_is (i := 2) H9.out.pt rfl; have f29 := free_of (i := 2) H9.out.pt; change w9.cell? ⟨pb, 2, none⟩ = some (.slice A1 j c1) at k29; clear hrow9 hfr9 hat9; obtain ⟨A9, n9, c9, e9, _, _, _⟩ := HX9.out.rd; subst e9)
        | fail)
      all_goals
        go_wp2_with fail
        have hS9 := H9.out.set 2 (.slice A9 n9 c9)
        simp only [List.setIfInBounds_toArray, List.set_cons_zero, List.set_cons_succ] at hS9
        refine ⟨⟨j + 1, _, rfl, by omega, ⟨hS9⟩, ⟨?_⟩⟩, by simp [intOf]; omega⟩
        rw [HSC.out]
        exact Row.inset H9.out HX9.out 2 _
    · have hltI : ¬ (j : Int) < (N : Int) := by omega
      obtain rfl : N = j := by omega
      clear hlt hj
      go_wp2_with fail
      have HXM := HX
      rename World => wL
      have hwL : w.heap.size ≤ wL.heap.size := HI.out.fr.size
      have hML : ∀ b, (Value.slice A1 N c1).ownBlock = some b → b < wL.heap.size := fun b hb => (HX.out.blk b hb).2.1
      have HML := As.mk hML
      clear hML
      rename Option Addr => AM
      rename Nat => cM
      clear HX
      go_loopw [49] (fun vS w' => ∃ (j : Nat) (vM : Value), vS = .int .i64 (j : Int) ∧ j ≤ M ∧ As (In w w' p pb zb A n c ((16 + 4 * N + 4 * j : Nat) : Int) #[.int .u32 (nb bs 0), .int .u32 (nb bs 4), .slice AM N cM, vM] false) ∧ As (Row 51 .u32 w' wL.heap.size vM (nbs bs (16 + 4 * N) j)) ∧ As (Row 51 .u32 w' w.heap.size (.slice AM N cM) (nbs bs 16 N)) ∧ wL.heap.size ≤ w'.heap.size) (fun vS _ => M - (intOf vS).toNat)
      case atStart => exact ⟨0, _, rfl, by omega, HI, ⟨Row.nil _ _ _ _⟩, HXM, Nat.le_refl _⟩
      case round =>
        obtain ⟨j, vM, rfl, hj, HI, HX, HXm, hzL⟩ := hrel
        obtain ⟨A1, n1, c1, e1, _, hd1, _⟩ := HX.out.rd
        subst e1
        have hn1 : j = n1 := by rw [← hd1.out.1, nbs_len]
        subst hn1
        clear hd1
        by_cases hlt : j < M
        · have hltI : (j : Int) < (M : Int) := by omega
          have HUc := As.mk (HU.out (16 + 4 * N + 4 * j) wr.drew _ (HI.out.none_ (Fr.refl None_ wr).drew) (by omega))
          have k2 := cell_is (i := 3) HI.out.pt rfl
          change wr.cell? ⟨pb, 3, none⟩ = some (.slice A1 j c1) at k2
          have HSC := As.mk (nbs_succ bs (16 + 4 * N) j)
          have HLE := As.mk (nbs_len bs (16 + 4 * N) j)
          have hxr := nb_range bs (16 + 4 * N + 4 * j)
          generalize nb bs (16 + 4 * N + 4 * j) = x at *
          generalize nbs bs (16 + 4 * N) j = xs at *
          go_upto_region 10 with fail
          go_region_law (first
            | ((with_reducible refine step_callee rfl 62 _ _ rfl (.pointer (some ⟨p, 0, none⟩)) rfl hEU HUc.out (fun e w' h => ⟨_, h.1⟩) ?_); rintro v w1 ⟨hv, hr1, hf1⟩; injection hv with hv; subst hv; have H1 := As.mk ((HI.out.none_ (Fr.refl None_ wr).drew).read (j := ((16 + 4 * N + 4 * (j + 1) : Nat) : Int)) (by rw [show ((16 + 4 * N + 4 * (j + 1) : Nat) : Int) = ((16 + 4 * N + 4 * j : Nat) : Int) + 4 by omega]; exact hr1) hf1); have HX1 := As.mk (Row.inread (HI.out.none_ (Fr.refl None_ wr).drew) (HX.out.none_ (Fr.refl None_ wr).drew) hf1); have HM1 := As.mk (Row.inread (HI.out.none_ (Fr.refl None_ wr).drew) (HXm.out.none_ (Fr.refl None_ wr).drew) hf1); have hfa : Fr None_ w1 (w1.alloc (.cells #[.int .u32 x] 51)) := (Fr.refl None_ w1).alloc _; have H1a := As.mk (H1.out.none_ hfa); have HX1a := As.mk (HX1.out.none_ hfa); have HM1a := As.mk (HM1.out.none_ hfa); have hzl : wr.heap.size ≤ w1.heap.size := hf1.size; have HRx : As (Rd .u32 (w1.alloc (.cells #[.int .u32 x] 51)) (some ⟨w1.heap.size, 0, none⟩) 1 [x]) := ⟨rfl, by decide, fun _ => ⟨_, rfl, fun i hi => by have hi0 : i = 0 := (by omega); subst hi0; exact cell_is (i := 0) (heap_alloc_new w1 _) rfl⟩⟩; have k21 := cell_is (i := 3) H1.out.pt rfl; have k22 := cell_is (i := 3) H1a.out.pt rfl; change w1.cell? ⟨pb, 3, none⟩ = some (.slice A1 j c1) at k21; change (w1.alloc (.cells #[.int .u32 x] 51)).cell? ⟨pb, 3, none⟩ = some (.slice A1 j c1) at k22; have hzb : wL.heap.size ≤ (w1.alloc (.cells #[.int .u32 x] 51)).heap.size := (by simp; omega); clear hr1 hf1 hfa)
            | ((with_reducible refine step_appendRow wL.heap.size rfl _ _ 71 51 .u32 4 rfl Try.underlying71 infoU32 (by decide) (.slice A1 j c1) xs [x] (some ⟨w1.heap.size, 0, none⟩) 1 1 rfl rfl HX1a.out HRx.out hzb ?k1 ?_); (case k1 => rw [HLE.out]; omega); intro v9 w9 hrow9 hfr9 hat9; have H9 := As.mk (H1a.out.grow hwL HX1a.out hfr9); have HX9 := As.mk hrow9; have hfz9 := hfr9.size; have HM9 := As.mk (Row.apart HM1a.out HML.out HX1a.out hfr9); have k29 := cell_is (i := 3) H9.out.pt rfl; have f29 := free_of (i := 3) H9.out.pt; change w9.cell? ⟨pb, 3, none⟩ = some (.slice A1 j c1) at k29; clear hrow9 hfr9 hat9; obtain ⟨A9, n9, c9, e9, _, _, _⟩ := HX9.out.rd; subst e9)
            | fail)
          all_goals
            go_wp2_with fail
            have hS9 := H9.out.set 3 (.slice A9 n9 c9)
            simp only [List.setIfInBounds_toArray, List.set_cons_zero, List.set_cons_succ] at hS9
            refine ⟨⟨j + 1, _, rfl, by omega, ⟨hS9⟩, ⟨?_⟩, ⟨Row.inset H9.out HM9.out 3 _⟩, by have h1 := hfz9; simp only [World.size_alloc] at h1; simp [World.setCell]; omega⟩, by simp [intOf]; omega⟩
            rw [HSC.out]
            exact Row.inset H9.out HX9.out 3 _
        · have hltI : ¬ (j : Int) < (M : Int) := by omega
          obtain rfl : M = j := by omega
          clear hlt hj
          go_wp2_with fail
          ((with_reducible refine (HZR.out _ wr _ HI.out (by omega) (by omega)).mono ?_); rintro e w8 ⟨rfl, hf8⟩)
          have H8 := As.mk (HI.out.none_ hf8)
          have HX8 := As.mk (HX.out.none_ hf8)
          have HM8 := As.mk (HXm.out.none_ hf8)
          clear hf8
          have z8 := cell_of H8.out.z
          have y8 := free_of (i := 0) H8.out.z
          rw [show Int.toNat ((16 + 4 * N + 4 * M : Nat) : Int) = 16 + 4 * N + 4 * M by omega]
          generalize hzz : (bs.drop (16 + 4 * N + 4 * M)).all (· == 0) = zz at *
          have HZZ := As.mk hzz
          clear hzz
          go_wp2_with fail
          go_end0
          refine HPost.out _ _ ⟨rfl, .slice AM N cM, .slice A1 M c1, ((16 + 4 * N + 4 * M : Nat) : Int), ?_, ?_, ?_⟩
          · exact H8.out.setz zz
          · exact HM8.out.fr (S := fun b => b = zb) ((Fr.refl (fun b => b = zb) w8).setCell (p := ⟨zb, 0, none⟩) (fun _ => rfl) (.bool zz)) (fun b hb e => by subst e; exact Row.ne HM8.out H8.out.z (by decide) hb)
          · exact (HX8.out.lower hwL).fr (S := fun b => b = zb) ((Fr.refl (fun b => b = zb) w8).setCell (p := ⟨zb, 0, none⟩) (fun _ => rfl) (.bool zz)) (fun b hb e => by subst e; exact Row.ne HX8.out H8.out.z (by decide) hb)

/-- What the closure leaves where it runs out. -/
def ByShort (w : World) (p pb zb : Nat) (A : Option Addr) (n c : Nat) (e : Ending) (w' : World) : Prop := Ran e ∧ ∃ i cs, In w w' p pb zb A n c i cs false

set_option maxHeartbeats 8000000 in
set_option maxRecDepth 100000 in
theorem by_short (p pb zb : Nat) (A : Option Addr) (n c : Nat) (bs : List Int) (w : World) (h : In w w p pb zb A n c 0 #[.int .u32 0, .int .u32 0, .slice none 0 0, .slice none 0 0] false) (hA : Rd .u8 w A n bs) (hr : InR 256 bs) (hc : n ≤ c)
    (hS : ∀ ad, A = some ad → 0 < n → ¬ (ad.block = p ∨ ad.block = pb ∨ ad.block = zb)) (hfit : ¬ Fits bs) (hn : n ≤ 1000000) :
    Calls Try.prog 61 #[.pointer (some ⟨p, 0, none⟩), .pointer (some ⟨pb, 0, none⟩), .pointer (some ⟨zb, 0, none⟩)] w (ByShort w p pb zb A n c) := by
  have hl := hA.1
  have HFT := As.mk hfit
  have hSp : ∀ ad, A = some ad → 0 < n → ad.block ≠ p := fun ad e hp h => hS ad e hp (.inl h)
  have HU := As.mk (fun (i : Nat) (w' : World) (cs : Array Value) (h' : In w w' p pb zb A n c i cs false) (hk : (i : Int) + 4 ≤ (n : Int)) => U32_calls p A n c i bs w' h'.rd (h'.rdA hA hS) hSp hr (by omega) hk hc)
  change As (∀ (i : Nat) (w' : World) (cs : Array Value) (h' : In w w' p pb zb A n c i cs false) (hk : (i : Int) + 4 ≤ (n : Int)), Calls Try.prog 62 #[.pointer (some ⟨p, 0, none⟩)] w' fun e w'' => e = .returned (.int .u32 (nb bs i)) ∧ Rr w'' p A n c ((i : Int) + 4) ∧ Fr (fun b => b = p) w' w'') at HU
  have HUS := As.mk (fun (i : Nat) (w' : World) (cs : Array Value) (h' : In w w' p pb zb A n c i cs false) (h0 : (i : Int) ≤ (n : Int)) (hk : (n : Int) < (i : Int) + 4) => U32_short p A n c i w' h'.rd (by omega) h0 hk hc (by omega))
  have HLF := As.mk (fun (i : Int) (w' : World) (cs : Array Value) (h' : In w w' p pb zb A n c i cs false) (h0 : 0 ≤ i) (hk : i ≤ (n : Int)) => Left_calls p A n c i w' h'.rd h0 hk (by omega))
  have HRW := As.mk (fun (i k : Int) (w' : World) (cs : Array Value) (h' : In w w' p pb zb A n c i cs false) (h0 : 0 ≤ i) (hi : i ≤ (n : Int)) (hk0 : 0 ≤ k) (hk1 : (n : Int) < i + k) (hk9 : k ≤ 2000000) => Raw_short p A n c i k w' h'.rd h0 hk0 hi hk1 hc (by omega) (by omega))
  have H0 := As.mk h
  have hrb8 := nb_range bs 8
  have hrb12 := nb_range bs 12
  have HLN := As.mk hl
  clear h hA hS hSp hr hl hfit
  go_enter Try.func61, Try.ntmps61
  by_cases l4 : n < 4
  · go_wp2_with fail
    ((with_reducible refine (HUS.out 0 w _ H0.out (by omega) (by omega)).mono ?_); rintro e w1 ⟨⟨j, rfl⟩, hf1⟩)
    exact ⟨rfl, ⟨j, rfl⟩, _, _, H0.out.none_ hf1⟩
  go_wp2_with fail
  ((with_reducible refine (HU.out 0 w _ H0.out (by omega)).mono ?_); rintro e w1 ⟨rfl, hr1, hf1⟩)
  have H1 := As.mk (H0.out.read (j := ((4 : Nat) : Int)) hr1 hf1)
  clear hr1 hf1
  by_cases l8 : n < 8
  · go_wp2_with fail
    ((with_reducible refine (HUS.out 4 w1 _ H1.out (by omega) (by omega)).mono ?_); rintro e w2 ⟨⟨j, rfl⟩, hf2⟩)
    exact ⟨rfl, ⟨j, rfl⟩, _, _, H1.out.none_ hf2⟩
  go_wp2_with fail
  ((with_reducible refine (HU.out 4 w1 _ H1.out (by omega)).mono ?_); rintro e w2 ⟨rfl, hr2, hf2⟩)
  have H2 := As.mk (H1.out.read (j := ((8 : Nat) : Int)) hr2 hf2)
  clear hr2 hf2
  have c0 := cell_is (i := 0) H2.out.pt rfl
  have f0 := free_of (i := 0) H2.out.pt
  have c1 := cell_is (i := 1) H2.out.pt rfl
  have f1 := free_of (i := 1) H2.out.pt
  have H3 := As.mk ((H2.out.set 0 (.int .u32 (nb bs 0))).set 1 (.int .u32 (nb bs 4)))
  simp only [List.setIfInBounds_toArray, List.set_cons_zero, List.set_cons_succ] at H3
  go_upto_region 2 with fail
  generalize (w2.setCell ⟨pb, 0, none⟩ (.int .u32 (nb bs 0))).setCell ⟨pb, 1, none⟩ (.int .u32 (nb bs 4)) = w3 at *
  clear c0 f0 c1 f1
  by_cases l12 : n < 12
  · go_wp2_with fail
    ((with_reducible refine (HUS.out 8 w3 _ H3.out (by omega) (by omega)).mono ?_); rintro e w4 ⟨⟨j, rfl⟩, hf4⟩)
    exact ⟨rfl, ⟨j, rfl⟩, _, _, H3.out.none_ hf4⟩
  go_wp2_with fail
  ((with_reducible refine (HU.out 8 w3 _ H3.out (by omega)).mono ?_); rintro e w4 ⟨rfl, hr4, hf4⟩)
  have H4 := As.mk (H3.out.read (j := ((12 : Nat) : Int)) hr4 hf4)
  clear hr4 hf4
  by_cases l16 : n < 16
  · go_wp2_with fail
    ((with_reducible refine (HUS.out 12 w4 _ H4.out (by omega) (by omega)).mono ?_); rintro e w5 ⟨⟨j, rfl⟩, hf5⟩)
    exact ⟨rfl, ⟨j, rfl⟩, _, _, H4.out.none_ hf5⟩
  go_wp2_with fail
  ((with_reducible refine (HU.out 12 w4 _ H4.out (by omega)).mono ?_); rintro e w5 ⟨rfl, hr5, hf5⟩)
  have H5 := As.mk (H4.out.read (j := ((16 : Nat) : Int)) hr5 hf5)
  clear hr5 hf5
  have hno : ¬ (nb bs 8 ≤ (((n - 16) / 4 : Nat) : Int) ∧ nb bs 12 ≤ (((n - 16) / 4 : Nat) : Int) - nb bs 8) := fun h => HFT.out (by unfold Fits; rw [HLN.out]; exact ⟨by omega, h.1, h.2⟩)
  generalize nb bs 8 = N at *
  generalize nb bs 12 = M at *
  have hw64 : IntKind.i64.wrap N = N := i64_in _ (by omega) (by omega)
  have hw65 : IntKind.i64.wrap M = M := i64_in _ (by omega) (by omega)
  go_wp2_with fail
  ((with_reducible refine (HLF.out _ w5 _ H5.out (by omega) (by omega)).mono ?_); rintro e w6 ⟨rfl, hf6⟩)
  have H6 := As.mk (H5.out.none_ hf6)
  clear hf6
  by_cases hN : N ≤ ((n : Int) - 16) / 4
  · have hM : ¬ M ≤ ((n : Int) - 16) / 4 - N := fun h => hno ⟨by omega, by omega⟩
    have d1 : decide (((n : Int) - 16) / 4 < N) = false := decide_eq_false (by omega)
    have d2 : decide (((n : Int) - 16) / 4 - N < M) = true := decide_eq_true (by omega)
    clear hno
    go_wp2_with fail
    ((with_reducible refine (HLF.out _ w6 _ H6.out (by omega) (by omega)).mono ?_); rintro e w7 ⟨rfl, hf7⟩)
    have H7 := As.mk (H6.out.none_ hf7)
    clear hf7
    go_wp2_with fail
    ((with_reducible refine (HLF.out _ w7 _ H7.out (by omega) (by omega)).mono ?_); rintro e w8 ⟨rfl, hf8⟩)
    have H8 := As.mk (H7.out.none_ hf8)
    clear hf8
    go_wp2_with fail
    ((with_reducible refine (HRW.out _ _ w8 _ H8.out (by omega) (by omega) (by omega) (by omega) (by omega)).mono ?_); rintro e w9 ⟨⟨j, rfl⟩, hf9⟩)
    exact ⟨rfl, ⟨j, rfl⟩, _, _, H8.out.none_ hf9⟩
  · have d1 : decide (((n : Int) - 16) / 4 < N) = true := decide_eq_true (by omega)
    clear hno
    go_wp2_with fail
    ((with_reducible refine (HLF.out _ w6 _ H6.out (by omega) (by omega)).mono ?_); rintro e w8 ⟨rfl, hf8⟩)
    have H8 := As.mk (H6.out.none_ hf8)
    clear hf8
    go_wp2_with fail
    ((with_reducible refine (HRW.out _ _ w8 _ H8.out (by omega) (by omega) (by omega) (by omega) (by omega)).mono ?_); rintro e w9 ⟨⟨j, rfl⟩, hf9⟩)
    exact ⟨rfl, ⟨j, rfl⟩, _, _, H8.out.none_ hf9⟩
end Go.Proofs.Ytlhgbamajabnfaa.Dec4

/- point.Decode. -/
namespace Go.Proofs.Ytlhgbamajabnfaa.Dec5
open Go.RowKit Go.Proofs.Ytlhgbamajabnfaa.Geom Go.Proofs.Ytlhgbamajabnfaa.Gab Go.Proofs.Ytlhgbamajabnfaa.Wr Go.Proofs.Ytlhgbamajabnfaa.Rdr Go.Proofs.Ytlhgbamajabnfaa.Dec1 Go.Proofs.Ytlhgbamajabnfaa.Dec2 Go.Proofs.Ytlhgbamajabnfaa.Dec3 Go.Proofs.Ytlhgbamajabnfaa.Dec4
open Go.Proofs.Ytlhgbamajabnfaa.Point1 (cell_is)
set_option linter.unusedVariables false
set_option linter.unusedSimpArgs false

/-- Are bytes a point? -/
def IsPt (bs : List Int) : Prop := Fits bs ∧ (bs.drop (16 + 4 * (nb bs 8).toNat + 4 * (nb bs 12).toNat)).all (· == 0) = true
/-- What Decode answers. -/
def DecPost (bs : List Int) (w : World) (e : Ending) (w' : World) : Prop :=
  (IsPt bs ∧ ∃ vM vE, e = .returned (.tuple #[.agg #[.int .u32 (nb bs 0), .int .u32 (nb bs 4), vM, vE], .int .i64 0]) ∧ Row 51 .u32 w' w.heap.size vM (nbs bs 16 (nb bs 8).toNat) ∧ Row 51 .u32 w' w.heap.size vE (nbs bs (16 + 4 * (nb bs 8).toNat) (nb bs 12).toNat) ∧ Fr None_ w w') ∨
  (¬ IsPt bs ∧ e = .returned (.tuple #[.agg #[.int .u32 0, .int .u32 0, .slice none 0 0, .slice none 0 0], .int .i64 62]) ∧ Fr None_ w w')

/-- The closure's memory, ahead of it. -/
theorem ahead (w : World) (A : Option Addr) (n c : Nat) (w3 : World) (hw3 : w3 = ((w.alloc (.cells #[.int .u32 0, .int .u32 0, .slice none 0 0, .slice none 0 0] 73)).alloc (.cells #[.int .u32 0, .int .u32 0, .slice none 0 0, .slice none 0 0] 73)).alloc (.cells #[.bool false] 4)) :
    In ((w3.alloc (.cells #[.int .i64 0] 42)).alloc (.cells #[.slice A n c, .int .i64 0] 163)) ((w3.alloc (.cells #[.int .i64 0] 42)).alloc (.cells #[.slice A n c, .int .i64 0] 163)) (w3.heap.size + 1) (w.heap.size + 1) (w.heap.size + 1 + 1) A n c 0 #[.int .u32 0, .int .u32 0, .slice none 0 0, .slice none 0 0] false ∧
    w3.heap.size = w.heap.size + 3 ∧ Fr None_ w w3 ∧ w3.heap[w.heap.size]? = some (.cells #[.int .u32 0, .int .u32 0, .slice none 0 0, .slice none 0 0] 73 (0, 0)) := by
  have s1 : (w.alloc (.cells #[.int .u32 0, .int .u32 0, .slice none 0 0, .slice none 0 0] 73)).heap.size = w.heap.size + 1 := size_new _ rfl
  have s2 := size_new (.cells #[.int .u32 0, .int .u32 0, .slice none 0 0, .slice none 0 0] 73) s1
  have s3 := size_new (.cells #[.bool false] 4) s2
  have h0 := at_old (.cells #[.bool false] 4) (at_old (.cells #[.int .u32 0, .int .u32 0, .slice none 0 0, .slice none 0 0] 73) (heap_alloc_new w (.cells #[.int .u32 0, .int .u32 0, .slice none 0 0, .slice none 0 0] 73)))
  have h1 := at_old (.cells #[.bool false] 4) (at_new (.cells #[.int .u32 0, .int .u32 0, .slice none 0 0, .slice none 0 0] 73) s1)
  have h2 := at_new (.cells #[.bool false] 4) s2
  rw [← hw3] at s3 h0 h1 h2
  refine ⟨⟨Fr.refl _ _, ?_, at_old _ (at_old _ h1), at_old _ (at_old _ h2)⟩, s3, ?_, h0⟩
  · exact at_new _ (size_new _ rfl)
  · rw [hw3]
    exact (((Fr.refl None_ w).alloc _).alloc _).alloc _

theorem set4 {w w' : World} {b : Nat} {T : TypeId} {a0 a1 a2 a3 : Value} (hf : Fr None_ w w') (hb : w.heap.size ≤ b) (h : w'.heap[b]? = some (.cells #[a0, a1, a2, a3] T (0, 0))) (v0 v1 v2 v3 : Value) :
    Fr None_ w ((((w'.setCell ⟨b, 0, none⟩ v0).setCell ⟨b, 1, none⟩ v1).setCell ⟨b, 2, none⟩ v2).setCell ⟨b, 3, none⟩ v3) ∧ ((((w'.setCell ⟨b, 0, none⟩ v0).setCell ⟨b, 1, none⟩ v1).setCell ⟨b, 2, none⟩ v2).setCell ⟨b, 3, none⟩ v3).heap[b]? = some (.cells #[v0, v1, v2, v3] T (0, 0)) ∧
    Fr (fun i => i = b) w' ((((w'.setCell ⟨b, 0, none⟩ v0).setCell ⟨b, 1, none⟩ v1).setCell ⟨b, 2, none⟩ v2).setCell ⟨b, 3, none⟩ v3) := by
  have h0 := Case.heap_set h 0 v0
  have h1 := Case.heap_set h0 1 v1
  have h2 := Case.heap_set h1 2 v2
  have h3 := Case.heap_set h2 3 v3
  refine ⟨(((hf.setCell (p := ⟨b, 0, none⟩) (fun h => absurd h (Nat.not_lt.2 hb)) v0).setCell (p := ⟨b, 1, none⟩) (fun h => absurd h (Nat.not_lt.2 hb)) v1).setCell (p := ⟨b, 2, none⟩) (fun h => absurd h (Nat.not_lt.2 hb)) v2).setCell (p := ⟨b, 3, none⟩) (fun h => absurd h (Nat.not_lt.2 hb)) v3, ?_,
    ((((Fr.refl (fun i => i = b) w').setCell (p := ⟨b, 0, none⟩) (fun _ => rfl) v0).setCell (p := ⟨b, 1, none⟩) (fun _ => rfl) v1).setCell (p := ⟨b, 2, none⟩) (fun _ => rfl) v2).setCell (p := ⟨b, 3, none⟩) (fun _ => rfl) v3⟩
  rw [h3]
  simp
/-- Behind Read. -/
theorem behind {w wE w1 w4 : World} {e0 p pb zb : Nat} {A : Option Addr} {n c : Nat} {i : Int} {cs ps : Array Value} {z : Bool} (hfE : Fr None_ w wE) (h : In wE w1 p pb zb A n c i cs z) (hp : w.heap.size ≤ p) (hpb : w.heap.size < pb) (hzb : w.heap.size < zb) (he : w.heap.size < e0)
    (hne : e0 ≠ pb ∧ e0 ≠ zb) (hpw : w.heap.size ≠ p) (hf : Fr (fun b => b = e0) w1 w4) (h0 : wE.heap[w.heap.size]? = some (.cells ps 73 (0, 0))) :
    Fr None_ w w4 ∧ w4.heap[pb]? = some (.cells cs 73 (0, 0)) ∧ w4.heap[zb]? = some (.cells #[.bool z] 4 (0, 0)) ∧ w4.heap[w.heap.size]? = some (.cells ps 73 (0, 0)) :=
  ⟨(hfE.after h.fr (fun b hb hh => by rcases hh with rfl | rfl | rfl <;> omega)).after hf (fun b hb hh => by subst hh; omega), hf.heap h.pt (fun e => hne.1 e.symm), hf.heap h.z (fun e => hne.2 e.symm),
    hf.heap (h.fr.heap h0 (fun hh => by rcases hh with hh | hh | hh <;> omega)) (fun e => by omega)⟩
set_option maxHeartbeats 4000000 in
set_option maxRecDepth 100000 in
theorem Decode_calls (A : Option Addr) (n c : Nat) (bs : List Int) (w : World) (hA : Rd .u8 w A n bs) (hr : InR 256 bs) (hc : n ≤ c) (hn : n ≤ 1000000) :
    Calls Try.prog 31 #[.slice A n c] w (DecPost bs w) := by
  have hmf : ∀ (fn : Fn) (first cap : Array Value) (w : World), (Instr.makeFunc fn first cap).run Try.prog w = .ok (.func fn first cap) w := fun _ _ _ _ => rfl
  have hEC : ∀ args w, Sem.run Try.prog (callFunc 61 args) w = .ok (.enter 61 args) w := fun _ _ => rfl
  obtain ⟨w3, hw3⟩ : ∃ w3, w3 = ((w.alloc (.cells #[.int .u32 0, .int .u32 0, .slice none 0 0, .slice none 0 0] 73)).alloc (.cells #[.int .u32 0, .int .u32 0, .slice none 0 0, .slice none 0 0] 73)).alloc (.cells #[.bool false] 4) := ⟨_, rfl⟩
  obtain ⟨hIn, hz3, hf3, h03⟩ := ahead w A n c w3 hw3
  have hlt := hA.lt
  have hfE : Fr None_ w ((w3.alloc (.cells #[.int .i64 0] 42)).alloc (.cells #[.slice A n c, .int .i64 0] 163)) := (hf3.alloc _).alloc _
  have hAE := hA.none_ hfE
  have hSE : ∀ ad, A = some ad → 0 < n → ¬ (ad.block = w3.heap.size + 1 ∨ ad.block = w.heap.size + 1 ∨ ad.block = w.heap.size + 1 + 1) := fun ad e hp h => by
    have := hlt ad e hp
    omega
  have hEr : ((w3.alloc (.cells #[.int .i64 0] 42)).alloc (.cells #[.slice A n c, .int .i64 0] 163)).heap[w3.heap.size]? = some (.cells #[.int .i64 0] 42 (0, 0)) := at_old _ (heap_alloc_new w3 _)
  have hzE : w.heap.size ≤ ((w3.alloc (.cells #[.int .i64 0] 42)).alloc (.cells #[.slice A n c, .int .i64 0] 163)).heap.size := hfE.size
  have h0E : ((w3.alloc (.cells #[.int .i64 0] 42)).alloc (.cells #[.slice A n c, .int .i64 0] 163)).heap[w.heap.size]? = some (.cells #[.int .u32 0, .int .u32 0, .slice none 0 0, .slice none 0 0] 73 (0, 0)) := at_old _ (at_old _ h03)
  by_cases hfit : Fits bs
  · have hby := by_ok (w3.heap.size + 1) (w.heap.size + 1) (w.heap.size + 1 + 1) A n c bs _ hIn hAE hr hc hSE hfit hn
    have hRO := Read.Read_ok 61 #[.pointer (some ⟨w.heap.size + 1, 0, none⟩), .pointer (some ⟨w.heap.size + 1 + 1, 0, none⟩)] A n c w3
      (fun w1 => ∃ vM vE, (∀ w4, Fr (fun b => b = w3.heap.size) w1 w4 → Fr None_ w w4 ∧ w4.heap[w.heap.size + 1]? = some (.cells #[.int .u32 (nb bs 0), .int .u32 (nb bs 4), vM, vE] 73 (0, 0)) ∧ w4.heap[w.heap.size + 1 + 1]? = some (.cells #[.bool ((bs.drop (16 + 4 * (nb bs 8).toNat + 4 * (nb bs 12).toNat)).all (· == 0))] 4 (0, 0)) ∧ w4.heap[w.heap.size]? = some (.cells #[.int .u32 0, .int .u32 0, .slice none 0 0, .slice none 0 0] 73 (0, 0)) ∧
        Row 51 .u32 w4 w.heap.size vM (nbs bs 16 (nb bs 8).toNat) ∧ Row 51 .u32 w4 w.heap.size vE (nbs bs (16 + 4 * (nb bs 8).toNat) (nb bs 12).toNat)))
      hEC (hby.mono fun e w1 h => by
        obtain ⟨he, vM, vE, i, h1, h2, h3⟩ := h
        have hEr1 := h1.fr.heap hEr (fun hh => by rcases hh with hh | hh | hh <;> omega)
        refine ⟨he, ⟨vM, vE, fun w4 hf => ?_⟩, hEr1⟩
        obtain ⟨b1, b2, b3, b4⟩ := behind hfE h1 (by omega) (by omega) (by omega) (show w.heap.size < w3.heap.size by omega) ⟨by omega, by omega⟩ (by omega) hf h0E
        exact ⟨b1, b2, b3, b4, (h2.fr hf (fun b hb hh => by subst hh; exact Row.ne h2 hEr1 (by decide) hb)).lower hzE, (h3.fr hf (fun b hb hh => by subst hh; exact Row.ne h3 hEr1 (by decide) hb)).lower hzE⟩)
    have HRO := As.mk hRO
    have hPost := fun (e : Ending) (w' : World) (h : ((bs.drop (16 + 4 * (nb bs 8).toNat + 4 * (nb bs 12).toNat)).all (· == 0) = true ∧ ∃ vM vE, e = .returned (.tuple #[.agg #[.int .u32 (nb bs 0), .int .u32 (nb bs 4), vM, vE], .int .i64 0]) ∧ Row 51 .u32 w' w.heap.size vM (nbs bs 16 (nb bs 8).toNat) ∧ Row 51 .u32 w' w.heap.size vE (nbs bs (16 + 4 * (nb bs 8).toNat) (nb bs 12).toNat) ∧ Fr None_ w w') ∨
      ((bs.drop (16 + 4 * (nb bs 8).toNat + 4 * (nb bs 12).toNat)).all (· == 0) = false ∧ e = .returned (.tuple #[.agg #[.int .u32 0, .int .u32 0, .slice none 0 0, .slice none 0 0], .int .i64 62]) ∧ Fr None_ w w')) => (by
        rcases h with ⟨h1, h2⟩ | ⟨h1, h2⟩
        · exact .inl ⟨⟨hfit, h1⟩, h2⟩
        · exact .inr ⟨fun hh => (by rw [hh.2] at h1; cases h1), h2⟩ : DecPost bs w e w')
    have HPost := As.mk hPost
    generalize (bs.drop (16 + 4 * (nb bs 8).toNat + 4 * (nb bs 12).toNat)).all (· == 0) = z at *
    generalize nbs bs 16 (nb bs 8).toNat = ms at *
    generalize nbs bs (16 + 4 * (nb bs 8).toNat) (nb bs 12).toNat = es at *
    generalize nb bs 0 = q0 at *
    generalize nb bs 4 = q4 at *
    clear hRO hPost hby hIn hAE hSE hA hr hlt hfE h0E h03 hEr hfit hf3
    go_enter Try.func31, Try.ntmps31
    go_upto_region 4 with fail
    rw [← hw3]
    ((with_reducible refine (HRO.out).mono ?_); rintro e w5 ⟨rfl, w1, ⟨vM, vE, h1⟩, rfl⟩)
    obtain ⟨b1, b2, b3, b4, b5, b6⟩ := h1 (w1.setCell ⟨w3.heap.size, 0, none⟩ (.int .i64 0)) ((Fr.refl (fun b => b = w3.heap.size) w1).setCell (p := ⟨w3.heap.size, 0, none⟩) (fun _ => rfl) _)
    generalize w1.setCell ⟨w3.heap.size, 0, none⟩ (.int .i64 0) = w5 at *
    obtain ⟨AM, nM, cM, eM, _, _, _⟩ := b5.rd
    subst eM
    obtain ⟨AE, nE, cE, eE, _, _, _⟩ := b6.rd
    subst eE
    have B1 := As.mk b1
    have B4 := As.mk b4
    have B5 := As.mk b5
    have B6 := As.mk b6
    have z0 := cell_of b3
    have p0 := cell_is (i := 0) b2 rfl
    have p1 := cell_is (i := 1) b2 rfl
    have p2 := cell_is (i := 2) b2 rfl
    have p3 := cell_is (i := 3) b2 rfl
    have r0 := cell_is (i := 0) b4 rfl
    have r1 := cell_is (i := 1) b4 rfl
    have r2 := cell_is (i := 2) b4 rfl
    have r3 := cell_is (i := 3) b4 rfl
    have f0 := free_of (i := 0) b4
    have f1 := free_of (i := 1) b4
    have f2 := free_of (i := 2) b4
    have f3 := free_of (i := 3) b4
    clear b1 b2 b3 b4 b5 b6 h1 hw3
    rcases z with _ | _
    · go_wp2_with fail
      obtain ⟨s1, s2, s3⟩ := set4 B1.out (Nat.le_refl _) B4.out (.int .u32 0) (.int .u32 0) (.slice none 0 0) (.slice none 0 0)
      clear r0 r1 r2 r3 f0 f1 f2 f3 p0 p1 p2 p3 z0
      generalize (((w5.setCell ⟨w.heap.size, 0, none⟩ (.int .u32 0)).setCell ⟨w.heap.size, 1, none⟩ (.int .u32 0)).setCell ⟨w.heap.size, 2, none⟩ (.slice none 0 0)).setCell ⟨w.heap.size, 3, none⟩ (.slice none 0 0) = wf at *
      have r0 := cell_is (i := 0) s2 rfl
      have r1 := cell_is (i := 1) s2 rfl
      have r2 := cell_is (i := 2) s2 rfl
      have r3 := cell_is (i := 3) s2 rfl
      exact bodyPost_ret (v := .tuple #[.agg #[.int .u32 0, .int .u32 0, .slice none 0 0, .slice none 0 0], .int .i64 62]) (by simp [results, Try.results31, go_sem, r0, r1, r2, r3]) rfl (HPost.out _ _ (.inr ⟨(by first | rfl | trivial), rfl, s1⟩))
    · go_wp2_with fail
      obtain ⟨s1, s2, s3⟩ := set4 B1.out (Nat.le_refl _) B4.out (.int .u32 q0) (.int .u32 q4) (.slice AM nM cM) (.slice AE nE cE)
      have t5 := B5.out.fr s3 (fun b hb e => by subst e; exact Row.ne B5.out B4.out (by decide) hb)
      have t6 := B6.out.fr s3 (fun b hb e => by subst e; exact Row.ne B6.out B4.out (by decide) hb)
      clear r0 r1 r2 r3 f0 f1 f2 f3 p0 p1 p2 p3 z0
      generalize (((w5.setCell ⟨w.heap.size, 0, none⟩ (.int .u32 q0)).setCell ⟨w.heap.size, 1, none⟩ (.int .u32 q4)).setCell ⟨w.heap.size, 2, none⟩ (.slice AM nM cM)).setCell ⟨w.heap.size, 3, none⟩ (.slice AE nE cE) = wf at *
      have r0 := cell_is (i := 0) s2 rfl
      have r1 := cell_is (i := 1) s2 rfl
      have r2 := cell_is (i := 2) s2 rfl
      have r3 := cell_is (i := 3) s2 rfl
      exact bodyPost_ret (v := .tuple #[.agg #[.int .u32 q0, .int .u32 q4, .slice AM nM cM, .slice AE nE cE], .int .i64 0]) (by simp [results, Try.results31, go_sem, r0, r1, r2, r3]) rfl (HPost.out _ _ (.inl ⟨(by first | rfl | trivial), _, _, rfl, t5, t6, s1⟩))
  · have hby := by_short (w3.heap.size + 1) (w.heap.size + 1) (w.heap.size + 1 + 1) A n c bs _ hIn hAE hr hc hSE hfit hn
    have hRO := Read_short 61 #[.pointer (some ⟨w.heap.size + 1, 0, none⟩), .pointer (some ⟨w.heap.size + 1 + 1, 0, none⟩)] A n c w3
      (fun w1 => ∀ w4, Fr (fun b => b = w3.heap.size) w1 w4 → ∃ cs, Fr None_ w w4 ∧ w4.heap[w.heap.size + 1]? = some (.cells cs 73 (0, 0)) ∧ w4.heap[w.heap.size + 1 + 1]? = some (.cells #[.bool false] 4 (0, 0)) ∧ w4.heap[w.heap.size]? = some (.cells #[.int .u32 0, .int .u32 0, .slice none 0 0, .slice none 0 0] 73 (0, 0)))
      hEC (hby.mono fun e w1 h => by
        obtain ⟨he, i, cs, h1⟩ := h
        have hEr1 := h1.fr.heap hEr (fun hh => by rcases hh with hh | hh | hh <;> omega)
        exact ⟨he, fun w4 hf => ⟨cs, behind hfE h1 (by omega) (by omega) (by omega) (show w.heap.size < w3.heap.size by omega) ⟨by omega, by omega⟩ (by omega) hf h0E⟩, hEr1⟩)
    have HRO := As.mk hRO
    have hPost := fun (e : Ending) (w' : World) (h : e = .returned (.tuple #[.agg #[.int .u32 0, .int .u32 0, .slice none 0 0, .slice none 0 0], .int .i64 62]) ∧ Fr None_ w w') => (.inr ⟨fun hh => hfit hh.1, h⟩ : DecPost bs w e w')
    have HPost := As.mk hPost
    clear hRO hPost hby hIn hAE hSE hA hr hlt hfE h0E h03 hEr hfit hf3
    go_enter Try.func31, Try.ntmps31
    go_upto_region 4 with fail
    rw [← hw3]
    ((with_reducible refine (HRO.out).mono ?_); rintro e w5 ⟨rfl, w1, i, h1, rfl⟩)
    obtain ⟨cs, b1, b2, b3, b4⟩ := h1 ((w1.alloc (.cells #[.int .i64 i] 160)).setCell ⟨w3.heap.size, 0, none⟩ (.int .i64 62)) ((((Fr.refl (fun b => b = w3.heap.size) w1).alloc _).setCell (p := ⟨w3.heap.size, 0, none⟩) (fun _ => rfl) _))
    generalize (w1.alloc (.cells #[.int .i64 i] 160)).setCell ⟨w3.heap.size, 0, none⟩ (.int .i64 62) = w5 at *
    have B1 := As.mk b1
    have B4 := As.mk b4
    have z0 := cell_of b3
    have r0 := cell_is (i := 0) b4 rfl
    have r1 := cell_is (i := 1) b4 rfl
    have r2 := cell_is (i := 2) b4 rfl
    have r3 := cell_is (i := 3) b4 rfl
    have f0 := free_of (i := 0) b4
    have f1 := free_of (i := 1) b4
    have f2 := free_of (i := 2) b4
    have f3 := free_of (i := 3) b4
    clear b1 b2 b3 b4 h1 hw3
    go_wp2_with fail
    obtain ⟨s1, s2, s3⟩ := set4 B1.out (Nat.le_refl _) B4.out (.int .u32 0) (.int .u32 0) (.slice none 0 0) (.slice none 0 0)
    clear r0 r1 r2 r3 f0 f1 f2 f3 z0
    generalize (((w5.setCell ⟨w.heap.size, 0, none⟩ (.int .u32 0)).setCell ⟨w.heap.size, 1, none⟩ (.int .u32 0)).setCell ⟨w.heap.size, 2, none⟩ (.slice none 0 0)).setCell ⟨w.heap.size, 3, none⟩ (.slice none 0 0) = wf at *
    have r0 := cell_is (i := 0) s2 rfl
    have r1 := cell_is (i := 1) s2 rfl
    have r2 := cell_is (i := 2) s2 rfl
    have r3 := cell_is (i := 3) s2 rfl
    exact bodyPost_ret (v := .tuple #[.agg #[.int .u32 0, .int .u32 0, .slice none 0 0, .slice none 0 0], .int .i64 62]) (by simp [results, Try.results31, go_sem, r0, r1, r2, r3]) rfl (HPost.out _ _ ⟨rfl, s1⟩)
end Go.Proofs.Ytlhgbamajabnfaa.Dec5

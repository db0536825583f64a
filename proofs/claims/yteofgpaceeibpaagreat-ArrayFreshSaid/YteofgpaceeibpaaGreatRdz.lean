/- cursor.Reader: Zero; a call within a region that draws its order; a byte's value. -/
import Derived.Test.YteofgpaceeibpaaGreatRead
import Derived.Test.YteofgpaceeibpaaGreatStep
import Derived.Test.YteofgpaceeibpaaGreatHeap
import Derived.Handy
import Derived.Deep.RegionLaw
namespace Go.Proofs.YteofgpaceeibpaaGreat.Rdz
open Go.RowKit Go.Proofs.YteofgpaceeibpaaGreat.Gab Go.Proofs.YteofgpaceeibpaaGreat.Wr Go.Proofs.YteofgpaceeibpaaGreat.Rdr
open Go.Proofs.YteofgpaceeibpaaGreat.Heap (cell_is heap_set)
set_option linter.unusedVariables false
set_option linter.unusedSimpArgs false

theorem run_from (A : Option Addr) (n c k : Nat) (W : World) (h1 : k ≤ n) (h2 : n ≤ c) :
    (Instr.slice 48 (.slice A n c) (some (.int .i64 (k : Int))) none none).run Tryz.prog W = .ok (.slice (cutAt A c k) (n - k) (c - k)) W := by
  have h3 : k ≤ c := by omega
  by_cases e : c = k
  · have e2 : n = k := by omega
    subst e
    subst e2
    simp [Instr.slice, Instr.sliceBounds, Instr.sliceBound, asIntOf, run_underlying Tryz.underlying48, go_sem, cutAt]
  · rcases A with _ | ad
    · simp [Instr.slice, Instr.sliceBounds, Instr.sliceBound, asIntOf, run_underlying Tryz.underlying48, go_sem, cutAt, h1, h2, h3, e]
    · simp [Instr.slice, Instr.sliceBounds, Instr.sliceBound, asIntOf, run_underlying Tryz.underlying48, go_sem, cutAt, h1, h2, h3, e]
set_option maxHeartbeats 2000000 in
set_option maxRecDepth 100000 in
theorem Zero_calls (p : Nat) (A : Option Addr) (n c : Nat) (i : Int) (bs : List Int) (w : World) (hR : Rr w p A n c i) (hA : Rd .u8 w A n bs) (h0 : 0 ≤ i) (hin : i ≤ (n : Int)) (hc : n ≤ c) :
    Calls Tryz.prog 71 #[.pointer (some ⟨p, 0, none⟩)] w fun e w' => e = .returned (.bool ((bs.drop i.toNat).all (· == 0))) ∧ Fr None_ w w' := by
  have hn := hA.2.1
  obtain ⟨k, rfl⟩ := Int.eq_ofNat_of_zero_le h0
  have HD := As.mk (hA.drop (c := c) k (by omega) hc)
  have hc0 := hR.c0
  have hc1 := hR.c1
  have hsl := fun W => run_from A n c k W (by omega) hc
  have hnk : n - k ≤ 9223372036854775807 := by omega
  change As (Rd .u8 w (cutAt A c k) (n - k) (bs.drop k)) at HD
  rw [show Int.toNat (k : Int) = k by omega]
  generalize cutAt A c k = B at *
  generalize bs.drop k = xs at *
  generalize n - k = m at *
  generalize c - k = d at *
  clear hR hA h0
  go_enter Tryz.func71, Tryz.ntmps71
  go_wp2
  go_quiet (fail)
  go_wp2
  have HDd := As.mk (HD.out.none_ ((Fr.refl None_ w).drewN nq))
  go_loopw [4, 17] (fun v4 v17 w' => ∃ j : Nat, v17 = .int .i64 (j : Int) ∧ j ≤ m ∧ w' = w.drewN nq ∧ As ((xs.take j).all (· == 0) = true)) (fun _ v17 _ => m - (intOf v17).toNat)
  case atStart => exact ⟨0, rfl, by omega, (by first | rfl | trivial), ⟨rfl⟩⟩
  case round =>
    obtain ⟨j, rfl, hj, rfl, HJ⟩ := hrel
    by_cases hlt : j < m
    · obtain ⟨ad, rfl, hc⟩ := HDd.out.at_ j (by omega) (by omega)
      have hjl : j < xs.length := by have := HD.out.1; omega
      have HT : As ((xs.take (j + 1)).all (· == 0) = ((xs.getD j 0) == 0)) := ⟨by
        rw [List.take_succ_eq_append_getElem hjl, List.all_append, HJ.out, List.getD_eq_getElem?_getD, List.getElem?_eq_getElem hjl]; simp⟩
      have HQ : As ((xs.getD j 0 == 0) = false → xs.all (· == 0) = false) := ⟨fun h => by
        rw [Bool.eq_false_iff]
        intro ha
        rw [List.all_eq_true] at ha
        have := ha (xs.getD j 0) (by rw [List.getD_eq_getElem?_getD, List.getElem?_eq_getElem hjl]; exact List.getElem_mem hjl)
        rw [h] at this; cases this⟩
      clear hjl
      rw [show Int.toNat (j : Int) = j by omega] at hc
      generalize xs.getD j 0 = x at *
      by_cases hz : x = 0
      · subst hz
        go_wp2
        exact ⟨⟨j + 1, by go_num, by omega, (by first | rfl | trivial), ⟨by rw [HT.out]; rfl⟩⟩, by simp [intOf]; omega⟩
      · have HN : As (xs.all (· == 0) = false) := ⟨HQ.out (beq_eq_false_iff_ne.mpr hz)⟩
        go_wp2
        go_ret
        exact ⟨by rw [HN.out]; rfl, (Fr.refl None_ w).drewN _⟩
    · have HN : As (xs.all (· == 0) = true) := ⟨by have h := HJ.out; rwa [List.take_of_length_le (by have := HD.out.1; omega)] at h⟩
      go_wp2
      go_ret
      exact ⟨by rw [HN.out]; rfl, (Fr.refl None_ w).drewN _⟩
/-- A call, where the region draws its order. -/
theorem step_callee {P : Program} {ops : Array Oper} {o : Oper} {a : Act} {K : Act → World → Prop} {Q : Exit → Act → World → Prop} {E : Prop} {W : World} (hgd : o.guard = none) (f : FuncId) (x : Operand) (t : TypeId)
    (ho : o.op = .call { callee := .value (.func f), args := #[x], argTypes := #[t] }) (v0 : Value) (hargs : a.eval x = v0) (hE : ∀ args W, (callFunc f args).run P W = .ok (.enter f args) W) {R : Ending → World → Prop} (hC : Calls P f #[v0] W R)
    (hR : ∀ e w', R e w' → ∃ v, e = .returned v) (h : ∀ v w', R (.returned v) w' → K (a.put o.dst v) w') :
    if Region.wanted o (yielded ops a.tmps) = true then Oper.wp P o a W K Q else E := by
  have hw : Region.wanted o (yielded ops a.tmps) = true := by simp [Region.wanted, hgd]
  rw [if_pos hw]
  unfold Oper.wp
  have hrun : (execOp a.eval o).run P W = .ok (.enter f #[v0]) W := by
    unfold execOp
    rw [← hargs]
    simp [ho, resolve, invoke, go_sem, hE]
  rw [hrun, Oper.upon_enter]
  refine hC.mono fun e w' hr => ?_
  obtain ⟨v, rfl⟩ := hR e w' hr
  exact h v w' hr
/-- A call with 2 arguments, where the region draws its order. -/
theorem step_call2 {P : Program} {ops : Array Oper} {o : Oper} {a : Act} {K : Act → World → Prop} {Q : Exit → Act → World → Prop} {E : Prop} {W : World} (hgd : o.guard = none) (f : FuncId) (x0 x1 : Operand) (ts : Array TypeId)
    (ho : o.op = .call { callee := .value (.func f), args := #[x0, x1], argTypes := ts }) (v0 v1 : Value) (hx0 : a.eval x0 = v0) (hx1 : a.eval x1 = v1) (hE : ∀ args W, (callFunc f args).run P W = .ok (.enter f args) W) {R : Ending → World → Prop} (hC : Calls P f #[v0, v1] W R)
    (hR : ∀ e w', R e w' → ∃ v, e = .returned v) (h : ∀ v w', R (.returned v) w' → K (a.put o.dst v) w') :
    if Region.wanted o (yielded ops a.tmps) = true then Oper.wp P o a W K Q else E := by
  have hw : Region.wanted o (yielded ops a.tmps) = true := by simp [Region.wanted, hgd]
  rw [if_pos hw]
  unfold Oper.wp
  have hrun : (execOp a.eval o).run P W = .ok (.enter f #[v0, v1]) W := by
    unfold execOp
    rw [← hx0, ← hx1]
    simp [ho, resolve, invoke, go_sem, hE]
  rw [hrun, Oper.upon_enter]
  refine hC.mono fun e w' hr => ?_
  obtain ⟨v, rfl⟩ := hR e w' hr
  exact h v w' hr
/-- A call with 3 arguments, where the region draws its order. -/
theorem step_call3 {P : Program} {ops : Array Oper} {o : Oper} {a : Act} {K : Act → World → Prop} {Q : Exit → Act → World → Prop} {E : Prop} {W : World} (hgd : o.guard = none) (f : FuncId) (x0 x1 x2 : Operand) (ts : Array TypeId)
    (ho : o.op = .call { callee := .value (.func f), args := #[x0, x1, x2], argTypes := ts }) (v0 v1 v2 : Value) (hx0 : a.eval x0 = v0) (hx1 : a.eval x1 = v1) (hx2 : a.eval x2 = v2) (hE : ∀ args W, (callFunc f args).run P W = .ok (.enter f args) W) {R : Ending → World → Prop} (hC : Calls P f #[v0, v1, v2] W R)
    (hR : ∀ e w', R e w' → ∃ v, e = .returned v) (h : ∀ v w', R (.returned v) w' → K (a.put o.dst v) w') :
    if Region.wanted o (yielded ops a.tmps) = true then Oper.wp P o a W K Q else E := by
  have hw : Region.wanted o (yielded ops a.tmps) = true := by simp [Region.wanted, hgd]
  rw [if_pos hw]
  unfold Oper.wp
  have hrun : (execOp a.eval o).run P W = .ok (.enter f #[v0, v1, v2]) W := by
    unfold execOp
    rw [← hx0, ← hx1, ← hx2]
    simp [ho, resolve, invoke, go_sem, hE]
  rw [hrun, Oper.upon_enter]
  refine hC.mono fun e w' hr => ?_
  obtain ⟨v, rfl⟩ := hR e w' hr
  exact h v w' hr
/-- A call with 4 arguments, where the region draws its order. -/
theorem step_call4 {P : Program} {ops : Array Oper} {o : Oper} {a : Act} {K : Act → World → Prop} {Q : Exit → Act → World → Prop} {E : Prop} {W : World} (hgd : o.guard = none) (f : FuncId) (x0 x1 x2 x3 : Operand) (ts : Array TypeId)
    (ho : o.op = .call { callee := .value (.func f), args := #[x0, x1, x2, x3], argTypes := ts }) (v0 v1 v2 v3 : Value) (hx0 : a.eval x0 = v0) (hx1 : a.eval x1 = v1) (hx2 : a.eval x2 = v2) (hx3 : a.eval x3 = v3) (hE : ∀ args W, (callFunc f args).run P W = .ok (.enter f args) W) {R : Ending → World → Prop} (hC : Calls P f #[v0, v1, v2, v3] W R)
    (hR : ∀ e w', R e w' → ∃ v, e = .returned v) (h : ∀ v w', R (.returned v) w' → K (a.put o.dst v) w') :
    if Region.wanted o (yielded ops a.tmps) = true then Oper.wp P o a W K Q else E := by
  have hw : Region.wanted o (yielded ops a.tmps) = true := by simp [Region.wanted, hgd]
  rw [if_pos hw]
  unfold Oper.wp
  have hrun : (execOp a.eval o).run P W = .ok (.enter f #[v0, v1, v2, v3]) W := by
    unfold execOp
    rw [← hx0, ← hx1, ← hx2, ← hx3]
    simp [ho, resolve, invoke, go_sem, hE]
  rw [hrun, Oper.upon_enter]
  refine hC.mono fun e w' hr => ?_
  obtain ⟨v, rfl⟩ := hR e w' hr
  exact h v w' hr
theorem infoIn : (Tryz.prog.info? 3).map (fun i => (i.zero, i.size, i.bytes)) = some (some (.int .i64 0), 1, 8) := by kernel_rfl
/-- The byte at a place. -/
def bt (bs : List Int) (i : Nat) : Int := leNum ((bs.drop i).take 1) % 256
theorem bt_range (bs : List Int) (i : Nat) : 0 ≤ bt bs i ∧ bt bs i < 256 := by unfold bt; omega
def bts (bs : List Int) (i k : Nat) : List Int := (List.range k).map fun j => bt bs (i + j)
theorem bts_len (bs : List Int) (i k : Nat) : (bts bs i k).length = k := by simp [bts]
theorem bts_get (bs : List Int) (i k j : Nat) (h : j < k) : (bts bs i k).getD j 0 = bt bs (i + j) := by simp [bts, List.getD_eq_getElem?_getD, h]
theorem bts_succ (bs : List Int) (i k : Nat) : bts bs i (k + 1) = bts bs i k ++ [bt bs (i + k)] := by simp [bts, List.range_succ]
def nb (bs : List Int) (i : Nat) : Int := leNum ((bs.drop i).take 4) % 4294967296
theorem nb_range (bs : List Int) (i : Nat) : 0 ≤ nb bs i ∧ nb bs i < 4294967296 := by unfold nb; omega
def hb (bs : List Int) (i : Nat) : Int := leNum ((bs.drop i).take 2) % 65536
theorem hb_range (bs : List Int) (i : Nat) : 0 ≤ hb bs i ∧ hb bs i < 65536 := by unfold hb; omega
/-- The closure's memory. -/
structure In (T : TypeId) (w w' : World) (p pb zb : Nat) (A : Option Addr) (n c : Nat) (i : Int) (cs : Array Value) (z : Bool) : Prop where
  fr : Fr (fun b => b = p ∨ b = pb ∨ b = zb) w w'
  rd : Rr w' p A n c i
  pt : w'.heap[pb]? = some (.cells cs T (0, 0))
  z : w'.heap[zb]? = some (.cells #[.bool z] 4 (0, 0))
  ty : T ≠ 196 ∧ T ≠ 4 ∧ T ≠ 3
theorem In.ne {T : TypeId} {w w' : World} {p pb zb : Nat} {A : Option Addr} {n c : Nat} {i : Int} {cs : Array Value} {z : Bool} (h : In T w w' p pb zb A n c i cs z) : p ≠ pb ∧ p ≠ zb ∧ pb ≠ zb := by
  have h1 := h.rd
  unfold Rr at h1
  refine ⟨fun e => ?_, fun e => ?_, fun e => ?_⟩
  · rw [e, h.pt] at h1; injection h1 with h1; injection h1 with _ h1; exact h.ty.1 (by first | exact h1 | exact h1.symm)
  · rw [e, h.z] at h1; injection h1 with h1; injection h1 with _ h1; exact absurd h1 (by decide)
  · have h2 := h.pt; rw [e, h.z] at h2; injection h2 with h2; injection h2 with _ h2; exact h.ty.2.1 (by first | exact h2 | exact h2.symm)
theorem In.read {T : TypeId} {w w' w2 : World} {p pb zb : Nat} {A : Option Addr} {n c : Nat} {i j : Int} {cs : Array Value} {z : Bool} (h : In T w w' p pb zb A n c i cs z) (hr : Rr w2 p A n c j) (hf : Fr (fun b => b = p) w' w2) : In T w w2 p pb zb A n c j cs z :=
  ⟨h.fr.after hf (fun _ _ e => .inl e), hr, hf.heap h.pt (fun e => h.ne.1 e.symm), hf.heap h.z (fun e => h.ne.2.1 e.symm), h.ty⟩
theorem In.none_ {T : TypeId} {w w' w2 : World} {p pb zb : Nat} {A : Option Addr} {n c : Nat} {i : Int} {cs : Array Value} {z : Bool} (h : In T w w' p pb zb A n c i cs z) (hf : Fr None_ w' w2) : In T w w2 p pb zb A n c i cs z :=
  ⟨h.fr.after hf (fun _ _ e => e.elim), hf.heap h.rd (fun e => e), hf.heap h.pt (fun e => e), hf.heap h.z (fun e => e), h.ty⟩
theorem In.set {T : TypeId} {w w' : World} {p pb zb : Nat} {A : Option Addr} {n c : Nat} {i : Int} {cs : Array Value} {z : Bool} (h : In T w w' p pb zb A n c i cs z) (k : Nat) (v : Value) : In T w (w'.setCell ⟨pb, k, none⟩ v) p pb zb A n c i (cs.setIfInBounds k v) z := by
  have hf : Fr (fun b => b = pb) w' (w'.setCell ⟨pb, k, none⟩ v) := (Fr.refl (fun b => b = pb) w').setCell (p := ⟨pb, k, none⟩) (fun _ => rfl) v
  exact ⟨h.fr.after hf (fun _ _ e => .inr (.inl e)), hf.heap h.rd h.ne.1, heap_set h.pt k v, hf.heap h.z (fun e => h.ne.2.2 e.symm), h.ty⟩
theorem In.setz {T : TypeId} {w w' : World} {p pb zb : Nat} {A : Option Addr} {n c : Nat} {i : Int} {cs : Array Value} {z : Bool} (h : In T w w' p pb zb A n c i cs z) (b : Bool) : In T w (w'.setCell ⟨zb, 0, none⟩ (.bool b)) p pb zb A n c i cs b := by
  have hf : Fr (fun b => b = zb) w' (w'.setCell ⟨zb, 0, none⟩ (.bool b)) := (Fr.refl (fun b => b = zb) w').setCell (p := ⟨zb, 0, none⟩) (fun _ => rfl) (.bool b)
  exact ⟨h.fr.after hf (fun _ _ e => .inr (.inr e)), hf.heap h.rd h.ne.2.1, hf.heap h.pt h.ne.2.2, set_of h.z, h.ty⟩
theorem In.rdA {T : TypeId} {w w' : World} {p pb zb : Nat} {A : Option Addr} {n c : Nat} {i : Int} {cs : Array Value} {z : Bool} {bs : List Int} (h : In T w w' p pb zb A n c i cs z) (hA : Rd .u8 w A n bs) (hS : ∀ ad, A = some ad → 0 < n → ¬ (ad.block = p ∨ ad.block = pb ∨ ad.block = zb)) : Rd .u8 w' A n bs := hA.fr h.fr hS
theorem In.lts {T : TypeId} {w w' : World} {p pb zb : Nat} {A : Option Addr} {n c : Nat} {i : Int} {cs : Array Value} {z : Bool} (h : In T w w' p pb zb A n c i cs z) : p < w'.heap.size ∧ pb < w'.heap.size ∧ zb < w'.heap.size :=
  ⟨(Array.getElem?_eq_some_iff.1 h.rd).1, (Array.getElem?_eq_some_iff.1 h.pt).1, (Array.getElem?_eq_some_iff.1 h.z).1⟩
/-- What an append to a row of one's own leaves. -/
theorem In.grow {T : TypeId} {w w' w2 : World} {B p pb zb : Nat} {A : Option Addr} {n c : Nat} {i : Int} {cs : Array Value} {z : Bool} {v : Value} {xs : List Int} (h : In T w w' p pb zb A n c i cs z) (hB : w.heap.size ≤ B) (hrow : Row 3 .i64 w' B v xs) (hf : Fr (fun b => v.ownBlock = some b) w' w2) : In T w w2 p pb zb A n c i cs z :=
  ⟨h.fr.after hf (fun b hb hv => absurd hb (by have := (hrow.blk b hv).1; omega)), hf.heap h.rd (Row.ne hrow h.rd (by decide)), hf.heap h.pt (Row.ne hrow h.pt h.ty.2.2), hf.heap h.z (Row.ne hrow h.z (by decide)), h.ty⟩
theorem row_inset {T : TypeId} {w w' : World} {B p pb zb : Nat} {A : Option Addr} {n c : Nat} {i : Int} {cs : Array Value} {z : Bool} {v : Value} {xs : List Int} (h : In T w w' p pb zb A n c i cs z) (hrow : Row 3 .i64 w' B v xs) (k : Nat) (u : Value) : Row 3 .i64 (w'.setCell ⟨pb, k, none⟩ u) B v xs :=
  hrow.fr (S := fun b => b = pb) ((Fr.refl (fun b => b = pb) w').setCell (p := ⟨pb, k, none⟩) (fun _ => rfl) u) (fun b hb e => by subst e; exact Row.ne hrow h.pt h.ty.2.2 hb)
theorem row_inread {T : TypeId} {w w' w2 : World} {B p pb zb : Nat} {A : Option Addr} {n c : Nat} {i : Int} {cs : Array Value} {z : Bool} {v : Value} {xs : List Int} (h : In T w w' p pb zb A n c i cs z) (hrow : Row 3 .i64 w' B v xs) (hf : Fr (fun b => b = p) w' w2) : Row 3 .i64 w2 B v xs :=
  hrow.fr hf (fun b hb e => by subst e; exact Row.ne hrow h.rd (by decide) hb)
/-- A row of one's own that is elder. -/
theorem row_apart {w2 w3 : World} {b1 N : Nat} {v u : Value} {xs ys : List Int} (h1 : Row 3 .i64 w2 b1 v xs) (hlt : ∀ b, v.ownBlock = some b → b < N) (h2 : Row 3 .i64 w2 N u ys) (hf : Fr (fun b => u.ownBlock = some b) w2 w3) : Row 3 .i64 w3 b1 v xs :=
  h1.fr hf (fun b hb hu => by have := (h2.blk b hu).1; have := hlt b hb; omega)
end Go.Proofs.YteofgpaceeibpaaGreat.Rdz

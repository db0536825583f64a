/- cursor.Reader: Zero; a call within a region that draws its order; a byte's value. | remap: Decode's closure, where there are bytes enough. -/
import Derived.Test.YteofgpaceeibpaaGreatTkRead
import Derived.Test.YteofgpaceeibpaaGreatTkAIter
import Derived.Handy
import Derived.Deep.RegionLaw
import Derived.Test.YteofgpaceeibpaaGreatTkRemapD
namespace Go.Proofs.YteofgpaceeibpaaGreat.Rdz
open Go.RowKit Gab Wr Rdr
open Heap (cell_is heap_set)
set_option linter.unusedVariables false
set_option linter.unusedSimpArgs false

theorem run_from (A : Option Addr) (n c k : Nat) (W : World) (h1 : k ≤ n) (h2 : n ≤ c) :
    (Instr.slice 48 (.slice A n c) (some (.int .i64 (k : Int))) none none).run Tryz.prog W = .ok (.slice (cutAt A c k) (n - k) (c - k)) W := by
  have h3 : k ≤ c := by omega
  by_cases e : c = k
  · have e2 : n = k := by omega
    subst e
    subst e2
    simp [Instr.slice, Instr.sliceBounds, Instr.sliceBound, asIntOf, run_underlying Tryz.underlying48, go_sem, cutAt]
  · rcases A with _ | ad
    · simp [Instr.slice, Instr.sliceBounds, Instr.sliceBound, asIntOf, run_underlying Tryz.underlying48, go_sem, cutAt, h1, h2, h3, e]
    · simp [Instr.slice, Instr.sliceBounds, Instr.sliceBound, asIntOf, run_underlying Tryz.underlying48, go_sem, cutAt, h1, h2, h3, e]
set_option maxHeartbeats 2000000 in
set_option maxRecDepth 100000 in
theorem Zero_calls (p : Nat) (A : Option Addr) (n c : Nat) (i : Int) (bs : List Int) (w : World) (hR : Rr w p A n c i) (hA : Rd .u8 w A n bs) (h0 : 0 ≤ i) (hin : i ≤ (n : Int)) (hc : n ≤ c) :
    Calls Tryz.prog 71 #[.pointer (some ⟨p, 0, none⟩)] w fun e w' => e = .returned (.bool ((bs.drop i.toNat).all (· == 0))) ∧ Fr None_ w w' := by
  have hn := hA.2.1
  obtain ⟨k, rfl⟩ := Int.eq_ofNat_of_zero_le h0
  have HD := As.mk (hA.drop (c := c) k (by omega) hc)
  have hc0 := hR.c0
  have hc1 := hR.c1
  have hsl := fun W => run_from A n c k W (by omega) hc
  have hnk : n - k ≤ 9223372036854775807 := by omega
  change As (Rd .u8 w (cutAt A c k) (n - k) (bs.drop k)) at HD
  rw [show Int.toNat (k : Int) = k by omega]
  generalize cutAt A c k = B at *
  generalize bs.drop k = xs at *
  generalize n - k = m at *
  generalize c - k = d at *
  clear hR hA h0
  go_enter Tryz.func71, Tryz.ntmps71
  go_wp2
  go_quiet (fail)
  go_wp2
  have HDd := As.mk (HD.out.none_ ((Fr.refl None_ w).drewN nq))
  go_loopw [4, 17] (fun v4 v17 w' => ∃ j : Nat, v17 = .int .i64 (j : Int) ∧ j ≤ m ∧ w' = w.drewN nq ∧ As ((xs.take j).all (· == 0) = true)) (fun _ v17 _ => m - (intOf v17).toNat)
  case atStart => exact ⟨0, rfl, by omega, (by first | rfl | trivial), ⟨rfl⟩⟩
  case round =>
    obtain ⟨j, rfl, hj, rfl, HJ⟩ := hrel
    by_cases hlt : j < m
    · obtain ⟨ad, rfl, hc⟩ := HDd.out.at_ j (by omega) (by omega)
      have hjl : j < xs.length := by have := HD.out.1; omega
      have HT : As ((xs.take (j + 1)).all (· == 0) = ((xs.getD j 0) == 0)) := ⟨by
        rw [List.take_succ_eq_append_getElem hjl, List.all_append, HJ.out, List.getD_eq_getElem?_getD, List.getElem?_eq_getElem hjl]; simp⟩
      have HQ : As ((xs.getD j 0 == 0) = false → xs.all (· == 0) = false) := ⟨fun h => by
        rw [Bool.eq_false_iff]
        intro ha
        rw [List.all_eq_true] at ha
        have := ha (xs.getD j 0) (by rw [List.getD_eq_getElem?_getD, List.getElem?_eq_getElem hjl]; exact List.getElem_mem hjl)
        rw [h] at this; cases this⟩
      clear hjl
      rw [show Int.toNat (j : Int) = j by omega] at hc
      generalize xs.getD j 0 = x at *
      by_cases hz : x = 0
      · subst hz
        go_wp2
        exact ⟨⟨j + 1, by go_num, by omega, (by first | rfl | trivial), ⟨by rw [HT.out]; rfl⟩⟩, by simp [intOf]; omega⟩
      · have HN : As (xs.all (· == 0) = false) := ⟨HQ.out (beq_eq_false_iff_ne.mpr hz)⟩
        go_wp2
        go_ret
        exact ⟨by rw [HN.out]; rfl, (Fr.refl None_ w).drewN _⟩
    · have HN : As (xs.all (· == 0) = true) := ⟨by have h := HJ.out; rwa [List.take_of_length_le (by have := HD.out.1; omega)] at h⟩
      go_wp2
      go_ret
      exact ⟨by rw [HN.out]; rfl, (Fr.refl None_ w).drewN _⟩
/-- A call, where the region draws its order. -/
theorem step_callee {P : Program} {ops : Array Oper} {o : Oper} {a : Act} {K : Act → World → Prop} {Q : Exit → Act → World → Prop} {E : Prop} {W : World} (hgd : o.guard = none) (f : FuncId) (x : Operand) (t : TypeId)
    (ho : o.op = .call { callee := .value (.func f), args := #[x], argTypes := #[t] }) (v0 : Value) (hargs : a.eval x = v0) (hE : ∀ args W, (callFunc f args).run P W = .ok (.enter f args) W) {R : Ending → World → Prop} (hC : Calls P f #[v0] W R)
    (hR : ∀ e w', R e w' → ∃ v, e = .returned v) (h : ∀ v w', R (.returned v) w' → K (a.put o.dst v) w') :
    if Region.wanted o (yielded ops a.tmps) = true then Oper.wp P o a W K Q else E := by
  have hw : Region.wanted o (yielded ops a.tmps) = true := by simp [Region.wanted, hgd]
  rw [if_pos hw]
  unfold Oper.wp
  have hrun : (execOp a.eval o).run P W = .ok (.enter f #[v0]) W := by
    unfold execOp
    rw [← hargs]
    simp [ho, resolve, invoke, go_sem, hE]
  rw [hrun, Oper.upon_enter]
  refine hC.mono fun e w' hr => ?_
  obtain ⟨v, rfl⟩ := hR e w' hr
  exact h v w' hr
/-- A call with 2 arguments, where the region draws its order. -/
theorem step_call2 {P : Program} {ops : Array Oper} {o : Oper} {a : Act} {K : Act → World → Prop} {Q : Exit → Act → World → Prop} {E : Prop} {W : World} (hgd : o.guard = none) (f : FuncId) (x0 x1 : Operand) (ts : Array TypeId)
    (ho : o.op = .call { callee := .value (.func f), args := #[x0, x1], argTypes := ts }) (v0 v1 : Value) (hx0 : a.eval x0 = v0) (hx1 : a.eval x1 = v1) (hE : ∀ args W, (callFunc f args).run P W = .ok (.enter f args) W) {R : Ending → World → Prop} (hC : Calls P f #[v0, v1] W R)
    (hR : ∀ e w', R e w' → ∃ v, e = .returned v) (h : ∀ v w', R (.returned v) w' → K (a.put o.dst v) w') :
    if Region.wanted o (yielded ops a.tmps) = true then Oper.wp P o a W K Q else E := by
  have hw : Region.wanted o (yielded ops a.tmps) = true := by simp [Region.wanted, hgd]
  rw [if_pos hw]
  unfold Oper.wp
  have hrun : (execOp a.eval o).run P W = .ok (.enter f #[v0, v1]) W := by
    unfold execOp
    rw [← hx0, ← hx1]
    simp [ho, resolve, invoke, go_sem, hE]
  rw [hrun, Oper.upon_enter]
  refine hC.mono fun e w' hr => ?_
  obtain ⟨v, rfl⟩ := hR e w' hr
  exact h v w' hr
theorem infoIn : (Tryz.prog.info? 3).map (fun i => (i.zero, i.size, i.bytes)) = some (some (.int .i64 0), 1, 8) := by kernel_rfl
/-- The byte at a place. -/
def bt (bs : List Int) (i : Nat) : Int := leNum ((bs.drop i).take 1) % 256
theorem bt_range (bs : List Int) (i : Nat) : 0 ≤ bt bs i ∧ bt bs i < 256 := by unfold bt; omega
def bts (bs : List Int) (i k : Nat) : List Int := (List.range k).map fun j => bt bs (i + j)
theorem bts_len (bs : List Int) (i k : Nat) : (bts bs i k).length = k := by simp [bts]
theorem bts_succ (bs : List Int) (i k : Nat) : bts bs i (k + 1) = bts bs i k ++ [bt bs (i + k)] := by simp [bts, List.range_succ]
def nb (bs : List Int) (i : Nat) : Int := leNum ((bs.drop i).take 4) % 4294967296
def hb (bs : List Int) (i : Nat) : Int := leNum ((bs.drop i).take 2) % 65536
theorem hb_range (bs : List Int) (i : Nat) : 0 ≤ hb bs i ∧ hb bs i < 65536 := by unfold hb; omega
/-- The closure's memory. -/
structure In (T : TypeId) (w w' : World) (p pb zb : Nat) (A : Option Addr) (n c : Nat) (i : Int) (cs : Array Value) (z : Bool) : Prop where
  fr : Fr (fun b => b = p ∨ b = pb ∨ b = zb) w w'
  rd : Rr w' p A n c i
  pt : w'.heap[pb]? = some (.cells cs T (0, 0))
  z : w'.heap[zb]? = some (.cells #[.bool z] 4 (0, 0))
  ty : T ≠ 196 ∧ T ≠ 4 ∧ T ≠ 3
theorem In.ne {T : TypeId} {w w' : World} {p pb zb : Nat} {A : Option Addr} {n c : Nat} {i : Int} {cs : Array Value} {z : Bool} (h : In T w w' p pb zb A n c i cs z) : p ≠ pb ∧ p ≠ zb ∧ pb ≠ zb := by
  have h1 := h.rd
  unfold Rr at h1
  refine ⟨fun e => ?_, fun e => ?_, fun e => ?_⟩
  · rw [e, h.pt] at h1; injection h1 with h1; injection h1 with _ h1; exact h.ty.1 (by first | exact h1 | exact h1.symm)
  · rw [e, h.z] at h1; injection h1 with h1; injection h1 with _ h1; exact absurd h1 (by decide)
  · have h2 := h.pt; rw [e, h.z] at h2; injection h2 with h2; injection h2 with _ h2; exact h.ty.2.1 (by first | exact h2 | exact h2.symm)
theorem In.read {T : TypeId} {w w' w2 : World} {p pb zb : Nat} {A : Option Addr} {n c : Nat} {i j : Int} {cs : Array Value} {z : Bool} (h : In T w w' p pb zb A n c i cs z) (hr : Rr w2 p A n c j) (hf : Fr (fun b => b = p) w' w2) : In T w w2 p pb zb A n c j cs z :=
  ⟨h.fr.after hf (fun _ _ e => .inl e), hr, hf.heap h.pt (fun e => h.ne.1 e.symm), hf.heap h.z (fun e => h.ne.2.1 e.symm), h.ty⟩
theorem In.none_ {T : TypeId} {w w' w2 : World} {p pb zb : Nat} {A : Option Addr} {n c : Nat} {i : Int} {cs : Array Value} {z : Bool} (h : In T w w' p pb zb A n c i cs z) (hf : Fr None_ w' w2) : In T w w2 p pb zb A n c i cs z :=
  ⟨h.fr.after hf (fun _ _ e => e.elim), hf.heap h.rd (fun e => e), hf.heap h.pt (fun e => e), hf.heap h.z (fun e => e), h.ty⟩
theorem In.set {T : TypeId} {w w' : World} {p pb zb : Nat} {A : Option Addr} {n c : Nat} {i : Int} {cs : Array Value} {z : Bool} (h : In T w w' p pb zb A n c i cs z) (k : Nat) (v : Value) : In T w (w'.setCell ⟨pb, k, none⟩ v) p pb zb A n c i (cs.setIfInBounds k v) z := by
  have hf : Fr (fun b => b = pb) w' (w'.setCell ⟨pb, k, none⟩ v) := (Fr.refl (fun b => b = pb) w').setCell (p := ⟨pb, k, none⟩) (fun _ => rfl) v
  exact ⟨h.fr.after hf (fun _ _ e => .inr (.inl e)), hf.heap h.rd h.ne.1, heap_set h.pt k v, hf.heap h.z (fun e => h.ne.2.2 e.symm), h.ty⟩
theorem In.setz {T : TypeId} {w w' : World} {p pb zb : Nat} {A : Option Addr} {n c : Nat} {i : Int} {cs : Array Value} {z : Bool} (h : In T w w' p pb zb A n c i cs z) (b : Bool) : In T w (w'.setCell ⟨zb, 0, none⟩ (.bool b)) p pb zb A n c i cs b := by
  have hf : Fr (fun b => b = zb) w' (w'.setCell ⟨zb, 0, none⟩ (.bool b)) := (Fr.refl (fun b => b = zb) w').setCell (p := ⟨zb, 0, none⟩) (fun _ => rfl) (.bool b)
  exact ⟨h.fr.after hf (fun _ _ e => .inr (.inr e)), hf.heap h.rd h.ne.2.1, hf.heap h.pt h.ne.2.2, set_of h.z, h.ty⟩
theorem In.rdA {T : TypeId} {w w' : World} {p pb zb : Nat} {A : Option Addr} {n c : Nat} {i : Int} {cs : Array Value} {z : Bool} {bs : List Int} (h : In T w w' p pb zb A n c i cs z) (hA : Rd .u8 w A n bs) (hS : ∀ ad, A = some ad → 0 < n → ¬ (ad.block = p ∨ ad.block = pb ∨ ad.block = zb)) : Rd .u8 w' A n bs := hA.fr h.fr hS
/-- What an append to a row of one's own leaves. -/
theorem In.grow {T : TypeId} {w w' w2 : World} {B p pb zb : Nat} {A : Option Addr} {n c : Nat} {i : Int} {cs : Array Value} {z : Bool} {v : Value} {xs : List Int} (h : In T w w' p pb zb A n c i cs z) (hB : w.heap.size ≤ B) (hrow : Row 3 .i64 w' B v xs) (hf : Fr (fun b => v.ownBlock = some b) w' w2) : In T w w2 p pb zb A n c i cs z :=
  ⟨h.fr.after hf (fun b hb hv => absurd hb (by have := (hrow.blk b hv).1; omega)), hf.heap h.rd (Row.ne hrow h.rd (by decide)), hf.heap h.pt (Row.ne hrow h.pt h.ty.2.2), hf.heap h.z (Row.ne hrow h.z (by decide)), h.ty⟩
theorem row_inset {T : TypeId} {w w' : World} {B p pb zb : Nat} {A : Option Addr} {n c : Nat} {i : Int} {cs : Array Value} {z : Bool} {v : Value} {xs : List Int} (h : In T w w' p pb zb A n c i cs z) (hrow : Row 3 .i64 w' B v xs) (k : Nat) (u : Value) : Row 3 .i64 (w'.setCell ⟨pb, k, none⟩ u) B v xs :=
  hrow.fr (S := fun b => b = pb) ((Fr.refl (fun b => b = pb) w').setCell (p := ⟨pb, k, none⟩) (fun _ => rfl) u) (fun b hb e => by subst e; exact Row.ne hrow h.pt h.ty.2.2 hb)
theorem row_inread {T : TypeId} {w w' w2 : World} {B p pb zb : Nat} {A : Option Addr} {n c : Nat} {i : Int} {cs : Array Value} {z : Bool} {v : Value} {xs : List Int} (h : In T w w' p pb zb A n c i cs z) (hrow : Row 3 .i64 w' B v xs) (hf : Fr (fun b => b = p) w' w2) : Row 3 .i64 w2 B v xs :=
  hrow.fr hf (fun b hb e => by subst e; exact Row.ne hrow h.rd (by decide) hb)
/-- A row of one's own that is elder. -/
theorem row_apart {w2 w3 : World} {b1 N : Nat} {v u : Value} {xs ys : List Int} (h1 : Row 3 .i64 w2 b1 v xs) (hlt : ∀ b, v.ownBlock = some b → b < N) (h2 : Row 3 .i64 w2 N u ys) (hf : Fr (fun b => u.ownBlock = some b) w2 w3) : Row 3 .i64 w3 b1 v xs :=
  h1.fr hf (fun b hb hu => by have := (h2.blk b hu).1; have := hlt b hb; omega)
end Go.Proofs.YteofgpaceeibpaaGreat.Rdz
namespace Go.Proofs.YteofgpaceeibpaaGreat.RemapE
open Go.RowKit Gab Wr Rdr Rdz Geom RemapA RemapB RemapC RemapD
open Heap (cell_is heap_set)
open Step (step_appendRow)
set_option linter.unusedVariables false
set_option linter.unusedSimpArgs false

abbrev TT : TypeId := 135
/-- What the closure leaves. -/
def ByOk (w : World) (p tb zb : Nat) (A : Option Addr) (n c N M : Nat) (bs : List Int) (e : Ending) (w' : World) : Prop :=
  e = .returned (.tuple #[]) ∧ ∃ v1 v2 i, In TT w w' p tb zb A n c i #[.int .u32 (nb bs 0), v1, v2, .int .i64 (bt bs (6 + N + M)), .int .i64 (bt bs (7 + N + M))] ((bs.drop (8 + N + M)).all (· == 0)) ∧
    Row 3 .i64 w' w.heap.size v1 (bts bs 5 N) ∧ Row 3 .i64 w' w.heap.size v2 (bts bs (6 + N) M)

set_option maxHeartbeats 8000000 in
set_option maxRecDepth 100000 in
theorem by_ok (p tb zb : Nat) (A : Option Addr) (n c N M : Nat) (bs : List Int) (w : World) (h : In TT w w p tb zb A n c 0 #[.int .u32 0, .slice none 0 0, .slice none 0 0, .int .i64 0, .int .i64 0] false) (hA : Rd .u8 w A n bs) (hr : InR 256 bs) (hc : n ≤ c)
    (hS : ∀ ad, A = some ad → 0 < n → ¬ (ad.block = p ∨ ad.block = tb ∨ ad.block = zb)) (hN : bt bs 4 = N) (hM : bt bs (5 + N) = M) (hfit : 8 + N + M ≤ n) (hn : n ≤ 1000000) :
    Calls Tryz.prog 123 #[.pointer (some ⟨p, 0, none⟩), .pointer (some ⟨tb, 0, none⟩), .pointer (some ⟨zb, 0, none⟩)] w (ByOk w p tb zb A n c N M bs) := by
  have hSp : ∀ ad, A = some ad → 0 < n → ad.block ≠ p := fun ad e hp h => hS ad e hp (.inl h)
  have HU := As.mk (fun (i : Nat) (w' : World) (cs : Array Value) (h' : In TT w w' p tb zb A n c i cs false) (hk : (i : Int) + 1 ≤ (n : Int)) => U8_calls p A n c i bs w' h'.rd (h'.rdA hA hS) hSp hr (by omega) hk hc)
  change As (∀ (i : Nat) (w' : World) (cs : Array Value) (h' : In TT w w' p tb zb A n c i cs false) (hk : (i : Int) + 1 ≤ (n : Int)), Calls Tryz.prog 69 #[.pointer (some ⟨p, 0, none⟩)] w' fun e w'' => e = .returned (.int .u8 (bt bs i)) ∧ Rr w'' p A n c ((i : Int) + 1) ∧ Fr (fun b => b = p) w' w'') at HU
  have HU4 := As.mk (U32_calls p A n c 0 bs w h.rd hA hSp hr (by omega) (by omega) hc)
  change As (Calls Tryz.prog 68 #[.pointer (some ⟨p, 0, none⟩)] w fun e w'' => e = .returned (.int .u32 (nb bs 0)) ∧ Rr w'' p A n c (((4 : Nat) : Int)) ∧ Fr (fun b => b = p) w w'') at HU4
  have HZR := As.mk (fun (i : Nat) (w' : World) (cs : Array Value) (h' : In TT w w' p tb zb A n c i cs false) (hk : (i : Int) ≤ (n : Int)) => Zero_calls p A n c i bs w' h'.rd (h'.rdA hA hS) (by omega) hk hc)
  have hEU : ∀ args w, (callFunc 69 args).run Tryz.prog w = .ok (.enter 69 args) w := fun _ _ => rfl
  have H0 := As.mk h
  have hrN := bt_range bs 4
  have hrM := bt_range bs (5 + N)
  rw [hN] at hrN
  rw [hM] at hrM
  have hwN : IntKind.i64.wrap (N : Int) = N := i64_in _ (by omega) (by omega)
  have hwM : IntKind.i64.wrap (M : Int) = M := i64_in _ (by omega) (by omega)
  have HNM := As.mk (And.intro hN hM)
  clear h hA hS hSp hr hN hM
  go_enter Tryz.func123, Tryz.ntmps123
  go_wp2_with fail
  ((with_reducible refine (HU4.out).mono ?_); rintro e w1 ⟨rfl, hr1, hf1⟩)
  have H1 := As.mk (H0.out.read hr1 hf1)
  clear hr1 hf1
  have c0 := cell_is (i := 0) H1.out.pt rfl
  have f0 := free_of (i := 0) H1.out.pt
  have H2 := As.mk (H1.out.set 0 (.int .u32 (nb bs 0)))
  simp only [List.setIfInBounds_toArray, List.set_cons_zero, List.set_cons_succ] at H2
  go_upto_region 1 with fail
  generalize w1.setCell ⟨tb, 0, none⟩ (.int .u32 (nb bs 0)) = w2 at *
  clear c0 f0
  have HUN := As.mk (HU.out 4 w2 _ H2.out (by omega))
  rw [HNM.out.1] at HUN
  go_wp2_with fail
  ((with_reducible refine (HUN.out).mono ?_); rintro e w3 ⟨rfl, hr3, hf3⟩)
  have H3 := As.mk (H2.out.read (j := ((5 : Nat) : Int)) hr3 hf3)
  clear hr3 hf3 HUN
  go_wp2_with fail
  go_loopw [10] (fun vS w' => ∃ (j : Nat) (vM : Value), vS = .int .i64 (j : Int) ∧ j ≤ N ∧ As (In TT w w' p tb zb A n c ((5 + j : Nat) : Int) #[.int .u32 (nb bs 0), vM, .slice none 0 0, .int .i64 0, .int .i64 0] false) ∧ As (Row 3 .i64 w' w.heap.size vM (bts bs 5 j))) (fun vS _ => N - (intOf vS).toNat)
  case atStart => exact ⟨0, _, rfl, by omega, H3, ⟨Row.nil _ _ _ _⟩⟩
  case round =>
    obtain ⟨j, vM, rfl, hj, HI, HX⟩ := hrel
    obtain ⟨A1, n1, c1, e1, _, hd1, _⟩ := HX.out.rd
    subst e1
    have hn1 : j = n1 := by rw [← hd1.out.1, bts_len]
    subst hn1
    clear hd1
    by_cases hlt : j < N
    · have hltI : (j : Int) < (N : Int) := by omega
      have HUc := As.mk (HU.out (5 + j) wr.drew _ (HI.out.none_ (Fr.refl None_ wr).drew) (by omega))
      have k2 := cell_is (i := 1) HI.out.pt rfl
      change wr.cell? ⟨tb, 1, none⟩ = some (.slice A1 j c1) at k2
      have HSC := As.mk (bts_succ bs 5 j)
      have HLE := As.mk (bts_len bs 5 j)
      have hxr := bt_range bs (5 + j)
      generalize bt bs (5 + j) = x at *
      generalize bts bs 5 j = xs at *
      have hwx : IntKind.i64.wrap x = x := i64_in _ (by omega) (by omega)
      go_upto_region 3 with fail
      go_region_law (first
        | ((with_reducible refine step_callee rfl 69 _ _ rfl (.pointer (some ⟨p, 0, none⟩)) rfl hEU HUc.out (fun e w' h => ⟨_, h.1⟩) ?_); rintro v w1 ⟨hv, hr1, hf1⟩; injection hv with hv; subst hv; have H1 := As.mk ((HI.out.none_ (Fr.refl None_ wr).drew).read (j := ((5 + (j + 1) : Nat) : Int)) (by rw [show ((5 + (j + 1) : Nat) : Int) = ((5 + j : Nat) : Int) + 1 by omega]; exact hr1) hf1); have HX1 := As.mk (row_inread (HI.out.none_ (Fr.refl None_ wr).drew) (HX.out.none_ (Fr.refl None_ wr).drew) hf1); have hfa : Fr None_ w1 (w1.alloc (.cells #[.int .i64 x] 3)) := (Fr.refl None_ w1).alloc _; have H1a := As.mk (H1.out.none_ hfa); have HX1a := As.mk (HX1.out.none_ hfa); have HRx : As (Rd .i64 (w1.alloc (.cells #[.int .i64 x] 3)) (some ⟨w1.heap.size, 0, none⟩) 1 [x]) := ⟨rfl, by decide, fun _ => ⟨_, rfl, fun i hi => by have hi0 : i = 0 := (by omega); subst hi0; exact cell_is (i := 0) (heap_alloc_new w1 _) rfl⟩⟩; have k21 := cell_is (i := 1) H1.out.pt rfl; have k22 := cell_is (i := 1) H1a.out.pt rfl; change w1.cell? ⟨tb, 1, none⟩ = some (.slice A1 j c1) at k21; change (w1.alloc (.cells #[.int .i64 x] 3)).cell? ⟨tb, 1, none⟩ = some (.slice A1 j c1) at k22; have hzb : w.heap.size ≤ (w1.alloc (.cells #[.int .i64 x] 3)).heap.size := H1a.out.fr.size; clear hr1 hf1 hfa)
        | ((with_reducible refine step_appendRow w.heap.size rfl _ _ 38 3 .i64 8 rfl Tryz.underlying38 infoIn (by decide) (.slice A1 j c1) xs [x] (some ⟨w1.heap.size, 0, none⟩) 1 1 rfl rfl HX1a.out HRx.out hzb ?k1 ?_); (case k1 => rw [HLE.out]; omega); intro v9 w9 hrow9 hfr9 hat9; have H9 := As.mk (H1a.out.grow (Nat.le_refl _) HX1a.out hfr9); have HX9 := As.mk hrow9; have k29 := cell_is (i := 1) H9.out.pt rfl; have f29 := free_of (i := 1) H9.out.pt; change w9.cell? ⟨tb, 1, none⟩ = some (.slice A1 j c1) at k29; clear hrow9 hfr9 hat9; obtain ⟨A9, n9, c9, e9, _, _, _⟩ := HX9.out.rd; subst e9)
        | fail)
      all_goals
        go_wp2_with fail
        have hS9 := H9.out.set 1 (.slice A9 n9 c9)
        simp only [List.setIfInBounds_toArray, List.set_cons_zero, List.set_cons_succ] at hS9
        refine ⟨⟨j + 1, _, rfl, by omega, ⟨hS9⟩, ⟨?_⟩⟩, by simp [intOf]; omega⟩
        rw [HSC.out]
        exact row_inset H9.out HX9.out 1 _
    · have hltI : ¬ (j : Int) < (N : Int) := by omega
      obtain rfl : N = j := by omega
      clear hlt hj
      have HUM := As.mk (HU.out (5 + N) wr _ HI.out (by omega))
      rw [HNM.out.2] at HUM
      go_wp2_with fail
      ((with_reducible refine (HUM.out).mono ?_); rintro e wL ⟨rfl, hr3, hf3⟩)
      have HIL := As.mk (HI.out.read (j := ((6 + N : Nat) : Int)) (by rw [show ((6 + N : Nat) : Int) = ((5 + N : Nat) : Int) + 1 by omega]; exact hr3) hf3)
      have HXL := As.mk (row_inread HI.out HX.out hf3)
      clear hr3 hf3 HUM
      have hwL : w.heap.size ≤ wL.heap.size := HIL.out.fr.size
      have HML := As.mk (fun b (hb : (Value.slice A1 N c1).ownBlock = some b) => (HXL.out.blk b hb).2.1)
      rename Option Addr => AM
      rename Nat => cM
      clear HX HI
      go_wp2_with fail
      go_loopw [24] (fun vS w' => ∃ (j : Nat) (vM : Value), vS = .int .i64 (j : Int) ∧ j ≤ M ∧ As (In TT w w' p tb zb A n c ((6 + N + j : Nat) : Int) #[.int .u32 (nb bs 0), .slice AM N cM, vM, .int .i64 0, .int .i64 0] false) ∧ As (Row 3 .i64 w' wL.heap.size vM (bts bs (6 + N) j)) ∧ As (Row 3 .i64 w' w.heap.size (.slice AM N cM) (bts bs 5 N)) ∧ wL.heap.size ≤ w'.heap.size) (fun vS _ => M - (intOf vS).toNat)
      case atStart => exact ⟨0, _, rfl, by omega, HIL, ⟨Row.nil _ _ _ _⟩, HXL, Nat.le_refl _⟩
      case round =>
        obtain ⟨j, vM, rfl, hj, HI, HX, HXm, hzL⟩ := hrel
        obtain ⟨A1, n1, c1, e1, _, hd1, _⟩ := HX.out.rd
        subst e1
        have hn1 : j = n1 := by rw [← hd1.out.1, bts_len]
        subst hn1
        clear hd1
        by_cases hlt : j < M
        · have hltI : (j : Int) < (M : Int) := by omega
          have HUc := As.mk (HU.out (6 + N + j) wr.drew _ (HI.out.none_ (Fr.refl None_ wr).drew) (by omega))
          have k2 := cell_is (i := 2) HI.out.pt rfl
          change wr.cell? ⟨tb, 2, none⟩ = some (.slice A1 j c1) at k2
          have HSC := As.mk (bts_succ bs (6 + N) j)
          have HLE := As.mk (bts_len bs (6 + N) j)
          have hxr := bt_range bs (6 + N + j)
          generalize bt bs (6 + N + j) = x at *
          generalize bts bs (6 + N) j = xs at *
          have hwx : IntKind.i64.wrap x = x := i64_in _ (by omega) (by omega)
          go_upto_region 7 with fail
          go_region_law (first
            | ((with_reducible refine step_callee rfl 69 _ _ rfl (.pointer (some ⟨p, 0, none⟩)) rfl hEU HUc.out (fun e w' h => ⟨_, h.1⟩) ?_); rintro v w1 ⟨hv, hr1, hf1⟩; injection hv with hv; subst hv; have H1 := As.mk ((HI.out.none_ (Fr.refl None_ wr).drew).read (j := ((6 + N + (j + 1) : Nat) : Int)) (by rw [show ((6 + N + (j + 1) : Nat) : Int) = ((6 + N + j : Nat) : Int) + 1 by omega]; exact hr1) hf1); have HX1 := As.mk (row_inread (HI.out.none_ (Fr.refl None_ wr).drew) (HX.out.none_ (Fr.refl None_ wr).drew) hf1); have HM1 := As.mk (row_inread (HI.out.none_ (Fr.refl None_ wr).drew) (HXm.out.none_ (Fr.refl None_ wr).drew) hf1); have hfa : Fr None_ w1 (w1.alloc (.cells #[.int .i64 x] 3)) := (Fr.refl None_ w1).alloc _; have H1a := As.mk (H1.out.none_ hfa); have HX1a := As.mk (HX1.out.none_ hfa); have HM1a := As.mk (HM1.out.none_ hfa); have hzl : wr.heap.size ≤ w1.heap.size := hf1.size; have HRx : As (Rd .i64 (w1.alloc (.cells #[.int .i64 x] 3)) (some ⟨w1.heap.size, 0, none⟩) 1 [x]) := ⟨rfl, by decide, fun _ => ⟨_, rfl, fun i hi => by have hi0 : i = 0 := (by omega); subst hi0; exact cell_is (i := 0) (heap_alloc_new w1 _) rfl⟩⟩; have k21 := cell_is (i := 2) H1.out.pt rfl; have k22 := cell_is (i := 2) H1a.out.pt rfl; change w1.cell? ⟨tb, 2, none⟩ = some (.slice A1 j c1) at k21; change (w1.alloc (.cells #[.int .i64 x] 3)).cell? ⟨tb, 2, none⟩ = some (.slice A1 j c1) at k22; have hzb : wL.heap.size ≤ (w1.alloc (.cells #[.int .i64 x] 3)).heap.size := (by simp; omega); clear hr1 hf1 hfa)
            | ((with_reducible refine step_appendRow wL.heap.size rfl _ _ 38 3 .i64 8 rfl Tryz.underlying38 infoIn (by decide) (.slice A1 j c1) xs [x] (some ⟨w1.heap.size, 0, none⟩) 1 1 rfl rfl HX1a.out HRx.out hzb ?k1 ?_); (case k1 => rw [HLE.out]; omega); intro v9 w9 hrow9 hfr9 hat9; have H9 := As.mk (H1a.out.grow hwL HX1a.out hfr9); have HX9 := As.mk hrow9; have hfz9 := hfr9.size; have HM9 := As.mk (row_apart HM1a.out HML.out HX1a.out hfr9); have k29 := cell_is (i := 2) H9.out.pt rfl; have f29 := free_of (i := 2) H9.out.pt; change w9.cell? ⟨tb, 2, none⟩ = some (.slice A1 j c1) at k29; clear hrow9 hfr9 hat9; obtain ⟨A9, n9, c9, e9, _, _, _⟩ := HX9.out.rd; subst e9)
            | fail)
          all_goals
            go_wp2_with fail
            have hS9 := H9.out.set 2 (.slice A9 n9 c9)
            simp only [List.setIfInBounds_toArray, List.set_cons_zero, List.set_cons_succ] at hS9
            refine ⟨⟨j + 1, _, rfl, by omega, ⟨hS9⟩, ⟨?_⟩, ⟨row_inset H9.out HM9.out 2 _⟩, by have h1 := hfz9; simp only [World.size_alloc] at h1; simp [World.setCell]; omega⟩, by simp [intOf]; omega⟩
            rw [HSC.out]
            exact row_inset H9.out HX9.out 2 _
        · have hltI : ¬ (j : Int) < (M : Int) := by omega
          obtain rfl : M = j := by omega
          clear hlt hj
          have HU0 := As.mk (HU.out (6 + N + M) wr _ HI.out (by omega))
          have hx0 := bt_range bs (6 + N + M)
          have hx1 := bt_range bs (7 + N + M)
          have hw0 : IntKind.i64.wrap (bt bs (6 + N + M)) = bt bs (6 + N + M) := i64_in _ (by omega) (by omega)
          have hw1 : IntKind.i64.wrap (bt bs (7 + N + M)) = bt bs (7 + N + M) := i64_in _ (by omega) (by omega)
          go_wp2_with fail
          ((with_reducible refine (HU0.out).mono ?_); rintro e w5 ⟨rfl, hr5, hf5⟩)
          have H5 := As.mk (HI.out.read (j := ((7 + N + M : Nat) : Int)) (by rw [show ((7 + N + M : Nat) : Int) = ((6 + N + M : Nat) : Int) + 1 by omega]; exact hr5) hf5)
          have HX5 := As.mk (row_inread HI.out HX.out hf5)
          have HM5 := As.mk (row_inread HI.out HXm.out hf5)
          have HU1 := As.mk (HU.out (7 + N + M) w5 _ H5.out (by omega))
          clear hr5 hf5 HU0
          go_wp2_with fail
          ((with_reducible refine (HU1.out).mono ?_); rintro e w6 ⟨rfl, hr6, hf6⟩)
          have H6 := As.mk (H5.out.read (j := ((8 + N + M : Nat) : Int)) (by rw [show ((8 + N + M : Nat) : Int) = ((7 + N + M : Nat) : Int) + 1 by omega]; exact hr6) hf6)
          have HX6 := As.mk (row_inread H5.out HX5.out hf6)
          have HM6 := As.mk (row_inread H5.out HM5.out hf6)
          clear hr6 hf6 HU1
          have c3 := cell_is (i := 3) H6.out.pt rfl
          have f3 := free_of (i := 3) H6.out.pt
          have c4 := cell_is (i := 4) H6.out.pt rfl
          have f4 := free_of (i := 4) H6.out.pt
          have H7 := As.mk ((H6.out.set 3 (.int .i64 (bt bs (6 + N + M)))).set 4 (.int .i64 (bt bs (7 + N + M))))
          have HX7 := As.mk (row_inset (H6.out.set 3 (.int .i64 (bt bs (6 + N + M)))) (row_inset H6.out HX6.out 3 (.int .i64 (bt bs (6 + N + M)))) 4 (.int .i64 (bt bs (7 + N + M))))
          have HM7 := As.mk (row_inset (H6.out.set 3 (.int .i64 (bt bs (6 + N + M)))) (row_inset H6.out HM6.out 3 (.int .i64 (bt bs (6 + N + M)))) 4 (.int .i64 (bt bs (7 + N + M))))
          simp only [List.setIfInBounds_toArray, List.set_cons_zero, List.set_cons_succ] at H7
          go_upto_region 10 with fail
          generalize (w6.setCell ⟨tb, 3, none⟩ (.int .i64 (bt bs (6 + N + M)))).setCell ⟨tb, 4, none⟩ (.int .i64 (bt bs (7 + N + M))) = w7 at *
          clear c3 f3 c4 f4
          go_wp2_with fail
          ((with_reducible refine (HZR.out _ w7 _ H7.out (by omega)).mono ?_); rintro e w8 ⟨rfl, hf8⟩)
          have H8 := As.mk (H7.out.none_ hf8)
          have HX8 := As.mk (HX7.out.none_ hf8)
          have HM8 := As.mk (HM7.out.none_ hf8)
          clear hf8
          have z8 := cell_of H8.out.z
          have y8 := free_of (i := 0) H8.out.z
          rw [show Int.toNat ((8 + N + M : Nat) : Int) = 8 + N + M by omega]
          generalize hzz : (bs.drop (8 + N + M)).all (· == 0) = zz at *
          have HZZ := As.mk hzz
          clear hzz
          go_wp2_with fail
          go_end0
          refine ⟨rfl, .slice AM N cM, .slice A1 M c1, ((8 + N + M : Nat) : Int), ?_, ?_, ?_⟩
          · rw [HZZ.out]
            exact H8.out.setz zz
          · exact HM8.out.fr (S := fun b => b = zb) ((Fr.refl (fun b => b = zb) w8).setCell (p := ⟨zb, 0, none⟩) (fun _ => rfl) (.bool zz)) (fun b hb e => by subst e; exact Row.ne HM8.out H8.out.z (by decide) hb)
          · exact (HX8.out.lower hwL).fr (S := fun b => b = zb) ((Fr.refl (fun b => b = zb) w8).setCell (p := ⟨zb, 0, none⟩) (fun _ => rfl) (.bool zz)) (fun b hb e => by subst e; exact Row.ne HX8.out H8.out.z (by decide) hb)
end Go.Proofs.YteofgpaceeibpaaGreat.RemapE

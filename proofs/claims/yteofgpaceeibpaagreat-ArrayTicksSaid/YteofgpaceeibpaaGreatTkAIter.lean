/- Package geom and a shape's check, for shapes that may be and places that are there. | Cells of a block: read, written. No program in it. | append within a region that draws its order. | remap: tables in memory, list. | geom.Rows, and its iterator, inside the widest fence. -/
import Derived.Test.YteofgpaceeibpaaGreatProg
import Derived.Test.YteofgpaceeibpaaGreatTkGab
import Derived.Deep.RegionHeld3
import Derived.Laws.BitsLemmas
import Derived.Handy
import Derived.Test.YteofgpaceeibpaaGreatTkRef5
import Derived.RangeFuncNested
import Derived.RangeFuncBound
import Derived.RangeFuncCalls
import Derived.RangeFuncLeaves
import Derived.RangeFuncWrites
import Derived.Shelf.Abstract
import Derived.OwnWalkIn
import Derived.TacticsInMore
import Derived.LoopNIn
import Derived.LoopIn
namespace Go.Proofs.YteofgpaceeibpaaGreat.Geom
open Go.RowKit Gab
set_option linter.unusedVariables false
set_option linter.unusedSimpArgs false

theorem i64_in (n : Int) (h0 : -9223372036854775808 ≤ n) (h1 : n < 9223372036854775808) : IntKind.i64.wrap n = n := by rw [IntKind.wrap_i64]; omega
/-- A shape: chips, blocks, pages, bytes. -/
structure Geo where
  c : Int
  b : Int
  p : Int
  s : Int
deriving DecidableEq
def Geo.val (g : Geo) : Value := .agg #[.int .i64 g.c, .int .i64 g.b, .int .i64 g.p, .int .i64 g.s]
structure Geo.Ok (g : Geo) : Prop where
  c : 3 ≤ g.c ∧ g.c ≤ 16
  b : 16 ≤ g.b ∧ g.b ≤ 64
  p : 4 ≤ g.p ∧ g.p ≤ 32
  s : 256 ≤ g.s ∧ g.s ≤ 1024
  m : g.s % 64 = 0
/-- A stripe that is there. -/
structure Geo.At (g : Geo) (seg row : Int) : Prop where
  seg : 0 ≤ seg ∧ seg < g.b - 5
  row : 0 ≤ row ∧ row < g.p
def Geo.par (g : Geo) (seg row : Int) : Int := (seg * g.p + row) % g.c
theorem par_range {g : Geo} (h : g.Ok) (seg row : Int) : 0 ≤ g.par seg row ∧ g.par seg row < g.c := by
  have := h.c
  unfold Geo.par
  exact ⟨Int.emod_nonneg _ (by omega), Int.emod_lt_of_pos _ (by omega)⟩
theorem mul_range {g : Geo} (h : g.Ok) {seg row : Int} (ha : g.At seg row) : 0 ≤ seg * g.p ∧ seg * g.p ≤ 2048 := by
  have h1 := h.p
  have h2 := h.b
  have h3 := ha.seg
  refine ⟨Int.mul_nonneg h3.1 (by omega), ?_⟩
  have : seg * g.p ≤ 64 * 32 := Int.mul_le_mul (by omega) h1.2 (by omega) (by omega)
  omega

set_option maxHeartbeats 1000000 in
set_option maxRecDepth 100000 in
theorem Width_calls (g : Geo) (w : World) (h : g.Ok) : Calls Tryz.prog 43 #[g.val] w fun e w' => e = .returned (.int .i64 (g.c - 1)) ∧ Fr None_ w w' := by
  unfold Geo.val
  have h1 := h.c.1
  have h2 := h.c.2
  have e : max 1 (g.c - 1) = g.c - 1 := by omega
  go_enter Tryz.func43, Tryz.ntmps43
  go_wp2
  go_ret
  exact ⟨rfl, (Fr.refl _ w).alloc _⟩

set_option maxHeartbeats 1000000 in
set_option maxRecDepth 100000 in
theorem Virtual_calls (g : Geo) (w : World) (h : g.Ok) : Calls Tryz.prog 23 #[g.val] w fun e w' => e = .returned (.int .i64 (g.b - 5)) ∧ Fr None_ w w' := by
  unfold Geo.val
  have h1 := h.b.1
  have h2 := h.b.2
  go_enter Tryz.func23, Tryz.ntmps23
  go_wp2
  go_ret
  exact ⟨by rw [show g.b - 5 = g.b - 2 - 3 by omega]; rfl, (Fr.refl _ w).alloc _⟩

set_option maxHeartbeats 1000000 in
set_option maxRecDepth 100000 in
theorem Check_calls (g : Geo) (w : World) (h : g.Ok) : Calls Tryz.prog 29 #[g.val] w fun e w' => e = .returned (.int .i64 0) ∧ Fr None_ w w' := by
  unfold Geo.val
  have h1 := h.c.1
  have h2 := h.c.2
  have h3 := h.b.1
  have h4 := h.b.2
  have h5 := h.p.1
  have h6 := h.p.2
  have h7 := h.s.1
  have h8 := h.s.2
  have hm : g.s % 64 = 0 := h.m
  have hmt : (Int.tmod g.s 64 != 0) = false := by rw [Int.tmod_eq_emod_of_nonneg (by omega), hm]; rfl
  have hmt2 : (g.s % 64 != 0) = false := by rw [hm]; rfl
  clear hm
  go_enter Tryz.func29, Tryz.ntmps29
  go_wp2
  go_ret
  exact ⟨rfl, (Fr.refl _ w).alloc _⟩

set_option maxHeartbeats 1000000 in
set_option maxRecDepth 100000 in
theorem Parity_calls (g : Geo) (seg row : Int) (w : World) (h : g.Ok) (ha : g.At seg row) : Calls Tryz.prog 107 #[g.val, .int .i64 seg, .int .i64 row] w fun e w' => e = .returned (.int .i64 (g.par seg row)) ∧ Fr None_ w w' := by
  unfold Geo.val
  have h1 := h.c.1
  have h2 := h.c.2
  have e : max 1 g.c = g.c := by omega
  have hp := h.p.2
  have hr1 := ha.row.1
  have hr2 := ha.row.2
  obtain ⟨hm1, hm2⟩ := mul_range h ha
  have ht : Int.tmod (seg * g.p + row) g.c = g.par seg row := Int.tmod_eq_emod_of_nonneg (by omega)
  obtain ⟨k1, k2⟩ := par_range h seg row
  have hz : ¬ g.c = 0 := by omega
  have k3 : decide ((seg * g.p + row) % g.c < 0) = false := decide_eq_false (by unfold Geo.par at k1; omega)
  have k4 : ¬ (seg * g.p + row) % g.c < 0 := by unfold Geo.par at k1; omega
  clear ht k1 k2
  go_enter Tryz.func107, Tryz.ntmps107
  go_wp2
  go_ret
  exact ⟨rfl, (Fr.refl _ w).alloc _⟩

def Geo.mem (g : Geo) (seg row slot : Int) : Int := if g.par seg row ≤ slot then slot + 1 else slot
set_option maxHeartbeats 1000000 in
set_option maxRecDepth 100000 in
theorem Member_calls (g : Geo) (seg row slot : Int) (w : World) (h : g.Ok) (ha : g.At seg row) (hs0 : 0 ≤ slot) (hs1 : slot < 100) : Calls Tryz.prog 77 #[g.val, .agg #[.int .i64 seg, .int .i64 row, .int .i64 slot]] w fun e w' => e = .returned (.int .i64 (g.mem seg row slot)) ∧ Fr None_ w w' := by
  have HP := As.mk (fun w => Parity_calls g seg row w h ha)
  have HM : As (g.mem seg row slot = if g.par seg row ≤ slot then slot + 1 else slot) := ⟨rfl⟩
  unfold Geo.val at *
  generalize g.par seg row = k at *
  clear h ha
  have hf := fun w' (hf : Fr None_ ((w.alloc (.cells #[.int .i64 g.c, .int .i64 g.b, .int .i64 g.p, .int .i64 g.s] 24)).alloc (.cells #[.int .i64 seg, .int .i64 row, .int .i64 slot] 108)) w') => hf.heap (at_new (.cells #[.int .i64 seg, .int .i64 row, .int .i64 slot] 108) (size_new _ rfl)) (fun h => h)
  have HF := As.mk hf
  clear hf
  by_cases hk : k ≤ slot
  all_goals
    go_enter Tryz.func77, Tryz.ntmps77
    go_wp2_with fail
    ((with_reducible refine (HP.out _).mono ?_); rintro e w1 ⟨rfl, hf1⟩)
    have HF1 := As.mk hf1
    have hh := HF.out w1 hf1
    have c2 : w1.cell? ⟨w.heap.size + 1, 2, none⟩ = some (.int .i64 slot) := by simp [World.cell?, hh]
    clear hh hf1
    go_wp2
    go_ret
    refine ⟨?_, (((Fr.refl None_ w).alloc _).alloc _).after HF1.out (fun _ _ h => h)⟩
    rw [HM.out]
    first | rw [if_pos (by omega)] | rw [if_neg (by omega)]
    rfl

/-- Which slot a member has; is it one of data? -/
def Geo.slot (g : Geo) (seg row m : Int) : Int := if m = g.par seg row then 0 else if g.par seg row < m then m - 1 else m
def Geo.isData (g : Geo) (seg row m : Int) : Bool := decide (m ≠ g.par seg row)
set_option maxHeartbeats 1000000 in
set_option maxRecDepth 100000 in
theorem Slot_calls (g : Geo) (seg row m : Int) (w : World) (h : g.Ok) (ha : g.At seg row) (hm0 : 0 ≤ m) (hm1 : m < 100) : Calls Tryz.prog 83 #[g.val, .int .i64 seg, .int .i64 row, .int .i64 m] w fun e w' => e = .returned (.tuple #[.int .i64 (g.slot seg row m), .bool (g.isData seg row m)]) ∧ Fr None_ w w' := by
  have HP := As.mk (fun w => Parity_calls g seg row w h ha)
  have HS : As (g.slot seg row m = (if m = g.par seg row then 0 else if g.par seg row < m then m - 1 else m) ∧ g.isData seg row m = decide (m ≠ g.par seg row)) := ⟨rfl, rfl⟩
  unfold Geo.val at *
  generalize g.par seg row = k at *
  clear h ha
  by_cases hk : m = k
  · have HE : As (g.slot seg row m = 0 ∧ g.isData seg row m = false) := ⟨by rw [HS.out.1, HS.out.2]; simp [hk]⟩
    clear HS
    subst hk
    go_enter Tryz.func83, Tryz.ntmps83
    go_wp2_with ((with_reducible refine (HP.out _).mono ?_); rintro e w1 ⟨rfl, hf1⟩; have HF1 := As.mk hf1; clear hf1)
    go_ret2
    exact ⟨by rw [HE.out.1, HE.out.2]; rfl, ((Fr.refl None_ w).alloc _).after HF1.out (fun _ _ h => h)⟩
  · have hb : (m == k) = false := beq_eq_false_iff_ne.mpr hk
    by_cases hk2 : k < m
    · have HE : As (g.slot seg row m = m - 1 ∧ g.isData seg row m = true) := ⟨by rw [HS.out.1, HS.out.2]; simp [hk, hk2]⟩
      clear HS hk
      go_enter Tryz.func83, Tryz.ntmps83
      go_wp2_with ((with_reducible refine (HP.out _).mono ?_); rintro e w1 ⟨rfl, hf1⟩; have HF1 := As.mk hf1; clear hf1)
      go_ret2
      exact ⟨by rw [HE.out.1, HE.out.2]; rfl, ((Fr.refl None_ w).alloc _).after HF1.out (fun _ _ h => h)⟩
    · have HE : As (g.slot seg row m = m ∧ g.isData seg row m = true) := ⟨by rw [HS.out.1, HS.out.2]; simp [hk, hk2]⟩
      clear HS hk
      go_enter Tryz.func83, Tryz.ntmps83
      go_wp2_with ((with_reducible refine (HP.out _).mono ?_); rintro e w1 ⟨rfl, hf1⟩; have HF1 := As.mk hf1; clear hf1)
      go_ret2
      exact ⟨by rw [HE.out.1, HE.out.2]; rfl, ((Fr.refl None_ w).alloc _).after HF1.out (fun _ _ h => h)⟩

/-- A place's number, from 1 on. -/
def Geo.num (g : Geo) (seg row slot : Int) : Int := (seg * g.p + row) * (g.c - 1) + slot + 1
set_option maxHeartbeats 2000000 in
set_option maxRecDepth 100000 in
theorem Number_calls (g : Geo) (seg row slot : Int) (w : World) (h : g.Ok) (ha : g.At seg row) (hs0 : 0 ≤ slot) (hs1 : slot < g.c - 1) : Calls Tryz.prog 40 #[g.val, .agg #[.int .i64 seg, .int .i64 row, .int .i64 slot]] w fun e w' => e = .returned (.int .u32 (g.num seg row slot)) ∧ Fr None_ w w' := by
  have HC := As.mk (fun w => Check_calls g w h)
  have HV := As.mk (fun w => Virtual_calls g w h)
  have HW := As.mk (fun w => Width_calls g w h)
  unfold Geo.val at *
  have hc := h.c
  have hb := h.b
  have hp := h.p
  obtain ⟨hm1, hm2⟩ := mul_range h ha
  obtain ⟨⟨t1, t2⟩, t3, t4⟩ := ha
  have d1 : decide (seg < 0) = false := decide_eq_false (by omega)
  have d2 : decide (g.b - 5 ≤ seg) = false := decide_eq_false (by omega)
  have d3 : decide (row < 0) = false := decide_eq_false (by omega)
  have d4 : decide (g.p ≤ row) = false := decide_eq_false (by omega)
  have d5 : decide (slot < 0) = false := decide_eq_false (by omega)
  have d6 : decide (g.c - 1 ≤ slot) = false := decide_eq_false (by omega)
  obtain ⟨c1, c2⟩ := hc
  obtain ⟨p1, p2⟩ := hp
  have q0 : 0 ≤ (seg * g.p + row) * (g.c - 1) := Int.mul_nonneg (by omega) (by omega)
  have q1 : (seg * g.p + row) * (g.c - 1) ≤ 31200 := by
    have h1 : (seg * g.p + row) * (g.c - 1) ≤ 2080 * 15 := Int.mul_le_mul (by omega) (by omega) (by omega) (by omega)
    omega
  go_enter Tryz.func40, Tryz.ntmps40
  go_wp2
  go_region_held3 (fun w' => w'.cell? ⟨w.heap.size, 0, none⟩ = some (.int .i64 g.c) ∧ w'.cell? ⟨w.heap.size, 1, none⟩ = some (.int .i64 g.b) ∧ w'.cell? ⟨w.heap.size, 2, none⟩ = some (.int .i64 g.p) ∧ w'.cell? ⟨w.heap.size, 3, none⟩ = some (.int .i64 g.s) ∧ w'.cell? ⟨w.heap.size + 1, 0, none⟩ = some (.int .i64 seg) ∧ w'.cell? ⟨w.heap.size + 1, 1, none⟩ = some (.int .i64 row) ∧ w'.cell? ⟨w.heap.size + 1, 2, none⟩ = some (.int .i64 slot)) (first | go_keep | (refine ⟨?_, ?_, ?_, ?_, ?_, ?_, ?_⟩ <;> (refine Fr.cell ‹Fr None_ _ _› ?_ (fun h => h); go_keep))) (first | (go_at_call 29; (with_reducible refine (HC.out _).mono ?_); rintro e w1 ⟨rfl, hf1⟩) | (go_at_call 23; (with_reducible refine (HV.out _).mono ?_); rintro e w2 ⟨rfl, hf2⟩) | (go_at_call 43; (with_reducible refine (HW.out _).mono ?_); rintro e w3 ⟨rfl, hf3⟩))
  go_wp2
  go_region_held3 (fun w' => w'.cell? ⟨w.heap.size, 0, none⟩ = some (.int .i64 g.c) ∧ w'.cell? ⟨w.heap.size, 1, none⟩ = some (.int .i64 g.b) ∧ w'.cell? ⟨w.heap.size, 2, none⟩ = some (.int .i64 g.p) ∧ w'.cell? ⟨w.heap.size, 3, none⟩ = some (.int .i64 g.s) ∧ w'.cell? ⟨w.heap.size + 1, 0, none⟩ = some (.int .i64 seg) ∧ w'.cell? ⟨w.heap.size + 1, 1, none⟩ = some (.int .i64 row) ∧ w'.cell? ⟨w.heap.size + 1, 2, none⟩ = some (.int .i64 slot)) (first | go_keep | (refine ⟨?_, ?_, ?_, ?_, ?_, ?_, ?_⟩ <;> (refine Fr.cell ‹Fr None_ _ _› ?_ (fun h => h); go_keep))) (first | (go_at_call 43; (with_reducible refine (HW.out _).mono ?_); rintro e w4 ⟨rfl, hf4⟩))
  go_wp2
  go_ret
  refine ⟨?_, ?_⟩
  · show Ending.returned (.int .u32 (IntKind.u32.wrap (IntKind.u32.wrap (IntKind.i64.wrap (IntKind.i64.wrap (IntKind.i64.wrap (IntKind.i64.wrap (seg * g.p) + row) * (g.c - 1)) + slot)) + 1))) = _
    rw [i64_in (seg * g.p) (by omega) (by omega), i64_in (seg * g.p + row) (by omega) (by omega), i64_in ((seg * g.p + row) * (g.c - 1)) (by omega) (by omega), i64_in ((seg * g.p + row) * (g.c - 1) + slot) (by omega) (by omega), IntKind.wrap_u32, IntKind.wrap_u32]
    unfold Geo.num
    rw [show ((seg * g.p + row) * (g.c - 1) + slot) % 4294967296 = (seg * g.p + row) * (g.c - 1) + slot by omega, show ((seg * g.p + row) * (g.c - 1) + slot + 1) % 4294967296 = (seg * g.p + row) * (g.c - 1) + slot + 1 by omega]
  · have k : ∀ {a b c : World}, Fr None_ a b → Fr None_ b c → Fr None_ a c := fun h k => h.after k (fun _ _ h => h)
    exact k (k (k (k (by repeat (first | exact Fr.refl _ _ | apply Fr.drew | apply Fr.alloc)) hf1) hf2) hf3) (k (Fr.refl _ w3).drew hf4)
end Go.Proofs.YteofgpaceeibpaaGreat.Geom
namespace Go.Proofs.YteofgpaceeibpaaGreat.Heap
open Go.RowKit Gab
set_option linter.unusedVariables false
set_option linter.unusedSimpArgs false
theorem cell_is {w : World} {p i : Nat} {cs : Array Value} {T : TypeId} {fr : Nat × Nat} {v : Value} (h : w.heap[p]? = some (.cells cs T fr)) (hv : cs[i]? = some v) : w.cell? ⟨p, i, none⟩ = some v := by simp [World.cell?, h, hv]
theorem heap_set {w : World} {b : Nat} {cs : Array Value} {T : TypeId} {fr : Nat × Nat} (h : w.heap[b]? = some (.cells cs T fr)) (i : Nat) (v : Value) : (w.setCell ⟨b, i, none⟩ v).heap[b]? = some (.cells (cs.setIfInBounds i v) T fr) := by
  simp [World.setCell, Array.getElem?_modify, h]
theorem fr_set7 {S : Nat → Prop} {w w' : World} (h : Fr S w w') {b : Nat} (hb : b < w.heap.size → S b) (v0 v1 v2 v3 v4 v5 v6 : Value) : Fr S w (((((((w'.setCell ⟨b, 0, none⟩ v0).setCell ⟨b, 1, none⟩ v1).setCell ⟨b, 2, none⟩ v2).setCell ⟨b, 3, none⟩ v3).setCell ⟨b, 4, none⟩ v4).setCell ⟨b, 5, none⟩ v5).setCell ⟨b, 6, none⟩ v6) :=
  ((((((h.setCell (p := ⟨b, 0, none⟩) hb v0).setCell (p := ⟨b, 1, none⟩) hb v1).setCell (p := ⟨b, 2, none⟩) hb v2).setCell (p := ⟨b, 3, none⟩) hb v3).setCell (p := ⟨b, 4, none⟩) hb v4).setCell (p := ⟨b, 5, none⟩) hb v5).setCell (p := ⟨b, 6, none⟩) hb v6
theorem heap_set7 {w : World} {b : Nat} {T : TypeId} {fr : Nat × Nat} {a0 a1 a2 a3 a4 a5 a6 : Value} (h : w.heap[b]? = some (.cells #[a0, a1, a2, a3, a4, a5, a6] T fr)) (v0 v1 v2 v3 v4 v5 v6 : Value) :
    (((((((w.setCell ⟨b, 0, none⟩ v0).setCell ⟨b, 1, none⟩ v1).setCell ⟨b, 2, none⟩ v2).setCell ⟨b, 3, none⟩ v3).setCell ⟨b, 4, none⟩ v4).setCell ⟨b, 5, none⟩ v5).setCell ⟨b, 6, none⟩ v6).heap[b]? = some (.cells #[v0, v1, v2, v3, v4, v5, v6] T fr) := by
  have h0 := heap_set h 0 v0
  have h1 := heap_set h0 1 v1
  have h2 := heap_set h1 2 v2
  have h3 := heap_set h2 3 v3
  have h4 := heap_set h3 4 v4
  have h5 := heap_set h4 5 v5
  have h6 := heap_set h5 6 v6
  rw [h6]
  simp
theorem fr_set1 {w' : World} {b i : Nat} (v : Value) : Fr (fun j => j = b) w' (w'.setCell ⟨b, i, none⟩ v) := (Fr.refl (fun j => j = b) w').setCell (p := ⟨b, i, none⟩) (fun _ => rfl) v
theorem set4 {w w' : World} {b : Nat} {T : TypeId} {a0 a1 a2 a3 : Value} (hf : Fr None_ w w') (hb : w.heap.size ≤ b) (h : w'.heap[b]? = some (.cells #[a0, a1, a2, a3] T (0, 0))) (v0 v1 v2 v3 : Value) :
    Fr None_ w ((((w'.setCell ⟨b, 0, none⟩ v0).setCell ⟨b, 1, none⟩ v1).setCell ⟨b, 2, none⟩ v2).setCell ⟨b, 3, none⟩ v3) ∧ ((((w'.setCell ⟨b, 0, none⟩ v0).setCell ⟨b, 1, none⟩ v1).setCell ⟨b, 2, none⟩ v2).setCell ⟨b, 3, none⟩ v3).heap[b]? = some (.cells #[v0, v1, v2, v3] T (0, 0)) ∧
    Fr (fun i => i = b) w' ((((w'.setCell ⟨b, 0, none⟩ v0).setCell ⟨b, 1, none⟩ v1).setCell ⟨b, 2, none⟩ v2).setCell ⟨b, 3, none⟩ v3) := by
  have h0 := heap_set h 0 v0
  have h1 := heap_set h0 1 v1
  have h2 := heap_set h1 2 v2
  have h3 := heap_set h2 3 v3
  refine ⟨(((hf.setCell (p := ⟨b, 0, none⟩) (fun h => absurd h (Nat.not_lt.2 hb)) v0).setCell (p := ⟨b, 1, none⟩) (fun h => absurd h (Nat.not_lt.2 hb)) v1).setCell (p := ⟨b, 2, none⟩) (fun h => absurd h (Nat.not_lt.2 hb)) v2).setCell (p := ⟨b, 3, none⟩) (fun h => absurd h (Nat.not_lt.2 hb)) v3, ?_,
    ((((Fr.refl (fun i => i = b) w').setCell (p := ⟨b, 0, none⟩) (fun _ => rfl) v0).setCell (p := ⟨b, 1, none⟩) (fun _ => rfl) v1).setCell (p := ⟨b, 2, none⟩) (fun _ => rfl) v2).setCell (p := ⟨b, 3, none⟩) (fun _ => rfl) v3⟩
  rw [h3]
  simp
end Go.Proofs.YteofgpaceeibpaaGreat.Heap
namespace Go.Proofs.YteofgpaceeibpaaGreat.Step
open Go.RowKit Gab
set_option linter.unusedVariables false
set_option linter.unusedSimpArgs false

/-- append, where the region draws its order. -/
theorem step_appendRow {P : Program} {ops : Array Oper} {o : Oper} {a : Act} {K : Act → World → Prop} {Q : Exit → Act → World → Prop} {E : Prop} {W : World} (base : Nat) (hgd : o.guard = none) (s x : Operand) (t e : TypeId) (k : IntKind) (bytes : Nat)
    (ho : o.op = .call { callee := .builtin .append, args := #[s, x], argTypes := #[t, t] })
    (ht : P.underlying t = some (.slice e)) (hinfo : (P.info? e).map (fun i => (i.zero, i.size, i.bytes)) = some (some (.int k 0), 1, bytes)) (hb0 : 0 < bytes)
    (v : Value) (xs ys : List Int) (A : Option Addr) (m c : Nat) (hs : a.eval s = v) (hx : a.eval x = .slice A m c)
    (HO : Row e k W base v xs) (HR : Rd k W A m ys) (hbase : base ≤ W.heap.size) (hl : (xs.length + m) * bytes ≤ 140737488355328)
    (h : ∀ v1 w1, Row e k w1 base v1 (xs ++ ys) → Fr (fun b => v.ownBlock = some b) W w1 → (v1.ownBlock = v.ownBlock ∨ ∃ b, v1.ownBlock = some b ∧ W.heap.size ≤ b) → K (a.put o.dst v1) w1) :
    if Region.wanted o (yielded ops a.tmps) = true then Oper.wp P o a W K Q else E := by
  have hw : Region.wanted o (yielded ops a.tmps) = true := by simp [Region.wanted, hgd]
  rw [if_pos hw]
  obtain ⟨v1, w1, hr, hown, hg, hat⟩ := run_append_row (P := P) base t o.type e k bytes ht hinfo hb0 v xs ys A m c HO HR hbase hl
  unfold Oper.wp execOp
  simp only [ho, resolve, invoke, builtin, Sem.run_bind, Sem.run_pure, Result.andThen_ok, List.map_toArray, List.map_cons, List.map_nil, hs, hx, hr]
  exact h v1 w1 hown hg hat

end Go.Proofs.YteofgpaceeibpaaGreat.Step
namespace Go.Proofs.YteofgpaceeibpaaGreat.RemapA
open Go.RowKit Gab Wr Geom Ref Heap
set_option linter.unusedVariables false
set_option linter.unusedSimpArgs false

/-- A table. -/
structure Tab where
  seq : Int
  place : List Int
  spare : List Int
  t0 : Int
  t1 : Int
/-- A value that is one. -/
def TabV (w : World) (v : Value) (t : Tab) : Prop := ∃ A1 n1 c1 A2 n2 c2, v = .agg #[.int .u32 t.seq, .slice A1 n1 c1, .slice A2 n2 c2, .int .i64 t.t0, .int .i64 t.t1] ∧ n1 ≤ c1 ∧ Rd .i64 w A1 n1 t.place ∧ n2 ≤ c2 ∧ Rd .i64 w A2 n2 t.spare
theorem TabV.none_ {w w' : World} {v : Value} {t : Tab} (h : TabV w v t) (hf : Fr None_ w w') : TabV w' v t := by
  obtain ⟨A1, n1, c1, A2, n2, c2, rfl, h1, h2, h3, h4⟩ := h
  exact ⟨A1, n1, c1, A2, n2, c2, rfl, h1, h2.none_ hf, h3, h4.none_ hf⟩
theorem step_alloc {p : Nat} {w w' : World} (h : Step p w w') (hp : p < w'.heap.size) (o : Obj) : Step p w (w'.alloc o) :=
  h.trans ⟨(Fr.refl _ _).alloc o, .inl (by unfold rowOf; rw [Below.heap_alloc w' o p hp])⟩
theorem one_u8 (w : World) (x : Int) : Rd .u8 (w.alloc (.cells #[.int .u8 x] 5)) (some ⟨w.heap.size, 0, none⟩) 1 [x] := by
  refine ⟨rfl, by decide, fun _ => ⟨_, rfl, fun j hj => ?_⟩⟩
  obtain rfl : j = 0 := by omega
  exact cell_is (heap_alloc_new w _) rfl
theorem les_one_snoc (a : Int) (l : List Int) {i : Nat} (hi : i < l.length) : les 1 (a :: l.take (i + 1)) = les 1 (a :: l.take i) ++ les 1 [l.getD i 0] := by
  show les 1 ([a] ++ _) = les 1 ([a] ++ _) ++ _
  unfold les
  rw [List.flatMap_append, List.flatMap_append, List.append_assoc]
  congr 1
  have := les_snoc 1 hi
  unfold les at this
  rw [this]
  simp

set_option maxHeartbeats 1000000 in
set_option maxRecDepth 100000 in
theorem list_calls (base p : Nat) (xs l : List Int) (A : Option Addr) (n c : Nat) (w : World) (hW : Wr w base p xs) (hb : base ≤ w.heap.size) (hR : Rd .i64 w A n l) (hr : InR 256 l) (hn : n < 256)
    (hS : ∀ ad, A = some ad → 0 < n → ¬ (ad.block = p ∨ rowOf w p = some ad.block)) (hl : xs.length ≤ 1000000) :
    Calls Tryz.prog 125 #[.pointer (some ⟨p, 0, none⟩), .slice A n c] w fun e w' => e = .returned (.tuple #[]) ∧ Wr w' base p (xs ++ les 1 ((n : Int) :: l)) ∧ Step p w w' := by
  have HW := As.mk hW
  have HL := As.mk hl
  have HR := As.mk hR
  have HI := As.mk hr
  have HS := As.mk hS
  have HN := As.mk hR.1
  have HW0 := As.mk (hW.none_ ((Fr.refl None_ w).alloc (.cells #[.int .u8 (n : Int)] 5)))
  have HR0 := As.mk (one_u8 w n)
  have HT0 := As.mk (step_alloc (Step.refl p w) hW.lt (.cells #[.int .u8 (n : Int)] 5))
  have HU := As.mk (fun (W : World) (ys : List Int) (hw : Wr W base p ys) (x : Int) (h0 : 0 ≤ x) (h1 : x < 256) (hb : base ≤ W.heap.size) (hl : ys.length ≤ 2000000) => U8_calls base p ys [x] (some ⟨W.heap.size, 0, none⟩) 1 1 (W.alloc (.cells #[.int .u8 x] 5)) (hw.none_ ((Fr.refl None_ W).alloc _)) (by simp; omega) (one_u8 W x) (by intro y hy; simp at hy; omega)
    (fun ad e _ => by
      injection e with e
      subst e
      rintro (e | e)
      · have := hw.lt
        have : W.heap.size = p := e
        omega
      · have h1 : rowOf (W.alloc (.cells #[.int .u8 x] 5)) p = rowOf W p := by unfold rowOf; rw [Below.heap_alloc W _ p hw.lt]
        rw [h1] at e
        have := hw.row_lt _ e
        exact absurd this (Nat.lt_irrefl _)) (by omega))
  clear hW hl hR hr hS
  go_enter Tryz.func125, Tryz.ntmps125
  go_wp2_with (go_at_call 97; (with_reducible refine (HU.out w xs HW.out n (by omega) (by omega) hb (by have := HL.out; omega)).mono ?_); rintro e w1 ⟨rfl, hw1, hs1⟩; have HW1 := As.mk hw1; have HS1 := As.mk (HT0.out.trans hs1); clear hw1 hs1)
  go_loopw [5, 14] (fun v5 v14 w' => ∃ i : Nat, v14 = .int .i64 (i : Int) ∧ i ≤ n ∧ As (Wr w' base p (xs ++ les 1 ((n : Int) :: l.take i))) ∧ As (Step p w w')) (fun _ v14 _ => n - (intOf v14).toNat)
  case atStart => exact ⟨0, rfl, by omega, by simpa using HW1, HS1⟩
  case round =>
    obtain ⟨i, rfl, hi, HX, HT⟩ := hrel
    by_cases hlt : i < n
    · have hltI : (i : Int) < (n : Int) := by omega
      obtain ⟨ad, rfl, hc⟩ := (HR.out.fr HT.out.fr HS.out).at_ i (by omega) hltI
      have hx := inR_at HI.out (i := i) (by have := HN.out; omega)
      have HE := As.mk (les_one_snoc n l (i := i) (by have := HN.out; omega))
      have HK : As ((les 1 ((n : Int) :: l.take i)).length ≤ 1000) := ⟨by rw [les_length]; have := List.length_take_le i l; simp only [List.length_cons]; omega⟩
      simp only [Int.toNat_natCast] at hc
      generalize l.getD i 0 = x at *
      obtain ⟨hx0, hx1⟩ := hx
      go_wp2_with (go_at_call 97; (with_reducible refine (HU.out wr _ HX.out x hx0 hx1 ?b0 ?b1).mono ?_); (case b0 => have := HT.out.fr.size; omega); (case b1 => have := HL.out; have := HK.out; rw [List.length_append]; omega); rintro e w2 ⟨rfl, hw2, hs2⟩; have HW2 := As.mk hw2; have HS2 := As.mk ((step_alloc HT.out HX.out.lt _).trans hs2); clear hw2 hs2)
      refine ⟨⟨i + 1, rfl, by omega, ⟨?_⟩, HS2⟩, by simp [intOf]; omega⟩
      rw [HE.out, ← List.append_assoc]
      exact HW2.out
    · have HF : As (Wr wr base p (xs ++ les 1 ((n : Int) :: l))) := ⟨by have h := HX.out; rw [List.take_of_length_le (by have := HN.out; omega)] at h; exact h⟩
      go_wp2
      go_end0
      exact ⟨rfl, HF.out, HT.out⟩
end Go.Proofs.YteofgpaceeibpaaGreat.RemapA
namespace Go.Proofs.YteofgpaceeibpaaGreat.AIter
open Go.RowKit Gab Geom
attribute [local go_sem] Oper.semAt_some
set_option linter.unusedVariables false
set_option linter.unusedSimpArgs false

theorem frGrown {w w' : World} (h : Fr None_ w w') : w.grownBy w' none := ⟨h.os, h.tape, h.output, h.size, fun k hk _ => h.block k hk (fun h => h)⟩
/-- What a round must leave as it is: what the iterator has captured. -/
def Caught (gb sb : Nat) (W W' : World) : Prop := W'.heap[gb]? = W.heap[gb]? ∧ W'.heap[sb]? = W.heap[sb]?
def encs (g : Geo) (seg : Int) {N : Nat} (k : Fin N) : Array Value := #[.int .i64 (k.val : Int), .int .i64 (g.par seg k.val)]

set_option maxHeartbeats 2000000 in
set_option maxRecDepth 100000 in
theorem Rows_calls (g : Geo) (seg : Int) (w : World) : Calls Tryz.prog 113 #[g.val, .int .i64 seg] w fun e w' => e = .returned (.func (.func 120) #[] #[.pointer (some ⟨w.heap.size, 0, none⟩), .pointer (some ⟨w.heap.size + 1, 0, none⟩)]) ∧
    Fr None_ w w' ∧ w'.heap.size = w.heap.size + 2 ∧ w'.heap[w.heap.size]? = some (.cells #[.int .i64 g.c, .int .i64 g.b, .int .i64 g.p, .int .i64 g.s] 24 (0, 0)) ∧ w'.heap[w.heap.size + 1]? = some (.cells #[.int .i64 seg] 3 (0, 0)) := by
  have hmf : ∀ (fn : Fn) (first cap : Array Value) (w : World), (Instr.makeFunc fn first cap).run Tryz.prog w = .ok (.func fn first cap) w := fun _ _ _ _ => rfl
  unfold Geo.val
  go_enter Tryz.func113, Tryz.ntmps113
  go_wp2
  go_ret
  refine ⟨rfl, ((Fr.refl None_ w).alloc _).alloc _, size_new _ (size_new _ rfl), at_old _ (heap_alloc_new w _), at_new _ (size_new _ rfl)⟩

set_option maxHeartbeats 4000000 in
set_option maxRecDepth 100000 in
theorem rows_in (n : Nat) (hn : 1 ≤ n) (g : Geo) (hg : g.Ok) (seg : Int) (hs : 0 ≤ seg ∧ seg < g.b - 5) (gb sb l : Nat) (J Jx : List (Fin g.p.toNat) → World → Prop) (W : World) (hJ : AbidesFrom W.heap.size J)
    (hY : ∀ pre x W1, J pre W1 → pre.length < g.p.toNat → YieldAt Fence.wide (n - 1) Tryz.prog l (encs g seg x) W1 fun e W' =>
      (e = .returned (.bool true) ∧ J (pre ++ [x]) W' ∧ Caught gb sb W1 W') ∨ (e = .returned (.bool false) ∧ Jx (pre ++ [x]) W'))
    (hgb : W.heap[gb]? = some (.cells #[.int .i64 g.c, .int .i64 g.b, .int .i64 g.p, .int .i64 g.s] 24 (0, 0))) (hsb : W.heap[sb]? = some (.cells #[.int .i64 seg] 3 (0, 0))) (h0 : J [] W) :
    CallsIn Fence.wide n Tryz.prog 120 #[.func (.yield l) #[] #[], .pointer (some ⟨gb, 0, none⟩), .pointer (some ⟨sb, 0, none⟩)] W fun e W' => (∃ v, e = .returned v) ∧
      ((∃ ys, ys.map Fin.val = List.range g.p.toNat ∧ J ys W') ∨ (∃ pre, (∃ j, j < g.p.toNat ∧ pre.map Fin.val = List.range (j + 1)) ∧ Jx pre W')) := by
  have hp := hg.p
  have HPR := As.mk (fun (k : Nat) (h1 : k < g.p.toNat) (w : World) => (Parity_calls g seg k w hg ⟨hs, by omega⟩))
  unfold Geo.val at HPR
  have hg2 := Heap.cell_is (i := 2) hgb rfl
  have hm : max (0 : Int) g.p = g.p := Int.max_eq_right (by omega)
  refine callsIn_of_wp Tryz.func120 rfl trivial ?_ rfl
  simp only [Tryz.ntmps120, List.size_toArray, List.length_cons, List.length_nil, Nat.reduceAdd, Nat.reduceSub, Array.replicate_succ, Array.replicate_zero, List.push_toArray, List.append_toArray, List.nil_append, List.cons_append]
  gi_wp2
  gi_loopw [4, 8] (fun v4 v8 wr => ∃ (k : Nat) (pre : List (Fin g.p.toNat)), v8 = .int .i64 (k : Int) ∧ k ≤ g.p.toNat ∧ pre.map Fin.val = List.range k ∧ J pre wr ∧ (wr.heap[gb]? = W.heap[gb]? ∧ wr.heap[sb]? = W.heap[sb]?)) (fun _ v8 _ => g.p.toNat - (intOf v8).toNat)
  case atStart => exact ⟨0, [], rfl, by omega, rfl, h0, rfl, rfl⟩
  case round =>
    obtain ⟨k, pre, rfl, hk, hpre, hJs, hc1, hc2⟩ := hrel
    by_cases hlt : k < g.p.toNat
    · have hltI : (k : Int) < g.p := by omega
      have hge := hc1.trans hgb
      have hse := hc2.trans hsb
      have a0 := Heap.cell_is (i := 0) hge rfl
      have a1 := Heap.cell_is (i := 1) hge rfl
      have a2 := Heap.cell_is (i := 2) hge rfl
      have a3 := Heap.cell_is (i := 3) hge rfl
      have a4 := cell_of hse
      have hplen : pre.length = k := by rw [← List.length_map (f := Fin.val), hpre, List.length_range]
      have HPk := As.mk (HPR.out k hlt)
      have hYk := fun (w1 : World) (hf : Fr None_ wr w1) => hY pre ⟨k, hlt⟩ w1 (hJ pre wr w1 none hJs (frGrown hf) (fun r e => by cases e)) (by omega)
      unfold encs at hYk
      dsimp only at hYk
      have HYk := As.mk hYk
      have HH := As.mk (And.intro hge (And.intro hse (And.intro hc1 hc2)))
      clear hYk hY hc1 hc2 hge hse
      gi_wp2
      refine ⟨trivial, (callsIn_wide.2 (HPk.out wr)).mono ?_⟩
      rintro e w1 ⟨rfl, hf1⟩
      obtain ⟨fn, tmps, assign, body, hy, hRR⟩ := HYk.out w1 hf1
      have HF1 := As.mk hf1
      clear hf1 a0 a1 a2 a3 a4
      gi_wp2
      refine hRR.mono ?_
      have HR2 : As (List.range (k + 1) = List.range k ++ [k]) := ⟨List.range_succ⟩
      rintro e W3 (⟨rfl, hJ3, hk3⟩ | ⟨rfl, hJx3⟩)
      · gi_wp2
        go_roundw
        case rel =>
          obtain ⟨h1, h2, h3, h4⟩ := HH.out
          exact ⟨k + 1, pre ++ [⟨k, hlt⟩], rfl, by omega, by rw [List.map_append, hpre, HR2.out]; rfl, hJ3, (hk3.1.trans ((HF1.out.heap h1 (fun h => h)).trans h1.symm)).trans h3, (hk3.2.trans ((HF1.out.heap h2 (fun h => h)).trans h2.symm)).trans h4⟩
        case measure => simp [intOf]; omega
      · gi_wp2
        refine bodyPost_ret (results_none rfl _ _ _) rfl ?_
        exact ⟨⟨_, rfl⟩, .inr ⟨pre ++ [⟨k, hlt⟩], ⟨k, hlt, by rw [List.map_append, hpre, HR2.out]; rfl⟩, hJx3⟩⟩
    · have hltI : ¬ (k : Int) < g.p := by omega
      obtain rfl : k = g.p.toNat := by omega
      gi_wp2
      go_end0
      exact ⟨⟨_, rfl⟩, .inl ⟨pre, hpre, hJs⟩⟩
end Go.Proofs.YteofgpaceeibpaaGreat.AIter

/- Package geom and a shape's check, for shapes that may be and places that are there. -/
import Derived.Test.YteofgpaceeibpaaGreatProg
import Derived.Test.YteofgpaceeibpaaGreatGab
import Derived.Deep.RegionHeld3
import Derived.Laws.BitsLemmas
namespace Go.Proofs.YteofgpaceeibpaaGreat.Geom
open Go.RowKit Go.Proofs.YteofgpaceeibpaaGreat.Gab
set_option linter.unusedVariables false
set_option linter.unusedSimpArgs false

theorem i64_in (n : Int) (h0 : -9223372036854775808 ≤ n) (h1 : n < 9223372036854775808) : IntKind.i64.wrap n = n := by rw [IntKind.wrap_i64]; omega
/-- A shape: chips, blocks, pages, bytes. -/
structure Geo where
  c : Int
  b : Int
  p : Int
  s : Int
deriving DecidableEq
def Geo.val (g : Geo) : Value := .agg #[.int .i64 g.c, .int .i64 g.b, .int .i64 g.p, .int .i64 g.s]
structure Geo.Ok (g : Geo) : Prop where
  c : 3 ≤ g.c ∧ g.c ≤ 16
  b : 16 ≤ g.b ∧ g.b ≤ 64
  p : 4 ≤ g.p ∧ g.p ≤ 32
  s : 256 ≤ g.s ∧ g.s ≤ 1024
  m : g.s % 64 = 0
/-- A stripe that is there. -/
structure Geo.At (g : Geo) (seg row : Int) : Prop where
  seg : 0 ≤ seg ∧ seg < g.b - 5
  row : 0 ≤ row ∧ row < g.p
def Geo.par (g : Geo) (seg row : Int) : Int := (seg * g.p + row) % g.c
theorem par_range {g : Geo} (h : g.Ok) (seg row : Int) : 0 ≤ g.par seg row ∧ g.par seg row < g.c := by
  have := h.c
  unfold Geo.par
  exact ⟨Int.emod_nonneg _ (by omega), Int.emod_lt_of_pos _ (by omega)⟩
theorem mul_range {g : Geo} (h : g.Ok) {seg row : Int} (ha : g.At seg row) : 0 ≤ seg * g.p ∧ seg * g.p ≤ 2048 := by
  have h1 := h.p
  have h2 := h.b
  have h3 := ha.seg
  refine ⟨Int.mul_nonneg h3.1 (by omega), ?_⟩
  have : seg * g.p ≤ 64 * 32 := Int.mul_le_mul (by omega) h1.2 (by omega) (by omega)
  omega

set_option maxHeartbeats 1000000 in
set_option maxRecDepth 100000 in
theorem Width_calls (g : Geo) (w : World) (h : g.Ok) : Calls Tryz.prog 43 #[g.val] w fun e w' => e = .returned (.int .i64 (g.c - 1)) ∧ Fr None_ w w' := by
  unfold Geo.val
  have h1 := h.c.1
  have h2 := h.c.2
  have e : max 1 (g.c - 1) = g.c - 1 := by omega
  go_enter Tryz.func43, Tryz.ntmps43
  go_wp2
  go_ret
  exact ⟨rfl, (Fr.refl _ w).alloc _⟩

set_option maxHeartbeats 1000000 in
set_option maxRecDepth 100000 in
theorem Virtual_calls (g : Geo) (w : World) (h : g.Ok) : Calls Tryz.prog 23 #[g.val] w fun e w' => e = .returned (.int .i64 (g.b - 5)) ∧ Fr None_ w w' := by
  unfold Geo.val
  have h1 := h.b.1
  have h2 := h.b.2
  go_enter Tryz.func23, Tryz.ntmps23
  go_wp2
  go_ret
  exact ⟨by rw [show g.b - 5 = g.b - 2 - 3 by omega]; rfl, (Fr.refl _ w).alloc _⟩

set_option maxHeartbeats 1000000 in
set_option maxRecDepth 100000 in
theorem Check_calls (g : Geo) (w : World) (h : g.Ok) : Calls Tryz.prog 29 #[g.val] w fun e w' => e = .returned (.int .i64 0) ∧ Fr None_ w w' := by
  unfold Geo.val
  have h1 := h.c.1
  have h2 := h.c.2
  have h3 := h.b.1
  have h4 := h.b.2
  have h5 := h.p.1
  have h6 := h.p.2
  have h7 := h.s.1
  have h8 := h.s.2
  have hm : g.s % 64 = 0 := h.m
  have hmt : (Int.tmod g.s 64 != 0) = false := by rw [Int.tmod_eq_emod_of_nonneg (by omega), hm]; rfl
  have hmt2 : (g.s % 64 != 0) = false := by rw [hm]; rfl
  clear hm
  go_enter Tryz.func29, Tryz.ntmps29
  go_wp2
  go_ret
  exact ⟨rfl, (Fr.refl _ w).alloc _⟩

set_option maxHeartbeats 1000000 in
set_option maxRecDepth 100000 in
theorem Parity_calls (g : Geo) (seg row : Int) (w : World) (h : g.Ok) (ha : g.At seg row) : Calls Tryz.prog 107 #[g.val, .int .i64 seg, .int .i64 row] w fun e w' => e = .returned (.int .i64 (g.par seg row)) ∧ Fr None_ w w' := by
  unfold Geo.val
  have h1 := h.c.1
  have h2 := h.c.2
  have e : max 1 g.c = g.c := by omega
  have hp := h.p.2
  have hr1 := ha.row.1
  have hr2 := ha.row.2
  obtain ⟨hm1, hm2⟩ := mul_range h ha
  have ht : Int.tmod (seg * g.p + row) g.c = g.par seg row := Int.tmod_eq_emod_of_nonneg (by omega)
  obtain ⟨k1, k2⟩ := par_range h seg row
  have hz : ¬ g.c = 0 := by omega
  have k3 : decide ((seg * g.p + row) % g.c < 0) = false := decide_eq_false (by unfold Geo.par at k1; omega)
  have k4 : ¬ (seg * g.p + row) % g.c < 0 := by unfold Geo.par at k1; omega
  clear ht k1 k2
  go_enter Tryz.func107, Tryz.ntmps107
  go_wp2
  go_ret
  exact ⟨rfl, (Fr.refl _ w).alloc _⟩

def Geo.mem (g : Geo) (seg row slot : Int) : Int := if g.par seg row ≤ slot then slot + 1 else slot
set_option maxHeartbeats 1000000 in
set_option maxRecDepth 100000 in
theorem Member_calls (g : Geo) (seg row slot : Int) (w : World) (h : g.Ok) (ha : g.At seg row) (hs0 : 0 ≤ slot) (hs1 : slot < 100) : Calls Tryz.prog 77 #[g.val, .agg #[.int .i64 seg, .int .i64 row, .int .i64 slot]] w fun e w' => e = .returned (.int .i64 (g.mem seg row slot)) ∧ Fr None_ w w' := by
  have HP := As.mk (fun w => Parity_calls g seg row w h ha)
  have HM : As (g.mem seg row slot = if g.par seg row ≤ slot then slot + 1 else slot) := ⟨rfl⟩
  unfold Geo.val at *
  generalize g.par seg row = k at *
  clear h ha
  have hf := fun w' (hf : Fr None_ ((w.alloc (.cells #[.int .i64 g.c, .int .i64 g.b, .int .i64 g.p, .int .i64 g.s] 24)).alloc (.cells #[.int .i64 seg, .int .i64 row, .int .i64 slot] 108)) w') => hf.heap (at_new (.cells #[.int .i64 seg, .int .i64 row, .int .i64 slot] 108) (size_new _ rfl)) (fun h => h)
  have HF := As.mk hf
  clear hf
  by_cases hk : k ≤ slot
  all_goals
    go_enter Tryz.func77, Tryz.ntmps77
    go_wp2_with fail
    ((with_reducible refine (HP.out _).mono ?_); rintro e w1 ⟨rfl, hf1⟩)
    have HF1 := As.mk hf1
    have hh := HF.out w1 hf1
    have c2 : w1.cell? ⟨w.heap.size + 1, 2, none⟩ = some (.int .i64 slot) := by simp [World.cell?, hh]
    clear hh hf1
    go_wp2
    go_ret
    refine ⟨?_, (((Fr.refl None_ w).alloc _).alloc _).after HF1.out (fun _ _ h => h)⟩
    rw [HM.out]
    first | rw [if_pos (by omega)] | rw [if_neg (by omega)]
    rfl

/-- Which slot a member has; is it one of data? -/
def Geo.slot (g : Geo) (seg row m : Int) : Int := if m = g.par seg row then 0 else if g.par seg row < m then m - 1 else m
def Geo.isData (g : Geo) (seg row m : Int) : Bool := decide (m ≠ g.par seg row)
set_option maxHeartbeats 1000000 in
set_option maxRecDepth 100000 in
theorem Slot_calls (g : Geo) (seg row m : Int) (w : World) (h : g.Ok) (ha : g.At seg row) (hm0 : 0 ≤ m) (hm1 : m < 100) : Calls Tryz.prog 83 #[g.val, .int .i64 seg, .int .i64 row, .int .i64 m] w fun e w' => e = .returned (.tuple #[.int .i64 (g.slot seg row m), .bool (g.isData seg row m)]) ∧ Fr None_ w w' := by
  have HP := As.mk (fun w => Parity_calls g seg row w h ha)
  have HS : As (g.slot seg row m = (if m = g.par seg row then 0 else if g.par seg row < m then m - 1 else m) ∧ g.isData seg row m = decide (m ≠ g.par seg row)) := ⟨rfl, rfl⟩
  unfold Geo.val at *
  generalize g.par seg row = k at *
  clear h ha
  by_cases hk : m = k
  · have HE : As (g.slot seg row m = 0 ∧ g.isData seg row m = false) := ⟨by rw [HS.out.1, HS.out.2]; simp [hk]⟩
    clear HS
    subst hk
    go_enter Tryz.func83, Tryz.ntmps83
    go_wp2_with ((with_reducible refine (HP.out _).mono ?_); rintro e w1 ⟨rfl, hf1⟩; have HF1 := As.mk hf1; clear hf1)
    go_ret2
    exact ⟨by rw [HE.out.1, HE.out.2]; rfl, ((Fr.refl None_ w).alloc _).after HF1.out (fun _ _ h => h)⟩
  · have hb : (m == k) = false := beq_eq_false_iff_ne.mpr hk
    by_cases hk2 : k < m
    · have HE : As (g.slot seg row m = m - 1 ∧ g.isData seg row m = true) := ⟨by rw [HS.out.1, HS.out.2]; simp [hk, hk2]⟩
      clear HS hk
      go_enter Tryz.func83, Tryz.ntmps83
      go_wp2_with ((with_reducible refine (HP.out _).mono ?_); rintro e w1 ⟨rfl, hf1⟩; have HF1 := As.mk hf1; clear hf1)
      go_ret2
      exact ⟨by rw [HE.out.1, HE.out.2]; rfl, ((Fr.refl None_ w).alloc _).after HF1.out (fun _ _ h => h)⟩
    · have HE : As (g.slot seg row m = m ∧ g.isData seg row m = true) := ⟨by rw [HS.out.1, HS.out.2]; simp [hk, hk2]⟩
      clear HS hk
      go_enter Tryz.func83, Tryz.ntmps83
      go_wp2_with ((with_reducible refine (HP.out _).mono ?_); rintro e w1 ⟨rfl, hf1⟩; have HF1 := As.mk hf1; clear hf1)
      go_ret2
      exact ⟨by rw [HE.out.1, HE.out.2]; rfl, ((Fr.refl None_ w).alloc _).after HF1.out (fun _ _ h => h)⟩

/-- A place's number, from 1 on. -/
def Geo.num (g : Geo) (seg row slot : Int) : Int := (seg * g.p + row) * (g.c - 1) + slot + 1
set_option maxHeartbeats 2000000 in
set_option maxRecDepth 100000 in
theorem Number_calls (g : Geo) (seg row slot : Int) (w : World) (h : g.Ok) (ha : g.At seg row) (hs0 : 0 ≤ slot) (hs1 : slot < g.c - 1) : Calls Tryz.prog 40 #[g.val, .agg #[.int .i64 seg, .int .i64 row, .int .i64 slot]] w fun e w' => e = .returned (.int .u32 (g.num seg row slot)) ∧ Fr None_ w w' := by
  have HC := As.mk (fun w => Check_calls g w h)
  have HV := As.mk (fun w => Virtual_calls g w h)
  have HW := As.mk (fun w => Width_calls g w h)
  unfold Geo.val at *
  have hc := h.c
  have hb := h.b
  have hp := h.p
  obtain ⟨hm1, hm2⟩ := mul_range h ha
  obtain ⟨⟨t1, t2⟩, t3, t4⟩ := ha
  have d1 : decide (seg < 0) = false := decide_eq_false (by omega)
  have d2 : decide (g.b - 5 ≤ seg) = false := decide_eq_false (by omega)
  have d3 : decide (row < 0) = false := decide_eq_false (by omega)
  have d4 : decide (g.p ≤ row) = false := decide_eq_false (by omega)
  have d5 : decide (slot < 0) = false := decide_eq_false (by omega)
  have d6 : decide (g.c - 1 ≤ slot) = false := decide_eq_false (by omega)
  obtain ⟨c1, c2⟩ := hc
  obtain ⟨p1, p2⟩ := hp
  have q0 : 0 ≤ (seg * g.p + row) * (g.c - 1) := Int.mul_nonneg (by omega) (by omega)
  have q1 : (seg * g.p + row) * (g.c - 1) ≤ 31200 := by
    have h1 : (seg * g.p + row) * (g.c - 1) ≤ 2080 * 15 := Int.mul_le_mul (by omega) (by omega) (by omega) (by omega)
    omega
  go_enter Tryz.func40, Tryz.ntmps40
  go_wp2
  go_region_held3 (fun w' => w'.cell? ⟨w.heap.size, 0, none⟩ = some (.int .i64 g.c) ∧ w'.cell? ⟨w.heap.size, 1, none⟩ = some (.int .i64 g.b) ∧ w'.cell? ⟨w.heap.size, 2, none⟩ = some (.int .i64 g.p) ∧ w'.cell? ⟨w.heap.size, 3, none⟩ = some (.int .i64 g.s) ∧ w'.cell? ⟨w.heap.size + 1, 0, none⟩ = some (.int .i64 seg) ∧ w'.cell? ⟨w.heap.size + 1, 1, none⟩ = some (.int .i64 row) ∧ w'.cell? ⟨w.heap.size + 1, 2, none⟩ = some (.int .i64 slot)) (first | go_keep | (refine ⟨?_, ?_, ?_, ?_, ?_, ?_, ?_⟩ <;> (refine Fr.cell ‹Fr None_ _ _› ?_ (fun h => h); go_keep))) (first | (go_at_call 29; (with_reducible refine (HC.out _).mono ?_); rintro e w1 ⟨rfl, hf1⟩) | (go_at_call 23; (with_reducible refine (HV.out _).mono ?_); rintro e w2 ⟨rfl, hf2⟩) | (go_at_call 43; (with_reducible refine (HW.out _).mono ?_); rintro e w3 ⟨rfl, hf3⟩))
  go_wp2
  go_region_held3 (fun w' => w'.cell? ⟨w.heap.size, 0, none⟩ = some (.int .i64 g.c) ∧ w'.cell? ⟨w.heap.size, 1, none⟩ = some (.int .i64 g.b) ∧ w'.cell? ⟨w.heap.size, 2, none⟩ = some (.int .i64 g.p) ∧ w'.cell? ⟨w.heap.size, 3, none⟩ = some (.int .i64 g.s) ∧ w'.cell? ⟨w.heap.size + 1, 0, none⟩ = some (.int .i64 seg) ∧ w'.cell? ⟨w.heap.size + 1, 1, none⟩ = some (.int .i64 row) ∧ w'.cell? ⟨w.heap.size + 1, 2, none⟩ = some (.int .i64 slot)) (first | go_keep | (refine ⟨?_, ?_, ?_, ?_, ?_, ?_, ?_⟩ <;> (refine Fr.cell ‹Fr None_ _ _› ?_ (fun h => h); go_keep))) (first | (go_at_call 43; (with_reducible refine (HW.out _).mono ?_); rintro e w4 ⟨rfl, hf4⟩))
  go_wp2
  go_ret
  refine ⟨?_, ?_⟩
  · show Ending.returned (.int .u32 (IntKind.u32.wrap (IntKind.u32.wrap (IntKind.i64.wrap (IntKind.i64.wrap (IntKind.i64.wrap (IntKind.i64.wrap (seg * g.p) + row) * (g.c - 1)) + slot)) + 1))) = _
    rw [i64_in (seg * g.p) (by omega) (by omega), i64_in (seg * g.p + row) (by omega) (by omega), i64_in ((seg * g.p + row) * (g.c - 1)) (by omega) (by omega), i64_in ((seg * g.p + row) * (g.c - 1) + slot) (by omega) (by omega), IntKind.wrap_u32, IntKind.wrap_u32]
    unfold Geo.num
    rw [show ((seg * g.p + row) * (g.c - 1) + slot) % 4294967296 = (seg * g.p + row) * (g.c - 1) + slot by omega, show ((seg * g.p + row) * (g.c - 1) + slot + 1) % 4294967296 = (seg * g.p + row) * (g.c - 1) + slot + 1 by omega]
  · have k : ∀ {a b c : World}, Fr None_ a b → Fr None_ b c → Fr None_ a c := fun h k => h.after k (fun _ _ h => h)
    exact k (k (k (k (by repeat (first | exact Fr.refl _ _ | apply Fr.drew | apply Fr.alloc)) hf1) hf2) hf3) (k (Fr.refl _ w3).drew hf4)
end Go.Proofs.YteofgpaceeibpaaGreat.Geom

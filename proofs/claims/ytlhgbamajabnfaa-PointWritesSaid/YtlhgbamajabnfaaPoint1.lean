/- point.Point.Encode; geom.Pages. -/
import Derived.Test.YtlhgbamajabnfaaCase
import Derived.Deep.RegionHeld3
import Derived.Handy
namespace Go.Proofs.Ytlhgbamajabnfaa.Point1
open Go.RowKit Go.Proofs.Ytlhgbamajabnfaa.Gab Go.Proofs.Ytlhgbamajabnfaa.Wr Go.Proofs.Ytlhgbamajabnfaa.Geom
set_option linter.unusedVariables false
set_option linter.unusedSimpArgs false

/-- A point as it stands: two numbers, two slices. -/
structure Pt where
  seq : Int
  batch : Int
  MA : Option Addr
  mn : Nat
  mc : Nat
  EA : Option Addr
  en : Nat
  ec : Nat
def Pt.cells (x : Pt) : Array Value := #[.int .u32 x.seq, .int .u32 x.batch, .slice x.MA x.mn x.mc, .slice x.EA x.en x.ec]
structure PtAt (w : World) (x : Pt) (m er : List Int) : Prop where
  seq : 0 ≤ x.seq ∧ x.seq < 4294967296
  batch : 0 ≤ x.batch ∧ x.batch < 4294967296
  map : Rd .u32 w x.MA x.mn m
  mapR : InR 4294967296 m
  mapC : x.mn ≤ x.mc
  ers : Rd .u32 w x.EA x.en er
  ersR : InR 4294967296 er
  ersC : x.en ≤ x.ec
theorem PtAt.none_ {w w' : World} {x : Pt} {m er : List Int} (h : PtAt w x m er) (hf : Fr None_ w w') : PtAt w' x m er := ⟨h.seq, h.batch, h.map.none_ hf, h.mapR, h.mapC, h.ers.none_ hf, h.ersR, h.ersC⟩
/-- A point's bytes. -/
def encB (seq batch : Int) (m er : List Int) : List Int := les 4 [seq, batch, (m.length : Int), (er.length : Int)] ++ les 4 m ++ les 4 er
theorem encB_len (seq batch : Int) (m er : List Int) : (encB seq batch m er).length = 16 + 4 * m.length + 4 * er.length := by
  unfold encB
  simp only [List.length_append, les_length, List.length_cons, List.length_nil]
theorem wr_off {w : World} {base p N : Nat} {xs : List Int} (h : Wr w base p xs) (hN : N ≤ base) {b : Nat} (hb : b < N) : ¬ (b = p ∨ rowOf w p = some b) := by
  obtain ⟨hp, v, hc, hr⟩ := h
  rintro (h1 | h1)
  · omega
  · rw [rowOf_is hc] at h1
    have := (hr.blk b h1).1
    omega
theorem cell_is {w : World} {p i : Nat} {cs : Array Value} {T : TypeId} {fr : Nat × Nat} {v : Value} (h : w.heap[p]? = some (.cells cs T fr)) (hv : cs[i]? = some v) : w.cell? ⟨p, i, none⟩ = some v := by simp [World.cell?, h, hv]

set_option maxHeartbeats 4000000 in
set_option maxRecDepth 100000 in
theorem Encode_calls (x : Pt) (m er : List Int) (w : World) (h : PtAt w x m er) (hm : x.mn ≤ 100000) (he : x.en ≤ 100000) :
    Calls Try.prog 30 #[.agg x.cells] w fun e w' => ∃ v, e = .returned v ∧ Row 5 .u8 w' w.heap.size v (encB x.seq x.batch m er) ∧ Fr None_ w w' := by
  have H := As.mk h
  have hw1 : IntKind.u32.wrap (x.mn : Int) = x.mn := by rw [IntKind.wrap_u32]; omega
  have hw2 : IntKind.u32.wrap (x.en : Int) = x.en := by rw [IntKind.wrap_u32]; omega
  have HE : As (encB x.seq x.batch m er = les 4 [x.seq, x.batch, (x.mn : Int), (x.en : Int)] ++ les 4 m ++ les 4 er) := ⟨by unfold encB; rw [h.map.1, h.ers.1]⟩
  have HR4 : As (InR 4294967296 [x.seq, x.batch, (x.mn : Int), (x.en : Int)]) := ⟨by
    intro y hy
    simp at hy
    rcases hy with rfl | rfl | rfl | rfl
    · exact h.seq
    · exact h.batch
    · omega
    · omega⟩
  generalize encB x.seq x.batch m er = res at *
  unfold Pt.cells
  clear h
  have HB2 : As (((w.alloc (.cells #[.int .u32 x.seq, .int .u32 x.batch, .slice x.MA x.mn x.mc, .slice x.EA x.en x.ec] 73)).alloc (.cells #[.slice none 0 0] 129)).heap[w.heap.size]? = some (.cells #[.int .u32 x.seq, .int .u32 x.batch, .slice x.MA x.mn x.mc, .slice x.EA x.en x.ec] 73 (0, 0)) ∧ ((w.alloc (.cells #[.int .u32 x.seq, .int .u32 x.batch, .slice x.MA x.mn x.mc, .slice x.EA x.en x.ec] 73)).alloc (.cells #[.slice none 0 0] 129)).heap[w.heap.size + 1]? = some (.cells #[.slice none 0 0] 129 (0, 0)) ∧ ((w.alloc (.cells #[.int .u32 x.seq, .int .u32 x.batch, .slice x.MA x.mn x.mc, .slice x.EA x.en x.ec] 73)).alloc (.cells #[.slice none 0 0] 129)).heap.size = w.heap.size + 2 ∧ Fr None_ w ((w.alloc (.cells #[.int .u32 x.seq, .int .u32 x.batch, .slice x.MA x.mn x.mc, .slice x.EA x.en x.ec] 73)).alloc (.cells #[.slice none 0 0] 129))) :=
    ⟨at_old _ (heap_alloc_new w _), at_new _ (size_new _ rfl), size_new _ (size_new _ rfl), ((Fr.refl None_ w).alloc _).alloc _⟩
  go_enter Try.func30, Try.ntmps30
  go_upto_region 2 with fail
  generalize (w.alloc (.cells #[.int .u32 x.seq, .int .u32 x.batch, .slice x.MA x.mn x.mc, .slice x.EA x.en x.ec] 73)).alloc (.cells #[.slice none 0 0] 129) = w2 at *
  obtain ⟨hb2, hwr2, hz2, hf2⟩ := HB2.out
  have b0 := cell_is (i := 0) hb2 rfl
  have b1 := cell_is (i := 1) hb2 rfl
  have b2 := cell_is (i := 2) hb2 rfl
  have b3 := cell_is (i := 3) hb2 rfl
  have l1 : w.heap.size < w2.heap.size := by omega
  have hR := heap_alloc_new w2 (.cells #[.int .u32 x.seq, .int .u32 x.batch, .int .u32 (x.mn : Int), .int .u32 (x.en : Int)] 51)
  have hW3 := (Wr.new hwr2 w.heap.size (by omega)).none_ ((Fr.refl None_ w2).alloc (.cells #[.int .u32 x.seq, .int .u32 x.batch, .int .u32 (x.mn : Int), .int .u32 (x.en : Int)] 51))
  have HRD : As (Rd .u32 (w2.alloc (.cells #[.int .u32 x.seq, .int .u32 x.batch, .int .u32 (x.mn : Int), .int .u32 (x.en : Int)] 51)) (some ⟨w2.heap.size, 0, none⟩) 4 [x.seq, x.batch, (x.mn : Int), (x.en : Int)]) := ⟨rfl, by omega, fun _ => ⟨_, rfl, fun j hj => by
    rw [add_at]
    match j, hj with
    | 0, _ => exact cell_is (i := 0) hR rfl
    | 1, _ => exact cell_is (i := 1) hR rfl
    | 2, _ => exact cell_is (i := 2) hR rfl
    | 3, _ => exact cell_is (i := 3) hR rfl⟩⟩
  have HW3 := As.mk hW3
  have hro : rowOf (w2.alloc (.cells #[.int .u32 x.seq, .int .u32 x.batch, .int .u32 (x.mn : Int), .int .u32 (x.en : Int)] 51)) (w.heap.size + 1) = none := by
    rw [rowOf_is (at_old _ hwr2)]
    rfl
  have HU1 := As.mk (U32_calls w.heap.size (w.heap.size + 1) [] [x.seq, x.batch, (x.mn : Int), (x.en : Int)] (some ⟨w2.heap.size, 0, none⟩) 4 4 (w2.alloc (.cells #[.int .u32 x.seq, .int .u32 x.batch, .int .u32 (x.mn : Int), .int .u32 (x.en : Int)] 51)) HW3.out (by simp; omega) HRD.out HR4.out (fun ad e _ => by injection e with e; subst e; rintro (h | h); exact absurd h (by show ¬ w2.heap.size = w.heap.size + 1; omega); rw [hro] at h; cases h) (by simp))
  have HF3 := As.mk (hf2.alloc (.cells #[.int .u32 x.seq, .int .u32 x.batch, .int .u32 (x.mn : Int), .int .u32 (x.en : Int)] 51))
  have HB3 := As.mk (at_old (.cells #[.int .u32 x.seq, .int .u32 x.batch, .int .u32 (x.mn : Int), .int .u32 (x.en : Int)] 51) hb2)
  rw [hz2] at HU1
  clear hR hW3 hro hwr2 hb2
  go_wp2_with fail
  ((with_reducible refine (HU1.out).mono ?_); rintro e w4 ⟨rfl, hw4, hs4⟩)
  have HB4 := As.mk (HW3.out.heap hs4 HB3.out (by omega) (by decide))
  have HF4 := As.mk (HW3.out.fr hs4 (Nat.le_refl _) HF3.out)
  have HW4 := As.mk hw4
  clear b0 b1 b2 b3 hw4 hs4 hf2 hz2
  have b2 := cell_is (i := 2) HB4.out rfl
  have b3 := cell_is (i := 3) HB4.out rfl
  have hz4 : w.heap.size ≤ w4.drew.heap.size := HF4.out.drew.size
  go_upto_region 3 with fail
  go_region_held3 (fun w' => w'.cell? ⟨w.heap.size, 2, none⟩ = some (.slice x.MA x.mn x.mc) ∧ w'.cell? ⟨w.heap.size, 3, none⟩ = some (.slice x.EA x.en x.ec)) (first | go_keep | exact ks6 | exact ks5 | (refine ⟨?_, ?_⟩ <;> (refine Fr.cell ‹Fr None_ _ _› ?_ (fun h => h); go_keep))) (first
    | (go_at_call 58; (with_reducible refine (U32_calls w.heap.size (w.heap.size + 1) ([] ++ les 4 [x.seq, x.batch, (x.mn : Int), (x.en : Int)]) m x.MA x.mn x.mc w4.drew (HW4.out.none_ (Fr.refl None_ w4).drew) hz4 (H.out.map.none_ HF4.out.drew) H.out.mapR (fun ad e hn => wr_off (HW4.out.none_ (Fr.refl None_ w4).drew) (Nat.le_refl _) (H.out.map.lt ad e hn)) ?u1).mono ?_); (case u1 => have := H.out.map.1; simp [les_length]; omega); rintro e w5 ⟨rfl, hw5, hs5⟩; have hb5 := (HW4.out.none_ (Fr.refl None_ w4).drew).heap hs5 ((Fr.refl None_ w4).drew.heap HB4.out (fun h => h)) (by omega) (by decide); have HF5 := As.mk ((HW4.out.none_ (Fr.refl None_ w4).drew).fr hs5 (Nat.le_refl _) HF4.out.drew); have HW5 := As.mk hw5; have HB5 := As.mk hb5; have ks5 := And.intro (cell_is (i := 2) hb5 rfl) (cell_is (i := 3) hb5 rfl); have hz5 := HF5.out.size; clear hw5 hs5 hb5)
    | ((with_reducible refine (U32_calls w.heap.size (w.heap.size + 1) ([] ++ les 4 [x.seq, x.batch, (x.mn : Int), (x.en : Int)] ++ les 4 m) er x.EA x.en x.ec w5 HW5.out hz5 (H.out.ers.none_ HF5.out) H.out.ersR (fun ad e hn => wr_off HW5.out (Nat.le_refl _) (H.out.ers.lt ad e hn)) ?u2).mono ?_); (case u2 => have := H.out.map.1; simp [les_length]; omega); rintro e w6 ⟨rfl, hw6, hs6⟩; have hb6 := HW5.out.heap hs6 HB5.out (by omega) (by decide); have HF6 := As.mk (HW5.out.fr hs6 (Nat.le_refl _) HF5.out); have HW6 := As.mk hw6; have ks6 := And.intro (cell_is (i := 2) hb6 rfl) (cell_is (i := 3) hb6 rfl); clear hw6 hs6 hb6)
    | (go_at_call 59; (with_reducible refine (Bytes_calls w.heap.size (w.heap.size + 1) ([] ++ les 4 [x.seq, x.batch, (x.mn : Int), (x.en : Int)] ++ les 4 m ++ les 4 er) w6 HW6.out ?u3).mono ?_); (case u3 => have := H.out.map.1; have := H.out.ers.1; simp [les_length]; omega); rintro e w7 ⟨v7, rfl, hr7, hf7⟩)
    | fail)
  all_goals
    go_wp2_with fail
    go_ret
    refine ⟨_, rfl, ?_, HF6.out.after hf7 (fun _ _ h => h)⟩
    rw [HE.out]
    exact hr7.lower HF6.out.size

set_option maxHeartbeats 1000000 in
set_option maxRecDepth 100000 in
theorem Pages_calls (g : Geo) (w : World) (h : g.Ok) : Calls Try.prog 67 #[g.val] w fun e w' => e = .returned (.int .i64 (g.p * (g.c - 1))) ∧ Fr None_ w w' := by
  have HW := As.mk (fun w => Width_calls g w h)
  unfold Geo.val at *
  have hp := h.p
  have hc := h.c
  have q0 : 0 ≤ g.p * (g.c - 1) := Int.mul_nonneg (by omega) (by omega)
  have q1 : g.p * (g.c - 1) ≤ 32 * 15 := Int.mul_le_mul (by omega) (by omega) (by omega) (by omega)
  have hw : IntKind.i64.wrap (g.p * (g.c - 1)) = g.p * (g.c - 1) := i64_in _ (by omega) (by omega)
  clear h
  go_enter Try.func67, Try.ntmps67
  go_wp2_with fail
  go_region_held3 (fun w' => w'.cell? ⟨w.heap.size, 0, none⟩ = some (.int .i64 g.c) ∧ w'.cell? ⟨w.heap.size, 1, none⟩ = some (.int .i64 g.b) ∧ w'.cell? ⟨w.heap.size, 2, none⟩ = some (.int .i64 g.p) ∧ w'.cell? ⟨w.heap.size, 3, none⟩ = some (.int .i64 g.s)) (first | go_keep | (refine ⟨?_, ?_, ?_, ?_⟩ <;> (refine Fr.cell ‹Fr None_ _ _› ?_ (fun h => h); go_keep))) (first | ((with_reducible refine (HW.out _).mono ?_); rintro e w1 ⟨rfl, hf1⟩))
  all_goals
    go_wp2_with fail
    go_ret
    exact ⟨rfl, (((Fr.refl None_ w).alloc _).drew).after hf1 (fun _ _ h => h)⟩
end Go.Proofs.Ytlhgbamajabnfaa.Point1

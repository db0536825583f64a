/- remap: Encode of good tables. -/
import Derived.Test.YteofgpaceeibpaaGreatRemapB
namespace Go.Proofs.YteofgpaceeibpaaGreat.RemapC
open Go.RowKit Go.Proofs.YteofgpaceeibpaaGreat.Gab Go.Proofs.YteofgpaceeibpaaGreat.Wr Go.Proofs.YteofgpaceeibpaaGreat.Geom Go.Proofs.YteofgpaceeibpaaGreat.Ref Go.Proofs.YteofgpaceeibpaaGreat.Heap Go.Proofs.YteofgpaceeibpaaGreat.RemapA Go.Proofs.YteofgpaceeibpaaGreat.RemapB
set_option linter.unusedVariables false
set_option linter.unusedSimpArgs false

theorem wr_sep {w : World} {base p : Nat} {xs : List Int} (h : Wr w base p xs) {b : Nat} (hb : b < base) : ¬ (b = p ∨ rowOf w p = some b) := by
  obtain ⟨hbp, v, hc, hr⟩ := h
  rw [rowOf_is hc]
  rintro (e | e)
  · omega
  · have := (hr.blk b e).1
    omega
/-- A table that is written. -/
structure En (w w' : World) (t : Tab) (A1 A2 : Option Addr) (n1 c1 n2 c2 p : Nat) (xs : List Int) : Prop where
  fr : Fr None_ w w'
  wr : Wr w' p p xs
  tab : w'.heap[w.heap.size]? = some (.cells #[.int .u32 t.seq, .slice A1 n1 c1, .slice A2 n2 c2, .int .i64 t.t0, .int .i64 t.t1] 135 (0, 0))
  lo : w.heap.size < p
theorem En.step {w wa wb : World} {t : Tab} {A1 A2 : Option Addr} {n1 c1 n2 c2 p : Nat} {xs ys : List Int} (h : En w wa t A1 A2 n1 c1 n2 c2 p xs) (hw : Wr wb p p ys) (hs : Step p wa wb) : En w wb t A1 A2 n1 c1 n2 c2 p ys := by
  have hlo := h.lo
  exact ⟨h.fr.after hs.fr (fun b hb e => absurd e (wr_sep h.wr (by omega))), hw, hs.fr.heap h.tab (wr_sep h.wr hlo), hlo⟩
theorem En.alloc {w wa : World} {t : Tab} {A1 A2 : Option Addr} {n1 c1 n2 c2 p : Nat} {xs : List Int} (h : En w wa t A1 A2 n1 c1 n2 c2 p xs) (o : Obj) : En w (wa.alloc o) t A1 A2 n1 c1 n2 c2 p xs :=
  ⟨h.fr.alloc o, h.wr.none_ ((Fr.refl None_ wa).alloc o), at_old o h.tab, h.lo⟩
theorem En.u32 {w W : World} {t : Tab} {A1 A2 : Option Addr} {n1 c1 n2 c2 p : Nat} {xs : List Int} (h : En w W t A1 A2 n1 c1 n2 c2 p xs) (x : Int) (h0 : 0 ≤ x) (h1 : x < 4294967296) (hl : xs.length ≤ 1000000) (gs : Nat) (hgs : W.heap.size = gs) :
    Calls Tryz.prog 96 #[.pointer (some ⟨p, 0, none⟩), .slice (some ⟨gs, 0, none⟩) 1 1] (W.alloc (.cells #[.int .u32 x] 37)) fun e w' => e = .returned (.pointer (some ⟨p, 0, none⟩)) ∧ En w w' t A1 A2 n1 c1 n2 c2 p (xs ++ les 4 [x]) := by
  subst hgs
  have ha := h.alloc (.cells #[.int .u32 x] 37)
  have hp := h.wr.lt
  refine (U32_calls p p xs [x] (some ⟨W.heap.size, 0, none⟩) 1 1 _ ha.wr (by simp; omega) ⟨rfl, by decide, fun _ => ⟨_, rfl, fun j hj => ?_⟩⟩ (by intro y hy; simp at hy; omega) (fun ad e _ => ?_) (by omega)).mono ?_
  · obtain rfl : j = 0 := by omega
    exact cell_is (heap_alloc_new W _) rfl
  · injection e with e
    subst e
    rintro (e | e)
    · have : W.heap.size = p := e
      omega
    · have h2 : rowOf (W.alloc (.cells #[.int .u32 x] 37)) p = rowOf W p := by unfold rowOf; rw [Below.heap_alloc W _ p hp]
      rw [h2] at e
      exact absurd (h.wr.row_lt _ e) (Nat.lt_irrefl _)
  · rintro e w' ⟨rfl, hw, hs⟩
    exact ⟨rfl, ha.step hw hs⟩
theorem En.u8s {w W : World} {t : Tab} {A1 A2 : Option Addr} {n1 c1 n2 c2 p : Nat} {xs : List Int} (h : En w W t A1 A2 n1 c1 n2 c2 p xs) (x y : Int) (h0 : 0 ≤ x) (h1 : x < 256) (h2 : 0 ≤ y) (h3 : y < 256) (hl : xs.length ≤ 1000000) :
    Calls Tryz.prog 97 #[.pointer (some ⟨p, 0, none⟩), .slice (some ⟨W.heap.size, 0, none⟩) 2 2] (W.alloc (.cells #[.int .u8 x, .int .u8 y] 5)) fun e w' => e = .returned (.pointer (some ⟨p, 0, none⟩)) ∧ En w w' t A1 A2 n1 c1 n2 c2 p (xs ++ les 1 [x, y]) := by
  have ha := h.alloc (.cells #[.int .u8 x, .int .u8 y] 5)
  have hp := h.wr.lt
  refine (U8_calls p p xs [x, y] (some ⟨W.heap.size, 0, none⟩) 2 2 _ ha.wr (by simp; omega) ⟨rfl, by decide, fun _ => ⟨_, rfl, fun j hj => ?_⟩⟩ (by intro z hz; simp at hz; omega) (fun ad e _ => ?_) (by omega)).mono ?_
  · have : j = 0 ∨ j = 1 := by omega
    rcases this with rfl | rfl
    · exact cell_is (heap_alloc_new W _) rfl
    · exact cell_is (i := 1) (heap_alloc_new W _) rfl
  · injection e with e
    subst e
    rintro (e | e)
    · have : W.heap.size = p := e
      omega
    · have h2 : rowOf (W.alloc (.cells #[.int .u8 x, .int .u8 y] 5)) p = rowOf W p := by unfold rowOf; rw [Below.heap_alloc W _ p hp]
      rw [h2] at e
      exact absurd (h.wr.row_lt _ e) (Nat.lt_irrefl _)
  · rintro e w' ⟨rfl, hw, hs⟩
    exact ⟨rfl, ha.step hw hs⟩
theorem En.list {w W : World} {t : Tab} {A1 A2 : Option Addr} {n1 c1 n2 c2 p : Nat} {xs : List Int} (h : En w W t A1 A2 n1 c1 n2 c2 p xs) {A : Option Addr} {n c : Nat} {l : List Int} (hR : Rd .i64 w A n l) (hr : InR 256 l) (hn : n < 256) (hl : xs.length ≤ 1000000) :
    Calls Tryz.prog 125 #[.pointer (some ⟨p, 0, none⟩), .slice A n c] W fun e w' => e = .returned (.tuple #[]) ∧ En w w' t A1 A2 n1 c1 n2 c2 p (xs ++ les 1 ((n : Int) :: l)) := by
  have hlo := h.lo
  have hp := h.wr.lt
  refine (list_calls p p xs l A n c W h.wr (by omega) (hR.none_ h.fr) hr hn (fun ad e hn0 => wr_sep h.wr (by have := hR.lt ad e hn0; omega)) hl).mono ?_
  rintro e w' ⟨rfl, hw, hs⟩
  exact ⟨rfl, h.step hw hs⟩
/-- A table's bytes. -/
def _root_.Go.Proofs.YteofgpaceeibpaaGreat.RemapA.Tab.enc (t : Tab) : List Int := les 4 [t.seq] ++ les 1 ((t.place.length : Int) :: t.place) ++ les 1 ((t.spare.length : Int) :: t.spare) ++ les 1 [t.t0, t.t1]
set_option maxHeartbeats 4000000 in
set_option maxRecDepth 100000 in
theorem Encode_calls (t : Tab) (g : Geo) (v : Value) (w : World) (hg : g.Ok) (ht : t.Ok g) (hv : TabV w v t) : Calls Tryz.prog 122 #[v, g.val] w fun e w' => ∃ r, e = .returned (.tuple #[r, .int .i64 0]) ∧ Row 5 .u8 w' w.heap.size r t.enc ∧ Fr None_ w w' := by
  have HCK := As.mk (fun w' (hf : Fr None_ w w') => RemapB.Check_calls t g v w' hg ht (hv.none_ hf))
  obtain ⟨A1, n1, c1, A2, n2, c2, rfl, h1, hR1, h2, hR2⟩ := hv
  have HR1 := As.mk hR1
  have HR2 := As.mk hR2
  have h4 := hg.b.2
  have hin : ∀ x ∈ t.all, 0 ≤ x ∧ x < 256 := fun x hx => by have := ht.inr x hx; omega
  have HI1 := As.mk (show InR 256 t.place from fun x hx => hin x (by simp [Tab.all, hx]))
  have HI2 := As.mk (show InR 256 t.spare from fun x hx => hin x (by simp [Tab.all, hx]))
  have hq0 := hin t.t0 (by simp [Tab.all])
  have hq1 := hin t.t1 (by simp [Tab.all])
  obtain ⟨q00, q01⟩ := hq0
  obtain ⟨q10, q11⟩ := hq1
  obtain ⟨s0, s1⟩ := ht.seq
  have hl1 := hR1.1
  have hl2 := hR2.1
  have hn1 : n1 < 256 := by have := ht.len; omega
  have hn2 : n2 < 256 := by have := ht.few; omega
  have HE := As.mk (show t.enc = [] ++ les 4 [t.seq] ++ les 1 ((n1 : Int) :: t.place) ++ les 1 ((n2 : Int) :: t.spare) ++ les 1 [t.t0, t.t1] from by rw [← hl1, ← hl2]; rfl)
  have HL := As.mk (And.intro hl1 hl2)
  have hF1 := ((Fr.refl None_ w).alloc (.cells #[.int .u32 t.seq, .slice A1 n1 c1, .slice A2 n2 c2, .int .i64 t.t0, .int .i64 t.t1] 135))
  have hB1 := (heap_alloc_new w (.cells #[.int .u32 t.seq, .slice A1 n1 c1, .slice A2 n2 c2, .int .i64 t.t0, .int .i64 t.t1] 135))
  have HF2 := As.mk (hF1.alloc (.cells #[.int .i64 g.c, .int .i64 g.b, .int .i64 g.p, .int .i64 g.s] 24))
  have HB2 := As.mk (at_old (.cells #[.int .i64 g.c, .int .i64 g.b, .int .i64 g.p, .int .i64 g.s] 24) hB1)
  clear hF1 hB1 hR1 hR2 ht hg hin hl1 hl2
  unfold Geo.val at HCK ⊢
  go_enter Tryz.func122, Tryz.ntmps122
  go_wp2_with (first
    | (go_at_call 124; (with_reducible refine (HCK.out _ HF2.out).mono ?_); rintro e w2 ⟨rfl, hf2⟩; have HB3 := As.mk (hf2.heap HB2.out (fun h => h)); have HF3 := As.mk (HF2.out.after hf2 (fun _ _ h => h)); have hz2 := (Array.getElem?_eq_some_iff.1 HB3.out).1; have HN3 := As.mk (show En w (w2.alloc (.cells #[.slice none 0 0] 182)) t A1 A2 n1 c1 n2 c2 w2.heap.size [] from ⟨HF3.out.alloc _, Wr.new (heap_alloc_new w2 _) _ (Nat.le_refl _), at_old _ HB3.out, hz2⟩); have b0 := cell_is (v := .int .u32 t.seq) (i := 0) HN3.out.tab rfl; clear hf2)
    | (go_at_call 96; (with_reducible refine (HN3.out.u32 t.seq s0 s1 (by decide) _ (size_new _ rfl)).mono ?_); rintro e w4 ⟨rfl, hn4⟩; have HN4 := As.mk hn4; have b1 := cell_is (v := .slice A1 n1 c1) (i := 1) hn4.tab rfl; clear hn4)
    | (go_at_call 125; (with_reducible refine (HN4.out.list HR1.out HI1.out hn1 (by simp [les_length])).mono ?_); rintro e w5 ⟨rfl, hn5⟩; have HN5 := As.mk hn5; have b2 := cell_is (v := .slice A2 n2 c2) (i := 2) hn5.tab rfl; clear hn5)
    | (go_at_call 125; (with_reducible refine (HN5.out.list HR2.out HI2.out hn2 (by simp [les_length]; have := HL.out; omega)).mono ?_); rintro e w6 ⟨rfl, hn6⟩; have HN6 := As.mk hn6; have b3 := cell_is (v := .int .i64 t.t0) (i := 3) hn6.tab rfl; have b4 := cell_is (v := .int .i64 t.t1) (i := 4) hn6.tab rfl; clear hn6)
    | (go_at_call 97; (with_reducible refine (HN6.out.u8s t.t0 t.t1 q00 q01 q10 q11 (by simp [les_length]; have := HL.out; omega)).mono ?_); rintro e w7 ⟨rfl, hn7⟩; have HN7 := As.mk hn7; clear hn7)
    | (go_at_call 100; (with_reducible refine (Bytes_calls _ _ _ _ HN7.out.wr (by simp [les_length]; have := HL.out; omega)).mono ?_); rintro e w8 ⟨r, rfl, hr8, hf8⟩; have HR8 := As.mk hr8; have HF8 := As.mk hf8; clear hr8 hf8; obtain ⟨A8, n8, c8, e8, _, _, _⟩ := HR8.out.rd; subst e8)
    | fail)
  go_ret2
  refine ⟨_, rfl, ?_, HN7.out.fr.after HF8.out (fun _ _ h => h)⟩
  rw [HE.out]
  exact HR8.out.lower HN7.out.fr.size
end Go.Proofs.YteofgpaceeibpaaGreat.RemapC

/- remap: Encode of good tables. | remap: Pages of good tables (one page). -/
import Derived.Test.YteofgpaceeibpaaGreatTkMemA
import Derived.Test.YteofgpaceeibpaaGreatTkSeal
import Derived.Test.YteofgpaceeibpaaGreatTkRef5
namespace Go.Proofs.YteofgpaceeibpaaGreat.RemapC
open Go.RowKit Gab Wr Geom Ref Heap RemapA RemapB
set_option linter.unusedVariables false
set_option linter.unusedSimpArgs false

theorem wr_sep {w : World} {base p : Nat} {xs : List Int} (h : Wr w base p xs) {b : Nat} (hb : b < base) : ¬ (b = p ∨ rowOf w p = some b) := by
  obtain ⟨hbp, v, hc, hr⟩ := h
  rw [rowOf_is hc]
  rintro (e | e)
  · omega
  · have := (hr.blk b e).1
    omega
/-- A table that is written. -/
structure En (w w' : World) (t : Tab) (A1 A2 : Option Addr) (n1 c1 n2 c2 p : Nat) (xs : List Int) : Prop where
  fr : Fr None_ w w'
  wr : Wr w' p p xs
  tab : w'.heap[w.heap.size]? = some (.cells #[.int .u32 t.seq, .slice A1 n1 c1, .slice A2 n2 c2, .int .i64 t.t0, .int .i64 t.t1] 135 (0, 0))
  lo : w.heap.size < p
theorem En.step {w wa wb : World} {t : Tab} {A1 A2 : Option Addr} {n1 c1 n2 c2 p : Nat} {xs ys : List Int} (h : En w wa t A1 A2 n1 c1 n2 c2 p xs) (hw : Wr wb p p ys) (hs : Step p wa wb) : En w wb t A1 A2 n1 c1 n2 c2 p ys := by
  have hlo := h.lo
  exact ⟨h.fr.after hs.fr (fun b hb e => absurd e (wr_sep h.wr (by omega))), hw, hs.fr.heap h.tab (wr_sep h.wr hlo), hlo⟩
theorem En.alloc {w wa : World} {t : Tab} {A1 A2 : Option Addr} {n1 c1 n2 c2 p : Nat} {xs : List Int} (h : En w wa t A1 A2 n1 c1 n2 c2 p xs) (o : Obj) : En w (wa.alloc o) t A1 A2 n1 c1 n2 c2 p xs :=
  ⟨h.fr.alloc o, h.wr.none_ ((Fr.refl None_ wa).alloc o), at_old o h.tab, h.lo⟩
theorem En.u32 {w W : World} {t : Tab} {A1 A2 : Option Addr} {n1 c1 n2 c2 p : Nat} {xs : List Int} (h : En w W t A1 A2 n1 c1 n2 c2 p xs) (x : Int) (h0 : 0 ≤ x) (h1 : x < 4294967296) (hl : xs.length ≤ 1000000) (gs : Nat) (hgs : W.heap.size = gs) :
    Calls Tryz.prog 96 #[.pointer (some ⟨p, 0, none⟩), .slice (some ⟨gs, 0, none⟩) 1 1] (W.alloc (.cells #[.int .u32 x] 37)) fun e w' => e = .returned (.pointer (some ⟨p, 0, none⟩)) ∧ En w w' t A1 A2 n1 c1 n2 c2 p (xs ++ les 4 [x]) := by
  subst hgs
  have ha := h.alloc (.cells #[.int .u32 x] 37)
  have hp := h.wr.lt
  refine (U32_calls p p xs [x] (some ⟨W.heap.size, 0, none⟩) 1 1 _ ha.wr (by simp; omega) ⟨rfl, by decide, fun _ => ⟨_, rfl, fun j hj => ?_⟩⟩ (by intro y hy; simp at hy; omega) (fun ad e _ => ?_) (by omega)).mono ?_
  · obtain rfl : j = 0 := by omega
    exact cell_is (heap_alloc_new W _) rfl
  · injection e with e
    subst e
    rintro (e | e)
    · have : W.heap.size = p := e
      omega
    · have h2 : rowOf (W.alloc (.cells #[.int .u32 x] 37)) p = rowOf W p := by unfold rowOf; rw [Below.heap_alloc W _ p hp]
      rw [h2] at e
      exact absurd (h.wr.row_lt _ e) (Nat.lt_irrefl _)
  · rintro e w' ⟨rfl, hw, hs⟩
    exact ⟨rfl, ha.step hw hs⟩
theorem En.u8s {w W : World} {t : Tab} {A1 A2 : Option Addr} {n1 c1 n2 c2 p : Nat} {xs : List Int} (h : En w W t A1 A2 n1 c1 n2 c2 p xs) (x y : Int) (h0 : 0 ≤ x) (h1 : x < 256) (h2 : 0 ≤ y) (h3 : y < 256) (hl : xs.length ≤ 1000000) :
    Calls Tryz.prog 97 #[.pointer (some ⟨p, 0, none⟩), .slice (some ⟨W.heap.size, 0, none⟩) 2 2] (W.alloc (.cells #[.int .u8 x, .int .u8 y] 5)) fun e w' => e = .returned (.pointer (some ⟨p, 0, none⟩)) ∧ En w w' t A1 A2 n1 c1 n2 c2 p (xs ++ les 1 [x, y]) := by
  have ha := h.alloc (.cells #[.int .u8 x, .int .u8 y] 5)
  have hp := h.wr.lt
  refine (U8_calls p p xs [x, y] (some ⟨W.heap.size, 0, none⟩) 2 2 _ ha.wr (by simp; omega) ⟨rfl, by decide, fun _ => ⟨_, rfl, fun j hj => ?_⟩⟩ (by intro z hz; simp at hz; omega) (fun ad e _ => ?_) (by omega)).mono ?_
  · have : j = 0 ∨ j = 1 := by omega
    rcases this with rfl | rfl
    · exact cell_is (heap_alloc_new W _) rfl
    · exact cell_is (i := 1) (heap_alloc_new W _) rfl
  · injection e with e
    subst e
    rintro (e | e)
    · have : W.heap.size = p := e
      omega
    · have h2 : rowOf (W.alloc (.cells #[.int .u8 x, .int .u8 y] 5)) p = rowOf W p := by unfold rowOf; rw [Below.heap_alloc W _ p hp]
      rw [h2] at e
      exact absurd (h.wr.row_lt _ e) (Nat.lt_irrefl _)
  · rintro e w' ⟨rfl, hw, hs⟩
    exact ⟨rfl, ha.step hw hs⟩
theorem En.list {w W : World} {t : Tab} {A1 A2 : Option Addr} {n1 c1 n2 c2 p : Nat} {xs : List Int} (h : En w W t A1 A2 n1 c1 n2 c2 p xs) {A : Option Addr} {n c : Nat} {l : List Int} (hR : Rd .i64 w A n l) (hr : InR 256 l) (hn : n < 256) (hl : xs.length ≤ 1000000) :
    Calls Tryz.prog 125 #[.pointer (some ⟨p, 0, none⟩), .slice A n c] W fun e w' => e = .returned (.tuple #[]) ∧ En w w' t A1 A2 n1 c1 n2 c2 p (xs ++ les 1 ((n : Int) :: l)) := by
  have hlo := h.lo
  have hp := h.wr.lt
  refine (list_calls p p xs l A n c W h.wr (by omega) (hR.none_ h.fr) hr hn (fun ad e hn0 => wr_sep h.wr (by have := hR.lt ad e hn0; omega)) hl).mono ?_
  rintro e w' ⟨rfl, hw, hs⟩
  exact ⟨rfl, h.step hw hs⟩
/-- A table's bytes. -/
def _root_.Go.Proofs.YteofgpaceeibpaaGreat.RemapA.Tab.enc (t : Tab) : List Int := les 4 [t.seq] ++ les 1 ((t.place.length : Int) :: t.place) ++ les 1 ((t.spare.length : Int) :: t.spare) ++ les 1 [t.t0, t.t1]
set_option maxHeartbeats 4000000 in
set_option maxRecDepth 100000 in
theorem Encode_calls (t : Tab) (g : Geo) (v : Value) (w : World) (hg : g.Ok) (ht : t.Ok g) (hv : TabV w v t) : Calls Tryz.prog 122 #[v, g.val] w fun e w' => ∃ r, e = .returned (.tuple #[r, .int .i64 0]) ∧ Row 5 .u8 w' w.heap.size r t.enc ∧ Fr None_ w w' := by
  have HCK := As.mk (fun w' (hf : Fr None_ w w') => RemapB.Check_calls t g v w' hg ht (hv.none_ hf))
  obtain ⟨A1, n1, c1, A2, n2, c2, rfl, h1, hR1, h2, hR2⟩ := hv
  have HR1 := As.mk hR1
  have HR2 := As.mk hR2
  have h4 := hg.b.2
  have hin : ∀ x ∈ t.all, 0 ≤ x ∧ x < 256 := fun x hx => by have := ht.inr x hx; omega
  have HI1 := As.mk (show InR 256 t.place from fun x hx => hin x (by simp [Tab.all, hx]))
  have HI2 := As.mk (show InR 256 t.spare from fun x hx => hin x (by simp [Tab.all, hx]))
  have hq0 := hin t.t0 (by simp [Tab.all])
  have hq1 := hin t.t1 (by simp [Tab.all])
  obtain ⟨q00, q01⟩ := hq0
  obtain ⟨q10, q11⟩ := hq1
  obtain ⟨s0, s1⟩ := ht.seq
  have hl1 := hR1.1
  have hl2 := hR2.1
  have hn1 : n1 < 256 := by have := ht.len; omega
  have hn2 : n2 < 256 := by have := ht.few; omega
  have HE := As.mk (show t.enc = [] ++ les 4 [t.seq] ++ les 1 ((n1 : Int) :: t.place) ++ les 1 ((n2 : Int) :: t.spare) ++ les 1 [t.t0, t.t1] from by rw [← hl1, ← hl2]; rfl)
  have HL := As.mk (And.intro hl1 hl2)
  have hF1 := ((Fr.refl None_ w).alloc (.cells #[.int .u32 t.seq, .slice A1 n1 c1, .slice A2 n2 c2, .int .i64 t.t0, .int .i64 t.t1] 135))
  have hB1 := (heap_alloc_new w (.cells #[.int .u32 t.seq, .slice A1 n1 c1, .slice A2 n2 c2, .int .i64 t.t0, .int .i64 t.t1] 135))
  have HF2 := As.mk (hF1.alloc (.cells #[.int .i64 g.c, .int .i64 g.b, .int .i64 g.p, .int .i64 g.s] 24))
  have HB2 := As.mk (at_old (.cells #[.int .i64 g.c, .int .i64 g.b, .int .i64 g.p, .int .i64 g.s] 24) hB1)
  clear hF1 hB1 hR1 hR2 ht hg hin hl1 hl2
  unfold Geo.val at HCK ⊢
  go_enter Tryz.func122, Tryz.ntmps122
  go_wp2_with (first
    | (go_at_call 124; (with_reducible refine (HCK.out _ HF2.out).mono ?_); rintro e w2 ⟨rfl, hf2⟩; have HB3 := As.mk (hf2.heap HB2.out (fun h => h)); have HF3 := As.mk (HF2.out.after hf2 (fun _ _ h => h)); have hz2 := (Array.getElem?_eq_some_iff.1 HB3.out).1; have HN3 := As.mk (show En w (w2.alloc (.cells #[.slice none 0 0] 182)) t A1 A2 n1 c1 n2 c2 w2.heap.size [] from ⟨HF3.out.alloc _, Wr.new (heap_alloc_new w2 _) _ (Nat.le_refl _), at_old _ HB3.out, hz2⟩); have b0 := cell_is (v := .int .u32 t.seq) (i := 0) HN3.out.tab rfl; clear hf2)
    | (go_at_call 96; (with_reducible refine (HN3.out.u32 t.seq s0 s1 (by decide) _ (size_new _ rfl)).mono ?_); rintro e w4 ⟨rfl, hn4⟩; have HN4 := As.mk hn4; have b1 := cell_is (v := .slice A1 n1 c1) (i := 1) hn4.tab rfl; clear hn4)
    | (go_at_call 125; (with_reducible refine (HN4.out.list HR1.out HI1.out hn1 (by simp [les_length])).mono ?_); rintro e w5 ⟨rfl, hn5⟩; have HN5 := As.mk hn5; have b2 := cell_is (v := .slice A2 n2 c2) (i := 2) hn5.tab rfl; clear hn5)
    | (go_at_call 125; (with_reducible refine (HN5.out.list HR2.out HI2.out hn2 (by simp [les_length]; have := HL.out; omega)).mono ?_); rintro e w6 ⟨rfl, hn6⟩; have HN6 := As.mk hn6; have b3 := cell_is (v := .int .i64 t.t0) (i := 3) hn6.tab rfl; have b4 := cell_is (v := .int .i64 t.t1) (i := 4) hn6.tab rfl; clear hn6)
    | (go_at_call 97; (with_reducible refine (HN6.out.u8s t.t0 t.t1 q00 q01 q10 q11 (by simp [les_length]; have := HL.out; omega)).mono ?_); rintro e w7 ⟨rfl, hn7⟩; have HN7 := As.mk hn7; clear hn7)
    | (go_at_call 100; (with_reducible refine (Bytes_calls _ _ _ _ HN7.out.wr (by simp [les_length]; have := HL.out; omega)).mono ?_); rintro e w8 ⟨r, rfl, hr8, hf8⟩; have HR8 := As.mk hr8; have HF8 := As.mk hf8; clear hr8 hf8; obtain ⟨A8, n8, c8, e8, _, _, _⟩ := HR8.out.rd; subst e8)
    | fail)
  go_ret2
  refine ⟨_, rfl, ?_, HN7.out.fr.after HF8.out (fun _ _ h => h)⟩
  rw [HE.out]
  exact HR8.out.lower HN7.out.fr.size
end Go.Proofs.YteofgpaceeibpaaGreat.RemapC
namespace Go.Proofs.YteofgpaceeibpaaGreat.RemapD
open Go.RowKit Gab Wr Geom Ref Heap RemapA RemapB RemapC
set_option linter.unusedVariables false
set_option linter.unusedSimpArgs false

theorem enc_length {t : Tab} {g : Geo} (hg : g.Ok) (h : t.Ok g) : 1 ≤ t.enc.length ∧ t.enc.length ≤ 256 := by
  have h1 := h.len
  have h2 := h.few
  have h3 := hg.b.1
  have h4 := hg.b.2
  unfold Tab.enc
  simp only [List.length_append, les_length, List.length_cons, List.length_nil]
  omega
theorem one_page {L S : Int} (h0 : 1 ≤ L) (h1 : L ≤ S) : (L + S - 1).tdiv S = 1 := by
  rw [Int.tdiv_eq_ediv_of_nonneg (by omega)]
  rw [show L + S - 1 = (L - 1) + 1 * S by omega, Int.add_mul_ediv_right _ _ (by omega), Int.ediv_eq_zero_of_lt (by omega) (by omega)]
  omega
/-- A table's page. -/
def _root_.Go.Proofs.YteofgpaceeibpaaGreat.RemapA.Tab.page (t : Tab) (S : Nat) : List Int := padTo t.enc S
theorem enc_range {t : Tab} {g : Geo} (hg : g.Ok) (h : t.Ok g) : InR 256 t.enc := by
  have hl : ∀ (n : Nat) (l : List Int), InR 256 (les n l) := by
    intro n l x hx
    unfold les at hx
    rw [List.mem_flatMap] at hx
    obtain ⟨v, hv0, hv⟩ := hx
    clear hv0 h hg
    induction n generalizing v with
    | zero => simp [le] at hv
    | succ n ih =>
      rw [le_snoc, List.mem_append] at hv
      rcases hv with hv | hv
      · exact ih v hv
      · simp only [List.mem_singleton] at hv
        omega
  unfold Tab.enc
  intro x hx
  simp only [List.mem_append] at hx
  rcases hx with ((hx | hx) | hx) | hx
  · exact hl _ _ x hx
  · exact hl _ _ x hx
  · exact hl _ _ x hx
  · exact hl _ _ x hx
theorem infoRP : (Tryz.prog.info? 189).map (fun i => (i.zero, i.size, i.bytes)) = some (some (.agg #[.slice none 0 0, .slice none 0 0]), 2, 48) := by kernel_rfl
/-- A table's header. -/
def _root_.Go.Proofs.YteofgpaceeibpaaGreat.RemapA.Tab.hd (t : Tab) : Fields.Head := ⟨1, t.seq, 0, 0, 1, 0, 0⟩
theorem hd_ok {t : Tab} (s0 : 0 ≤ t.seq) (s1 : t.seq < 4294967296) : Fields.Head.Ok t.hd := ⟨by simp [Tab.hd], ⟨s0, s1⟩, by simp [Tab.hd], by simp [Tab.hd], by simp [Tab.hd], by simp [Tab.hd], by simp [Tab.hd]⟩
/-- Whose block is new. -/
def Young (w : World) (v : Value) : Prop := ∀ b, v.ownBlock = some b → w.heap.size ≤ b
/-- One page. -/
def PgV (w w' : World) (t : Tab) (S : Nat) (v : Value) : Prop := ∃ vd vo, Par.RowV 189 2 w' w.heap.size v 1 [vd, vo] ∧ Par.Sl w' vd (t.page S) ∧ Par.Sl w' vo (Seal.sealOf t.hd (t.page S) []) ∧ Fr None_ w w' ∧ Young w vd ∧ Young w vo

set_option maxHeartbeats 4000000 in
set_option maxRecDepth 100000 in
theorem Pages_calls (t : Tab) (g : Geo) (v : Value) (w : World) (hg : g.Ok) (ht : t.Ok g) (hv : TabV w v t) : Calls Tryz.prog 116 #[v, g.val] w fun e w' => ∃ r, e = .returned (.tuple #[r, .int .i64 0]) ∧ PgV w w' t g.s.toNat r := by
  have HPR := As.mk (show InR 256 (t.page g.s.toNat) from Seal.pad_range (enc_range hg ht) _)
  have HEN := As.mk (fun w' (hf : Fr None_ w w') => Encode_calls t g v w' hg ht (hv.none_ hf))
  have HLE := As.mk (enc_length hg ht)
  obtain ⟨A1, n1, c1, A2, n2, c2, rfl, h1, hR1, h2, hR2⟩ := hv
  obtain ⟨s0, s1⟩ := ht.seq
  have z0 := hg.s.1
  have z1 := hg.s.2
  have hF1 := ((Fr.refl None_ w).alloc (.cells #[.int .u32 t.seq, .slice A1 n1 c1, .slice A2 n2 c2, .int .i64 t.t0, .int .i64 t.t1] 135))
  have hB1 := (heap_alloc_new w (.cells #[.int .u32 t.seq, .slice A1 n1 c1, .slice A2 n2 c2, .int .i64 t.t0, .int .i64 t.t1] 135))
  have HF2 := As.mk (hF1.alloc (.cells #[.int .i64 g.c, .int .i64 g.b, .int .i64 g.p, .int .i64 g.s] 24))
  have HB2 := As.mk (at_old (.cells #[.int .i64 g.c, .int .i64 g.b, .int .i64 g.p, .int .i64 g.s] 24) hB1)
  have HG2 := As.mk (at_new (.cells #[.int .i64 g.c, .int .i64 g.b, .int .i64 g.p, .int .i64 g.s] 24) (size_new (.cells #[.int .u32 t.seq, .slice A1 n1 c1, .slice A2 n2 c2, .int .i64 t.t0, .int .i64 t.t1] 135) (rfl : w.heap.size = w.heap.size)))
  clear hF1 hB1 hR1 hR2 ht hg
  unfold Geo.val at HEN ⊢
  go_enter Tryz.func116, Tryz.ntmps116
  go_upto_region 5 with (go_at_call 122; (with_reducible refine (HEN.out _ HF2.out).mono ?_); rintro e w3 ⟨r, rfl, hr3, hf3⟩; have HB3 := As.mk (hf3.heap HB2.out (fun h => h)); have HG3 := As.mk (hf3.heap HG2.out (fun h => h)); have HF3 := As.mk (HF2.out.after hf3 (fun _ _ h => h)); have HR3 := As.mk hr3; have e3 := cell_is (v := .int .i64 g.s) (i := 3) HG3.out rfl; clear hf3 hr3; obtain ⟨A3, n3, c3, ee3, HM3, HD3, _⟩ := HR3.out.rd; subst ee3; have hn3 := HD3.out.1; have hl3 := HLE.out.1; have hl4 := HLE.out.2; have hone := one_page (L := (n3 : Int)) (S := g.s) (by omega) (by omega))
  have HD4 := As.mk (HD3.out.none_ (((Fr.refl None_ w3).alloc (.cells #[.slice none 0 0] 182)).drew))
  have HW5 : As (Wr (w3.alloc (.cells #[.slice none 0 0] 182)).drew w3.heap.size w3.heap.size []) := ⟨Wr.new (show (w3.alloc (.cells #[.slice none 0 0] 182)).drew.heap[w3.heap.size]? = _ from heap_alloc_new w3 _) _ (Nat.le_refl _)⟩
  have HF45 := As.mk (((Fr.refl None_ w3).alloc (.cells #[.slice none 0 0] 182)).drew)
  have hz5 := HF45.out.size
  have hz9 : w.heap.size + 1 < w3.heap.size := (Array.getElem?_eq_some_iff.1 HG3.out).1
  have ks4 := cell_is (v := .int .i64 g.s) (i := 3) (HF45.out.heap HG3.out (fun h => h)) rfl
  have hmw : IntKind.i64.wrap g.s = g.s := i64_in _ (by omega) (by omega)
  have HPL : As (padTo ([] ++ t.enc) g.s.toNat = t.page g.s.toNat) := ⟨rfl⟩
  have HPN : As ((t.page g.s.toNat).length = g.s.toNat) := ⟨by unfold Tab.page; rw [padTo_length]; have := HLE.out; omega⟩
  go_region_held3 (fun w' => w'.cell? ⟨w.heap.size + 1, 3, none⟩ = some (.int .i64 g.s)) (first | go_keep | exact ks4 | exact ks6 | exact ks7 | (refine Fr.cell ‹Fr None_ _ _› ?_ (fun h => h); go_keep)) (first
    | (go_at_call 112; (with_reducible refine (Raw_calls w3.heap.size w3.heap.size [] t.enc A3 n3 c3 _ HW5.out hz5 HD4.out ?r1).mono ?_); (case r1 => simp; omega); rintro e w6 ⟨rfl, hw6, hs6⟩; have HW6 := As.mk hw6; have HF46 := As.mk (HW5.out.fr hs6 (Nat.le_refl _) HF45.out); have HG6 := As.mk (HF46.out.heap HG3.out (fun h => h)); have ks6 := cell_is (v := .int .i64 g.s) (i := 3) HG6.out rfl; have hz6 := HF46.out.size; clear hw6 hs6)
    | (go_at_call 99; (with_reducible refine (Pad_calls w3.heap.size w3.heap.size ([] ++ t.enc) g.s w6 HW6.out hz6 ?r2 ?r3).mono ?_); (case r2 => omega); (case r3 => rw [List.nil_append]; omega); rintro e w7 ⟨rfl, hw7, hs7⟩; have HW7 := As.mk hw7; have HF47 := As.mk (HW6.out.fr hs7 (Nat.le_refl _) HF46.out); have HG7 := As.mk (HF47.out.heap HG3.out (fun h => h)); have ks7 := cell_is (v := .int .i64 g.s) (i := 3) HG7.out rfl; rw [HPL.out] at HW7; clear hw7 hs7)
    | (go_at_call 100; (with_reducible refine (Bytes_calls w3.heap.size w3.heap.size (t.page g.s.toNat) w7 HW7.out ?r4).mono ?_); (case r4 => rw [HPN.out]; omega); rintro e w8 ⟨v8, rfl, hr8, hf8⟩)
    | fail)
  have hzz9 : w.heap.size ≤ w3.heap.size := HF3.out.size
  have hfx : Fr None_ w3 w8 := HF47.out.after hf8 (fun _ _ h => h)
  have HF8 := As.mk (HF3.out.after hfx (fun _ _ h => h))
  have HB8 := As.mk (hfx.heap HB3.out (fun h => h))
  have HG8 := As.mk (hfx.heap HG3.out (fun h => h))
  obtain ⟨A8, n8, c8, e8, HM8, HD8, HO8⟩ := hr8.rd
  subst e8
  have hn8 : (n8 : Int) = g.s := by have h1 := HD8.out.1; have h2 := HPN.out; omega
  have hm8 := HM8.out
  have hc8 : g.s ≤ (c8 : Int) := by omega
  obtain ⟨ad8, ea8, _⟩ := HD8.out.2.2 (by omega)
  subst ea8
  have HY8 := As.mk (show Young w (.slice (some ad8) n8 c8) from fun b hb => by have h1 := (hr8.blk b hb).1; have h2 := HF47.out.size; omega)
  clear hfx hr8 hf8 HW6 HW7 HF46 HF47 HG6 HG7 ks4 ks6 ks7 hz5 hz6 hz9 HD4 HW5 HF45 HPL HR3 HM3 HD3 HB3 HG3 HF3 hone hl3 hl4 hn3 e3
  clear w7 w6
  obtain rfl : n8 = g.s.toNat := by omega
  have HSE := As.mk (fun (W : World) (hf : Fr None_ w8 W) => (Seal.Seal_calls t.hd (t.page g.s.toNat) [] (some ad8) none g.s.toNat 0 c8 0 W (hd_ok s0 s1) (HD8.out.none_ hf) ⟨rfl, by decide, fun h => absurd h (by decide)⟩ hm8 (Nat.le_refl _) HPR.out (by intro x hx; cases hx) : Calls Tryz.prog 86 #[.agg #[.int .u8 1, .int .u32 t.seq, .int .u32 0, .int .u16 0, .int .u16 1, .int .u32 0, .int .u32 0], .slice (some ad8) g.s.toNat c8, .slice none 0 0] W _))
  go_wp2_with fail
  go_loopw [9, 10, 11, 12, 42] (fun v9 v10 v11 v12 v42 w' => (v42 = .int .i64 0 ∧ v9 = .slice none 0 0 ∧ As (Fr None_ w8 w')) ∨ (v42 = .int .i64 1 ∧ As (PgV w w' t g.s.toNat v9))) (fun _ _ _ _ v42 _ => 1 - (intOf v42).toNat)
  case atStart => exact .inl ⟨rfl, rfl, ⟨Fr.refl _ _⟩⟩
  case round =>
    rcases hrel with ⟨rfl, rfl, HX⟩ | ⟨rfl, HX⟩
    · have b0 := cell_is (v := .int .u32 t.seq) (i := 0) (HX.out.heap HB8.out (fun h => h)) rfl
      have e3 := cell_is (v := .int .i64 g.s) (i := 3) (HX.out.heap HG8.out (fun h => h)) rfl
      have hzx := HX.out.size
      have hzw := HF8.out.size
      go_wp2_with fail
      refine (HSE.out _ (HX.out.alloc _)).mono ?_
      rintro e w9 ⟨v9, rfl, hr9, hf9⟩
      have HF9 := As.mk ((HX.out.alloc _).after hf9 (fun _ _ h => h))
      have HSO := As.mk (Par.Row.sl hr9)
      have HYO := As.mk (show Young w v9 from fun b hb => by have h1 := (hr9.blk b hb).1; have h2 := HF8.out.size; have h3 := (HX.out.alloc (.cells #[.int .u32 t.seq, .slice A1 n1 c1, .slice A2 n2 c2, .int .i64 t.t0, .int .i64 t.t1] 135)).size; simp only [World.size_alloc] at h1; omega)
      have hz9 := HF9.out.size
      obtain ⟨A9, n9, c9, e9, _, _, _⟩ := hr9.rd
      subst e9
      clear hr9 hf9
      go_wp2_with (first
        | (at_builtin; (with_reducible refine Par.appendV w.heap.size rfl _ _ 188 189 (.agg #[.slice none 0 0, .slice none 0 0]) 2 48 rfl Tryz.underlying188 infoRP rfl (by decide) (by decide) (.slice none 0 0) 0 [] #[.slice (some ad8) g.s.toNat c8, .slice A9 n9 c9] _ rfl rfl rfl rfl ?o0 (Par.RowV.nil _ _ _ _) ?o2 (by decide) ?_); (case o0 => intro u hu; simp at hu; rcases hu with rfl | rfl <;> rfl); (case o2 => omega); intro v6 w6 hrow6 hfr6 hat6; have HR6 := As.mk hrow6; have HF6 := As.mk (show Fr None_ w9 w6 from (Fr.refl None_ w9).after hfr6 (fun _ _ h => by cases h)); clear hrow6 hfr6 hat6)
        | fail)
      have HPG := As.mk (show PgV w w6 t g.s.toNat v6 from ⟨_, _, HR6.out, ⟨some ad8, _, c8, rfl, hm8, (HD8.out.none_ HF9.out).none_ HF6.out⟩, HSO.out.none_ HF6.out, (HF8.out.after HF9.out (fun _ _ h => h)).after HF6.out (fun _ _ h => h), HY8.out, HYO.out⟩)
      exact ⟨.inr ⟨rfl, HPG⟩, by simp [intOf]⟩
    · go_wp2_with fail
      go_ret2
      exact ⟨_, rfl, HX.out⟩
end Go.Proofs.YteofgpaceeibpaaGreat.RemapD

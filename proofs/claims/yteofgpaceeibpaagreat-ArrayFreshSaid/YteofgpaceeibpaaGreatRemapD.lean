/- remap: Pages of good tables (one page). -/
import Derived.Test.YteofgpaceeibpaaGreatRemapC
import Derived.Test.YteofgpaceeibpaaGreatSeal
import Derived.Test.YteofgpaceeibpaaGreatPar
namespace Go.Proofs.YteofgpaceeibpaaGreat.RemapD
open Go.RowKit Go.Proofs.YteofgpaceeibpaaGreat.Gab Go.Proofs.YteofgpaceeibpaaGreat.Wr Go.Proofs.YteofgpaceeibpaaGreat.Geom Go.Proofs.YteofgpaceeibpaaGreat.Ref Go.Proofs.YteofgpaceeibpaaGreat.Heap Go.Proofs.YteofgpaceeibpaaGreat.RemapA Go.Proofs.YteofgpaceeibpaaGreat.RemapB Go.Proofs.YteofgpaceeibpaaGreat.RemapC
set_option linter.unusedVariables false
set_option linter.unusedSimpArgs false

theorem enc_length {t : Tab} {g : Geo} (hg : g.Ok) (h : t.Ok g) : 1 ≤ t.enc.length ∧ t.enc.length ≤ 256 := by
  have h1 := h.len
  have h2 := h.few
  have h3 := hg.b.1
  have h4 := hg.b.2
  unfold Tab.enc
  simp only [List.length_append, les_length, List.length_cons, List.length_nil]
  omega
theorem one_page {L S : Int} (h0 : 1 ≤ L) (h1 : L ≤ S) : (L + S - 1).tdiv S = 1 := by
  rw [Int.tdiv_eq_ediv_of_nonneg (by omega)]
  rw [show L + S - 1 = (L - 1) + 1 * S by omega, Int.add_mul_ediv_right _ _ (by omega), Int.ediv_eq_zero_of_lt (by omega) (by omega)]
  omega
/-- A table's page. -/
def _root_.Go.Proofs.YteofgpaceeibpaaGreat.RemapA.Tab.page (t : Tab) (S : Nat) : List Int := padTo t.enc S
theorem enc_range {t : Tab} {g : Geo} (hg : g.Ok) (h : t.Ok g) : InR 256 t.enc := by
  have hl : ∀ (n : Nat) (l : List Int), InR 256 (les n l) := by
    intro n l x hx
    unfold les at hx
    rw [List.mem_flatMap] at hx
    obtain ⟨v, hv0, hv⟩ := hx
    clear hv0 h hg
    induction n generalizing v with
    | zero => simp [le] at hv
    | succ n ih =>
      rw [le_snoc, List.mem_append] at hv
      rcases hv with hv | hv
      · exact ih v hv
      · simp only [List.mem_singleton] at hv
        omega
  unfold Tab.enc
  intro x hx
  simp only [List.mem_append] at hx
  rcases hx with ((hx | hx) | hx) | hx
  · exact hl _ _ x hx
  · exact hl _ _ x hx
  · exact hl _ _ x hx
  · exact hl _ _ x hx
theorem infoRP : (Tryz.prog.info? 189).map (fun i => (i.zero, i.size, i.bytes)) = some (some (.agg #[.slice none 0 0, .slice none 0 0]), 2, 48) := by kernel_rfl
/-- A table's header. -/
def _root_.Go.Proofs.YteofgpaceeibpaaGreat.RemapA.Tab.hd (t : Tab) : Fields.Head := ⟨1, t.seq, 0, 0, 1, 0, 0⟩
theorem hd_ok {t : Tab} (s0 : 0 ≤ t.seq) (s1 : t.seq < 4294967296) : Fields.Head.Ok t.hd := ⟨by simp [Tab.hd], ⟨s0, s1⟩, by simp [Tab.hd], by simp [Tab.hd], by simp [Tab.hd], by simp [Tab.hd], by simp [Tab.hd]⟩
/-- Whose block is new. -/
def Young (w : World) (v : Value) : Prop := ∀ b, v.ownBlock = some b → w.heap.size ≤ b
/-- One page. -/
def PgV (w w' : World) (t : Tab) (S : Nat) (v : Value) : Prop := ∃ vd vo, Par.RowV 189 2 w' w.heap.size v 1 [vd, vo] ∧ Par.Sl w' vd (t.page S) ∧ Par.Sl w' vo (Seal.sealOf t.hd (t.page S) []) ∧ Fr None_ w w' ∧ Young w vd ∧ Young w vo

set_option maxHeartbeats 4000000 in
set_option maxRecDepth 100000 in
theorem Pages_calls (t : Tab) (g : Geo) (v : Value) (w : World) (hg : g.Ok) (ht : t.Ok g) (hv : TabV w v t) : Calls Tryz.prog 116 #[v, g.val] w fun e w' => ∃ r, e = .returned (.tuple #[r, .int .i64 0]) ∧ PgV w w' t g.s.toNat r := by
  have HPR := As.mk (show InR 256 (t.page g.s.toNat) from Seal.pad_range (enc_range hg ht) _)
  have HEN := As.mk (fun w' (hf : Fr None_ w w') => Encode_calls t g v w' hg ht (hv.none_ hf))
  have HLE := As.mk (enc_length hg ht)
  obtain ⟨A1, n1, c1, A2, n2, c2, rfl, h1, hR1, h2, hR2⟩ := hv
  obtain ⟨s0, s1⟩ := ht.seq
  have z0 := hg.s.1
  have z1 := hg.s.2
  have hF1 := ((Fr.refl None_ w).alloc (.cells #[.int .u32 t.seq, .slice A1 n1 c1, .slice A2 n2 c2, .int .i64 t.t0, .int .i64 t.t1] 135))
  have hB1 := (heap_alloc_new w (.cells #[.int .u32 t.seq, .slice A1 n1 c1, .slice A2 n2 c2, .int .i64 t.t0, .int .i64 t.t1] 135))
  have HF2 := As.mk (hF1.alloc (.cells #[.int .i64 g.c, .int .i64 g.b, .int .i64 g.p, .int .i64 g.s] 24))
  have HB2 := As.mk (at_old (.cells #[.int .i64 g.c, .int .i64 g.b, .int .i64 g.p, .int .i64 g.s] 24) hB1)
  have HG2 := As.mk (at_new (.cells #[.int .i64 g.c, .int .i64 g.b, .int .i64 g.p, .int .i64 g.s] 24) (size_new (.cells #[.int .u32 t.seq, .slice A1 n1 c1, .slice A2 n2 c2, .int .i64 t.t0, .int .i64 t.t1] 135) (rfl : w.heap.size = w.heap.size)))
  clear hF1 hB1 hR1 hR2 ht hg
  unfold Geo.val at HEN ⊢
  go_enter Tryz.func116, Tryz.ntmps116
  go_upto_region 5 with (go_at_call 122; (with_reducible refine (HEN.out _ HF2.out).mono ?_); rintro e w3 ⟨r, rfl, hr3, hf3⟩; have HB3 := As.mk (hf3.heap HB2.out (fun h => h)); have HG3 := As.mk (hf3.heap HG2.out (fun h => h)); have HF3 := As.mk (HF2.out.after hf3 (fun _ _ h => h)); have HR3 := As.mk hr3; have e3 := cell_is (v := .int .i64 g.s) (i := 3) HG3.out rfl; clear hf3 hr3; obtain ⟨A3, n3, c3, ee3, HM3, HD3, _⟩ := HR3.out.rd; subst ee3; have hn3 := HD3.out.1; have hl3 := HLE.out.1; have hl4 := HLE.out.2; have hone := one_page (L := (n3 : Int)) (S := g.s) (by omega) (by omega))
  have HD4 := As.mk (HD3.out.none_ (((Fr.refl None_ w3).alloc (.cells #[.slice none 0 0] 182)).drew))
  have HW5 : As (Wr (w3.alloc (.cells #[.slice none 0 0] 182)).drew w3.heap.size w3.heap.size []) := ⟨Wr.new (show (w3.alloc (.cells #[.slice none 0 0] 182)).drew.heap[w3.heap.size]? = _ from heap_alloc_new w3 _) _ (Nat.le_refl _)⟩
  have HF45 := As.mk (((Fr.refl None_ w3).alloc (.cells #[.slice none 0 0] 182)).drew)
  have hz5 := HF45.out.size
  have hz9 : w.heap.size + 1 < w3.heap.size := (Array.getElem?_eq_some_iff.1 HG3.out).1
  have ks4 := cell_is (v := .int .i64 g.s) (i := 3) (HF45.out.heap HG3.out (fun h => h)) rfl
  have hmw : IntKind.i64.wrap g.s = g.s := i64_in _ (by omega) (by omega)
  have HPL : As (padTo ([] ++ t.enc) g.s.toNat = t.page g.s.toNat) := ⟨rfl⟩
  have HPN : As ((t.page g.s.toNat).length = g.s.toNat) := ⟨by unfold Tab.page; rw [padTo_length]; have := HLE.out; omega⟩
  go_region_held3 (fun w' => w'.cell? ⟨w.heap.size + 1, 3, none⟩ = some (.int .i64 g.s)) (first | go_keep | exact ks4 | exact ks6 | exact ks7 | (refine Fr.cell ‹Fr None_ _ _› ?_ (fun h => h); go_keep)) (first
    | (go_at_call 112; (with_reducible refine (Raw_calls w3.heap.size w3.heap.size [] t.enc A3 n3 c3 _ HW5.out hz5 HD4.out ?r1).mono ?_); (case r1 => simp; omega); rintro e w6 ⟨rfl, hw6, hs6⟩; have HW6 := As.mk hw6; have HF46 := As.mk (HW5.out.fr hs6 (Nat.le_refl _) HF45.out); have HG6 := As.mk (HF46.out.heap HG3.out (fun h => h)); have ks6 := cell_is (v := .int .i64 g.s) (i := 3) HG6.out rfl; have hz6 := HF46.out.size; clear hw6 hs6)
    | (go_at_call 99; (with_reducible refine (Pad_calls w3.heap.size w3.heap.size ([] ++ t.enc) g.s w6 HW6.out hz6 ?r2 ?r3).mono ?_); (case r2 => omega); (case r3 => rw [List.nil_append]; omega); rintro e w7 ⟨rfl, hw7, hs7⟩; have HW7 := As.mk hw7; have HF47 := As.mk (HW6.out.fr hs7 (Nat.le_refl _) HF46.out); have HG7 := As.mk (HF47.out.heap HG3.out (fun h => h)); have ks7 := cell_is (v := .int .i64 g.s) (i := 3) HG7.out rfl; rw [HPL.out] at HW7; clear hw7 hs7)
    | (go_at_call 100; (with_reducible refine (Bytes_calls w3.heap.size w3.heap.size (t.page g.s.toNat) w7 HW7.out ?r4).mono ?_); (case r4 => rw [HPN.out]; omega); rintro e w8 ⟨v8, rfl, hr8, hf8⟩)
    | fail)
  have hzz9 : w.heap.size ≤ w3.heap.size := HF3.out.size
  have hfx : Fr None_ w3 w8 := HF47.out.after hf8 (fun _ _ h => h)
  have HF8 := As.mk (HF3.out.after hfx (fun _ _ h => h))
  have HB8 := As.mk (hfx.heap HB3.out (fun h => h))
  have HG8 := As.mk (hfx.heap HG3.out (fun h => h))
  obtain ⟨A8, n8, c8, e8, HM8, HD8, HO8⟩ := hr8.rd
  subst e8
  have hn8 : (n8 : Int) = g.s := by have h1 := HD8.out.1; have h2 := HPN.out; omega
  have hm8 := HM8.out
  have hc8 : g.s ≤ (c8 : Int) := by omega
  obtain ⟨ad8, ea8, _⟩ := HD8.out.2.2 (by omega)
  subst ea8
  have HY8 := As.mk (show Young w (.slice (some ad8) n8 c8) from fun b hb => by have h1 := (hr8.blk b hb).1; have h2 := HF47.out.size; omega)
  clear hfx hr8 hf8 HW6 HW7 HF46 HF47 HG6 HG7 ks4 ks6 ks7 hz5 hz6 hz9 HD4 HW5 HF45 HPL HR3 HM3 HD3 HB3 HG3 HF3 hone hl3 hl4 hn3 e3
  clear w7 w6
  obtain rfl : n8 = g.s.toNat := by omega
  have HSE := As.mk (fun (W : World) (hf : Fr None_ w8 W) => (Seal.Seal_calls t.hd (t.page g.s.toNat) [] (some ad8) none g.s.toNat 0 c8 0 W (hd_ok s0 s1) (HD8.out.none_ hf) ⟨rfl, by decide, fun h => absurd h (by decide)⟩ hm8 (Nat.le_refl _) HPR.out (by intro x hx; cases hx) : Calls Tryz.prog 86 #[.agg #[.int .u8 1, .int .u32 t.seq, .int .u32 0, .int .u16 0, .int .u16 1, .int .u32 0, .int .u32 0], .slice (some ad8) g.s.toNat c8, .slice none 0 0] W _))
  go_wp2_with fail
  go_loopw [9, 10, 11, 12, 42] (fun v9 v10 v11 v12 v42 w' => (v42 = .int .i64 0 ∧ v9 = .slice none 0 0 ∧ As (Fr None_ w8 w')) ∨ (v42 = .int .i64 1 ∧ As (PgV w w' t g.s.toNat v9))) (fun _ _ _ _ v42 _ => 1 - (intOf v42).toNat)
  case atStart => exact .inl ⟨rfl, rfl, ⟨Fr.refl _ _⟩⟩
  case round =>
    rcases hrel with ⟨rfl, rfl, HX⟩ | ⟨rfl, HX⟩
    · have b0 := cell_is (v := .int .u32 t.seq) (i := 0) (HX.out.heap HB8.out (fun h => h)) rfl
      have e3 := cell_is (v := .int .i64 g.s) (i := 3) (HX.out.heap HG8.out (fun h => h)) rfl
      have hzx := HX.out.size
      have hzw := HF8.out.size
      go_wp2_with fail
      refine (HSE.out _ (HX.out.alloc _)).mono ?_
      rintro e w9 ⟨v9, rfl, hr9, hf9⟩
      have HF9 := As.mk ((HX.out.alloc _).after hf9 (fun _ _ h => h))
      have HSO := As.mk (Par.Row.sl hr9)
      have HYO := As.mk (show Young w v9 from fun b hb => by have h1 := (hr9.blk b hb).1; have h2 := HF8.out.size; have h3 := (HX.out.alloc (.cells #[.int .u32 t.seq, .slice A1 n1 c1, .slice A2 n2 c2, .int .i64 t.t0, .int .i64 t.t1] 135)).size; simp only [World.size_alloc] at h1; omega)
      have hz9 := HF9.out.size
      obtain ⟨A9, n9, c9, e9, _, _, _⟩ := hr9.rd
      subst e9
      clear hr9 hf9
      go_wp2_with (first
        | (at_builtin; (with_reducible refine Par.appendV w.heap.size rfl _ _ 188 189 (.agg #[.slice none 0 0, .slice none 0 0]) 2 48 rfl Tryz.underlying188 infoRP rfl (by decide) (by decide) (.slice none 0 0) 0 [] #[.slice (some ad8) g.s.toNat c8, .slice A9 n9 c9] _ rfl rfl rfl rfl ?o0 (Par.RowV.nil _ _ _ _) ?o2 (by decide) ?_); (case o0 => intro u hu; simp at hu; rcases hu with rfl | rfl <;> rfl); (case o2 => omega); intro v6 w6 hrow6 hfr6 hat6; have HR6 := As.mk hrow6; have HF6 := As.mk (show Fr None_ w9 w6 from (Fr.refl None_ w9).after hfr6 (fun _ _ h => by cases h)); clear hrow6 hfr6 hat6)
        | fail)
      have HPG := As.mk (show PgV w w6 t g.s.toNat v6 from ⟨_, _, HR6.out, ⟨some ad8, _, c8, rfl, hm8, (HD8.out.none_ HF9.out).none_ HF6.out⟩, HSO.out.none_ HF6.out, (HF8.out.after HF9.out (fun _ _ h => h)).after HF6.out (fun _ _ h => h), HY8.out, HYO.out⟩)
      exact ⟨.inr ⟨rfl, HPG⟩, by simp [intOf]⟩
    · go_wp2_with fail
      go_ret2
      exact ⟨_, rfl, HX.out⟩
end Go.Proofs.YteofgpaceeibpaaGreat.RemapD

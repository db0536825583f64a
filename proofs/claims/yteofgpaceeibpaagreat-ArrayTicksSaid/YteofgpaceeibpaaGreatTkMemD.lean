/- remap: Decode of good tables' bytes. | member: First, Full, Newest. | member: Newest. -/
import Derived.Test.YteofgpaceeibpaaGreatTkRemapE
import Derived.Test.YteofgpaceeibpaaGreatTkMemB
import Derived.Test.YteofgpaceeibpaaGreatTkRef5
namespace Go.Proofs.YteofgpaceeibpaaGreat.RemapF
open Go.RowKit Gab Wr Rdr Rdz Geom RemapA RemapB RemapC RemapD RemapE
open Heap (cell_is heap_set)
set_option linter.unusedVariables false
set_option linter.unusedSimpArgs false

/-- Bytes that are a table. -/
structure DecIs (bs : List Int) (t : Tab) : Prop where
  n : bt bs 4 = (t.place.length : Int)
  m : bt bs (5 + t.place.length) = (t.spare.length : Int)
  len : 8 + t.place.length + t.spare.length ≤ bs.length
  seq : nb bs 0 = t.seq
  place : bts bs 5 t.place.length = t.place
  spare : bts bs (6 + t.place.length) t.spare.length = t.spare
  t0 : bt bs (6 + t.place.length + t.spare.length) = t.t0
  t1 : bt bs (7 + t.place.length + t.spare.length) = t.t1
  zero : (bs.drop (8 + t.place.length + t.spare.length)).all (· == 0) = true
/-- A table whose lists are one's own. -/
def TabR (w : World) (base : Nat) (v : Value) (t : Tab) : Prop := ∃ v1 v2, v = .agg #[.int .u32 t.seq, v1, v2, .int .i64 t.t0, .int .i64 t.t1] ∧ Row 3 .i64 w base v1 t.place ∧ Row 3 .i64 w base v2 t.spare
theorem TabR.none_ {w w' : World} {base : Nat} {v : Value} {t : Tab} (h : TabR w base v t) (hf : Fr None_ w w') : TabR w' base v t := by
  obtain ⟨v1, v2, e, h1, h2⟩ := h
  exact ⟨v1, v2, e, h1.none_ hf, h2.none_ hf⟩
theorem TabR.lower {w : World} {base base' : Nat} {v : Value} {t : Tab} (h : TabR w base v t) (hb : base' ≤ base) : TabR w base' v t := by
  obtain ⟨v1, v2, e, h1, h2⟩ := h
  exact ⟨v1, v2, e, h1.lower hb, h2.lower hb⟩
theorem TabR.tabV {w : World} {base : Nat} {v : Value} {t : Tab} (h : TabR w base v t) : TabV w v t := by
  obtain ⟨v1, v2, e, h1, h2⟩ := h
  obtain ⟨A1, n1, c1, e1, l1, r1, _⟩ := h1.rd
  obtain ⟨A2, n2, c2, e2, l2, r2, _⟩ := h2.rd
  subst e1 e2
  exact ⟨A1, n1, c1, A2, n2, c2, e, l1.out, r1.out, l2.out, r2.out⟩
theorem set5 {w w' : World} {b : Nat} {T : TypeId} {a0 a1 a2 a3 a4 : Value} (hf : Fr None_ w w') (hb : w.heap.size ≤ b) (h : w'.heap[b]? = some (.cells #[a0, a1, a2, a3, a4] T (0, 0))) (v0 v1 v2 v3 v4 : Value) :
    Fr None_ w (((((w'.setCell ⟨b, 0, none⟩ v0).setCell ⟨b, 1, none⟩ v1).setCell ⟨b, 2, none⟩ v2).setCell ⟨b, 3, none⟩ v3).setCell ⟨b, 4, none⟩ v4) ∧ (((((w'.setCell ⟨b, 0, none⟩ v0).setCell ⟨b, 1, none⟩ v1).setCell ⟨b, 2, none⟩ v2).setCell ⟨b, 3, none⟩ v3).setCell ⟨b, 4, none⟩ v4).heap[b]? = some (.cells #[v0, v1, v2, v3, v4] T (0, 0)) ∧
    Fr (fun i => i = b) w' (((((w'.setCell ⟨b, 0, none⟩ v0).setCell ⟨b, 1, none⟩ v1).setCell ⟨b, 2, none⟩ v2).setCell ⟨b, 3, none⟩ v3).setCell ⟨b, 4, none⟩ v4) := by
  have h0 := heap_set h 0 v0
  have h1 := heap_set h0 1 v1
  have h2 := heap_set h1 2 v2
  have h3 := heap_set h2 3 v3
  have h4 := heap_set h3 4 v4
  have hs : Fr (fun i => i = b) w' (((((w'.setCell ⟨b, 0, none⟩ v0).setCell ⟨b, 1, none⟩ v1).setCell ⟨b, 2, none⟩ v2).setCell ⟨b, 3, none⟩ v3).setCell ⟨b, 4, none⟩ v4) := (((((Fr.refl (fun i => i = b) w').setCell (p := ⟨b, 0, none⟩) (fun _ => rfl) v0).setCell (p := ⟨b, 1, none⟩) (fun _ => rfl) v1).setCell (p := ⟨b, 2, none⟩) (fun _ => rfl) v2).setCell (p := ⟨b, 3, none⟩) (fun _ => rfl) v3).setCell (p := ⟨b, 4, none⟩) (fun _ => rfl) v4
  refine ⟨hf.after hs (fun i hi e => by subst e; omega), ?_, hs⟩
  rw [h4]
  simp
abbrev zt : Array Value := #[.int .u32 0, .slice none 0 0, .slice none 0 0, .int .i64 0, .int .i64 0]
/-- The closure's memory, ahead of it. -/
theorem ahead (w : World) (g : Geo) (A : Option Addr) (n c : Nat) (w3 : World) (hw3 : w3 = (((w.alloc (.cells #[.int .i64 g.c, .int .i64 g.b, .int .i64 g.p, .int .i64 g.s] 24)).alloc (.cells zt TT)).alloc (.cells zt TT)).alloc (.cells #[.bool false] 4)) :
    In TT ((w3.alloc (.cells #[.int .i64 0] 27)).alloc (.cells #[.slice A n c, .int .i64 0] 196)) ((w3.alloc (.cells #[.int .i64 0] 27)).alloc (.cells #[.slice A n c, .int .i64 0] 196)) (w3.heap.size + 1) (w.heap.size + 1 + 1) (w.heap.size + 1 + 1 + 1) A n c 0 zt false ∧
    w3.heap.size = w.heap.size + 4 ∧ Fr None_ w w3 ∧ w3.heap[w.heap.size + 1]? = some (.cells zt TT (0, 0)) ∧ w3.heap[w.heap.size]? = some (.cells #[.int .i64 g.c, .int .i64 g.b, .int .i64 g.p, .int .i64 g.s] 24 (0, 0)) := by
  have s1 : (w.alloc (.cells #[.int .i64 g.c, .int .i64 g.b, .int .i64 g.p, .int .i64 g.s] 24)).heap.size = w.heap.size + 1 := size_new _ rfl
  have s2 := size_new (.cells zt TT) s1
  have s3 := size_new (.cells zt TT) s2
  have s4 := size_new (.cells #[.bool false] 4) s3
  have hg := at_old (.cells #[.bool false] 4) (at_old (.cells zt TT) (at_old (.cells zt TT) (heap_alloc_new w (.cells #[.int .i64 g.c, .int .i64 g.b, .int .i64 g.p, .int .i64 g.s] 24))))
  have h0 := at_old (.cells #[.bool false] 4) (at_old (.cells zt TT) (at_new (.cells zt TT) s1))
  have h1 := at_old (.cells #[.bool false] 4) (at_new (.cells zt TT) s2)
  have h2 := at_new (.cells #[.bool false] 4) s3
  rw [← hw3] at s4 hg h0 h1 h2
  refine ⟨⟨Fr.refl _ _, ?_, at_old _ (at_old _ h1), at_old _ (at_old _ h2), ⟨by decide, by decide, by decide⟩⟩, s4, ?_, h0, hg⟩
  · exact at_new _ (size_new _ rfl)
  · rw [hw3]
    exact ((((Fr.refl None_ w).alloc _).alloc _).alloc _).alloc _
/-- Behind Read. -/
theorem behind {w wE w1 w4 : World} {T : TypeId} {e0 p pb zb : Nat} {A : Option Addr} {n c : Nat} {i : Int} {cs : Array Value} {z : Bool} (hfE : Fr None_ w wE) (h : In T wE w1 p pb zb A n c i cs z) (hp : w.heap.size + 1 < p) (hpb : w.heap.size + 1 < pb) (hzb : w.heap.size + 1 < zb) (he : w.heap.size + 1 < e0)
    (hne : e0 ≠ pb ∧ e0 ≠ zb) (hf : Fr (fun b => b = e0) w1 w4) :
    Fr None_ w w4 ∧ w4.heap[pb]? = some (.cells cs T (0, 0)) ∧ w4.heap[zb]? = some (.cells #[.bool z] 4 (0, 0)) ∧ ∀ b o, b ≤ w.heap.size + 1 → wE.heap[b]? = some o → w4.heap[b]? = some o :=
  ⟨(hfE.after h.fr (fun b hb hh => by rcases hh with rfl | rfl | rfl <;> omega)).after hf (fun b hb hh => by subst hh; omega), hf.heap h.pt (fun e => hne.1 e.symm), hf.heap h.z (fun e => hne.2 e.symm),
    fun b o hb h0 => hf.heap (h.fr.heap h0 (fun hh => by rcases hh with hh | hh | hh <;> omega)) (fun e => by omega)⟩

set_option maxHeartbeats 4000000 in
set_option maxRecDepth 100000 in
theorem Decode_calls (A : Option Addr) (n c : Nat) (bs : List Int) (t : Tab) (g : Geo) (w : World) (hA : Rd .u8 w A n bs) (hr : InR 256 bs) (hc : n ≤ c) (hn : n ≤ 1000000) (hd : DecIs bs t) (hg : g.Ok) (ht : t.Ok g) :
    Calls Tryz.prog 118 #[.slice A n c, g.val] w fun e w' => ∃ v, e = .returned (.tuple #[v, .int .i64 0]) ∧ TabR w' w.heap.size v t ∧ Fr None_ w w' := by
  have hmf : ∀ (fn : Fn) (first cap : Array Value) (w : World), (Instr.makeFunc fn first cap).run Tryz.prog w = .ok (.func fn first cap) w := fun _ _ _ _ => rfl
  have hEC : ∀ args w, Sem.run Tryz.prog (callFunc 123 args) w = .ok (.enter 123 args) w := fun _ _ => rfl
  obtain ⟨w3, hw3⟩ : ∃ w3, w3 = (((w.alloc (.cells #[.int .i64 g.c, .int .i64 g.b, .int .i64 g.p, .int .i64 g.s] 24)).alloc (.cells zt TT)).alloc (.cells zt TT)).alloc (.cells #[.bool false] 4) := ⟨_, rfl⟩
  obtain ⟨hIn, hz3, hf3, h03, hg3⟩ := ahead w g A n c w3 hw3
  have hlt := hA.lt
  have hfE : Fr None_ w ((w3.alloc (.cells #[.int .i64 0] 27)).alloc (.cells #[.slice A n c, .int .i64 0] 196)) := (hf3.alloc _).alloc _
  have hAE := hA.none_ hfE
  have hSE : ∀ ad, A = some ad → 0 < n → ¬ (ad.block = w3.heap.size + 1 ∨ ad.block = w.heap.size + 1 + 1 ∨ ad.block = w.heap.size + 1 + 1 + 1) := fun ad e hp h => by
    have := hlt ad e hp
    omega
  have hEr : ((w3.alloc (.cells #[.int .i64 0] 27)).alloc (.cells #[.slice A n c, .int .i64 0] 196)).heap[w3.heap.size]? = some (.cells #[.int .i64 0] 27 (0, 0)) := at_old _ (heap_alloc_new w3 _)
  have hzE : w.heap.size ≤ ((w3.alloc (.cells #[.int .i64 0] 27)).alloc (.cells #[.slice A n c, .int .i64 0] 196)).heap.size := hfE.size
  have h0E := at_old (.cells #[.slice A n c, .int .i64 0] 196) (at_old (.cells #[.int .i64 0] 27) h03)
  have hgE := at_old (.cells #[.slice A n c, .int .i64 0] 196) (at_old (.cells #[.int .i64 0] 27) hg3)
  have hby := by_ok (w3.heap.size + 1) (w.heap.size + 1 + 1) (w.heap.size + 1 + 1 + 1) A n c t.place.length t.spare.length bs _ hIn hAE hr hc hSE hd.n hd.m (by rw [← hA.1]; exact hd.len) hn
  have hRO := Read.Read_ok 123 #[.pointer (some ⟨w.heap.size + 1 + 1, 0, none⟩), .pointer (some ⟨w.heap.size + 1 + 1 + 1, 0, none⟩)] A n c w3
    (fun w1 => ∃ v1 v2, (∀ w4, Fr (fun b => b = w3.heap.size) w1 w4 → Fr None_ w w4 ∧ w4.heap[w.heap.size + 1 + 1]? = some (.cells #[.int .u32 t.seq, v1, v2, .int .i64 t.t0, .int .i64 t.t1] TT (0, 0)) ∧ w4.heap[w.heap.size + 1 + 1 + 1]? = some (.cells #[.bool true] 4 (0, 0)) ∧ w4.heap[w.heap.size + 1]? = some (.cells zt TT (0, 0)) ∧ w4.heap[w.heap.size]? = some (.cells #[.int .i64 g.c, .int .i64 g.b, .int .i64 g.p, .int .i64 g.s] 24 (0, 0)) ∧
      Row 3 .i64 w4 w.heap.size v1 t.place ∧ Row 3 .i64 w4 w.heap.size v2 t.spare))
    hEC (hby.mono fun e w1 h => by
      obtain ⟨he, v1, v2, i, h1, h2, h3⟩ := h
      rw [hd.seq, hd.t0, hd.t1, hd.zero] at h1
      rw [hd.place] at h2
      rw [hd.spare] at h3
      have hEr1 := h1.fr.heap hEr (fun hh => by rcases hh with hh | hh | hh <;> omega)
      refine ⟨he, ⟨v1, v2, fun w4 hf => ?_⟩, hEr1⟩
      obtain ⟨b1, b2, b3, b4⟩ := behind hfE h1 (by omega) (by omega) (by omega) (show w.heap.size + 1 < w3.heap.size by omega) ⟨by omega, by omega⟩ hf
      exact ⟨b1, b2, b3, b4 _ _ (Nat.le_refl _) h0E, b4 _ _ (by omega) hgE, (h2.fr hf (fun b hb hh => by subst hh; exact Row.ne h2 hEr1 (by decide) hb)).lower hzE, (h3.fr hf (fun b hb hh => by subst hh; exact Row.ne h3 hEr1 (by decide) hb)).lower hzE⟩)
  have HRO := As.mk hRO
  have HCK := As.mk (fun (w' : World) (v1 v2 : Value) (h1 : Row 3 .i64 w' w.heap.size v1 t.place) (h2 : Row 3 .i64 w' w.heap.size v2 t.spare) => RemapB.Check_calls t g _ w' hg ht (TabR.tabV ⟨v1, v2, rfl, h1, h2⟩))
  clear hRO hby hIn hAE hSE hA hr hlt hfE h0E h03 hEr hf3 hgE hg3 hd
  unfold Geo.val at HCK ⊢
  go_enter Tryz.func118, Tryz.ntmps118
  go_upto_region 4 with fail
  rw [← hw3]
  ((with_reducible refine (HRO.out).mono ?_); rintro e w5 ⟨rfl, w1, ⟨v1, v2, h1⟩, rfl⟩)
  obtain ⟨b1, b2, b3, b4, b5, b6, b7⟩ := h1 (w1.setCell ⟨w3.heap.size, 0, none⟩ (.int .i64 0)) ((Fr.refl (fun b => b = w3.heap.size) w1).setCell (p := ⟨w3.heap.size, 0, none⟩) (fun _ => rfl) _)
  generalize w1.setCell ⟨w3.heap.size, 0, none⟩ (.int .i64 0) = w5 at *
  have HCK5 := As.mk (HCK.out w5 v1 v2 b6 b7)
  obtain ⟨A1, n1, c1, e1, _, _, _⟩ := b6.rd
  subst e1
  obtain ⟨A2, n2, c2, e2, _, _, _⟩ := b7.rd
  subst e2
  have B1 := As.mk b1
  have B2 := As.mk b2
  have B4 := As.mk b4
  have B6 := As.mk b6
  have B7 := As.mk b7
  have z0 := cell_of b3
  have p0 := cell_is (i := 0) b2 rfl
  have p1 := cell_is (i := 1) b2 rfl
  have p2 := cell_is (i := 2) b2 rfl
  have p3 := cell_is (i := 3) b2 rfl
  have p4 := cell_is (i := 4) b2 rfl
  have g0 := cell_is (i := 0) b5 rfl
  have g1 := cell_is (i := 1) b5 rfl
  have g2 := cell_is (i := 2) b5 rfl
  have g3 := cell_is (i := 3) b5 rfl
  clear b1 b2 b3 b4 b5 b6 b7 h1 hw3 HRO HCK
  go_wp2_with fail
  ((with_reducible refine (HCK5.out).mono ?_); rintro e w6 ⟨rfl, hf6⟩)
  have B14 := hf6.heap B4.out (fun h => h)
  have B12 := hf6.heap B2.out (fun h => h)
  have R1 := As.mk (B6.out.none_ hf6)
  have R2 := As.mk (B7.out.none_ hf6)
  have HF6 := As.mk (B1.out.after hf6 (fun _ _ h => h))
  have HB6 := As.mk B14
  clear z0 p0 p1 p2 p3 p4 g0 g1 g2 g3 hf6 HCK5
  have p0 := cell_is (i := 0) B12 rfl
  have p1 := cell_is (i := 1) B12 rfl
  have p2 := cell_is (i := 2) B12 rfl
  have p3 := cell_is (i := 3) B12 rfl
  have p4 := cell_is (i := 4) B12 rfl
  have r0 := cell_is (i := 0) B14 rfl
  have r1 := cell_is (i := 1) B14 rfl
  have r2 := cell_is (i := 2) B14 rfl
  have r3 := cell_is (i := 3) B14 rfl
  have r4 := cell_is (i := 4) B14 rfl
  have f0 := free_of (i := 0) B14
  have f1 := free_of (i := 1) B14
  have f2 := free_of (i := 2) B14
  have f3 := free_of (i := 3) B14
  have f4 := free_of (i := 4) B14
  clear B12 B14
  go_wp2_with fail
  obtain ⟨s1, s2, s3⟩ := set5 HF6.out (by omega) HB6.out (.int .u32 t.seq) (.slice A1 n1 c1) (.slice A2 n2 c2) (.int .i64 t.t0) (.int .i64 t.t1)
  have t1 := R1.out.fr s3 (fun b hb e => by subst e; exact Row.ne R1.out HB6.out (by decide) hb)
  have t2 := R2.out.fr s3 (fun b hb e => by subst e; exact Row.ne R2.out HB6.out (by decide) hb)
  clear r0 r1 r2 r3 r4 f0 f1 f2 f3 f4 p0 p1 p2 p3 p4
  generalize ((((w6.setCell ⟨w.heap.size + 1, 0, none⟩ (.int .u32 t.seq)).setCell ⟨w.heap.size + 1, 1, none⟩ (.slice A1 n1 c1)).setCell ⟨w.heap.size + 1, 2, none⟩ (.slice A2 n2 c2)).setCell ⟨w.heap.size + 1, 3, none⟩ (.int .i64 t.t0)).setCell ⟨w.heap.size + 1, 4, none⟩ (.int .i64 t.t1) = wf at *
  have r0 := cell_is (i := 0) s2 rfl
  have r1 := cell_is (i := 1) s2 rfl
  have r2 := cell_is (i := 2) s2 rfl
  have r3 := cell_is (i := 3) s2 rfl
  have r4 := cell_is (i := 4) s2 rfl
  exact bodyPost_ret (v := .tuple #[.agg #[.int .u32 t.seq, .slice A1 n1 c1, .slice A2 n2 c2, .int .i64 t.t0, .int .i64 t.t1], .int .i64 0]) (by simp [results, Tryz.results118, go_sem, r0, r1, r2, r3, r4]) rfl ⟨_, rfl, ⟨_, _, rfl, t1, t2⟩, s1⟩
end Go.Proofs.YteofgpaceeibpaaGreat.RemapF
namespace Go.Proofs.YteofgpaceeibpaaGreat.MemC
open Go.RowKit Gab Wr Geom Ref Heap MemA MemB
open RemapF (set5)
set_option linter.unusedVariables false
set_option linter.unusedSimpArgs false

abbrev ST : TypeId := 40
abbrev zs : Array Value := #[.int .u32 0, .slice none 0 0, .int .i64 0, .int .i64 0, .int .i64 0]
/-- A set whose chips' row is one's own. -/
def MSR (w : World) (base : Nat) (v : Value) (m : MS) : Prop := ∃ v1, v = .agg #[.int .u32 m.seq, v1, .int .i64 m.spare, .int .i64 m.dead, .int .i64 m.done] ∧ Row 3 .i64 w base v1 m.chips
theorem MSR.none_ {w w' : World} {base : Nat} {v : Value} {m : MS} (h : MSR w base v m) (hf : Fr None_ w w') : MSR w' base v m := by
  obtain ⟨v1, e, h1⟩ := h
  exact ⟨v1, e, h1.none_ hf⟩
theorem MSR.lower {w : World} {base base' : Nat} {v : Value} {m : MS} (h : MSR w base v m) (hb : base' ≤ base) : MSR w base' v m := by
  obtain ⟨v1, e, h1⟩ := h
  exact ⟨v1, e, h1.lower hb⟩
theorem MSR.msv {w : World} {base : Nat} {v : Value} {m : MS} (h : MSR w base v m) : MSV w v m := by
  obtain ⟨v1, e, h1⟩ := h
  obtain ⟨A, n, c, e1, l, r, _⟩ := h1.rd
  subst e1
  exact ⟨A, n, c, e, l.out, r.out⟩
/-- The set of a new array. -/
def first (g : Geo) : MS := ⟨1, (List.range g.c.toNat).map Int.ofNat, g.c, 255, 0⟩

set_option maxHeartbeats 1000000 in
set_option maxRecDepth 100000 in
theorem Full_calls (v : Value) (m : MS) (w : World) (hv : MSV w v m) : Calls Tryz.prog 14 #[v] w fun e w' => e = .returned (.bool (m.dead == 255)) ∧ Fr None_ w w' := by
  obtain ⟨A, n, c, rfl, _, _⟩ := hv
  go_enter Tryz.func14, Tryz.ntmps14
  go_wp2
  go_ret
  exact ⟨rfl, (Fr.refl None_ w).alloc _⟩

set_option maxHeartbeats 4000000 in
set_option maxRecDepth 100000 in
theorem First_calls (g : Geo) (w : World) (hg : g.Ok) : Calls Tryz.prog 32 #[g.val] w fun e w' => ∃ v, e = .returned v ∧ MSR w' w.heap.size v (first g) ∧ Fr None_ w w' := by
  have hc := hg.c
  obtain ⟨nc, hnc⟩ := Int.eq_ofNat_of_zero_le (show 0 ≤ g.c by omega)
  have HNC := As.mk hnc
  have hfg := (Fr.refl None_ w).alloc (.cells #[.int .i64 g.c, .int .i64 g.b, .int .i64 g.p, .int .i64 g.s] 24)
  have hz1 : (w.alloc (.cells #[.int .i64 g.c, .int .i64 g.b, .int .i64 g.p, .int .i64 g.s] 24)).heap.size = w.heap.size + 1 := size_new _ rfl
  have HG1 := As.mk (heap_alloc_new w (.cells #[.int .i64 g.c, .int .i64 g.b, .int .i64 g.p, .int .i64 g.s] 24))
  clear hnc
  unfold Geo.val
  go_enter Tryz.func32, Tryz.ntmps32
  have hfa := ((hfg.alloc (.cells zs ST)).alloc (.cells #[.int .u32 1, .slice none 0 0, .int .i64 g.c, .int .i64 255, .int .i64 0] ST))
  have hz2 : ((w.alloc (.cells #[.int .i64 g.c, .int .i64 g.b, .int .i64 g.p, .int .i64 g.s] 24)).alloc (.cells zs ST)).heap.size = w.heap.size + 1 + 1 := size_new _ hz1
  have HZ := As.mk (at_old (.cells #[.int .u32 1, .slice none 0 0, .int .i64 g.c, .int .i64 255, .int .i64 0] ST) (at_new (.cells zs ST) hz1))
  have HS := As.mk (at_new (.cells #[.int .u32 1, .slice none 0 0, .int .i64 g.c, .int .i64 255, .int .i64 0] ST) hz2)
  have HF := As.mk hfa
  clear hfa hfg hz2
  go_wp2_with fail
  generalize ((w.alloc (.cells #[.int .i64 g.c, .int .i64 g.b, .int .i64 g.p, .int .i64 g.s] 24)).alloc (.cells zs ST)).alloc (.cells #[.int .u32 1, .slice none 0 0, .int .i64 g.c, .int .i64 255, .int .i64 0] ST) = w1 at *
  go_loopw [11] (fun v11 w' => ∃ (i : Nat) (v : Value), v11 = .int .i64 (i : Int) ∧ i ≤ nc ∧ As (Fr None_ w w') ∧ As (w'.heap[w.heap.size + 1]? = some (.cells zs ST (0, 0))) ∧ As (w'.heap[w.heap.size + 1 + 1]? = some (.cells #[.int .u32 1, v, .int .i64 g.c, .int .i64 255, .int .i64 0] ST (0, 0))) ∧ As (Row 3 .i64 w' w.heap.size v ((List.range i).map Int.ofNat))) (fun v11 _ => nc - (intOf v11).toNat)
  case atStart => exact ⟨0, _, rfl, Nat.zero_le _, HF, HZ, HS, ⟨Row.nil _ _ _ _⟩⟩
  case round =>
    obtain ⟨i, v, rfl, hi, HFi, HZi, HSi, HRi⟩ := hrel
    obtain ⟨A1, n1, c1, e1, _, hd1, _⟩ := HRi.out.rd
    subst e1
    have hn1 : n1 = i := by rw [← hd1.out.1]; simp
    subst hn1
    clear hd1
    by_cases hlt : n1 < nc
    · have hltI : (n1 : Int) < g.c := by have := HNC.out; omega
      have s1 := cell_is (v := .slice A1 n1 c1) (i := 1) HSi.out rfl
      have hzw := HFi.out.size
      go_wp2_with (at_builtin; (with_reducible refine append1 w.heap.size rfl _ _ 38 3 .i64 8 rfl Tryz.underlying38 infoIn (by decide) (.slice A1 n1 c1) ((List.range n1).map Int.ofNat) _ rfl rfl HRi.out ?k0 ?k1 ?_); (case k0 => exact hzw); (case k1 => simp; omega); intro v2 w2 hrow2 hfr2 hat2; have HR2 := As.mk hrow2; have HF2 := As.mk hfr2; have hs2 := hfr2.heap HSi.out (Row.ne HRi.out HSi.out (by decide)); have HS2 := As.mk hs2; have k1 := cell_is (v := .slice A1 n1 c1) (i := 1) hs2 rfl; have f1 := free_of (i := 1) hs2; clear hrow2 hfr2 hat2 hs2; obtain ⟨A2, n2, c2, e2, _, _, _⟩ := HR2.out.rd; subst e2)
      have hs3 := heap_set HS2.out 1 (.slice A2 n2 c2)
      have hf3 := fr_set1 (w' := w2) (b := w.heap.size + 1 + 1) (i := 1) (.slice A2 n2 c2)
      refine ⟨⟨n1 + 1, _, rfl, by omega, ⟨(HFi.out.after HF2.out (fun b hb hs => absurd hb (by have := (HRi.out.blk b hs).1; omega))).after hf3 (fun b hb e => by omega)⟩, ⟨hf3.heap (HF2.out.heap HZi.out (Row.ne HRi.out HZi.out (by decide))) (by omega)⟩, ⟨by rw [hs3]; rfl⟩, ⟨?_⟩⟩, by simp [intOf]; omega⟩
      rw [List.range_succ, List.map_append]
      exact HR2.out.fr hf3 (fun b hb e => by subst e; exact Row.ne HR2.out HS2.out (by decide) hb)
    · have hltI : ¬ (n1 : Int) < g.c := by have := HNC.out; omega
      have HNN := As.mk (show n1 = g.c.toNat from by have := HNC.out; omega)
      have s0 := cell_is (v := .int .u32 1) (i := 0) HSi.out rfl
      have s1 := cell_is (v := .slice A1 n1 c1) (i := 1) HSi.out rfl
      have s2 := cell_is (v := .int .i64 g.c) (i := 2) HSi.out rfl
      have s3 := cell_is (v := .int .i64 255) (i := 3) HSi.out rfl
      have s4 := cell_is (v := .int .i64 0) (i := 4) HSi.out rfl
      have r0 := cell_is (v := .int .u32 0) (i := 0) HZi.out rfl
      have r1 := cell_is (v := .slice none 0 0) (i := 1) HZi.out rfl
      have r2 := cell_is (v := .int .i64 0) (i := 2) HZi.out rfl
      have r3 := cell_is (v := .int .i64 0) (i := 3) HZi.out rfl
      have r4 := cell_is (v := .int .i64 0) (i := 4) HZi.out rfl
      have f0 := free_of (i := 0) HZi.out
      have f1 := free_of (i := 1) HZi.out
      have f2 := free_of (i := 2) HZi.out
      have f3 := free_of (i := 3) HZi.out
      have f4 := free_of (i := 4) HZi.out
      go_wp2_with fail
      obtain ⟨t1, t2, t3⟩ := set5 HFi.out (Nat.le_succ _) HZi.out (.int .u32 1) (.slice A1 n1 c1) (.int .i64 g.c) (.int .i64 255) (.int .i64 0)
      have hrw := HRi.out.fr t3 (fun b hb e => by subst e; exact Row.ne HRi.out HZi.out (by decide) hb)
      clear r0 r1 r2 r3 r4 f0 f1 f2 f3 f4 s0 s1 s2 s3 s4
      generalize ((((wr.setCell ⟨w.heap.size + 1, 0, none⟩ (.int .u32 1)).setCell ⟨w.heap.size + 1, 1, none⟩ (.slice A1 n1 c1)).setCell ⟨w.heap.size + 1, 2, none⟩ (.int .i64 g.c)).setCell ⟨w.heap.size + 1, 3, none⟩ (.int .i64 255)).setCell ⟨w.heap.size + 1, 4, none⟩ (.int .i64 0) = wf at *
      have r0 := cell_is (i := 0) t2 rfl
      have r1 := cell_is (i := 1) t2 rfl
      have r2 := cell_is (i := 2) t2 rfl
      have r3 := cell_is (i := 3) t2 rfl
      have r4 := cell_is (i := 4) t2 rfl
      exact bodyPost_ret (v := .agg #[.int .u32 1, .slice A1 n1 c1, .int .i64 g.c, .int .i64 255, .int .i64 0]) (by simp [results, Tryz.results32, go_sem, r0, r1, r2, r3, r4]) rfl ⟨_, rfl, ⟨_, rfl, by unfold first; rw [← HNN.out]; exact hrw⟩, t1⟩
end Go.Proofs.YteofgpaceeibpaaGreat.MemC
namespace Go.Proofs.YteofgpaceeibpaaGreat.MemD
open Go.RowKit Gab Wr Geom Ref Heap MemA MemB MemC
open RemapF (set5)
set_option linter.unusedVariables false
set_option linter.unusedSimpArgs false

/-- Cells that are sets. -/
structure Sts (w : World) (base gb n : Nat) (ms : List MS) : Prop where
  len : ms.length = n
  at_ : ∀ j m, ms[j]? = some m → ∃ v1, w.cell? ⟨gb, j * 5, none⟩ = some (.int .u32 m.seq) ∧ w.cell? ⟨gb, j * 5 + 1, none⟩ = some v1 ∧ w.cell? ⟨gb, j * 5 + 2, none⟩ = some (.int .i64 m.spare) ∧ w.cell? ⟨gb, j * 5 + 3, none⟩ = some (.int .i64 m.dead) ∧ w.cell? ⟨gb, j * 5 + 4, none⟩ = some (.int .i64 m.done) ∧ Row 3 .i64 w base v1 m.chips
theorem Sts.none_ {w w' : World} {base gb n : Nat} {ms : List MS} (h : Sts w base gb n ms) (hf : Fr None_ w w') : Sts w' base gb n ms :=
  ⟨h.len, fun j m e => by
    obtain ⟨v1, h0, h1, h2, h3, h4, h5⟩ := h.at_ j m e
    exact ⟨v1, hf.cell h0 (fun h => h), hf.cell h1 (fun h => h), hf.cell h2 (fun h => h), hf.cell h3 (fun h => h), hf.cell h4 (fun h => h), h5.none_ hf⟩⟩
/-- The newer one. -/
def pickN (o : Option MS) (m : MS) : Option MS := match o with
  | none => some m
  | some u => if u.seq < m.seq then some m else some u
def newest (ms : List MS) : Option MS := ms.foldl pickN none
/-- What the block of the newest so far holds. -/
def OutIs (w : World) (base ob : Nat) : Option MS → Prop
  | none => w.heap[ob]? = some (.cells zs ST (0, 0))
  | some u => ∃ v1, w.heap[ob]? = some (.cells #[.int .u32 u.seq, v1, .int .i64 u.spare, .int .i64 u.dead, .int .i64 u.done] ST (0, 0)) ∧ Row 3 .i64 w base v1 u.chips
def NewPost (ms : List MS) (base : Nat) (w : World) (e : Ending) (w' : World) : Prop := ∃ v, e = .returned (.tuple #[v, .bool (newest ms).isSome]) ∧ Fr None_ w w' ∧ match newest ms with
  | none => v = .agg zs
  | some u => MSR w' base v u
end Go.Proofs.YteofgpaceeibpaaGreat.MemD

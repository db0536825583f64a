/- array: an array in memory; Geo, Lost, Ahead, Set. | array: Set, in, gone, died. | array: gone, died. | array: Read. | array: stand, Program. | array: what stays (plain); Erase. | array: save. -/
import Derived.Test.YteofgpaceeibpaaGreatVolG
import Derived.Test.YteofgpaceeibpaaGreatPartMem
namespace Go.Proofs.YteofgpaceeibpaaGreat.ArrA
open Go.RowKit Go.Proofs.YteofgpaceeibpaaGreat.Gab Go.Proofs.YteofgpaceeibpaaGreat.Wr Go.Proofs.YteofgpaceeibpaaGreat.Geom Go.Proofs.YteofgpaceeibpaaGreat.Ref Go.Proofs.YteofgpaceeibpaaGreat.Nand Go.Proofs.YteofgpaceeibpaaGreat.NandA Go.Proofs.YteofgpaceeibpaaGreat.NandB Go.Proofs.YteofgpaceeibpaaGreat.NandC Go.Proofs.YteofgpaceeibpaaGreat.NandD Go.Proofs.YteofgpaceeibpaaGreat.NandE Go.Proofs.YteofgpaceeibpaaGreat.NandH Go.Proofs.YteofgpaceeibpaaGreat.RemapA Go.Proofs.YteofgpaceeibpaaGreat.RemapB Go.Proofs.YteofgpaceeibpaaGreat.VolA Go.Proofs.YteofgpaceeibpaaGreat.VolD Go.Proofs.YteofgpaceeibpaaGreat.VolE Go.Proofs.YteofgpaceeibpaaGreat.VolF Go.Proofs.YteofgpaceeibpaaGreat.MemA Go.Proofs.YteofgpaceeibpaaGreat.MemC
open Go.Proofs.YteofgpaceeibpaaGreat.Heap (cell_is heap_set fr_set1)
open Go.Proofs.YteofgpaceeibpaaGreat.RemapF (set5)
set_option linter.unusedVariables false
set_option linter.unusedSimpArgs false

/-- An array. -/
structure Ar where
  s : St
  vol : Nat → Option Tab
  set : MS
  lost : Bool
def Ar.g (σ : Ar) : Geo := σ.s.g
/-- The chip of a member. -/
def Ar.chip (σ : Ar) (m : Nat) : Nat := (σ.set.chips.getD m 0).toNat
/-- A good array. -/
structure Ar.Ok (σ : Ar) : Prop where
  set : σ.set.Ok σ.s.g
  more : ∀ c t, c < σ.s.n → σ.vol c = some t → t.Ok σ.s.g
/-- Members that are not dead are there. -/
def Ar.There (σ : Ar) : Prop := σ.lost = false → ∀ m : Nat, (m : Int) < σ.s.g.c → (m : Int) ≠ σ.set.dead → ∃ t, σ.vol (σ.chip m) = some t
/-- Where it lies. -/
structure ALay where
  L : Lay
  p : Nat
  x : Nat
  V : Nat
  cb : Nat
  cc : Nat
  v : Nat → VLay
abbrev AT : TypeId := 94
abbrev PV : TypeId := 95
def vptr (σ : Ar) (K : ALay) (c : Nat) : Value := match σ.vol c with
  | none => .pointer none
  | some _ => .pointer (some ⟨(K.v c).vb, 0, none⟩)
/-- A volume's lists do not lie there. -/
def VOff (v : VLay) (b : Nat) : Prop := (∀ ad, v.A1 = some ad → ad.block ≠ b) ∧ (∀ ad, v.A2 = some ad → ad.block ≠ b)
def acells (σ : Ar) (K : ALay) : Array Value := #[.pointer (some ⟨K.p, 0, none⟩), .int .i64 σ.s.g.c, .int .i64 σ.s.g.b, .int .i64 σ.s.g.p, .int .i64 σ.s.g.s, .slice (some ⟨K.V, 0, none⟩) σ.s.n σ.s.n, .int .u32 σ.set.seq, .slice (some ⟨K.cb, 0, none⟩) σ.s.g.c.toNat K.cc, .int .i64 σ.set.spare, .int .i64 σ.set.dead, .int .i64 σ.set.done, .bool σ.lost]
/-- An array in memory. -/
structure ArAt (w : World) (σ : Ar) (K : ALay) : Prop where
  nand : Nand w K.p σ.s K.L
  main : w.heap[K.x]? = some (.cells (acells σ K) AT (0, 0))
  ccn : σ.s.g.c.toNat ≤ K.cc
  vols : ∃ cs, w.heap[K.V]? = some (.cells cs PV (0, 0)) ∧ ∀ c, c < σ.s.n → cs[c]? = some (vptr σ K c)
  vol : ∀ c t, c < σ.s.n → σ.vol c = some t → VolAt w K.p c σ.s.g t (K.v c) ∧ VOff (K.v c) K.cb
  chips : ∃ cs, w.heap[K.cb]? = some (.cells cs 3 (0, 0)) ∧ ∀ j, j < σ.s.g.c.toNat → cs[j]? = some (.int .i64 (σ.set.chips.getD j 0))
  ok : σ.Ok
/-- The blocks that an operation may write. -/
def AF (K : ALay) (σ : Ar) (b : Nat) : Prop := NF K.p K.L σ.s.n σ.s.nb b ∨ b = K.x ∨ b = K.V
theorem ArAt.none_ {w w' : World} {σ : Ar} {K : ALay} (h : ArAt w σ K) (hf : Fr None_ w w') : ArAt w' σ K :=
  ⟨h.nand.none_ hf, hf.heap h.main (fun h => h), h.ccn, by obtain ⟨cs, e, hc⟩ := h.vols; exact ⟨cs, hf.heap e (fun h => h), hc⟩, fun c t hc e => ⟨(h.vol c t hc e).1.none_ hf, (h.vol c t hc e).2⟩, by obtain ⟨cs, e, hc⟩ := h.chips; exact ⟨cs, hf.heap e (fun h => h), hc⟩, h.ok⟩
/-- The chips have turned, nothing else. -/
theorem ArAt.turn {w w' : World} {σ : Ar} {K : ALay} (h : ArAt w σ K) {s' : St} (hN : Nand w' K.p s' K.L) (hg : s'.g = σ.s.g) (hf : Fr (NF K.p K.L σ.s.n σ.s.nb) w w') : ArAt w' { σ with s := s' } K := by
  have hn : s'.n = σ.s.n := (n_same hg).1
  refine ⟨hN, ?_, ?_, ?_, ?_, ?_, ?_⟩
  · show w'.heap[K.x]? = some (.cells #[.pointer (some ⟨K.p, 0, none⟩), .int .i64 s'.g.c, .int .i64 s'.g.b, .int .i64 s'.g.p, .int .i64 s'.g.s, .slice (some ⟨K.V, 0, none⟩) s'.n s'.n, .int .u32 σ.set.seq, .slice (some ⟨K.cb, 0, none⟩) s'.g.c.toNat K.cc, .int .i64 σ.set.spare, .int .i64 σ.set.dead, .int .i64 σ.set.done, .bool σ.lost] AT (0, 0))
    rw [hg, hn]
    exact hf.heap h.main (h.nand.ne h.main ⟨by decide, by decide, by decide, by decide, by decide⟩)
  · show s'.g.c.toNat ≤ K.cc
    rw [hg]
    exact h.ccn
  · obtain ⟨cs, e, hc⟩ := h.vols
    refine ⟨cs, hf.heap e (h.nand.ne e ⟨by decide, by decide, by decide, by decide, by decide⟩), fun c hcn => ?_⟩
    exact hc c (by rw [← hn]; exact hcn)
  · intro c t hc e
    have h1 := h.vol c t (by rw [← hn]; exact hc) e
    refine ⟨?_, h1.2⟩
    show VolAt w' K.p c s'.g t (K.v c)
    rw [hg]
    exact h1.1.nf h.nand hf
  · obtain ⟨cs, e, hc⟩ := h.chips
    refine ⟨cs, hf.heap e (h.nand.ne e ⟨by decide, by decide, by decide, by decide, by decide⟩), fun j hj => ?_⟩
    exact hc j (by rw [← hg]; exact hj)
  · exact ⟨by show σ.set.Ok s'.g; rw [hg]; exact h.ok.set, fun c t hc e => by show t.Ok s'.g; rw [hg]; exact h.ok.more c t (by rw [← hn]; exact hc) e⟩
/-- Its cells. -/
def ACs (w : World) (σ : Ar) (K : ALay) : Prop :=
  w.cell? ⟨K.x, 0, none⟩ = some (.pointer (some ⟨K.p, 0, none⟩)) ∧ w.cell? ⟨K.x, 1, none⟩ = some (.int .i64 σ.s.g.c) ∧ w.cell? ⟨K.x, 2, none⟩ = some (.int .i64 σ.s.g.b) ∧ w.cell? ⟨K.x, 3, none⟩ = some (.int .i64 σ.s.g.p) ∧ w.cell? ⟨K.x, 4, none⟩ = some (.int .i64 σ.s.g.s) ∧ w.cell? ⟨K.x, 5, none⟩ = some (.slice (some ⟨K.V, 0, none⟩) σ.s.n σ.s.n) ∧
  w.cell? ⟨K.x, 6, none⟩ = some (.int .u32 σ.set.seq) ∧ w.cell? ⟨K.x, 7, none⟩ = some (.slice (some ⟨K.cb, 0, none⟩) σ.s.g.c.toNat K.cc) ∧ w.cell? ⟨K.x, 8, none⟩ = some (.int .i64 σ.set.spare) ∧ w.cell? ⟨K.x, 9, none⟩ = some (.int .i64 σ.set.dead) ∧ w.cell? ⟨K.x, 10, none⟩ = some (.int .i64 σ.set.done) ∧ w.cell? ⟨K.x, 11, none⟩ = some (.bool σ.lost)
theorem ArAt.cs {w : World} {σ : Ar} {K : ALay} (h : ArAt w σ K) : ACs w σ K := by
  have hm := h.main
  unfold acells at hm
  exact ⟨cell_is hm rfl, cell_is hm rfl, cell_is hm rfl, cell_is hm rfl, cell_is hm rfl, cell_is hm rfl, cell_is hm rfl, cell_is hm rfl, cell_is hm rfl, cell_is hm rfl, cell_is hm rfl, cell_is hm rfl⟩
/-- The chips as they are read. -/
theorem ArAt.rd {w : World} {σ : Ar} {K : ALay} (h : ArAt w σ K) : Rd .i64 w (some ⟨K.cb, 0, none⟩) σ.s.g.c.toNat σ.set.chips := by
  obtain ⟨cs, e, hc⟩ := h.chips
  have hl := h.ok.set.len
  have hg := h.nand.ok.c
  refine ⟨by omega, by omega, fun _ => ⟨_, rfl, fun j hj => ?_⟩⟩
  rw [add_at]
  exact cell_is e (hc j hj)
theorem ArAt.chipc {w : World} {σ : Ar} {K : ALay} (h : ArAt w σ K) {m : Nat} (hm : (m : Int) < σ.s.g.c) : w.cell? ⟨K.cb, m, none⟩ = some (.int .i64 (σ.chip m : Int)) ∧ σ.chip m < σ.s.n ∧ σ.set.chips.getD m 0 = (σ.chip m : Int) := by
  obtain ⟨cs, e, hc⟩ := h.chips
  have hl := h.ok.set.len
  have hr := h.ok.set.inr (σ.set.chips.getD m 0) (by
    unfold MS.all
    rw [List.getD_eq_getElem?_getD, List.getElem?_eq_getElem (by omega)]
    simp)
  have h1 : σ.set.chips.getD m 0 = (σ.chip m : Int) := by unfold Ar.chip; omega
  refine ⟨?_, ?_, h1⟩
  · rw [← h1]
    exact cell_is e (hc m (by omega))
  · unfold Ar.chip St.n
    omega
theorem ArAt.volc {w : World} {σ : Ar} {K : ALay} (h : ArAt w σ K) {c : Nat} (hc : c < σ.s.n) : w.cell? ⟨K.V, c, none⟩ = some (vptr σ K c) ∧ w.frozen? ⟨K.V, c, none⟩ = false := by
  obtain ⟨cs, e, hv⟩ := h.vols
  exact ⟨cell_is e (hv c hc), free_of e⟩

set_option maxHeartbeats 1000000 in
set_option maxRecDepth 100000 in
theorem Geo_calls (σ : Ar) (K : ALay) (w : World) (h : ArAt w σ K) : Calls Tryz.prog 27 #[.pointer (some ⟨K.x, 0, none⟩)] w fun e w' => e = .returned σ.s.g.val ∧ Fr None_ w w' := by
  have hx : K.x < w.heap.size := (Array.getElem?_eq_some_iff.1 h.main).1
  obtain ⟨_, c1, c2, c3, c4, _⟩ := h.cs
  unfold Geo.val
  clear h
  go_enter Tryz.func27, Tryz.ntmps27
  go_wp2
  exact bodyPost_ret (v := .agg #[.int .i64 σ.s.g.c, .int .i64 σ.s.g.b, .int .i64 σ.s.g.p, .int .i64 σ.s.g.s]) (by simp [results, Tryz.results27, go_sem]) rfl ⟨rfl, (Fr.refl None_ w).alloc _⟩
set_option maxHeartbeats 1000000 in
set_option maxRecDepth 100000 in
theorem Lost_calls (σ : Ar) (K : ALay) (w : World) (h : ArAt w σ K) : Calls Tryz.prog 18 #[.pointer (some ⟨K.x, 0, none⟩)] w fun e w' => e = .returned (.bool σ.lost) ∧ Fr None_ w w' := by
  obtain ⟨_, _, _, _, _, _, _, _, _, _, _, c11⟩ := h.cs
  clear h
  go_enter Tryz.func18, Tryz.ntmps18
  go_wp2
  go_ret
  exact ⟨by simp, Fr.refl _ _⟩
def Ar.ahead (σ : Ar) : Int := if σ.set.dead = 255 then -1 else σ.set.dead
set_option maxHeartbeats 1000000 in
set_option maxRecDepth 100000 in
theorem Ahead_calls (σ : Ar) (K : ALay) (w : World) (h : ArAt w σ K) : Calls Tryz.prog 28 #[.pointer (some ⟨K.x, 0, none⟩)] w fun e w' => e = .returned (.int .i64 σ.ahead) ∧ Fr None_ w w' := by
  obtain ⟨_, _, _, _, _, _, _, _, _, c9, _, _⟩ := h.cs
  clear h
  by_cases hd : σ.set.dead = 255
  · have d1 : (σ.set.dead == 255) = true := beq_iff_eq.2 hd
    have HA := As.mk (show σ.ahead = -1 from if_pos hd)
    clear hd
    go_enter Tryz.func28, Tryz.ntmps28
    go_wp2
    go_ret
    exact ⟨by rw [HA.out]; rfl, Fr.refl _ _⟩
  · have d1 : (σ.set.dead == 255) = false := beq_eq_false_iff_ne.2 hd
    have HA := As.mk (show σ.ahead = σ.set.dead from if_neg hd)
    clear hd
    go_enter Tryz.func28, Tryz.ntmps28
    go_wp2
    go_ret
    exact ⟨by rw [HA.out]; rfl, Fr.refl _ _⟩
end Go.Proofs.YteofgpaceeibpaaGreat.ArrA
namespace Go.Proofs.YteofgpaceeibpaaGreat.ArrB
open Go.RowKit Go.Proofs.YteofgpaceeibpaaGreat.Gab Go.Proofs.YteofgpaceeibpaaGreat.Wr Go.Proofs.YteofgpaceeibpaaGreat.Geom Go.Proofs.YteofgpaceeibpaaGreat.Ref Go.Proofs.YteofgpaceeibpaaGreat.Nand Go.Proofs.YteofgpaceeibpaaGreat.NandA Go.Proofs.YteofgpaceeibpaaGreat.NandB Go.Proofs.YteofgpaceeibpaaGreat.NandC Go.Proofs.YteofgpaceeibpaaGreat.NandD Go.Proofs.YteofgpaceeibpaaGreat.NandE Go.Proofs.YteofgpaceeibpaaGreat.NandH Go.Proofs.YteofgpaceeibpaaGreat.RemapA Go.Proofs.YteofgpaceeibpaaGreat.RemapB Go.Proofs.YteofgpaceeibpaaGreat.VolA Go.Proofs.YteofgpaceeibpaaGreat.VolD Go.Proofs.YteofgpaceeibpaaGreat.VolE Go.Proofs.YteofgpaceeibpaaGreat.VolF Go.Proofs.YteofgpaceeibpaaGreat.MemA Go.Proofs.YteofgpaceeibpaaGreat.MemC Go.Proofs.YteofgpaceeibpaaGreat.ArrA
open Go.Proofs.YteofgpaceeibpaaGreat.Heap (cell_is heap_set fr_set1)
open Go.Proofs.YteofgpaceeibpaaGreat.RemapF (set5)
set_option linter.unusedVariables false
set_option linter.unusedSimpArgs false

set_option maxHeartbeats 4000000 in
set_option maxRecDepth 100000 in
theorem Set_calls (σ : Ar) (K : ALay) (w : World) (h : ArAt w σ K) : Calls Tryz.prog 13 #[.pointer (some ⟨K.x, 0, none⟩)] w fun e w' => ∃ v, e = .returned v ∧ MSR w' w.heap.size v σ.set ∧ Fr None_ w w' := by
  have hgc := h.nand.ok.c
  have hf1 := (Fr.refl None_ w).alloc (.cells zs ST)
  obtain ⟨_, _, _, _, _, _, c6, c7, c8, c9, c10, _⟩ := (h.none_ hf1).cs
  have HR1 := As.mk (h.none_ hf1).rd
  have HF1 := As.mk hf1
  have HB1 := As.mk (heap_alloc_new w (.cells zs ST))
  have hz1 : (w.alloc (.cells zs ST)).heap.size = w.heap.size + 1 := size_new _ rfl
  clear h hf1
  go_enter Tryz.func13, Tryz.ntmps13
  go_upto_region 4 with fail
  generalize w.alloc (.cells zs ST) = w1 at *
  have hfa := (Fr.refl None_ w1).alloc (.cells #[.int .u32 σ.set.seq, .slice (some ⟨K.cb, 0, none⟩) σ.s.g.c.toNat K.cc, .int .i64 σ.set.spare, .int .i64 σ.set.dead, .int .i64 σ.set.done] ST)
  have HS2 := As.mk (heap_alloc_new w1 (.cells #[.int .u32 σ.set.seq, .slice (some ⟨K.cb, 0, none⟩) σ.s.g.c.toNat K.cc, .int .i64 σ.set.spare, .int .i64 σ.set.dead, .int .i64 σ.set.done] ST))
  have HR2 := As.mk (HR1.out.none_ hfa)
  have HF2 := As.mk (HF1.out.after hfa (fun _ _ h => h))
  have HB2 := As.mk (hfa.heap HB1.out (fun h => h))
  clear hfa c6 c7 c8 c9 c10
  rw [hz1] at HS2
  generalize w1.alloc (.cells #[.int .u32 σ.set.seq, .slice (some ⟨K.cb, 0, none⟩) σ.s.g.c.toNat K.cc, .int .i64 σ.set.spare, .int .i64 σ.set.dead, .int .i64 σ.set.done] ST) = w2 at *
  have s1 := cell_is (v := .slice (some ⟨K.cb, 0, none⟩) σ.s.g.c.toNat K.cc) (i := 1) HS2.out rfl
  have hz2 := HF2.out.size
  go_upto_region 5 with (at_builtin; (with_reducible refine appendRow w.heap.size rfl _ _ 38 3 .i64 8 rfl Tryz.underlying38 infoIn (by decide) (.slice none 0 0) [] σ.set.chips (some ⟨K.cb, 0, none⟩) σ.s.g.c.toNat K.cc rfl rfl (Row.nil _ _ _ _) HR2.out hz2 ?k1 ?_); (case k1 => simp; omega); intro v3 w3 hrow3 hfr3 hat3; have HR3 := As.mk (show Row 3 .i64 w3 w.heap.size v3 σ.set.chips from by simpa using hrow3); have hf23 : Fr None_ w2 w3 := (Fr.refl None_ w2).after hfr3 (fun _ _ h => by cases h); have HF3 := As.mk (HF2.out.after hf23 (fun _ _ h => h)); have HB3 := As.mk (hf23.heap HB2.out (fun h => h)); have hs3 := hf23.heap HS2.out (fun h => h); have HS3 := As.mk hs3; have k1 := cell_is (v := .slice (some ⟨K.cb, 0, none⟩) σ.s.g.c.toNat K.cc) (i := 1) hs3 rfl; have f1 := free_of (i := 1) hs3; clear hrow3 hfr3 hat3 hs3 hf23; obtain ⟨A3, n3, c3, e3, _, _, _⟩ := HR3.out.rd; subst e3)
  have hs4 := heap_set HS3.out 1 (.slice A3 n3 c3)
  have hf4 := fr_set1 (w' := w3) (b := w.heap.size + 1) (i := 1) (.slice A3 n3 c3)
  have HS4 := As.mk (show (w3.setCell ⟨w.heap.size + 1, 1, none⟩ (.slice A3 n3 c3)).heap[w.heap.size + 1]? = some (.cells #[.int .u32 σ.set.seq, .slice A3 n3 c3, .int .i64 σ.set.spare, .int .i64 σ.set.dead, .int .i64 σ.set.done] ST (0, 0)) from by rw [hs4]; rfl)
  have HB4 := As.mk (hf4.heap HB3.out (by omega))
  have HF4 := As.mk (HF3.out.after hf4 (fun b hb e => by omega))
  have HR4 := As.mk (HR3.out.fr hf4 (fun b hb e => by subst e; exact Row.ne HR3.out HS3.out (by decide) hb))
  clear hs4 hf4 k1 f1 s1
  generalize w3.setCell ⟨w.heap.size + 1, 1, none⟩ (.slice A3 n3 c3) = w4 at *
  have s0 := cell_is (v := .int .u32 σ.set.seq) (i := 0) HS4.out rfl
  have s1 := cell_is (v := .slice A3 n3 c3) (i := 1) HS4.out rfl
  have s2 := cell_is (v := .int .i64 σ.set.spare) (i := 2) HS4.out rfl
  have s3 := cell_is (v := .int .i64 σ.set.dead) (i := 3) HS4.out rfl
  have s4 := cell_is (v := .int .i64 σ.set.done) (i := 4) HS4.out rfl
  have r0 := cell_is (v := .int .u32 0) (i := 0) HB4.out rfl
  have r1 := cell_is (v := .slice none 0 0) (i := 1) HB4.out rfl
  have r2 := cell_is (v := .int .i64 0) (i := 2) HB4.out rfl
  have r3 := cell_is (v := .int .i64 0) (i := 3) HB4.out rfl
  have r4 := cell_is (v := .int .i64 0) (i := 4) HB4.out rfl
  have f0 := free_of (i := 0) HB4.out
  have f1 := free_of (i := 1) HB4.out
  have f2 := free_of (i := 2) HB4.out
  have f3 := free_of (i := 3) HB4.out
  have f4 := free_of (i := 4) HB4.out
  go_wp2_with fail
  obtain ⟨t1, t2, t3⟩ := set5 HF4.out (Nat.le_refl _) HB4.out (.int .u32 σ.set.seq) (.slice A3 n3 c3) (.int .i64 σ.set.spare) (.int .i64 σ.set.dead) (.int .i64 σ.set.done)
  have hrw := HR4.out.fr t3 (fun b hb e => by subst e; exact Row.ne HR4.out HB4.out (by decide) hb)
  clear r0 r1 r2 r3 r4 f0 f1 f2 f3 f4 s0 s1 s2 s3 s4
  generalize ((((w4.setCell ⟨w.heap.size, 0, none⟩ (.int .u32 σ.set.seq)).setCell ⟨w.heap.size, 1, none⟩ (.slice A3 n3 c3)).setCell ⟨w.heap.size, 2, none⟩ (.int .i64 σ.set.spare)).setCell ⟨w.heap.size, 3, none⟩ (.int .i64 σ.set.dead)).setCell ⟨w.heap.size, 4, none⟩ (.int .i64 σ.set.done) = wf at *
  have r0 := cell_is (i := 0) t2 rfl
  have r1 := cell_is (i := 1) t2 rfl
  have r2 := cell_is (i := 2) t2 rfl
  have r3 := cell_is (i := 3) t2 rfl
  have r4 := cell_is (i := 4) t2 rfl
  exact bodyPost_ret (v := .agg #[.int .u32 σ.set.seq, .slice A3 n3 c3, .int .i64 σ.set.spare, .int .i64 σ.set.dead, .int .i64 σ.set.done]) (by simp [results, Tryz.results13, go_sem, r0, r1, r2, r3, r4]) rfl ⟨_, rfl, ⟨_, rfl, hrw⟩, t1⟩

/-- Are more dead than may be? -/
def _root_.Go.Proofs.YteofgpaceeibpaaGreat.ArrA.Ar.lostK (σ : Ar) : Int := if σ.lost then 74 else 0
set_option maxHeartbeats 4000000 in
set_option maxRecDepth 100000 in
theorem in_calls (σ : Ar) (K : ALay) (m b : Nat) (w : World) (h : ArAt w σ K) (hm : (m : Int) < σ.s.g.c) (hb : (b : Int) < σ.s.g.b - 5) :
    Calls Tryz.prog 55 #[.pointer (some ⟨K.x, 0, none⟩), .int .i64 (m : Int), .int .i64 (b : Int)] w fun e w' => e = .returned (.int .i64 σ.lostK) ∧ Fr None_ w w' := by
  have HA := As.mk h
  have HVI := As.mk (fun w => Virtual_calls σ.s.g w h.nand.ok)
  obtain ⟨_, c1, c2, c3, c4, _, _, _, _, _, _, _⟩ := h.cs
  have d0 : decide ((m : Int) < 0) = false := decide_eq_false (by omega)
  have d1 : decide (σ.s.g.c ≤ (m : Int)) = false := decide_eq_false (by omega)
  have d2 : decide ((b : Int) < 0) = false := decide_eq_false (by omega)
  have d3 : decide (σ.s.g.b - 5 ≤ (b : Int)) = false := decide_eq_false (by omega)
  unfold Geo.val at HVI
  clear h hm hb
  go_enter Tryz.func55, Tryz.ntmps55
  go_wp2_with fail
  ((with_reducible refine (HVI.out _).mono ?_); rintro e w1 ⟨rfl, hf1⟩)
  have c11 := (HA.out.none_ hf1).cs.2.2.2.2.2.2.2.2.2.2.2
  have HF1 := As.mk hf1
  clear hf1
  have hl : (σ.lost = false ∧ σ.lostK = 0) ∨ (σ.lost = true ∧ σ.lostK = 74) := by unfold Ar.lostK; cases σ.lost <;> simp
  rcases hl with ⟨hl, hk⟩ | ⟨hl, hk⟩
  · rw [hl] at c11
    have HK := As.mk hk
    clear hl hk
    go_wp2_with fail
    go_ret
    exact ⟨by rw [HK.out]; rfl, HF1.out⟩
  · rw [hl] at c11
    have HK := As.mk hk
    clear hl hk
    go_wp2_with fail
    go_ret
    exact ⟨by rw [HK.out]; rfl, HF1.out⟩
end Go.Proofs.YteofgpaceeibpaaGreat.ArrB
namespace Go.Proofs.YteofgpaceeibpaaGreat.ArrC
open Go.RowKit Go.Proofs.YteofgpaceeibpaaGreat.Gab Go.Proofs.YteofgpaceeibpaaGreat.Wr Go.Proofs.YteofgpaceeibpaaGreat.Geom Go.Proofs.YteofgpaceeibpaaGreat.Ref Go.Proofs.YteofgpaceeibpaaGreat.Nand Go.Proofs.YteofgpaceeibpaaGreat.NandA Go.Proofs.YteofgpaceeibpaaGreat.NandB Go.Proofs.YteofgpaceeibpaaGreat.NandC Go.Proofs.YteofgpaceeibpaaGreat.NandD Go.Proofs.YteofgpaceeibpaaGreat.NandE Go.Proofs.YteofgpaceeibpaaGreat.NandH Go.Proofs.YteofgpaceeibpaaGreat.RemapA Go.Proofs.YteofgpaceeibpaaGreat.RemapB Go.Proofs.YteofgpaceeibpaaGreat.VolA Go.Proofs.YteofgpaceeibpaaGreat.VolD Go.Proofs.YteofgpaceeibpaaGreat.VolE Go.Proofs.YteofgpaceeibpaaGreat.VolF Go.Proofs.YteofgpaceeibpaaGreat.MemA Go.Proofs.YteofgpaceeibpaaGreat.MemC Go.Proofs.YteofgpaceeibpaaGreat.ArrA Go.Proofs.YteofgpaceeibpaaGreat.ArrB
open Go.Proofs.YteofgpaceeibpaaGreat.Heap (cell_is heap_set fr_set1)
set_option linter.unusedVariables false
set_option linter.unusedSimpArgs false

/-- What is at hand of the array itself is turned. -/
theorem _root_.Go.Proofs.YteofgpaceeibpaaGreat.ArrA.ArAt.put {w w' : World} {σ : Ar} {K : ALay} (h : ArAt w σ K) (σ' : Ar) (hs : σ'.s = σ.s) (hv : σ'.vol = σ.vol) (hc : σ'.set.chips = σ.set.chips) (hok : σ'.Ok) (hf : Fr (fun b => b = K.x) w w') (hm : w'.heap[K.x]? = some (.cells (acells σ' K) AT (0, 0))) : ArAt w' σ' K := by
  have hne : ∀ {b : Nat} {cs : Array Value} {T : TypeId} {f : Nat × Nat}, w.heap[b]? = some (.cells cs T f) → T ≠ AT → ¬ b = K.x := fun hb hT => blk_ne hb h.main hT
  refine ⟨?_, hm, ?_, ?_, ?_, ?_, hok⟩
  · rw [hs]
    exact h.nand.one h.main hf ⟨⟨by decide, by decide, by decide, by decide, by decide⟩, by decide, by decide⟩
  · rw [hs]
    exact h.ccn
  · obtain ⟨cs, e, hcs⟩ := h.vols
    refine ⟨cs, hf.heap e (hne e (by decide)), fun c hcn => ?_⟩
    have h1 := hcs c (by rw [← hs]; exact hcn)
    unfold vptr at h1 ⊢
    rw [hv]
    exact h1
  · intro c t hcn e
    rw [hs]
    have h1 := h.vol c t (by rw [← hs]; exact hcn) (by rw [← hv]; exact e)
    exact ⟨h1.1.ty hf (fun b cs T f hb hT => hne hb (by rcases hT with rfl | rfl <;> decide)), h1.2⟩
  · obtain ⟨cs, e, hcs⟩ := h.chips
    refine ⟨cs, hf.heap e (hne e (by decide)), fun j hj => ?_⟩
    rw [hc]
    exact hcs j (by rw [← hs]; exact hj)
/-- A member is dead. -/
def _root_.Go.Proofs.YteofgpaceeibpaaGreat.ArrA.Ar.gone (σ : Ar) (m : Nat) : Ar × Int :=
  if σ.set.dead = (m : Int) then (σ, 0) else if σ.set.dead = 255 then ({ σ with set := { σ.set with dead := (m : Int), done := 0 } }, 0) else ({ σ with lost := true }, 74)
def GonePost (σ : Ar) (K : ALay) (m : Nat) (w : World) (e : Ending) (w' : World) : Prop := e = .returned (.int .i64 (σ.gone m).2) ∧ ArAt w' (σ.gone m).1 K ∧ Fr (fun b => b = K.x) w w'

set_option maxHeartbeats 4000000 in
set_option maxRecDepth 100000 in
theorem gone_calls (σ : Ar) (K : ALay) (m : Nat) (w : World) (h : ArAt w σ K) (hm : (m : Int) < σ.s.g.c) : Calls Tryz.prog 73 #[.pointer (some ⟨K.x, 0, none⟩), .int .i64 (m : Int)] w (GonePost σ K m w) := by
  have HA := As.mk h
  have hgc := h.nand.ok.c
  obtain ⟨_, _, _, _, _, _, _, _, c8, c9, c10, c11⟩ := h.cs
  have hm0 := h.main
  have f9 := free_of (i := 9) hm0
  have f10 := free_of (i := 10) hm0
  have f11 := free_of (i := 11) hm0
  have hb := h.nand.ok.b
  by_cases h1 : σ.set.dead = (m : Int)
  · have d1 : (σ.set.dead == (m : Int)) = true := beq_iff_eq.2 h1
    have HPost := As.mk (show ∀ (e : Ending) (w' : World), e = .returned (.int .i64 0) → ArAt w' σ K → Fr (fun b => b = K.x) w w' → GonePost σ K m w e w' from fun e w' k1 k2 k3 => by unfold GonePost Ar.gone; rw [if_pos h1]; exact ⟨k1, k2, k3⟩)
    clear h h1 hm0 hm
    go_enter Tryz.func73, Tryz.ntmps73
    go_wp2_with fail
    go_ret
    exact HPost.out _ _ rfl HA.out (Fr.refl _ _)
  · have d1 : (σ.set.dead == (m : Int)) = false := beq_eq_false_iff_ne.2 h1
    by_cases h2 : σ.set.dead = 255
    · have d2 : (σ.set.dead == 255) = true := beq_iff_eq.2 h2
      have HPost := As.mk (show ∀ (e : Ending) (w' : World), e = .returned (.int .i64 0) → ArAt w' { σ with set := { σ.set with dead := (m : Int), done := 0 } } K → Fr (fun b => b = K.x) w w' → GonePost σ K m w e w' from fun e w' k1 k2 k3 => by unfold GonePost Ar.gone; rw [if_neg h1, if_pos h2]; exact ⟨k1, k2, k3⟩)
      have hs1 := heap_set hm0 9 (.int .i64 (m : Int))
      have hs2 := heap_set hs1 10 (.int .i64 0)
      have hf1 := fr_set1 (w' := w) (b := K.x) (i := 9) (.int .i64 (m : Int))
      have hf2 := hf1.after (fr_set1 (w' := w.setCell ⟨K.x, 9, none⟩ (.int .i64 (m : Int))) (b := K.x) (i := 10) (.int .i64 0)) (fun _ _ h => h)
      have HN := As.mk (h.put { σ with set := { σ.set with dead := (m : Int), done := 0 } } rfl rfl rfl ⟨⟨h.ok.set.len, h.ok.set.seq, h.ok.set.inr, h.ok.set.nd, .inr ⟨by show (0 : Int) ≤ (m : Int); omega, hm⟩, ⟨Int.le_refl 0, by show (0 : Int) ≤ σ.s.g.b - 5; omega⟩, fun h => absurd h (Int.lt_irrefl 0)⟩, h.ok.more⟩ hf2 (by rw [hs2]; rfl))
      have HF2 := As.mk hf2
      clear h h1 h2 hm0 hs1 hs2 hf1 hf2 hm
      go_enter Tryz.func73, Tryz.ntmps73
      go_wp2_with fail
      go_ret
      exact HPost.out _ _ rfl HN.out HF2.out
    · have d2 : (σ.set.dead == 255) = false := beq_eq_false_iff_ne.2 h2
      have HPost := As.mk (show ∀ (e : Ending) (w' : World), e = .returned (.int .i64 74) → ArAt w' { σ with lost := true } K → Fr (fun b => b = K.x) w w' → GonePost σ K m w e w' from fun e w' k1 k2 k3 => by unfold GonePost Ar.gone; rw [if_neg h1, if_neg h2]; exact ⟨k1, k2, k3⟩)
      have hs1 := heap_set hm0 11 (.bool true)
      have hf1 := fr_set1 (w' := w) (b := K.x) (i := 11) (.bool true)
      have HN := As.mk (h.put { σ with lost := true } rfl rfl rfl ⟨h.ok.set, h.ok.more⟩ hf1 (by rw [hs1]; rfl))
      have HF1 := As.mk hf1
      clear h h1 h2 hm0 hs1 hf1 hm
      go_enter Tryz.func73, Tryz.ntmps73
      go_wp2_with fail
      go_ret
      exact HPost.out _ _ rfl HN.out HF1.out

/-! ### a chip that is dead -/
/-- A chip isn't there any longer. -/
def _root_.Go.Proofs.YteofgpaceeibpaaGreat.ArrA.Ar.drop (σ : Ar) (c : Nat) : Ar := { σ with vol := fun k => if k = c then none else σ.vol k, lost := σ.lost }
/-- Which member a chip is. -/
def idxOf (l : List Int) (c : Nat) : Option Nat := (List.range l.length).find? (fun j => l.getD j 0 == (c : Int))
theorem idx_none {l : List Int} {c : Nat} (h : ∀ j, j < l.length → l.getD j 0 ≠ (c : Int)) : idxOf l c = none := by
  unfold idxOf
  rw [List.find?_eq_none]
  intro j hj
  rw [List.mem_range] at hj
  simpa using h j hj
theorem idx_some {l : List Int} {c i : Nat} (hi : i < l.length) (h0 : l.getD i 0 = (c : Int)) (h : ∀ j, j < i → l.getD j 0 ≠ (c : Int)) : idxOf l c = some i := by
  unfold idxOf
  rw [List.find?_eq_some_iff_getElem]
  refine ⟨by simpa using h0, i, by simpa using hi, by simp, fun j hj => ?_⟩
  have := h j hj
  simpa using this
def _root_.Go.Proofs.YteofgpaceeibpaaGreat.ArrA.Ar.died (σ : Ar) (c : Nat) : Ar × Int :=
  if σ.set.spare = (c : Int) then ({ σ.drop c with set := { σ.set with spare := 255, done := 0 } }, 0) else match idxOf σ.set.chips c with
    | some m => (σ.drop c).gone m
    | none => (σ.drop c, 0)
theorem dropV {w : World} {σ : Ar} {K : ALay} (h : ArAt w σ K) (c : Nat) (hc : c < σ.s.n) : ArAt (w.setCell ⟨K.V, c, none⟩ (.pointer none)) (σ.drop c) K := by
  obtain ⟨cs, e, hcs⟩ := h.vols
  have hf := fr_set1 (w' := w) (b := K.V) (i := c) (.pointer none)
  have hne : ∀ {b : Nat} {cs : Array Value} {T : TypeId} {f : Nat × Nat}, w.heap[b]? = some (.cells cs T f) → T ≠ PV → ¬ b = K.V := fun hb hT => blk_ne hb e hT
  refine ⟨h.nand.one e hf ⟨⟨by decide, by decide, by decide, by decide, by decide⟩, by decide, by decide⟩, hf.heap h.main (hne h.main (by decide)), h.ccn, ⟨_, heap_set e _ _, fun k hk => ?_⟩, fun k t hk ek => ?_, ?_, ⟨h.ok.set, fun k t hk ek => ?_⟩⟩
  · by_cases ek : k = c
    · subst ek
      rw [Array.getElem?_setIfInBounds_self_of_lt (by have := hcs k hc; exact (Array.getElem?_eq_some_iff.1 this).1)]
      unfold vptr
      show some (Value.pointer none) = some (match (if k = k then none else σ.vol k) with | none => Value.pointer none | some _ => _)
      rw [if_pos rfl]
    · rw [Array.getElem?_setIfInBounds_ne (fun h => ek h.symm)]
      have h1 := hcs k hk
      rw [h1]
      unfold vptr
      show some (match σ.vol k with | none => Value.pointer none | some _ => _) = some (match (if k = c then none else σ.vol k) with | none => Value.pointer none | some _ => _)
      rw [if_neg ek]
  · have ek2 : (if k = c then none else σ.vol k) = some t := ek
    split at ek2
    · cases ek2
    · have h1 := h.vol k t hk ek2
      exact ⟨h1.1.ty hf (fun b cs T f hb hT => hne hb (by rcases hT with rfl | rfl <;> decide)), h1.2⟩
  · obtain ⟨ds, e2, hds⟩ := h.chips
    exact ⟨ds, hf.heap e2 (hne e2 (by decide)), hds⟩
  · have ek2 : (if k = c then none else σ.vol k) = some t := ek
    split at ek2
    · cases ek2
    · exact h.ok.more k t hk ek2
def DiedPost (σ : Ar) (K : ALay) (c : Nat) (w : World) (e : Ending) (w' : World) : Prop := e = .returned (.int .i64 (σ.died c).2) ∧ ArAt w' (σ.died c).1 K ∧ Fr (fun b => b = K.x ∨ b = K.V) w w'

set_option maxHeartbeats 4000000 in
set_option maxRecDepth 100000 in
theorem died_calls (σ : Ar) (K : ALay) (c : Nat) (w : World) (h : ArAt w σ K) (hc : c < σ.s.n) : Calls Tryz.prog 54 #[.pointer (some ⟨K.x, 0, none⟩), .int .i64 (c : Int)] w (DiedPost σ K c w) := by
  obtain ⟨v0, g0⟩ := h.volc hc
  obtain ⟨_, _, _, _, _, c5, _, _, _, _, _, _⟩ := h.cs
  have HD := As.mk (dropV h c hc)
  have HF1 := As.mk (fr_set1 (w' := w) (b := K.V) (i := c) (.pointer none))
  have hgc := h.nand.ok.c
  have hgb := h.nand.ok.b
  have hcI : (c : Int) < (σ.s.n : Int) := by omega
  have hct : Int.toNat (c : Int) = c := by omega
  have hlen := h.ok.set.len
  have HGO := As.mk (fun (m : Nat) (w' : World) (hA : ArAt w' (σ.drop c) K) (hm : (m : Int) < σ.s.g.c) => gone_calls (σ.drop c) K m w' hA hm)
  clear h
  go_enter Tryz.func54, Tryz.ntmps54
  go_upto_region 2 with fail
  generalize w.setCell ⟨K.V, c, none⟩ (.pointer none) = w1 at *
  obtain ⟨_, _, _, _, _, _, _, c7, c8, c9, c10, c11⟩ := HD.out.cs
  change w1.cell? ⟨K.x, 7, none⟩ = some (.slice (some ⟨K.cb, 0, none⟩) σ.s.g.c.toNat K.cc) at c7
  change w1.cell? ⟨K.x, 8, none⟩ = some (.int .i64 σ.set.spare) at c8
  change w1.cell? ⟨K.x, 10, none⟩ = some (.int .i64 σ.set.done) at c10
  have hm0 := HD.out.main
  have f8 := free_of (i := 8) hm0
  have f10 := free_of (i := 10) hm0
  clear v0 g0 c5 c9 c11
  by_cases hsp : σ.set.spare = (c : Int)
  · have d1 : ((c : Int) == σ.set.spare) = true := beq_iff_eq.2 hsp.symm
    have HPost := As.mk (show ∀ (e : Ending) (w' : World), e = .returned (.int .i64 0) → ArAt w' { σ.drop c with set := { σ.set with spare := 255, done := 0 } } K → Fr (fun b => b = K.x ∨ b = K.V) w w' → DiedPost σ K c w e w' from fun e w' k1 k2 k3 => by unfold DiedPost Ar.died; rw [if_pos hsp]; exact ⟨k1, k2, k3⟩)
    have hs1 := heap_set hm0 8 (.int .i64 255)
    have hs2 := heap_set hs1 10 (.int .i64 0)
    have hf1 := fr_set1 (w' := w1) (b := K.x) (i := 8) (.int .i64 255)
    have hf2 := hf1.after (fr_set1 (w' := w1.setCell ⟨K.x, 8, none⟩ (.int .i64 255)) (b := K.x) (i := 10) (.int .i64 0)) (fun _ _ h => h)
    have hinr : ∀ x ∈ ({ σ.set with spare := 255, done := 0 } : MS).all, x ∈ σ.set.all := fun x hx => by
      unfold MS.all at hx ⊢
      rw [if_pos rfl, List.append_nil] at hx
      exact List.mem_append_left _ hx
    have hnd : ({ σ.set with spare := 255, done := 0 } : MS).all.Nodup := by
      have := HD.out.ok.set.nd
      unfold MS.all at this ⊢
      rw [if_pos rfl, List.append_nil]
      exact (List.nodup_append.1 this).1
    have hoo := HD.out.ok
    have HN := As.mk (HD.out.put { σ.drop c with set := { σ.set with spare := 255, done := 0 } } rfl rfl rfl ⟨⟨hoo.set.len, hoo.set.seq, fun x hx => hoo.set.inr x (hinr x hx), hnd, hoo.set.dead, ⟨Int.le_refl 0, by show (0 : Int) ≤ σ.s.g.b - 5; omega⟩, fun h => absurd h (Int.lt_irrefl 0)⟩, hoo.more⟩ hf2 (by rw [hs2]; rfl))
    have HF2 := As.mk (HF1.out.trans hf2 (U := fun b => b = K.x ∨ b = K.V) (fun _ _ h => .inr h) (fun _ _ h => .inl h))
    clear hsp hm0 hs1 hs2 hf1 hf2 hinr hnd hoo
    go_wp2_with fail
    go_ret
    exact HPost.out _ _ rfl HN.out HF2.out
  · have d1 : ((c : Int) == σ.set.spare) = false := beq_eq_false_iff_ne.2 (fun h => hsp h.symm)
    have HDI := As.mk (show σ.died c = match idxOf σ.set.chips c with | some m => (σ.drop c).gone m | none => (σ.drop c, 0) from by unfold Ar.died; rw [if_neg hsp])
    have HLN := As.mk (show σ.set.chips.length = σ.s.g.c.toNat from by omega)
    have HRD := As.mk (show Rd .i64 w1 (some ⟨K.cb, 0, none⟩) σ.s.g.c.toNat σ.set.chips from HD.out.rd)
    have HGC := As.mk hgc
    clear hsp hm0 f8 f10 c10 hlen
    generalize hnc : σ.s.g.c.toNat = nc at *
    have HNC := As.mk hnc
    have hn16 : nc ≤ 16 := by omega
    clear hnc hgc
    go_wp2_with fail
    go_loopw [34] (fun v34 w' => ∃ i : Nat, v34 = .int .i64 (i : Int) ∧ i ≤ nc ∧ w' = w1 ∧ As (∀ j, j < i → σ.set.chips.getD j 0 ≠ (c : Int))) (fun v34 _ => nc - (intOf v34).toNat)
    case atStart => exact ⟨0, rfl, Nat.zero_le _, rfl, ⟨fun j hj => absurd hj (Nat.not_lt_zero _)⟩⟩
    case round =>
      obtain ⟨i, rfl, hi, rfl, HJ⟩ := hrel
      by_cases hlt : i < nc
      · have hltI : (i : Int) < (nc : Int) := by omega
        obtain ⟨ad, ea, hcc⟩ := HRD.out.at_ i (by omega) hltI
        injection ea with ea
        subst ea
        rw [Int.toNat_natCast, add_at] at hcc
        by_cases hx : σ.set.chips.getD i 0 = (c : Int)
        · have d2 : (σ.set.chips.getD i 0 == (c : Int)) = true := beq_iff_eq.2 hx
          have HID := As.mk (show σ.died c = (σ.drop c).gone i from by rw [HDI.out, idx_some (by have := HLN.out; omega) hx HJ.out])
          have HGI := As.mk (HGO.out i wr HD.out (by have := HNC.out; have := HGC.out; omega))
          unfold GonePost at HGI
          rw [← HID.out] at HGI
          have HPost := As.mk (show ∀ (e : Ending) (w' : World), e = .returned (.int .i64 (σ.died c).2) → ArAt w' (σ.died c).1 K → Fr (fun b => b = K.x) wr w' → DiedPost σ K c w e w' from fun e w' k1 k2 k3 => ⟨k1, k2, HF1.out.trans k3 (fun _ _ h => .inr h) (fun _ _ h => .inl h)⟩)
          generalize σ.set.chips.getD i 0 = y at *
          clear hx HJ
          go_wp2_with fail
          ((with_reducible refine (HGI.out).mono ?_); rintro e w2 ⟨rfl, ha2, hf2⟩)
          have HA2 := As.mk ha2
          have HF2 := As.mk hf2
          clear ha2 hf2
          generalize (σ.died c).2 = k at *
          go_wp2_with fail
          go_ret
          exact HPost.out _ _ rfl HA2.out HF2.out
        · have d2 : (σ.set.chips.getD i 0 == (c : Int)) = false := beq_eq_false_iff_ne.2 hx
          have HJ2 := As.mk (show ∀ j, j < i + 1 → σ.set.chips.getD j 0 ≠ (c : Int) from fun j hj => by
            by_cases e : j = i
            · rw [e]; exact hx
            · exact HJ.out j (by omega))
          generalize σ.set.chips.getD i 0 = y at *
          clear hx HJ
          go_wp2_with fail
          exact ⟨⟨i + 1, rfl, by omega, (by first | rfl | trivial), HJ2⟩, by simp [intOf]; omega⟩
      · have hltI : ¬ (i : Int) < (nc : Int) := by omega
        have HPost := As.mk (show ∀ (e : Ending) (w' : World), e = .returned (.int .i64 0) → ArAt w' (σ.drop c) K → Fr (fun b => b = K.x ∨ b = K.V) w w' → DiedPost σ K c w e w' from fun e w' k1 k2 k3 => by
          have : idxOf σ.set.chips c = none := idx_none (fun j hj => HJ.out j (by have := HLN.out; omega))
          unfold DiedPost
          rw [HDI.out, this]
          exact ⟨k1, k2, k3⟩)
        clear HJ
        go_wp2_with fail
        go_ret
        exact HPost.out _ _ rfl HD.out (HF1.out.mono (fun _ _ h => .inr h))
end Go.Proofs.YteofgpaceeibpaaGreat.ArrC
namespace Go.Proofs.YteofgpaceeibpaaGreat.ArrD
open Go.RowKit Go.Proofs.YteofgpaceeibpaaGreat.Gab Go.Proofs.YteofgpaceeibpaaGreat.Wr Go.Proofs.YteofgpaceeibpaaGreat.Geom Go.Proofs.YteofgpaceeibpaaGreat.Ref Go.Proofs.YteofgpaceeibpaaGreat.Nand Go.Proofs.YteofgpaceeibpaaGreat.NandA Go.Proofs.YteofgpaceeibpaaGreat.NandB Go.Proofs.YteofgpaceeibpaaGreat.NandC Go.Proofs.YteofgpaceeibpaaGreat.NandD Go.Proofs.YteofgpaceeibpaaGreat.NandE Go.Proofs.YteofgpaceeibpaaGreat.NandH Go.Proofs.YteofgpaceeibpaaGreat.RemapA Go.Proofs.YteofgpaceeibpaaGreat.RemapB Go.Proofs.YteofgpaceeibpaaGreat.VolA Go.Proofs.YteofgpaceeibpaaGreat.VolD Go.Proofs.YteofgpaceeibpaaGreat.VolE Go.Proofs.YteofgpaceeibpaaGreat.VolF Go.Proofs.YteofgpaceeibpaaGreat.MemA Go.Proofs.YteofgpaceeibpaaGreat.MemC Go.Proofs.YteofgpaceeibpaaGreat.ArrA Go.Proofs.YteofgpaceeibpaaGreat.ArrB Go.Proofs.YteofgpaceeibpaaGreat.ArrC
open Go.Proofs.YteofgpaceeibpaaGreat.Heap (cell_is heap_set fr_set1)
set_option linter.unusedVariables false
set_option linter.unusedSimpArgs false

/-- A chip's table. -/
def _root_.Go.Proofs.YteofgpaceeibpaaGreat.ArrA.Ar.tab (σ : Ar) (c : Nat) : Tab := (σ.vol c).getD ⟨0, [], [], 0, 0⟩
/-- A page of a member's block is read: the array behind it, and the error. -/
def _root_.Go.Proofs.YteofgpaceeibpaaGreat.ArrA.Ar.read (σ : Ar) (m : Nat) : Ar × Int :=
  if σ.lost then (σ, 74) else if σ.set.dead = (m : Int) then (σ, 71) else
    if (σ.s.read (σ.chip m)).2 = 71 then (if (Ar.died { σ with s := (σ.s.read (σ.chip m)).1 } (σ.chip m)).2 = 0 then ((Ar.died { σ with s := (σ.s.read (σ.chip m)).1 } (σ.chip m)).1, 71) else Ar.died { σ with s := (σ.s.read (σ.chip m)).1 } (σ.chip m))
    else ({ σ with s := (σ.s.read (σ.chip m)).1 }, (σ.s.read (σ.chip m)).2)
/-- A page's bytes, and those beside it. -/
def _root_.Go.Proofs.YteofgpaceeibpaaGreat.ArrA.Ar.bytes (σ : Ar) (m b q : Nat) : List Int × List Int := σ.s.bytes (σ.chip m) ((σ.tab (σ.chip m)).at b) q
def RdPost (σ : Ar) (K : ALay) (m b q : Nat) (w : World) (e : Ending) (w' : World) : Prop :=
  ∃ A n k B j i, e = .returned (.tuple #[.slice A n k, .slice B j i, .int .i64 (σ.read m).2]) ∧ ArAt w' (σ.read m).1 K ∧ Fr (AF K σ) w w' ∧
    ((σ.read m).2 = 0 → Row 5 .u8 w' w.heap.size (.slice A n k) (σ.bytes m b q).1 ∧ Row 5 .u8 w' w.heap.size (.slice B j i) (σ.bytes m b q).2) ∧ ((σ.read m).2 ≠ 0 → Value.slice A n k = .slice none 0 0 ∧ Value.slice B j i = .slice none 0 0)
theorem died_same (σ : Ar) (c : Nat) : (σ.died c).1.s = σ.s ∧ ((σ.died c).2 = 0 ∨ (σ.died c).2 = 74) := by
  unfold Ar.died
  split
  · exact ⟨rfl, .inl rfl⟩
  · split
    · unfold Ar.gone
      split
      · exact ⟨rfl, .inl rfl⟩
      · split
        · exact ⟨rfl, .inl rfl⟩
        · exact ⟨rfl, .inr rfl⟩
    · exact ⟨rfl, .inl rfl⟩
theorem read_same (σ : Ar) (m : Nat) : (σ.read m).1.s.g = σ.s.g := by
  have h := (read_g σ.s (σ.chip m)).1
  unfold Ar.read
  split
  · rfl
  · split
    · rfl
    · split
      · split
        · rw [(died_same _ _).1]; exact h
        · rw [(died_same _ _).1]; exact h
      · exact h
theorem AF.eq {K : ALay} {σ σ' : Ar} (h : σ'.s.g = σ.s.g) (b : Nat) : AF K σ' b ↔ AF K σ b := by
  unfold AF
  rw [(n_same h).1, (n_same h).2.1]

set_option maxHeartbeats 8000000 in
set_option maxRecDepth 100000 in
theorem Read_calls (σ : Ar) (K : ALay) (m b q : Nat) (w : World) (h : ArAt w σ K) (hth : σ.There) (hm : (m : Int) < σ.s.g.c) (hb : (b : Int) < σ.s.g.b - 5) (hq : q < σ.s.np) (n : Nat) (hs : σ.s.Safe (n + 1)) :
    Calls Tryz.prog 22 #[.pointer (some ⟨K.x, 0, none⟩), .int .i64 (m : Int), .int .i64 (b : Int), .int .i64 (q : Int)] w (RdPost σ K m b q w) := by
  have HA := As.mk h
  have HIN := As.mk (in_calls σ K m b w h hm hb)
  have hgc := h.nand.ok.c
  have HZ : As (∀ w' : World, Fr None_ w w' → w.heap.size ≤ w'.heap.size) := ⟨fun w' hf => hf.size⟩
  have hlk : (σ.lost = false ∧ σ.lostK = 0) ∨ (σ.lost = true ∧ σ.lostK = 74) := by unfold Ar.lostK; cases σ.lost <;> simp
  rcases hlk with ⟨hl, hk⟩ | ⟨hl, hk⟩
  · rw [hk] at HIN
    by_cases hd : σ.set.dead = (m : Int)
    · have hr : σ.read m = (σ, 71) := by unfold Ar.read; rw [hl, if_neg (by decide), if_pos hd]
      have HPost := As.mk (show ∀ (e : Ending) (w' : World), e = .returned (.tuple #[.slice none 0 0, .slice none 0 0, .int .i64 71]) → ArAt w' σ K → Fr None_ w w' → RdPost σ K m b q w e w' from fun e w' k1 k2 k3 => by
        unfold RdPost
        rw [hr]
        exact ⟨none, 0, 0, none, 0, 0, k1, k2, k3.mono (fun _ _ h => h.elim), fun h => (by cases h), fun _ => ⟨rfl, rfl⟩⟩)
      have d1 : ((m : Int) == σ.set.dead) = true := beq_iff_eq.2 hd.symm
      clear h hth hm hb hq hs hl hk hd hr
      go_enter Tryz.func22, Tryz.ntmps22
      go_wp2_with fail
      ((with_reducible refine (HIN.out).mono ?_); rintro e w1 ⟨rfl, hf1⟩)
      have HA1 := As.mk (HA.out.none_ hf1)
      have HF1 := As.mk hf1
      obtain ⟨_, _, _, _, _, _, _, _, _, c9, _, _⟩ := HA1.out.cs
      clear hf1
      go_wp2_with fail
      go_ret3
      exact HPost.out _ _ rfl HA1.out HF1.out
    · have d1 : ((m : Int) == σ.set.dead) = false := beq_eq_false_iff_ne.2 (fun e => hd e.symm)
      obtain ⟨t, ht⟩ := hth hl m hm (fun e => hd e.symm)
      obtain ⟨kc, hcn, hce⟩ := h.chipc hm
      have hvv := (h.vol (σ.chip m) t hcn ht)
      have htok := h.ok.more _ t hcn ht
      have hlt : b < t.place.length := by rw [htok.len]; omega
      have hbt : σ.bytes m b q = σ.s.bytes (σ.chip m) (t.at b) q := by unfold Ar.bytes Ar.tab; rw [ht]; rfl
      have HRD := As.mk (fun (w' : World) (hf : Fr None_ w w') => VolA.Read_calls K.p (σ.chip m) σ.s K.L t (K.v (σ.chip m)) b q w' (h.nand.none_ hf) (hvv.1.none_ hf) htok hcn hlt hq n hs)
      unfold ReadPost at HRD
      rw [← hbt] at HRD
      have HCC := As.mk (fun (w' : World) (hf : Fr None_ w w') => (show w'.cell? ⟨K.cb, m, none⟩ = some (.int .i64 (σ.chip m : Int)) ∧ w'.cell? ⟨K.V, σ.chip m, none⟩ = some (.pointer (some ⟨(K.v (σ.chip m)).vb, 0, none⟩)) from by
        have h1 := (h.none_ hf).chipc hm
        have h2 := ((h.none_ hf).volc hcn).1
        unfold vptr at h2
        rw [ht] at h2
        exact ⟨h1.1, h2⟩))
      have HDI := As.mk (fun (w' : World) (hA : ArAt w' { σ with s := (σ.s.read (σ.chip m)).1 } K) => died_calls { σ with s := (σ.s.read (σ.chip m)).1 } K (σ.chip m) w' hA (by show σ.chip m < St.n _; rw [(n_same (read_g σ.s (σ.chip m)).1).1]; exact hcn))
      have HTU := As.mk (fun (w1 w' : World) (hf : Fr None_ w w1) (hN : Nand w' K.p (σ.s.read (σ.chip m)).1 K.L) (hf2 : Fr (NF K.p K.L σ.s.n σ.s.nb) w1 w') => (h.none_ hf).turn hN (read_g σ.s (σ.chip m)).1 hf2)
      have HR := As.mk (show σ.read m = if (σ.s.read (σ.chip m)).2 = 71 then (if (Ar.died { σ with s := (σ.s.read (σ.chip m)).1 } (σ.chip m)).2 = 0 then ((Ar.died { σ with s := (σ.s.read (σ.chip m)).1 } (σ.chip m)).1, 71) else Ar.died { σ with s := (σ.s.read (σ.chip m)).1 } (σ.chip m)) else ({ σ with s := (σ.s.read (σ.chip m)).1 }, (σ.s.read (σ.chip m)).2) from by unfold Ar.read; rw [hl, if_neg (by decide), if_neg hd])
      have hcI : (σ.chip m : Int) < (σ.s.n : Int) := by omega
      have hmI : (m : Int) < (σ.s.g.c.toNat : Int) := by omega
      have hmn : m < σ.s.g.c.toNat := by omega
      have hct : Int.toNat (σ.chip m : Int) = σ.chip m := by omega
      have hmt : Int.toNat (m : Int) = m := by omega
      generalize σ.chip m = c at *
      clear h hth hm hb hq hs hl hk hd ht kc hce hvv htok hlt hbt
      go_enter Tryz.func22, Tryz.ntmps22
      go_wp2_with fail
      ((with_reducible refine (HIN.out).mono ?_); rintro e w1 ⟨rfl, hf1⟩)
      have HA1 := As.mk (HA.out.none_ hf1)
      have HF1 := As.mk hf1
      obtain ⟨_, _, _, _, _, c5, _, c7, _, c9, _, _⟩ := HA1.out.cs
      obtain ⟨k1, k2⟩ := HCC.out w1 hf1
      have HRD1 := As.mk (HRD.out w1 hf1)
      clear hf1
      go_wp2_with fail
      ((with_reducible refine (HRD1.out).mono ?_); rintro e w2 ⟨A2, n2, x2, B2, j2, i2, rfl, hn2, hf2, hok, hbad⟩)
      have HA2 := As.mk (HTU.out w1 w2 HF1.out hn2 hf2)
      have HF2 := As.mk (show Fr (AF K σ) w w2 from HF1.out.trans hf2 (fun _ _ h => h.elim) (fun _ _ h => .inl h))
      have HOK := As.mk hok
      have HBAD := As.mk hbad
      have HZ1 := As.mk HF1.out.size
      clear hn2 hf2 hok hbad c5 c7 c9 k1 k2 HRD1
      by_cases hk7 : (σ.s.read c).2 = 71
      · have hb2 := HBAD.out (by rw [hk7]; decide)
        obtain ⟨ea, eb⟩ := hb2
        injection ea with ea1 ea2 ea3
        injection eb with eb1 eb2 eb3
        subst ea1 ea2 ea3 eb1 eb2 eb3
        have HDD := As.mk (HDI.out w2 HA2.out)
        have HDS := As.mk (died_same { σ with s := (σ.s.read c).1 } c)
        have HG := As.mk (show ∀ b, (b = K.x ∨ b = K.V) → AF K σ b from fun b h => by rcases h with h | h; exact .inr (.inl h); exact .inr (.inr h))
        by_cases hd0 : (Ar.died { σ with s := (σ.s.read c).1 } c).2 = 0
        · have HR2 := As.mk (show σ.read m = ((Ar.died { σ with s := (σ.s.read c).1 } c).1, 71) from by rw [HR.out, if_pos hk7, if_pos hd0])
          have HPost := As.mk (show ∀ (e : Ending) (w' : World), e = .returned (.tuple #[.slice none 0 0, .slice none 0 0, .int .i64 71]) → ArAt w' (Ar.died { σ with s := (σ.s.read c).1 } c).1 K → Fr (AF K σ) w w' → RdPost σ K m b q w e w' from fun e w' k1 k2 k3 => by
            unfold RdPost
            rw [HR2.out]
            exact ⟨none, 0, 0, none, 0, 0, k1, k2, k3, fun h => (by cases h), fun _ => ⟨rfl, rfl⟩⟩)
          unfold DiedPost at HDD
          rw [hd0] at HDD
          rw [hk7]
          clear hk7 hd0
          go_wp2_with fail
          ((with_reducible refine (HDD.out).mono ?_); rintro e w3 ⟨rfl, ha3, hf3⟩)
          have HA3 := As.mk ha3
          have HF3 := As.mk (HF2.out.after hf3 (fun b _ h => HG.out b h))
          clear ha3 hf3
          go_wp2_with fail
          go_ret3
          exact HPost.out _ _ rfl HA3.out HF3.out
        · have hd4 : (Ar.died { σ with s := (σ.s.read c).1 } c).2 = 74 := by rcases HDS.out.2 with h | h; exact absurd h hd0; exact h
          have HR2 := As.mk (show σ.read m = Ar.died { σ with s := (σ.s.read c).1 } c from by rw [HR.out, if_pos hk7, if_neg hd0])
          have HPost := As.mk (show ∀ (e : Ending) (w' : World), e = .returned (.tuple #[.slice none 0 0, .slice none 0 0, .int .i64 74]) → ArAt w' (Ar.died { σ with s := (σ.s.read c).1 } c).1 K → Fr (AF K σ) w w' → RdPost σ K m b q w e w' from fun e w' k1 k2 k3 => by
            unfold RdPost
            rw [HR2.out, hd4]
            exact ⟨none, 0, 0, none, 0, 0, k1, k2, k3, fun h => (by cases h), fun _ => ⟨rfl, rfl⟩⟩)
          unfold DiedPost at HDD
          rw [hd4] at HDD
          rw [hk7]
          clear hk7 hd0 hd4
          go_wp2_with fail
          ((with_reducible refine (HDD.out).mono ?_); rintro e w3 ⟨rfl, ha3, hf3⟩)
          have HA3 := As.mk ha3
          have HF3 := As.mk (HF2.out.after hf3 (fun b _ h => HG.out b h))
          clear ha3 hf3
          go_wp2_with fail
          go_ret3
          exact HPost.out _ _ rfl HA3.out HF3.out
      · have d7 : ((σ.s.read c).2 == 71) = false := beq_eq_false_iff_ne.2 hk7
        have HR2 := As.mk (show σ.read m = ({ σ with s := (σ.s.read c).1 }, (σ.s.read c).2) from by rw [HR.out, if_neg hk7])
        have HPost := As.mk (show ∀ (e : Ending) (w' : World), e = .returned (.tuple #[.slice A2 n2 x2, .slice B2 j2 i2, .int .i64 (σ.s.read c).2]) → ArAt w' { σ with s := (σ.s.read c).1 } K → Fr (AF K σ) w w' → w' = w2 → RdPost σ K m b q w e w' from fun e w' k1 k2 k3 k4 => by
          subst k4
          unfold RdPost
          rw [HR2.out]
          exact ⟨A2, n2, x2, B2, j2, i2, k1, k2, k3, fun h => ⟨((HOK.out h).1).lower HZ1.out, ((HOK.out h).2).lower HZ1.out⟩, HBAD.out⟩)
        generalize (σ.s.read c).2 = k at *
        clear hk7
        go_wp2_with fail
        go_ret3
        exact HPost.out _ _ rfl HA2.out HF2.out rfl
  · rw [hk] at HIN
    have hr : σ.read m = (σ, 74) := by unfold Ar.read; rw [hl, if_pos rfl]
    have HPost := As.mk (show ∀ (e : Ending) (w' : World), e = .returned (.tuple #[.slice none 0 0, .slice none 0 0, .int .i64 74]) → ArAt w' σ K → Fr None_ w w' → RdPost σ K m b q w e w' from fun e w' k1 k2 k3 => by
      unfold RdPost
      rw [hr]
      exact ⟨none, 0, 0, none, 0, 0, k1, k2, k3.mono (fun _ _ h => h.elim), fun h => (by cases h), fun _ => ⟨rfl, rfl⟩⟩)
    clear h hth hm hb hq hs hl hk hr
    go_enter Tryz.func22, Tryz.ntmps22
    go_wp2_with fail
    ((with_reducible refine (HIN.out).mono ?_); rintro e w1 ⟨rfl, hf1⟩)
    have HA1 := As.mk (HA.out.none_ hf1)
    have HF1 := As.mk hf1
    clear hf1
    go_wp2_with fail
    go_ret3
    exact HPost.out _ _ rfl HA1.out HF1.out
end Go.Proofs.YteofgpaceeibpaaGreat.ArrD
namespace Go.Proofs.YteofgpaceeibpaaGreat.ArrE
open Go.RowKit Go.Proofs.YteofgpaceeibpaaGreat.Gab Go.Proofs.YteofgpaceeibpaaGreat.Wr Go.Proofs.YteofgpaceeibpaaGreat.Geom Go.Proofs.YteofgpaceeibpaaGreat.Ref Go.Proofs.YteofgpaceeibpaaGreat.Nand Go.Proofs.YteofgpaceeibpaaGreat.NandA Go.Proofs.YteofgpaceeibpaaGreat.NandB Go.Proofs.YteofgpaceeibpaaGreat.NandC Go.Proofs.YteofgpaceeibpaaGreat.NandD Go.Proofs.YteofgpaceeibpaaGreat.NandE Go.Proofs.YteofgpaceeibpaaGreat.NandH Go.Proofs.YteofgpaceeibpaaGreat.RemapA Go.Proofs.YteofgpaceeibpaaGreat.RemapB Go.Proofs.YteofgpaceeibpaaGreat.VolA Go.Proofs.YteofgpaceeibpaaGreat.VolD Go.Proofs.YteofgpaceeibpaaGreat.VolE Go.Proofs.YteofgpaceeibpaaGreat.VolF Go.Proofs.YteofgpaceeibpaaGreat.MemA Go.Proofs.YteofgpaceeibpaaGreat.MemC Go.Proofs.YteofgpaceeibpaaGreat.ArrA Go.Proofs.YteofgpaceeibpaaGreat.ArrB Go.Proofs.YteofgpaceeibpaaGreat.ArrC Go.Proofs.YteofgpaceeibpaaGreat.ArrD
open Go.Proofs.YteofgpaceeibpaaGreat.Heap (cell_is heap_set fr_set1)
set_option linter.unusedVariables false
set_option linter.unusedSimpArgs false

/-- The chip that a member's block stands on now. -/
def _root_.Go.Proofs.YteofgpaceeibpaaGreat.ArrA.Ar.stand (σ : Ar) (m b : Nat) : Option Nat :=
  if σ.set.dead = (m : Int) then (if (b : Int) < σ.set.done ∧ (σ.vol σ.set.spare.toNat).isSome then some σ.set.spare.toNat else none) else some (σ.chip m)
theorem spare_ok {σ : Ar} (h : σ.Ok) (hs : σ.set.spare ≠ 255) : 0 ≤ σ.set.spare ∧ σ.set.spare ≤ σ.s.g.c := h.set.inr _ (by unfold MS.all; rw [if_neg hs]; simp)
theorem stand_some {w : World} {σ : Ar} {K : ALay} (h : ArAt w σ K) (hth : σ.There) (hl : σ.lost = false) {m b c : Nat} (hm : (m : Int) < σ.s.g.c) (hs : σ.stand m b = some c) : c < σ.s.n ∧ ∃ t, σ.vol c = some t := by
  have hgc := h.nand.ok.c
  unfold Ar.stand at hs
  split at hs
  · split at hs
    · rename_i h1 h2
      injection hs with hs
      have h3 := h.ok.set.dn (by omega)
      have h4 := spare_ok h.ok h3.2
      refine ⟨by unfold St.n; omega, ?_⟩
      rw [← hs]
      exact Option.isSome_iff_exists.1 h2.2
    · cases hs
  · rename_i h1
    injection hs with hs
    subst hs
    exact ⟨(h.chipc hm).2.1, hth hl m hm (fun e => h1 e.symm)⟩
def stv (σ : Ar) (K : ALay) (m b : Nat) : Value := match σ.stand m b with
  | some c => .tuple #[.pointer (some ⟨(K.v c).vb, 0, none⟩), .int .i64 (c : Int), .bool true]
  | none => .tuple #[.pointer none, .int .i64 0, .bool false]

set_option maxHeartbeats 8000000 in
set_option maxRecDepth 100000 in
theorem stand_calls (σ : Ar) (K : ALay) (m b : Nat) (w : World) (h : ArAt w σ K) (hth : σ.There) (hl : σ.lost = false) (hm : (m : Int) < σ.s.g.c) :
    Calls Tryz.prog 87 #[.pointer (some ⟨K.x, 0, none⟩), .int .i64 (m : Int), .int .i64 (b : Int)] w fun e w' => e = .returned (stv σ K m b) ∧ Fr None_ w w' := by
  have hgc := h.nand.ok.c
  obtain ⟨_, _, _, _, _, c5, _, c7, c8, c9, c10, _⟩ := h.cs
  obtain ⟨kc, hcn, hce⟩ := h.chipc hm
  have hmI : (m : Int) < (σ.s.g.c.toNat : Int) := by omega
  have hmn : m < σ.s.g.c.toNat := by omega
  have hmt : Int.toNat (m : Int) = m := by omega
  by_cases hd : σ.set.dead = (m : Int)
  · have d1 : ((m : Int) != σ.set.dead) = false := by rw [hd]; simp
    by_cases hb : (b : Int) < σ.set.done
    · have h3 := h.ok.set.dn (by omega)
      have h4 := spare_ok h.ok h3.2
      obtain ⟨sp, hsp⟩ := Int.eq_ofNat_of_zero_le h4.1
      have hspn : sp < σ.s.n := by unfold St.n; omega
      have hv := (h.volc hspn).1
      have d2 : decide ((b : Int) < σ.set.done) = true := decide_eq_true hb
      have d3 : (σ.set.spare != 255) = true := by rw [bne_iff_ne]; exact h3.2
      have hspt : σ.set.spare.toNat = sp := by omega
      rw [hsp] at c8 d3
      have hspI : (sp : Int) < (σ.s.n : Int) := by omega
      have hst : Int.toNat (sp : Int) = sp := by omega
      rcases hvs : σ.vol sp with _ | t
      · have HST := As.mk (show stv σ K m b = .tuple #[.pointer none, .int .i64 0, .bool false] from by unfold stv Ar.stand; rw [if_pos hd, hspt, hvs, if_neg (fun h => by cases h.2)])
        have hv2 : w.cell? ⟨K.V, sp, none⟩ = some (.pointer none) := by rw [hv]; unfold vptr; rw [hvs]
        clear h hth hl hm hd hb h3 h4 hsp hv hvs hce hspt
        go_enter Tryz.func87, Tryz.ntmps87
        go_upto_region 3 with fail
        go_quiet (fail)
        go_wp2_with fail
        go_ret3
        exact ⟨by rw [HST.out]; rfl, (Fr.refl None_ w).drewN nq⟩
      · have HST := As.mk (show stv σ K m b = .tuple #[.pointer (some ⟨(K.v sp).vb, 0, none⟩), .int .i64 (sp : Int), .bool true] from by unfold stv Ar.stand; rw [if_pos hd, hspt, hvs, if_pos ⟨hb, rfl⟩])
        have hv2 : w.cell? ⟨K.V, sp, none⟩ = some (.pointer (some ⟨(K.v sp).vb, 0, none⟩)) := by rw [hv]; unfold vptr; rw [hvs]
        clear h hth hl hm hd hb h3 h4 hsp hv hvs hce hspt
        go_enter Tryz.func87, Tryz.ntmps87
        go_upto_region 3 with fail
        go_quiet (fail)
        have c5' : (w.drewN nq).cell? ⟨K.x, 5, none⟩ = some (.slice (some ⟨K.V, 0, none⟩) σ.s.n σ.s.n) := c5
        have c8' : (w.drewN nq).cell? ⟨K.x, 8, none⟩ = some (.int .i64 (sp : Int)) := c8
        have v2' : (w.drewN nq).cell? ⟨K.V, sp, none⟩ = some (.pointer (some ⟨(K.v sp).vb, 0, none⟩)) := hv2
        have HF := As.mk ((Fr.refl None_ w).drewN nq)
        generalize w.drewN nq = w2 at *
        go_upto_region 4 with fail
        go_quiet (fail)
        go_wp2_with fail
        go_ret3
        exact ⟨by rw [HST.out]; rfl, HF.out.drewN nq⟩
    · have d2 : decide ((b : Int) < σ.set.done) = false := decide_eq_false hb
      have HST := As.mk (show stv σ K m b = .tuple #[.pointer none, .int .i64 0, .bool false] from by unfold stv Ar.stand; rw [if_pos hd, if_neg (fun h => hb h.1)])
      clear h hth hl hm hd hb hce
      go_enter Tryz.func87, Tryz.ntmps87
      go_upto_region 3 with fail
      go_quiet (fail)
      go_wp2_with fail
      go_ret3
      exact ⟨by rw [HST.out]; rfl, (Fr.refl None_ w).drewN nq⟩
  · have d1 : ((m : Int) != σ.set.dead) = true := by rw [bne_iff_ne]; exact fun e => hd e.symm
    obtain ⟨t, ht⟩ := hth hl m hm (fun e => hd e.symm)
    have hv := (h.volc hcn).1
    have hv2 : w.cell? ⟨K.V, σ.chip m, none⟩ = some (.pointer (some ⟨(K.v (σ.chip m)).vb, 0, none⟩)) := by rw [hv]; unfold vptr; rw [ht]
    have HST := As.mk (show stv σ K m b = .tuple #[.pointer (some ⟨(K.v (σ.chip m)).vb, 0, none⟩), .int .i64 (σ.chip m : Int), .bool true] from by unfold stv Ar.stand; rw [if_neg hd])
    have hcI : (σ.chip m : Int) < (σ.s.n : Int) := by omega
    have hct : Int.toNat (σ.chip m : Int) = σ.chip m := by omega
    generalize σ.chip m = c at *
    clear h hth hl hm hd ht hv hce
    go_enter Tryz.func87, Tryz.ntmps87
    go_upto_region 2 with fail
    go_quiet (fail)
    go_wp2_with fail
    go_ret3
    exact ⟨by rw [HST.out]; rfl, (Fr.refl None_ w).drewN nq⟩

/-- A page of a member's block is programmed: the array behind it, and the error. -/
def _root_.Go.Proofs.YteofgpaceeibpaaGreat.ArrA.Ar.prog (σ : Ar) (m b q : Nat) (d o : List Int) : Ar × Int :=
  if σ.lost then (σ, 74) else match σ.stand m b with
    | none => (σ, 71)
    | some c => if (σ.s.prog c ((σ.tab c).at b) q d o).2 = 71 then (if (Ar.died { σ with s := (σ.s.prog c ((σ.tab c).at b) q d o).1 } c).2 = 0 then ((Ar.died { σ with s := (σ.s.prog c ((σ.tab c).at b) q d o).1 } c).1, 71) else Ar.died { σ with s := (σ.s.prog c ((σ.tab c).at b) q d o).1 } c)
      else if (σ.s.prog c ((σ.tab c).at b) q d o).2 = 0 ∧ σ.set.dead = (m : Int) then ({ σ with s := (σ.s.prog c ((σ.tab c).at b) q d o).1 }, 71)
      else ({ σ with s := (σ.s.prog c ((σ.tab c).at b) q d o).1 }, (σ.s.prog c ((σ.tab c).at b) q d o).2)
def PgPost (σ : Ar) (K : ALay) (m b q : Nat) (d o : List Int) (w : World) (e : Ending) (w' : World) : Prop := e = .returned (.int .i64 (σ.prog m b q d o).2) ∧ ArAt w' (σ.prog m b q d o).1 K ∧ Fr (AF K σ) w w'

set_option maxHeartbeats 8000000 in
set_option maxRecDepth 100000 in
theorem Program_calls (σ : Ar) (K : ALay) (m b q : Nat) (D O : Option Addr) (nd cd no co : Nat) (d o : List Int) (w : World) (h : ArAt w σ K) (hth : σ.There) (hm : (m : Int) < σ.s.g.c) (hb : (b : Int) < σ.s.g.b - 5) (hq : q < σ.s.np) (n : Nat) (hs : σ.s.Safe (n + 1))
    (hD : RdN w (NF K.p K.L σ.s.n σ.s.nb) D nd d) (hO : RdN w (NF K.p K.L σ.s.n σ.s.nb) O no o) (hnd : (nd : Int) = σ.s.g.s) (hno : no = 64) (hrd : InR 256 d) (hro : InR 256 o) :
    Calls Tryz.prog 141 #[.pointer (some ⟨K.x, 0, none⟩), .int .i64 (m : Int), .int .i64 (b : Int), .int .i64 (q : Int), .slice D nd cd, .slice O no co] w (PgPost σ K m b q d o w) := by
  have HA := As.mk h
  have HIN := As.mk (in_calls σ K m b w h hm hb)
  have hgc := h.nand.ok.c
  have hlk : (σ.lost = false ∧ σ.lostK = 0) ∨ (σ.lost = true ∧ σ.lostK = 74) := by unfold Ar.lostK; cases σ.lost <;> simp
  rcases hlk with ⟨hl, hk⟩ | ⟨hl, hk⟩
  · rw [hk] at HIN
    have HSD := As.mk (fun (w' : World) (hf : Fr None_ w w') => stand_calls σ K m b w' (h.none_ hf) hth hl hm)
    rcases hst : σ.stand m b with _ | c
    · have hr : σ.prog m b q d o = (σ, 71) := by unfold Ar.prog; rw [hl, if_neg (by decide), hst]
      have hsv : stv σ K m b = .tuple #[.pointer none, .int .i64 0, .bool false] := by unfold stv; rw [hst]
      rw [hsv] at HSD
      have HPost := As.mk (show ∀ (e : Ending) (w' : World), e = .returned (.int .i64 71) → ArAt w' σ K → Fr None_ w w' → PgPost σ K m b q d o w e w' from fun e w' k1 k2 k3 => by
        unfold PgPost
        rw [hr]
        exact ⟨k1, k2, k3.mono (fun _ _ h => h.elim)⟩)
      clear h hth hm hb hq hs hl hk hr hst hsv hD hO hnd hno hrd hro
      go_enter Tryz.func141, Tryz.ntmps141
      go_wp2_with fail
      ((with_reducible refine (HIN.out).mono ?_); rintro e w1 ⟨rfl, hf1⟩)
      have HF1 := As.mk hf1
      have HSD1 := As.mk (HSD.out w1 hf1)
      clear hf1
      go_wp2_with fail
      ((with_reducible refine (HSD1.out).mono ?_); rintro e w2 ⟨rfl, hf2⟩)
      have HF2 := As.mk (HF1.out.after hf2 (fun _ _ h => h))
      have HA2 := As.mk (HA.out.none_ HF2.out)
      clear hf2 HSD1
      go_wp2_with fail
      go_ret
      exact HPost.out _ _ rfl HA2.out HF2.out
    · obtain ⟨hcn, t, ht⟩ := stand_some h hth hl hm hst
      have hvv := h.vol c t hcn ht
      have htok := h.ok.more _ t hcn ht
      have hlt : b < t.place.length := by rw [htok.len]; omega
      have htb : (σ.tab c).at b = t.at b := by unfold Ar.tab; rw [ht]; rfl
      have hsv : stv σ K m b = .tuple #[.pointer (some ⟨(K.v c).vb, 0, none⟩), .int .i64 (c : Int), .bool true] := by unfold stv; rw [hst]
      rw [hsv] at HSD
      have HPR := As.mk (fun (w' : World) (hf : Fr None_ w w') => VolA.Prog_calls K.p c σ.s K.L t (K.v c) b q D O nd cd no co d o w' (h.nand.none_ hf) (hvv.1.none_ hf) htok hcn hlt hq n hs (hD.none_ hf) (hO.none_ hf) hnd hno hrd hro)
      unfold PPost at HPR
      rw [← htb] at HPR
      have hsg := (prog_g σ.s c ((σ.tab c).at b) q d o).1
      have HR := As.mk (show σ.prog m b q d o = if (σ.s.prog c ((σ.tab c).at b) q d o).2 = 71 then (if (Ar.died { σ with s := (σ.s.prog c ((σ.tab c).at b) q d o).1 } c).2 = 0 then ((Ar.died { σ with s := (σ.s.prog c ((σ.tab c).at b) q d o).1 } c).1, 71) else Ar.died { σ with s := (σ.s.prog c ((σ.tab c).at b) q d o).1 } c)
        else if (σ.s.prog c ((σ.tab c).at b) q d o).2 = 0 ∧ σ.set.dead = (m : Int) then ({ σ with s := (σ.s.prog c ((σ.tab c).at b) q d o).1 }, 71)
        else ({ σ with s := (σ.s.prog c ((σ.tab c).at b) q d o).1 }, (σ.s.prog c ((σ.tab c).at b) q d o).2) from by unfold Ar.prog; rw [hl, if_neg (by decide), hst])
      generalize σ.s.prog c ((σ.tab c).at b) q d o = r at *
      have HDI := As.mk (fun (w' : World) (hA : ArAt w' { σ with s := r.1 } K) => died_calls { σ with s := r.1 } K c w' hA (by show c < St.n _; rw [(n_same hsg).1]; exact hcn))
      have HTU := As.mk (fun (w1 w' : World) (hf : Fr None_ w w1) (hN : Nand w' K.p r.1 K.L) (hf2 : Fr (NF K.p K.L σ.s.n σ.s.nb) w1 w') => (h.none_ hf).turn hN hsg hf2)
      clear h hth hm hb hq hs hl hk hst hsv hD hO hnd hno hrd hro ht hvv htok hlt htb hsg hcn
      go_enter Tryz.func141, Tryz.ntmps141
      go_wp2_with fail
      ((with_reducible refine (HIN.out).mono ?_); rintro e w1 ⟨rfl, hf1⟩)
      have HF1 := As.mk hf1
      have HSD1 := As.mk (HSD.out w1 hf1)
      clear hf1
      go_wp2_with fail
      ((with_reducible refine (HSD1.out).mono ?_); rintro e w2 ⟨rfl, hf2⟩)
      have HF2 := As.mk (HF1.out.after hf2 (fun _ _ h => h))
      have HPR2 := As.mk (HPR.out w2 HF2.out)
      clear hf2 HSD1
      go_wp2_with fail
      ((with_reducible refine (HPR2.out).mono ?_); rintro e w3 ⟨rfl, hn3, hf3⟩)
      have HA3 := As.mk (HTU.out w2 w3 HF2.out hn3 hf3)
      have HF3 := As.mk (show Fr (AF K σ) w w3 from HF2.out.trans hf3 (fun _ _ h => h.elim) (fun _ _ h => .inl h))
      clear hn3 hf3 HPR2
      by_cases hk7 : r.2 = 71
      · have HDD := As.mk (HDI.out w3 HA3.out)
        have HDS := As.mk (died_same { σ with s := r.1 } c)
        have HG := As.mk (show ∀ b, (b = K.x ∨ b = K.V) → AF K σ b from fun b h => by rcases h with h | h; exact .inr (.inl h); exact .inr (.inr h))
        by_cases hd0 : (Ar.died { σ with s := r.1 } c).2 = 0
        · have HPost := As.mk (show ∀ (e : Ending) (w' : World), e = .returned (.int .i64 71) → ArAt w' (Ar.died { σ with s := r.1 } c).1 K → Fr (AF K σ) w w' → PgPost σ K m b q d o w e w' from fun e w' k1 k2 k3 => by
            unfold PgPost
            rw [HR.out, if_pos hk7, if_pos hd0]
            exact ⟨k1, k2, k3⟩)
          unfold DiedPost at HDD
          rw [hd0] at HDD
          rw [hk7]
          clear hk7 hd0
          go_wp2_with fail
          ((with_reducible refine (HDD.out).mono ?_); rintro e w4 ⟨rfl, ha4, hf4⟩)
          have HA4 := As.mk ha4
          have HF4 := As.mk (HF3.out.after hf4 (fun b _ h => HG.out b h))
          clear ha4 hf4
          go_wp2_with fail
          go_ret
          exact HPost.out _ _ rfl HA4.out HF4.out
        · have hd4 : (Ar.died { σ with s := r.1 } c).2 = 74 := by rcases HDS.out.2 with h | h; exact absurd h hd0; exact h
          have HPost := As.mk (show ∀ (e : Ending) (w' : World), e = .returned (.int .i64 74) → ArAt w' (Ar.died { σ with s := r.1 } c).1 K → Fr (AF K σ) w w' → PgPost σ K m b q d o w e w' from fun e w' k1 k2 k3 => by
            unfold PgPost
            rw [HR.out, if_pos hk7, if_neg hd0, hd4]
            exact ⟨k1, k2, k3⟩)
          unfold DiedPost at HDD
          rw [hd4] at HDD
          rw [hk7]
          clear hk7 hd0 hd4
          go_wp2_with fail
          ((with_reducible refine (HDD.out).mono ?_); rintro e w4 ⟨rfl, ha4, hf4⟩)
          have HA4 := As.mk ha4
          have HF4 := As.mk (HF3.out.after hf4 (fun b _ h => HG.out b h))
          clear ha4 hf4
          go_wp2_with fail
          go_ret
          exact HPost.out _ _ rfl HA4.out HF4.out
      · have d7 : (r.2 == 71) = false := beq_eq_false_iff_ne.2 hk7
        have c9 := HA3.out.cs.2.2.2.2.2.2.2.2.2.1
        change w3.cell? ⟨K.x, 9, none⟩ = some (.int .i64 σ.set.dead) at c9
        by_cases hk0 : r.2 = 0
        · by_cases hdm : σ.set.dead = (m : Int)
          · have d9 : ((m : Int) == σ.set.dead) = true := beq_iff_eq.2 hdm.symm
            have HPost := As.mk (show ∀ (e : Ending) (w' : World), e = .returned (.int .i64 71) → ArAt w' { σ with s := r.1 } K → Fr (AF K σ) w w' → PgPost σ K m b q d o w e w' from fun e w' k1 k2 k3 => by
              unfold PgPost
              rw [HR.out, if_neg hk7, if_pos ⟨hk0, hdm⟩]
              exact ⟨k1, k2, k3⟩)
            rw [hk0]
            clear hk7 d7 hk0 hdm
            go_wp2_with fail
            go_ret
            exact HPost.out _ _ rfl HA3.out HF3.out
          · have d9 : ((m : Int) == σ.set.dead) = false := beq_eq_false_iff_ne.2 (fun e => hdm e.symm)
            have HPost := As.mk (show ∀ (e : Ending) (w' : World), e = .returned (.int .i64 0) → ArAt w' { σ with s := r.1 } K → Fr (AF K σ) w w' → PgPost σ K m b q d o w e w' from fun e w' k1 k2 k3 => by
              unfold PgPost
              rw [HR.out, if_neg hk7, if_neg (fun h => hdm h.2), hk0]
              exact ⟨k1, k2, k3⟩)
            rw [hk0]
            clear hk7 d7 hk0 hdm
            go_wp2_with fail
            go_ret
            exact HPost.out _ _ rfl HA3.out HF3.out
        · have d0 : (r.2 == 0) = false := beq_eq_false_iff_ne.2 hk0
          have HPost := As.mk (show ∀ (e : Ending) (w' : World), e = .returned (.int .i64 r.2) → ArAt w' { σ with s := r.1 } K → Fr (AF K σ) w w' → PgPost σ K m b q d o w e w' from fun e w' k1 k2 k3 => by
            unfold PgPost
            rw [HR.out, if_neg hk7, if_neg (fun h => hk0 h.1)]
            exact ⟨k1, k2, k3⟩)
          generalize r.2 = k at *
          clear hk7 hk0
          go_wp2_with fail
          go_ret
          exact HPost.out _ _ rfl HA3.out HF3.out
  · rw [hk] at HIN
    have hr : σ.prog m b q d o = (σ, 74) := by unfold Ar.prog; rw [hl, if_pos rfl]
    have HPost := As.mk (show ∀ (e : Ending) (w' : World), e = .returned (.int .i64 74) → ArAt w' σ K → Fr None_ w w' → PgPost σ K m b q d o w e w' from fun e w' k1 k2 k3 => by
      unfold PgPost
      rw [hr]
      exact ⟨k1, k2, k3.mono (fun _ _ h => h.elim)⟩)
    clear h hth hm hb hq hs hl hk hr hD hO hnd hno hrd hro
    go_enter Tryz.func141, Tryz.ntmps141
    go_wp2_with fail
    ((with_reducible refine (HIN.out).mono ?_); rintro e w1 ⟨rfl, hf1⟩)
    have HA1 := As.mk (HA.out.none_ hf1)
    have HF1 := As.mk hf1
    clear hf1
    go_wp2_with fail
    go_ret
    exact HPost.out _ _ rfl HA1.out HF1.out
end Go.Proofs.YteofgpaceeibpaaGreat.ArrE
namespace Go.Proofs.YteofgpaceeibpaaGreat.ArrF
open Go.RowKit Go.Proofs.YteofgpaceeibpaaGreat.Gab Go.Proofs.YteofgpaceeibpaaGreat.Wr Go.Proofs.YteofgpaceeibpaaGreat.Geom Go.Proofs.YteofgpaceeibpaaGreat.Ref Go.Proofs.YteofgpaceeibpaaGreat.Nand Go.Proofs.YteofgpaceeibpaaGreat.NandA Go.Proofs.YteofgpaceeibpaaGreat.NandB Go.Proofs.YteofgpaceeibpaaGreat.NandC Go.Proofs.YteofgpaceeibpaaGreat.NandD Go.Proofs.YteofgpaceeibpaaGreat.NandE Go.Proofs.YteofgpaceeibpaaGreat.NandH Go.Proofs.YteofgpaceeibpaaGreat.RemapA Go.Proofs.YteofgpaceeibpaaGreat.RemapB Go.Proofs.YteofgpaceeibpaaGreat.VolA Go.Proofs.YteofgpaceeibpaaGreat.VolD Go.Proofs.YteofgpaceeibpaaGreat.VolE Go.Proofs.YteofgpaceeibpaaGreat.VolF Go.Proofs.YteofgpaceeibpaaGreat.MemA Go.Proofs.YteofgpaceeibpaaGreat.MemC Go.Proofs.YteofgpaceeibpaaGreat.ArrA Go.Proofs.YteofgpaceeibpaaGreat.ArrB Go.Proofs.YteofgpaceeibpaaGreat.ArrC Go.Proofs.YteofgpaceeibpaaGreat.ArrD Go.Proofs.YteofgpaceeibpaaGreat.ArrE
open Go.Proofs.YteofgpaceeibpaaGreat.Heap (cell_is heap_set fr_set1)
set_option linter.unusedVariables false
set_option linter.unusedSimpArgs false

/-- Two members have not the same chip. -/
theorem chip_inj {σ : Ar} (h : σ.set.Ok σ.s.g) {m k : Nat} (hm : (m : Int) < σ.s.g.c) (hk : (k : Int) < σ.s.g.c) (e : σ.chip m = σ.chip k) : m = k := by
  have hl := h.len
  have hnd := (List.nodup_append.1 h.nd).1
  have hm' : m < σ.set.chips.length := by omega
  have hk' : k < σ.set.chips.length := by omega
  have r1 := h.inr σ.set.chips[m] (by unfold MS.all; simp)
  have r2 := h.inr σ.set.chips[k] (by unfold MS.all; simp)
  have e1 : σ.chip m = σ.set.chips[m].toNat := by unfold Ar.chip; rw [List.getD_eq_getElem?_getD, List.getElem?_eq_getElem hm']; rfl
  have e2 : σ.chip k = σ.set.chips[k].toNat := by unfold Ar.chip; rw [List.getD_eq_getElem?_getD, List.getElem?_eq_getElem hk']; rfl
  have e3 : σ.set.chips[m] = σ.set.chips[k] := by omega
  rcases Nat.lt_trichotomy m k with hlt | rfl | hlt
  · exact absurd e3 (List.pairwise_iff_getElem.1 hnd m k hm' hk' hlt)
  · rfl
  · exact absurd e3.symm (List.pairwise_iff_getElem.1 hnd k m hk' hm' hlt)
/-- The chip in reserve is no member's. -/
theorem spare_off {σ : Ar} (h : σ.set.Ok σ.s.g) {m : Nat} (hm : (m : Int) < σ.s.g.c) (hs : σ.set.spare ≠ 255) : (σ.chip m : Int) ≠ σ.set.spare := by
  have hl := h.len
  have hm' : m < σ.set.chips.length := by omega
  have r1 := h.inr σ.set.chips[m] (by unfold MS.all; simp)
  have e1 : σ.chip m = σ.set.chips[m].toNat := by unfold Ar.chip; rw [List.getD_eq_getElem?_getD, List.getElem?_eq_getElem hm']; rfl
  have hd := h.nd
  unfold MS.all at hd
  rw [if_neg hs] at hd
  intro e
  exact (List.nodup_append.1 hd).2.2 _ (List.getElem_mem hm') _ (List.mem_singleton_self _) (by omega)
theorem chip_range {σ : Ar} (h : σ.set.Ok σ.s.g) {m : Nat} (hm : (m : Int) < σ.s.g.c) : (σ.chip m : Int) ≤ σ.s.g.c ∧ σ.set.chips.getD m 0 = (σ.chip m : Int) := by
  have hl := h.len
  have hm' : m < σ.set.chips.length := by omega
  have r1 := h.inr σ.set.chips[m] (by unfold MS.all; simp)
  have e1 : σ.set.chips.getD m 0 = σ.set.chips[m] := by rw [List.getD_eq_getElem?_getD, List.getElem?_eq_getElem hm']; rfl
  unfold Ar.chip
  rw [e1]
  omega
/-- Which member's it is. -/
theorem idx_cases {σ : Ar} (h : σ.set.Ok σ.s.g) (c : Nat) : (idxOf σ.set.chips c = none ∧ ∀ m : Nat, (m : Int) < σ.s.g.c → σ.chip m ≠ c) ∨ ∃ m, idxOf σ.set.chips c = some m ∧ (m : Int) < σ.s.g.c ∧ σ.chip m = c := by
  have hl := h.len
  rcases hi : idxOf σ.set.chips c with _ | m
  · refine .inl ⟨rfl, fun m hm e => ?_⟩
    unfold idxOf at hi
    rw [List.find?_eq_none] at hi
    have := hi m (List.mem_range.2 (by omega))
    have h2 := (chip_range h hm).2
    rw [h2, e] at this
    simp at this
  · refine .inr ⟨m, rfl, ?_, ?_⟩
    · unfold idxOf at hi
      have := List.mem_range.1 (List.mem_of_find?_eq_some hi)
      omega
    · unfold idxOf at hi
      have h1 := List.mem_range.1 (List.mem_of_find?_eq_some hi)
      have h2 := List.find?_some hi
      have h3 := (chip_range h (show (m : Int) < σ.s.g.c by omega)).2
      simp only [beq_iff_eq] at h2
      omega
theorem there_died {σ : Ar} (hg : σ.s.g.Ok) (h : σ.set.Ok σ.s.g) (ht : σ.There) (c : Nat) (hc0 : c < σ.s.n) : (σ.died c).1.There := by
  unfold Ar.died
  split
  · rename_i hs
    intro hl m hm hd
    obtain ⟨t, e⟩ := ht hl m hm hd
    have hne : σ.set.spare ≠ 255 := by
      have := hg.c
      unfold St.n at hc0
      omega
    refine ⟨t, ?_⟩
    show (if σ.chip m = c then none else σ.vol (σ.chip m)) = some t
    rw [if_neg (fun e2 => spare_off h hm hne (by rw [hs, e2]))]
    exact e
  · rcases idx_cases h c with ⟨e, hno⟩ | ⟨k, e, hk, hc⟩
    · rw [e]
      intro hl m hm hd
      obtain ⟨t, e2⟩ := ht hl m hm hd
      refine ⟨t, ?_⟩
      show (if σ.chip m = c then none else σ.vol (σ.chip m)) = some t
      rw [if_neg (hno m hm)]
      exact e2
    · rw [e]
      show ((σ.drop c).gone k).1.There
      unfold Ar.gone
      split
      · rename_i hd1
        intro hl m hm hd
        obtain ⟨t, e2⟩ := ht hl m hm hd
        refine ⟨t, ?_⟩
        show (if σ.chip m = c then none else σ.vol (σ.chip m)) = some t
        rw [if_neg (fun e3 => hd (by rw [chip_inj h hm hk (e3.trans hc.symm)]; exact hd1.symm))]
        exact e2
      · split
        · rename_i hd1 hd2
          intro hl m hm hd
          have hd0 : (m : Int) ≠ σ.set.dead := fun e3 => by
            have h255 : σ.set.dead = 255 := hd2
            have := hg.c
            have hm2 : (m : Int) < σ.s.g.c := hm
            omega
          obtain ⟨t, e2⟩ := ht hl m hm hd0
          refine ⟨t, ?_⟩
          show (if σ.chip m = c then none else σ.vol (σ.chip m)) = some t
          rw [if_neg (fun e3 => hd (by rw [chip_inj h hm hk (e3.trans hc.symm)]))]
          exact e2
        · intro hl
          cases hl

/-! ### Erase -/
/-- A member's block is erased. -/
def _root_.Go.Proofs.YteofgpaceeibpaaGreat.ArrA.Ar.erase1 (σ : Ar) (m b : Nat) : Ar × Int := match σ.stand m b with
  | none => (σ, 0)
  | some c => if (σ.s.erase c ((σ.tab c).at b)).2 = 71 then Ar.died { σ with s := (σ.s.erase c ((σ.tab c).at b)).1 } c else ({ σ with s := (σ.s.erase c ((σ.tab c).at b)).1 }, (σ.s.erase c ((σ.tab c).at b)).2)
def _root_.Go.Proofs.YteofgpaceeibpaaGreat.ArrA.Ar.eraseN (σ : Ar) (b : Nat) : Nat → Ar × Int
  | 0 => (σ, 0)
  | i + 1 => if (σ.eraseN b i).2 = 0 then (σ.eraseN b i).1.erase1 i b else σ.eraseN b i
/-- A block of all members is erased. -/
def _root_.Go.Proofs.YteofgpaceeibpaaGreat.ArrA.Ar.erase (σ : Ar) (b : Nat) : Ar × Int := if σ.lost then (σ, 74) else σ.eraseN b σ.s.g.c.toNat
theorem eraseN_stuck (σ : Ar) (b : Nat) : ∀ n m, n ≤ m → (σ.eraseN b n).2 ≠ 0 → σ.eraseN b m = σ.eraseN b n
  | n, 0, h, _ => by
    obtain rfl : n = 0 := by omega
    rfl
  | n, m + 1, h, hk => by
    by_cases e : n = m + 1
    · rw [e]
    · have ih := eraseN_stuck σ b n m (by omega) hk
      show (if (σ.eraseN b m).2 = 0 then _ else σ.eraseN b m) = _
      rw [ih, if_neg hk]
/-- What a step keeps. -/
structure Kept (σ σ' : Ar) (k : Int) : Prop where
  g : σ'.s.g = σ.s.g
  there : σ.There → σ'.There
  lost : k = 0 → σ.lost = false → σ'.lost = false
theorem died_lost (σ : Ar) (c : Nat) (h : (σ.died c).2 = 0) : (σ.died c).1.lost = σ.lost := by
  unfold Ar.died at h ⊢
  split
  · rfl
  · rename_i hs
    rw [if_neg hs] at h
    rcases hi : idxOf σ.set.chips c with _ | m
    · rfl
    · rw [hi] at h
      simp only at h ⊢
      unfold Ar.gone at h ⊢
      split
      · rfl
      · rename_i h1
        rw [if_neg h1] at h
        split
        · rfl
        · rename_i h2
          rw [if_neg h2] at h
          cases h
theorem died_kept {σ : Ar} (hg : σ.s.g.Ok) (h : σ.set.Ok σ.s.g) (c : Nat) (hc : c < σ.s.n) : Kept σ (σ.died c).1 (σ.died c).2 :=
  ⟨by rw [(died_same σ c).1], fun ht => there_died hg h ht c hc, fun hk hl => by rw [died_lost σ c hk]; exact hl⟩
theorem Kept.trans {a b c : Ar} {k l : Int} (h : Kept a b k) (h2 : Kept b c l) (hk : k = 0) : Kept a c l := ⟨h2.g.trans h.g, fun ht => h2.there (h.there ht), fun hl hlo => h2.lost hl (h.lost hk hlo)⟩
def ErPost (σ : Ar) (K : ALay) (b : Nat) (w : World) (e : Ending) (w' : World) : Prop := e = .returned (.int .i64 (σ.erase b).2) ∧ ArAt w' (σ.erase b).1 K ∧ Fr (AF K σ) w w'
theorem safe_erase1 {σ : Ar} {n : Nat} (h : σ.s.Safe (n + 1)) (m b : Nat) : (σ.erase1 m b).1.s.Safe n := by
  unfold Ar.erase1
  split
  · exact h.le (Nat.le_succ n)
  · split
    · rw [(died_same _ _).1]; exact h.erase _ _
    · exact h.erase _ _
theorem safe_eraseN {σ : Ar} (b : Nat) : ∀ i n, σ.s.Safe (n + i) → (σ.eraseN b i).1.s.Safe n
  | 0, n, h => h
  | i + 1, n, h => by
    have h2 := safe_eraseN b i (n + 1) (by rw [show n + 1 + i = n + (i + 1) by omega]; exact h)
    unfold Ar.eraseN
    split
    · exact safe_erase1 h2 i b
    · exact h2.le (Nat.le_succ n)

set_option maxHeartbeats 8000000 in
set_option maxRecDepth 100000 in
theorem Erase_calls (σ : Ar) (K : ALay) (b : Nat) (w : World) (h : ArAt w σ K) (hth : σ.There) (hb : (b : Int) < σ.s.g.b - 5) (n : Nat) (hs : σ.s.Safe (n + 17)) :
    Calls Tryz.prog 50 #[.pointer (some ⟨K.x, 0, none⟩), .int .i64 (b : Int)] w (ErPost σ K b w) := by
  have HA := As.mk h
  have hgc := h.nand.ok.c
  have HIN := As.mk (show Calls Tryz.prog 55 #[.pointer (some ⟨K.x, 0, none⟩), .int .i64 0, .int .i64 (b : Int)] w _ from in_calls σ K 0 b w h (show (0 : Int) < σ.s.g.c by omega) hb)
  have hlk : (σ.lost = false ∧ σ.lostK = 0) ∨ (σ.lost = true ∧ σ.lostK = 74) := by unfold Ar.lostK; cases σ.lost <;> simp
  rcases hlk with ⟨hl, hk⟩ | ⟨hl, hk⟩
  · rw [hk] at HIN
    have HE := As.mk (show σ.erase b = σ.eraseN b σ.s.g.c.toNat from by unfold Ar.erase; rw [hl, if_neg (by decide)])
    have HTH := As.mk hth
    have HBB := As.mk hb
    have HSS := As.mk hs
    have HLO := As.mk hl
    obtain ⟨nc, hnc⟩ := Int.eq_ofNat_of_zero_le (show 0 ≤ σ.s.g.c by omega)
    have HNC := As.mk hnc
    have HGO := As.mk h.nand.ok
    have hn16 : nc ≤ 16 := by omega
    clear h hth hb hs hl hk hnc
    go_enter Tryz.func50, Tryz.ntmps50
    go_wp2_with fail
    ((with_reducible refine (HIN.out).mono ?_); rintro e w1 ⟨rfl, hf1⟩)
    have HA1 := As.mk (HA.out.none_ hf1)
    have HF1 := As.mk (show Fr (AF K σ) w w1 from hf1.mono (fun _ _ h => h.elim))
    have c1 := HA1.out.cs.2.1
    clear hf1 hgc
    go_wp2_with fail
    go_loopw [22] (fun v22 w' => ∃ i : Nat, v22 = .int .i64 (i : Int) ∧ i ≤ nc ∧ As ((σ.eraseN b i).2 = 0) ∧ As (ArAt w' (σ.eraseN b i).1 K) ∧ As (Kept σ (σ.eraseN b i).1 0) ∧ As (Fr (AF K σ) w w')) (fun v22 _ => nc - (intOf v22).toNat)
    case atStart => exact ⟨0, rfl, Nat.zero_le _, ⟨rfl⟩, HA1, ⟨⟨rfl, fun h => h, fun _ h => h⟩⟩, HF1⟩
    case round =>
      obtain ⟨i, rfl, hi, HK, HAi, HKE, HFi⟩ := hrel
      by_cases hlt : i < nc
      · have hltI : (i : Int) < σ.s.g.c := by have := HNC.out; omega
        have HS1 := As.mk (show σ.eraseN b (i + 1) = (σ.eraseN b i).1.erase1 i b from by show (if (σ.eraseN b i).2 = 0 then _ else _) = _; rw [if_pos HK.out])
        have hsg := HKE.out.g
        have hthi := HKE.out.there HTH.out
        have hlo := HKE.out.lost rfl HLO.out
        have hsaf := safe_eraseN b i (n + 1) (HSS.out.le (show n + 1 + i ≤ n + 17 by omega))
        have hAFe := AF.eq (K := K) hsg
        have HAFE := As.mk hAFe
        generalize hσi : (σ.eraseN b i).1 = τ at *
        have hmi : (i : Int) < τ.s.g.c := by rw [hsg]; exact hltI
        have hbi : (b : Int) < τ.s.g.b - 5 := by rw [hsg]; exact HBB.out
        have HSD := As.mk (stand_calls τ K i b wr HAi.out hthi hlo hmi)
        rcases hst : τ.stand i b with _ | c
        · have HN1 := As.mk (show σ.eraseN b (i + 1) = (τ, 0) from by rw [HS1.out]; unfold Ar.erase1; rw [hst])
          have hsv : stv τ K i b = .tuple #[.pointer none, .int .i64 0, .bool false] := by unfold stv; rw [hst]
          rw [hsv] at HSD
          clear hst hsv hsaf hAFe hσi hmi hbi hthi hlo hsg
          go_wp2_with fail
          ((with_reducible refine (HSD.out).mono ?_); rintro e w2 ⟨rfl, hf2⟩)
          have HA2 := As.mk (HAi.out.none_ hf2)
          have HF2 := As.mk (HFi.out.after hf2 (fun _ _ h => h.elim))
          clear hf2 HSD
          go_wp2_with fail
          exact ⟨⟨i + 1, rfl, by omega, ⟨by rw [HN1.out]⟩, ⟨by rw [HN1.out]; exact HA2.out⟩, ⟨by rw [HN1.out]; exact HKE.out⟩, HF2⟩, by simp [intOf]; omega⟩
        · obtain ⟨hcn, t, ht⟩ := stand_some HAi.out hthi hlo hmi hst
          have hvv := HAi.out.vol c t hcn ht
          have htok := HAi.out.ok.more _ t hcn ht
          have hltb : b < t.place.length := by rw [htok.len]; omega
          have htb : (τ.tab c).at b = t.at b := by unfold Ar.tab; rw [ht]; rfl
          have hsv : stv τ K i b = .tuple #[.pointer (some ⟨(K.v c).vb, 0, none⟩), .int .i64 (c : Int), .bool true] := by unfold stv; rw [hst]
          rw [hsv] at HSD
          have HPR := As.mk (fun (w' : World) (hf : Fr None_ wr w') => VolA.Erase_calls K.p c τ.s K.L t (K.v c) b w' (HAi.out.nand.none_ hf) (hvv.1.none_ hf) htok hcn hltb n hsaf)
          unfold ErasePost at HPR
          rw [← htb] at HPR
          have hrg := (erase_g τ.s c ((τ.tab c).at b)).1
          have hN1 : σ.eraseN b (i + 1) = if (τ.s.erase c ((τ.tab c).at b)).2 = 71 then Ar.died { τ with s := (τ.s.erase c ((τ.tab c).at b)).1 } c else ({ τ with s := (τ.s.erase c ((τ.tab c).at b)).1 }, (τ.s.erase c ((τ.tab c).at b)).2) := by rw [HS1.out]; unfold Ar.erase1; rw [hst]
          generalize τ.s.erase c ((τ.tab c).at b) = r at *
          have HN1 := As.mk hN1
          have hcr : c < r.1.n := by rw [(n_same hrg).1]; exact hcn
          have HDI := As.mk (fun (w' : World) (hA : ArAt w' { τ with s := r.1 } K) => died_calls { τ with s := r.1 } K c w' hA hcr)
          have HKD := As.mk (show Kept τ (Ar.died { τ with s := r.1 } c).1 (Ar.died { τ with s := r.1 } c).2 from by
            have h1 := died_kept (σ := { τ with s := r.1 }) (by show r.1.g.Ok; rw [hrg]; exact HAi.out.nand.ok) (by show τ.set.Ok r.1.g; rw [hrg]; exact HAi.out.ok.set) c hcr
            exact ⟨h1.g.trans hrg, fun ht => h1.there (fun hl m hm hd => ht hl m (by rw [← hrg]; exact hm) hd), h1.lost⟩)
          have HKS := As.mk (show Kept τ { τ with s := r.1 } 0 from ⟨hrg, fun ht hl m hm hd => ht hl m (by rw [← hrg]; exact hm) hd, fun _ h => h⟩)
          have HTU := As.mk (fun (w1 w' : World) (hf : Fr None_ wr w1) (hN : Nand w' K.p r.1 K.L) (hf2 : Fr (NF K.p K.L τ.s.n τ.s.nb) w1 w') => (HAi.out.none_ hf).turn hN hrg hf2)
          clear hst hsv hsaf hAFe hσi hmi hbi hthi hlo hsg hcn ht hvv htok hltb htb hrg hN1 hcr
          go_wp2_with fail
          ((with_reducible refine (HSD.out).mono ?_); rintro e w2 ⟨rfl, hf2⟩)
          have HPR2 := As.mk (HPR.out w2 hf2)
          have HF2 := As.mk hf2
          clear hf2 HSD
          go_wp2_with fail
          ((with_reducible refine (HPR2.out).mono ?_); rintro e w3 ⟨rfl, hn3, hf3⟩)
          have HA3 := As.mk (HTU.out w2 w3 HF2.out hn3 hf3)
          have HF3 := As.mk (show Fr (AF K σ) w w3 from (HFi.out.after HF2.out (fun _ _ h => h.elim)).after hf3 (fun b _ h => (HAFE.out b).1 (.inl h)))
          clear hn3 hf3 HPR2
          by_cases hk7 : r.2 = 71
          · have HDD := As.mk (HDI.out w3 HA3.out)
            have HN2 := As.mk (show σ.eraseN b (i + 1) = Ar.died { τ with s := r.1 } c from by rw [HN1.out, if_pos hk7])
            have HG := As.mk (show ∀ b, (b = K.x ∨ b = K.V) → AF K σ b from fun b h => by rcases h with h | h; exact .inr (.inl h); exact .inr (.inr h))
            unfold DiedPost at HDD
            rw [← HN2.out] at HDD HKD
            rw [hk7]
            clear hk7
            go_wp2_with fail
            ((with_reducible refine (HDD.out).mono ?_); rintro e w4 ⟨rfl, ha4, hf4⟩)
            have HA4 := As.mk ha4
            have HF4 := As.mk (HF3.out.after hf4 (fun b _ h => HG.out b h))
            clear ha4 hf4
            by_cases hk0 : (σ.eraseN b (i + 1)).2 = 0
            · have HK4 := As.mk hk0
              rw [hk0]
              rw [hk0] at HKD
              clear hk0
              go_wp2_with fail
              exact ⟨⟨i + 1, rfl, by omega, HK4, HA4, ⟨HKE.out.trans HKD.out rfl⟩, HF4⟩, by simp [intOf]; omega⟩
            · have d0 : ((σ.eraseN b (i + 1)).2 != 0) = true := by rw [bne_iff_ne]; exact hk0
              have HPost := As.mk (show ∀ (e : Ending) (w' : World), e = .returned (.int .i64 (σ.eraseN b (i + 1)).2) → ArAt w' (σ.eraseN b (i + 1)).1 K → Fr (AF K σ) w w' → ErPost σ K b w e w' from fun e w' k1 k2 k3 => by
                have : σ.erase b = σ.eraseN b (i + 1) := by rw [HE.out]; exact eraseN_stuck σ b (i + 1) _ (by have := HNC.out; omega) hk0
                unfold ErPost
                rw [this]
                exact ⟨k1, k2, k3⟩)
              generalize (σ.eraseN b (i + 1)).2 = k at *
              clear hk0
              go_wp2_with fail
              go_ret
              exact HPost.out _ _ rfl HA4.out HF4.out
          · have d7 : (r.2 == 71) = false := beq_eq_false_iff_ne.2 hk7
            have HN2 := As.mk (show σ.eraseN b (i + 1) = ({ τ with s := r.1 }, r.2) from by rw [HN1.out, if_neg hk7])
            by_cases hk0 : r.2 = 0
            · rw [hk0] at HN2 ⊢
              clear hk0 hk7 d7
              go_wp2_with fail
              exact ⟨⟨i + 1, rfl, by omega, ⟨by rw [HN2.out]⟩, ⟨by rw [HN2.out]; exact HA3.out⟩, ⟨by rw [HN2.out]; exact HKE.out.trans HKS.out rfl⟩, HF3⟩, by simp [intOf]; omega⟩
            · have d0 : (r.2 != 0) = true := by rw [bne_iff_ne]; exact hk0
              have HPost := As.mk (show ∀ (e : Ending) (w' : World), e = .returned (.int .i64 r.2) → ArAt w' { τ with s := r.1 } K → Fr (AF K σ) w w' → ErPost σ K b w e w' from fun e w' k1 k2 k3 => by
                have h1 : (σ.eraseN b (i + 1)).2 ≠ 0 := by rw [HN2.out]; exact hk0
                have : σ.erase b = σ.eraseN b (i + 1) := by rw [HE.out]; exact eraseN_stuck σ b (i + 1) _ (by have := HNC.out; omega) h1
                unfold ErPost
                rw [this, HN2.out]
                exact ⟨k1, k2, k3⟩)
              generalize r.2 = k at *
              clear hk0 hk7
              go_wp2_with fail
              go_ret
              exact HPost.out _ _ rfl HA3.out HF3.out
      · have hltI : ¬ (i : Int) < σ.s.g.c := by have := HNC.out; omega
        have HPost := As.mk (show ∀ (e : Ending) (w' : World), e = .returned (.int .i64 0) → ArAt w' (σ.eraseN b i).1 K → Fr (AF K σ) w w' → ErPost σ K b w e w' from fun e w' k1 k2 k3 => by
          have : σ.erase b = σ.eraseN b i := by rw [HE.out]; congr 1; have := HNC.out; omega
          unfold ErPost
          rw [this, HK.out]
          exact ⟨k1, k2, k3⟩)
        go_wp2_with fail
        go_ret
        exact HPost.out _ _ rfl HAi.out HFi.out
  · rw [hk] at HIN
    have hr : σ.erase b = (σ, 74) := by unfold Ar.erase; rw [hl, if_pos rfl]
    have HPost := As.mk (show ∀ (e : Ending) (w' : World), e = .returned (.int .i64 74) → ArAt w' σ K → Fr None_ w w' → ErPost σ K b w e w' from fun e w' k1 k2 k3 => by
      unfold ErPost
      rw [hr]
      exact ⟨k1, k2, k3.mono (fun _ _ h => h.elim)⟩)
    clear h hth hb hs hl hk hr
    go_enter Tryz.func50, Tryz.ntmps50
    go_wp2_with fail
    ((with_reducible refine (HIN.out).mono ?_); rintro e w1 ⟨rfl, hf1⟩)
    have HA1 := As.mk (HA.out.none_ hf1)
    have HF1 := As.mk hf1
    clear hf1
    go_wp2_with fail
    go_ret
    exact HPost.out _ _ rfl HA1.out HF1.out
end Go.Proofs.YteofgpaceeibpaaGreat.ArrF
namespace Go.Proofs.YteofgpaceeibpaaGreat.ArrG
open Go.RowKit Go.Proofs.YteofgpaceeibpaaGreat.Gab Go.Proofs.YteofgpaceeibpaaGreat.Wr Go.Proofs.YteofgpaceeibpaaGreat.Geom Go.Proofs.YteofgpaceeibpaaGreat.Ref Go.Proofs.YteofgpaceeibpaaGreat.Nand Go.Proofs.YteofgpaceeibpaaGreat.NandA Go.Proofs.YteofgpaceeibpaaGreat.NandB Go.Proofs.YteofgpaceeibpaaGreat.NandC Go.Proofs.YteofgpaceeibpaaGreat.NandD Go.Proofs.YteofgpaceeibpaaGreat.NandE Go.Proofs.YteofgpaceeibpaaGreat.NandH Go.Proofs.YteofgpaceeibpaaGreat.RemapA Go.Proofs.YteofgpaceeibpaaGreat.RemapB Go.Proofs.YteofgpaceeibpaaGreat.VolA Go.Proofs.YteofgpaceeibpaaGreat.VolD Go.Proofs.YteofgpaceeibpaaGreat.VolE Go.Proofs.YteofgpaceeibpaaGreat.VolF Go.Proofs.YteofgpaceeibpaaGreat.MemA Go.Proofs.YteofgpaceeibpaaGreat.MemB Go.Proofs.YteofgpaceeibpaaGreat.MemC Go.Proofs.YteofgpaceeibpaaGreat.ArrA Go.Proofs.YteofgpaceeibpaaGreat.ArrB Go.Proofs.YteofgpaceeibpaaGreat.ArrC Go.Proofs.YteofgpaceeibpaaGreat.ArrD Go.Proofs.YteofgpaceeibpaaGreat.ArrE Go.Proofs.YteofgpaceeibpaaGreat.ArrF
open Go.Proofs.YteofgpaceeibpaaGreat.Heap (cell_is heap_set fr_set1)
set_option linter.unusedVariables false
set_option linter.unusedSimpArgs false

/-- A block is erased, and gets its first page. -/
def _root_.Go.Proofs.YteofgpaceeibpaaGreat.Nand.St.put (s : St) (c k : Nat) (d o : List Int) : St × Int := if (s.erase c k).2 = 0 then (s.erase c k).1.prog c k 0 d o else s.erase c k
theorem put_g (s : St) (c k : Nat) (d o : List Int) : (s.put c k d o).1.g = s.g ∧ (s.put c k d o).1.evs = s.evs := by
  have h := erase_g s c k
  unfold St.put
  split
  · have h2 := prog_g (s.erase c k).1 c k 0 d o
    exact ⟨h2.1.trans h.1, h2.2.trans h.2⟩
  · exact h
theorem safe_put {s : St} {n : Nat} (h : s.Safe (n + 2)) (c k : Nat) (d o : List Int) : (s.put c k d o).1.Safe n := by
  have h1 : (s.erase c k).1.Safe (n + 1) := St.Safe.erase (n := n + 1) h c k
  unfold St.put
  split
  · exact h1.prog c k 0 d o
  · exact h1.le (Nat.le_succ n)
/-- The set, its number one more. -/
def _root_.Go.Proofs.YteofgpaceeibpaaGreat.MemA.MS.up (m : MS) : MS := { m with seq := m.seq + 1 }
def _root_.Go.Proofs.YteofgpaceeibpaaGreat.ArrA.Ar.up (σ : Ar) : Ar := { σ with set := σ.set.up }
theorem mup_ok {m : MS} {g : Geo} (h : m.Ok g) (hs : m.seq < 4294967295) : m.up.Ok g := ⟨h.len, ⟨by show 0 ≤ m.seq + 1; have := h.seq; omega, by show m.seq + 1 < 4294967296; omega⟩, h.inr, h.nd, h.dead, h.done, h.dn⟩
/-- The set is written onto a chip. -/
def _root_.Go.Proofs.YteofgpaceeibpaaGreat.ArrA.Ar.save1 (τ : Ar) (c b : Nat) (d o : List Int) : Ar × Int := match τ.vol c with
  | none => (τ, 0)
  | some t => if (τ.s.put c (t.at b) d o).2 = 71 then Ar.died { τ with s := (τ.s.put c (t.at b) d o).1 } c else ({ τ with s := (τ.s.put c (t.at b) d o).1 }, (τ.s.put c (t.at b) d o).2)
def _root_.Go.Proofs.YteofgpaceeibpaaGreat.ArrA.Ar.saveN (σ : Ar) (b : Nat) (d o : List Int) : Nat → Ar × Int
  | 0 => (σ, 0)
  | i + 1 => if (σ.saveN b d o i).2 = 0 then (σ.saveN b d o i).1.save1 i b d o else σ.saveN b d o i
/-- The set is written onto all chips that are there. -/
def _root_.Go.Proofs.YteofgpaceeibpaaGreat.ArrA.Ar.save (σ : Ar) : Ar × Int := σ.up.saveN (σ.up.set.seq % 2).toNat (σ.up.set.page σ.s.g) (σ.up.set.oob σ.s.g) σ.s.n
theorem saveN_stuck (σ : Ar) (b : Nat) (d o : List Int) : ∀ n m, n ≤ m → (σ.saveN b d o n).2 ≠ 0 → σ.saveN b d o m = σ.saveN b d o n
  | n, 0, h, _ => by
    obtain rfl : n = 0 := by omega
    rfl
  | n, m + 1, h, hk => by
    by_cases e : n = m + 1
    · rw [e]
    · have ih := saveN_stuck σ b d o n m (by omega) hk
      show (if (σ.saveN b d o m).2 = 0 then _ else σ.saveN b d o m) = _
      rw [ih, if_neg hk]
theorem safe_save1 {τ : Ar} {n : Nat} (h : τ.s.Safe (n + 2)) (c b : Nat) (d o : List Int) : (τ.save1 c b d o).1.s.Safe n := by
  unfold Ar.save1
  split
  · exact h.le (by omega)
  · split
    · rw [(died_same _ _).1]; exact safe_put h _ _ _ _
    · exact safe_put h _ _ _ _
theorem safe_saveN {σ : Ar} (b : Nat) (d o : List Int) : ∀ i n, σ.s.Safe (n + 2 * i) → (σ.saveN b d o i).1.s.Safe n
  | 0, n, h => h
  | i + 1, n, h => by
    have h2 := safe_saveN b d o i (n + 2) (by rw [show n + 2 + 2 * i = n + 2 * (i + 1) by omega]; exact h)
    unfold Ar.saveN
    split
    · exact safe_save1 h2 i b d o
    · exact h2.le (by omega)
def SvPost (σ : Ar) (K : ALay) (w : World) (e : Ending) (w' : World) : Prop := e = .returned (.int .i64 σ.save.2) ∧ ArAt w' σ.save.1 K ∧ Fr (AF K σ) w w'
theorem rdn_of {w : World} {p : Nat} {s : St} {L : Lay} (hN : Nand w p s L) {w2 : World} {A : Option Addr} {n c : Nat} {xs : List Int} (hr : Row 5 .u8 w2 w.heap.size (.slice A n c) xs) : RdN w2 (NF p L s.n s.nb) A n xs := by
  obtain ⟨A1, n1, c1, e1, _, h2, h3⟩ := hr.rd
  injection e1 with ea eb ec
  subst ea eb ec
  refine ⟨h2.out, fun ad e hn hnf => ?_⟩
  have := (hr.blk _ (h3.out ad e)).1
  have := hN.lt hnf
  omega

set_option maxHeartbeats 8000000 in
set_option maxRecDepth 100000 in
theorem save_calls (σ : Ar) (K : ALay) (w : World) (h : ArAt w σ K) (hq : σ.set.seq < 4294967295) (n : Nat) (hs : σ.s.Safe (n + 34)) :
    Calls Tryz.prog 34 #[.pointer (some ⟨K.x, 0, none⟩)] w (SvPost σ K w) := by
  have hgc := h.nand.ok.c
  have hgb := h.nand.ok.b
  have hs0 := h.ok.set.seq
  have hsf := fr_set1 (w' := w) (b := K.x) (i := 6) (.int .u32 (σ.set.seq + 1))
  have hm1 := heap_set h.main 6 (.int .u32 (σ.set.seq + 1))
  have hA1 := h.put σ.up rfl rfl rfl ⟨mup_ok h.ok.set hq, h.ok.more⟩ hsf (by rw [hm1]; rfl)
  have c6 := h.cs.2.2.2.2.2.2.1
  have f6 := free_of (i := 6) h.main
  have HA1 := As.mk hA1
  have HF1 := As.mk (show Fr (AF K σ) w (w.setCell ⟨K.x, 6, none⟩ (.int .u32 (σ.set.seq + 1))) from hsf.mono (fun b _ e => .inr (.inl e)))
  have hwr : IntKind.u32.wrap (σ.set.seq + 1) = σ.set.seq + 1 := by rw [IntKind.wrap_u32]; omega
  have HSV := As.mk (show σ.save = σ.up.saveN (σ.up.set.seq % 2).toNat (σ.up.set.page σ.s.g) (σ.up.set.oob σ.s.g) σ.s.n from rfl)
  have hnn : σ.s.n ≤ 17 := by unfold St.n; omega
  have HSS := As.mk (show σ.up.s.Safe (n + 34) from hs)
  have hB : σ.up.set.seq % 2 = (((σ.up.set.seq % 2).toNat : Nat) : Int) := by omega
  have hB2 : (σ.up.set.seq % 2).toNat ≤ 1 := by omega
  have HGO := As.mk h.nand.ok
  have HPG := As.mk (fun (w' : World) (hA : ArAt w' σ.up K) => MemB.Page_calls σ.up.set σ.s.g (.agg #[.int .u32 σ.up.set.seq, .slice (some ⟨K.cb, 0, none⟩) σ.s.g.c.toNat K.cc, .int .i64 σ.set.spare, .int .i64 σ.set.dead, .int .i64 σ.set.done]) w' h.nand.ok hA.ok.set ⟨_, _, _, rfl, hA.ccn, hA.rd⟩)
  have htd : σ.up.set.seq.tmod 2 = σ.up.set.seq % 2 := by rw [Int.tmod_eq_emod_of_nonneg (by show 0 ≤ σ.set.seq + 1; omega)]
  have hup : σ.set.seq + 1 = σ.up.set.seq := rfl
  rw [hup] at hA1 HA1 HF1
  have HU := As.mk hup
  have hw0 := h.nand.lt (b := K.p) (.inl rfl)
  have HLT := As.mk (fun b' (hb : NF K.p K.L σ.s.n σ.s.nb b') => h.nand.lt hb)
  have hgs := h.nand.ok.s
  clear h hq hs hs0 hsf hm1 hA1 hgc hgb hup hw0
  unfold Geo.val at HPG
  go_enter Tryz.func34, Tryz.ntmps34
  go_upto_region 2 with fail
  rw [HU.out]
  generalize w.setCell ⟨K.x, 6, none⟩ (.int .u32 σ.up.set.seq) = w1 at *
  obtain ⟨_, c1, c2, c3, c4, c5, c6, c7, c8, c9, c10, _⟩ := HA1.out.cs
  change w1.cell? ⟨K.x, 1, none⟩ = some (.int .i64 σ.s.g.c) at c1
  change w1.cell? ⟨K.x, 2, none⟩ = some (.int .i64 σ.s.g.b) at c2
  change w1.cell? ⟨K.x, 3, none⟩ = some (.int .i64 σ.s.g.p) at c3
  change w1.cell? ⟨K.x, 4, none⟩ = some (.int .i64 σ.s.g.s) at c4
  change w1.cell? ⟨K.x, 6, none⟩ = some (.int .u32 σ.up.set.seq) at c6
  change w1.cell? ⟨K.x, 7, none⟩ = some (.slice (some ⟨K.cb, 0, none⟩) σ.s.g.c.toNat K.cc) at c7
  change w1.cell? ⟨K.x, 8, none⟩ = some (.int .i64 σ.set.spare) at c8
  change w1.cell? ⟨K.x, 9, none⟩ = some (.int .i64 σ.set.dead) at c9
  change w1.cell? ⟨K.x, 10, none⟩ = some (.int .i64 σ.set.done) at c10
  have HPG1 := As.mk (HPG.out _ (HA1.out.none_ (Fr.refl None_ w1).drew))
  unfold PagePost at HPG1
  go_cut [3, 4, 5] (fun v3 v4 v5 wx => ∃ D nd cd O no co, v3 = .slice D nd cd ∧ v4 = .slice O no co ∧ v5 = .int .i64 0 ∧ As (Row 5 .u8 wx w1.heap.size (.slice D nd cd) (σ.up.set.page σ.s.g)) ∧ As (Row 5 .u8 wx w1.heap.size (.slice O no co) (σ.up.set.oob σ.s.g)) ∧ As (Fr None_ w1 wx))
  case first =>
    go_region_held3 (fun w' => w'.cell? ⟨K.x, 1, none⟩ = some (.int .i64 σ.s.g.c) ∧ w'.cell? ⟨K.x, 2, none⟩ = some (.int .i64 σ.s.g.b) ∧ w'.cell? ⟨K.x, 3, none⟩ = some (.int .i64 σ.s.g.p) ∧ w'.cell? ⟨K.x, 4, none⟩ = some (.int .i64 σ.s.g.s) ∧ w'.cell? ⟨K.x, 6, none⟩ = some (.int .u32 σ.up.set.seq) ∧ w'.cell? ⟨K.x, 7, none⟩ = some (.slice (some ⟨K.cb, 0, none⟩) σ.s.g.c.toNat K.cc) ∧ w'.cell? ⟨K.x, 8, none⟩ = some (.int .i64 σ.set.spare) ∧ w'.cell? ⟨K.x, 9, none⟩ = some (.int .i64 σ.set.dead) ∧ w'.cell? ⟨K.x, 10, none⟩ = some (.int .i64 σ.set.done)) (first | go_keep | exact ⟨c1, c2, c3, c4, c6, c7, c8, c9, c10⟩ | exact ⟨Fr.cell HF2.out c1 (fun h => h), Fr.cell HF2.out c2 (fun h => h), Fr.cell HF2.out c3 (fun h => h), Fr.cell HF2.out c4 (fun h => h), Fr.cell HF2.out c6 (fun h => h), Fr.cell HF2.out c7 (fun h => h), Fr.cell HF2.out c8 (fun h => h), Fr.cell HF2.out c9 (fun h => h), Fr.cell HF2.out c10 (fun h => h)⟩) (first
      | (go_at_call 60; (with_reducible refine (HPG1.out).mono ?_); rintro e w2 ⟨vd, vo, rfl, hrd, hro, hf2⟩; have HF2 := As.mk (show Fr None_ w1 w2 from hf2.undrew); have HRD := As.mk (show Row 5 .u8 w2 w1.heap.size vd (σ.up.set.page σ.s.g) from hrd); have HRO := As.mk (show Row 5 .u8 w2 w1.heap.size vo (σ.up.set.oob σ.s.g) from hro); clear hrd hro hf2; obtain ⟨D, nd, cd, eD, _, _, _⟩ := HRD.out.rd; subst eD; obtain ⟨O, no, co, eO, _, _, _⟩ := HRO.out.rd; subst eO)
      | fail)
    go_wp2_with fail
    go_meet
    case rel => exact ⟨_, _, _, _, _, _, rfl, rfl, rfl, HRD, HRO, HF2⟩
  case rest =>
    obtain ⟨D, nd, cd, O, no, co, rfl, rfl, rfl, HRD, HRO, HF2⟩ := hcut
    rename World => w2
    have HA2 := As.mk (HA1.out.none_ HF2.out)
    have HFA2 := As.mk (HF1.out.after HF2.out (fun _ _ h => h.elim))
    clear c1 c2 c3 c4 c5 c6 c7 c8 c9 c10 HPG1
    obtain ⟨_, _, _, _, _, c5, c6, _, _, _, _, _⟩ := HA2.out.cs
    change w2.cell? ⟨K.x, 5, none⟩ = some (.slice (some ⟨K.V, 0, none⟩) σ.s.n σ.s.n) at c5
    have HDD := As.mk (show RdN w2 (NF K.p K.L σ.s.n σ.s.nb) D nd (σ.up.set.page σ.s.g) from rdn_of HA1.out.nand HRD.out)
    have HOO := As.mk (show RdN w2 (NF K.p K.L σ.s.n σ.s.nb) O no (σ.up.set.oob σ.s.g) from rdn_of HA1.out.nand HRO.out)
    have HNX := As.mk (show (∀ ad, D = some ad → 0 < nd → ∀ m : Nat, w2.heap.size ≤ m → ¬ (ad.block = K.x ∨ ad.block = K.V)) ∧ (∀ ad, O = some ad → 0 < no → ∀ m : Nat, w2.heap.size ≤ m → ¬ (ad.block = K.x ∨ ad.block = K.V)) from by
      have hx : K.x < w1.heap.size := (Array.getElem?_eq_some_iff.1 HA1.out.main).1
      obtain ⟨cs, hv, _⟩ := HA1.out.vols
      have hv' : K.V < w1.heap.size := (Array.getElem?_eq_some_iff.1 hv).1
      refine ⟨fun ad e hn m _ hh => ?_, fun ad e hn m _ hh => ?_⟩
      · subst e
        have := (HRD.out.blk _ own_some).1
        omega
      · subst e
        have := (HRO.out.blk _ own_some).1
        omega)
    rw [hB] at htd
    generalize hD' : σ.up.set.page σ.s.g = d at *
    generalize hO' : σ.up.set.oob σ.s.g = o at *
    have HRR := As.mk (show InR 256 d ∧ InR 256 o ∧ d.length = σ.s.g.s.toNat ∧ o.length = 64 from by
      rw [← hD', ← hO']
      have hl := MemB.enc_length HGO.out HA1.out.ok.set
      refine ⟨Seal.pad_range ?_ _, ?_, ?_, OS.seal_len _ _ _⟩
      · unfold MS.enc
        exact Seal.inR_append (Seal.inR_append (Seal.inR_append (Seal.les_range _ _) (Seal.les_range _ _)) (Seal.les_range _ _)) (Seal.les_range _ _)
      · unfold MS.oob Seal.sealOf
        exact Seal.inR_append (Seal.pad_range (Seal.inR_append (Seal.bytes_range _) (Seal.le_range 4 _)) _) (Seal.tail_range (fun x hx => by cases hx))
      · have h2 : (σ.up.set.enc σ.s.g).length ≤ 256 := hl.2
        unfold MS.page
        rw [padTo_length]
        omega)
    generalize (σ.up.set.seq % 2).toNat = B at *
    have HND := As.mk (show (nd : Int) = σ.s.g.s ∧ no = 64 from by have h1 := HDD.out.1.1; have h2 := HOO.out.1.1; have h3 := HRR.out; omega)
    clear hD' hO'
    go_wp2_with fail
    go_loopw [48] (fun v48 w' => ∃ i : Nat, v48 = .int .i64 (i : Int) ∧ i ≤ σ.s.n ∧ As ((σ.up.saveN B d o i).2 = 0) ∧ As (ArAt w' (σ.up.saveN B d o i).1 K) ∧ As ((σ.up.saveN B d o i).1.s.g = σ.s.g) ∧ As (Fr (AF K σ) w w') ∧ As (Fr (AF K σ) w2 w') ∧ As (RdN w' (NF K.p K.L σ.s.n σ.s.nb) D nd d) ∧ As (RdN w' (NF K.p K.L σ.s.n σ.s.nb) O no o)) (fun v48 _ => σ.s.n - (intOf v48).toNat)
    case atStart => exact ⟨0, rfl, Nat.zero_le _, ⟨rfl⟩, HA2, ⟨rfl⟩, HFA2, ⟨Fr.refl _ _⟩, HDD, HOO⟩
    case round =>
      obtain ⟨i, rfl, hi, HK, HAi, HGi, HFi, HFj, HDi, HOi⟩ := hrel
      by_cases hlt : i < σ.s.n
      · have hltI : (i : Int) < (σ.s.n : Int) := by omega
        have HS1 := As.mk (show σ.up.saveN B d o (i + 1) = (σ.up.saveN B d o i).1.save1 i B d o from by show (if (σ.up.saveN B d o i).2 = 0 then _ else _) = _; rw [if_pos HK.out])
        have hsaf := safe_saveN B d o i (n + 0 + 2) (HSS.out.le (show n + 0 + 2 + 2 * i ≤ n + 34 by omega))
        have HAFE := As.mk (AF.eq (K := K) HGi.out)
        have hgi := HGi.out
        generalize hσi : (σ.up.saveN B d o i).1 = τ at *
        have hin : i < τ.s.n := by rw [(n_same hgi).1]; exact hlt
        have hvc := (HAi.out.volc hin).1
        rcases ht : τ.vol i with _ | t
        · have hvp : wr.cell? ⟨K.V, i, none⟩ = some (.pointer none) := by rw [hvc]; unfold vptr; rw [ht]
          have HN1 := As.mk (show σ.up.saveN B d o (i + 1) = (τ, 0) from by rw [HS1.out]; unfold Ar.save1; rw [ht])
          clear ht hvc hsaf hσi hin hgi
          go_wp2_with fail
          exact ⟨⟨i + 1, rfl, by omega, ⟨by rw [HN1.out]⟩, ⟨by rw [HN1.out]; exact HAi.out⟩, ⟨by rw [HN1.out]; exact HGi.out⟩, HFi, HFj, HDi, HOi⟩, by simp [intOf]; omega⟩
        · have hvp : wr.cell? ⟨K.V, i, none⟩ = some (.pointer (some ⟨(K.v i).vb, 0, none⟩)) := by rw [hvc]; unfold vptr; rw [ht]
          have hvv := HAi.out.vol i t hin ht
          have htok := HAi.out.ok.more _ t hin ht
          have hgi2 : σ.s.g.b = τ.s.g.b := by rw [hgi]
          have hltb : B < t.place.length := by have h1 := htok.len; have h2 := HGO.out.b; omega
          have HER := As.mk (VolA.Erase_calls K.p i τ.s K.L t (K.v i) B wr HAi.out.nand hvv.1 htok hin hltb (n + 1) hsaf)
          unfold ErasePost at HER
          have hge := (erase_g τ.s i (t.at B)).1
          have HN1 := As.mk (show σ.up.saveN B d o (i + 1) = if (τ.s.put i (t.at B) d o).2 = 71 then Ar.died { τ with s := (τ.s.put i (t.at B) d o).1 } i else ({ τ with s := (τ.s.put i (t.at B) d o).1 }, (τ.s.put i (t.at B) d o).2) from by rw [HS1.out]; unfold Ar.save1; rw [ht])
          have hgp := (put_g τ.s i (t.at B) d o).1
          have hgr : (τ.s.put i (t.at B) d o).1.g = σ.s.g := hgp.trans hgi
          have HTE := As.mk (fun (w' : World) (hN : Nand w' K.p (τ.s.erase i (t.at B)).1 K.L) (hf2 : Fr (NF K.p K.L τ.s.n τ.s.nb) wr w') => HAi.out.turn hN hge hf2)
          have HNT := As.mk (And.intro hin (And.intro ht (And.intro htok (And.intro hltb (And.intro hgi hge)))))
          have HSF := As.mk (St.Safe.erase (n := n + 1) hsaf i (t.at B))
          have hne7 : (τ.s.put i (t.at B) d o).2 = if (τ.s.erase i (t.at B)).2 = 0 then ((τ.s.erase i (t.at B)).1.prog i (t.at B) 0 d o).2 else (τ.s.erase i (t.at B)).2 := by unfold St.put; split <;> rfl
          have HAFD := As.mk (fun (w' : World) (hA : ArAt w' { τ with s := (τ.s.put i (t.at B) d o).1 } K) => died_calls { τ with s := (τ.s.put i (t.at B) d o).1 } K i w' hA (by show i < St.n _; rw [(n_same hgr).1]; exact hlt))
          have HGR := As.mk hgr
          clear hsaf hσi hvc hvv hltb hgi hge hgp hgi2 ht htok hin
          go_upto_if 59 with (go_at_call 61; (with_reducible refine (HER.out).mono ?_); rintro e w3 ⟨rfl, hn3, hf3⟩; have HA3 := As.mk (HTE.out w3 hn3 hf3); have HF3 := As.mk hf3; clear hn3 hf3)
          have HNFE : As (∀ b, NF K.p K.L τ.s.n τ.s.nb b ↔ NF K.p K.L σ.s.n σ.s.nb b) := ⟨fun b => by unfold St.n St.nb; rw [HGi.out]⟩
          have HFs := As.mk (HF3.out.mono (T := NF K.p K.L σ.s.n σ.s.nb) (fun b _ h => (HNFE.out b).1 h))
          go_cut [9] (fun v9 wx => v9 = .int .i64 (τ.s.put i (t.at B) d o).2 ∧ As (ArAt wx { τ with s := (τ.s.put i (t.at B) d o).1 } K) ∧ As (Fr (NF K.p K.L σ.s.n σ.s.nb) wr wx))
          case first =>
            by_cases hk0 : (τ.s.erase i (t.at B)).2 = 0
            · have hpe : τ.s.put i (t.at B) d o = (τ.s.erase i (t.at B)).1.prog i (t.at B) 0 d o := by unfold St.put; rw [if_pos hk0]
              obtain ⟨hin, ht, htok, hltb, hgi, hge⟩ := HNT.out
              have hge2 := hge.trans hgi
              have hvv3 := HA3.out.vol i t (by show i < St.n _; rw [(n_same hge).1]; exact hin) ht
              have HPR := As.mk (show Calls Tryz.prog 62 #[.pointer (some ⟨(K.v i).vb, 0, none⟩), .int .i64 (B : Int), .int .i64 0, .slice D nd cd, .slice O no co] w3 _ from VolA.Prog_calls K.p i (τ.s.erase i (t.at B)).1 K.L t (K.v i) B 0 D O nd cd no co d o w3 HA3.out.nand hvv3.1 (by rw [hge]; exact htok) (by rw [(n_same hge).1]; exact hin) hltb (by unfold St.np; rw [hge2]; have := HGO.out.p; omega) n HSF.out
                (by unfold St.n St.nb; rw [hge2]; exact HDi.out.frame HFs.out) (by unfold St.n St.nb; rw [hge2]; exact HOi.out.frame HFs.out) (by rw [hge2]; exact HND.out.1) HND.out.2 HRR.out.1 HRR.out.2.1)
              unfold PPost at HPR
              rw [← hpe] at HPR
              have HNF3 : As (∀ b, NF K.p K.L (τ.s.erase i (t.at B)).1.n (τ.s.erase i (t.at B)).1.nb b → NF K.p K.L σ.s.n σ.s.nb b) := ⟨fun b h => by unfold St.n St.nb at h; rw [hge2] at h; exact h⟩
              have HT2 := As.mk (fun (w' : World) (hN : Nand w' K.p (τ.s.put i (t.at B) d o).1 K.L) (hf2 : Fr (NF K.p K.L (τ.s.erase i (t.at B)).1.n (τ.s.erase i (t.at B)).1.nb) w3 w') => HA3.out.turn hN (show (τ.s.put i (t.at B) d o).1.g = (τ.s.erase i (t.at B)).1.g from by rw [HGR.out, hge2]) hf2)
              rw [hk0]
              clear hk0 hpe hin ht htok hltb hgi hge hge2 hvv3 hne7
              go_wp2_with fail
              ((with_reducible refine (HPR.out).mono ?_); rintro e w4 ⟨rfl, hn4, hf4⟩)
              have HA4 := As.mk (HT2.out w4 hn4 hf4)
              have HF4 := As.mk (HFs.out.after hf4 (fun b _ h => HNF3.out b h))
              clear hn4 hf4
              go_wp2_with fail
              go_meet
              case rel => exact ⟨rfl, HA4, HF4⟩
            · have hpe : τ.s.put i (t.at B) d o = τ.s.erase i (t.at B) := by unfold St.put; rw [if_neg hk0]
              have d0 : ((τ.s.erase i (t.at B)).2 == 0) = false := beq_eq_false_iff_ne.2 hk0
              have HPE := As.mk hpe
              generalize hkk : (τ.s.erase i (t.at B)).2 = k at *
              have HKK := As.mk hkk
              clear hk0 hpe hne7 hkk
              go_wp2_with fail
              go_meet
              case rel => exact ⟨by rw [HPE.out, HKK.out], ⟨by rw [HPE.out]; exact HA3.out⟩, HFs⟩
          case rest =>
            obtain ⟨rfl, HA4, HFw⟩ := hcut
            rename World => w4
            have HF4 := As.mk (HFi.out.after HFw.out (fun b _ h => .inl h))
            have HF24 := As.mk (HFj.out.after HFw.out (fun b _ h => .inl h))
            have HD4 := As.mk (HDi.out.frame HFw.out)
            have HO4 := As.mk (HOi.out.frame HFw.out)
            clear hne7 HER
            generalize τ.s.put i (t.at B) d o = r at *
            by_cases hk7 : r.2 = 71
            · have HDD7 := As.mk (HAFD.out w4 HA4.out)
              have HN2 := As.mk (show σ.up.saveN B d o (i + 1) = Ar.died { τ with s := r.1 } i from by rw [HN1.out, if_pos hk7])
              have HG := As.mk (show ∀ b, (b = K.x ∨ b = K.V) → AF K σ b from fun b h => by rcases h with h | h; exact .inr (.inl h); exact .inr (.inr h))
              have HXN := As.mk (show ∀ {A : Option Addr} {n : Nat} {xs : List Int} {w' : World}, RdN w4 (NF K.p K.L σ.s.n σ.s.nb) A n xs → (∀ ad, A = some ad → 0 < n → ∀ m : Nat, w2.heap.size ≤ m → ¬ (ad.block = K.x ∨ ad.block = K.V)) → Fr (fun b => b = K.x ∨ b = K.V) w4 w' → RdN w' (NF K.p K.L σ.s.n σ.s.nb) A n xs from fun hr hne hf => ⟨hr.1.fr hf (fun ad e hn => hne ad e hn _ HF24.out.size), hr.2⟩)
              unfold DiedPost at HDD7
              rw [← HN2.out] at HDD7
              have HG7 := As.mk (show (σ.up.saveN B d o (i + 1)).1.s.g = σ.s.g from by rw [HN2.out, (died_same _ _).1]; exact HGR.out)
              rw [hk7]
              clear hk7
              go_wp2_with fail
              ((with_reducible refine (HDD7.out).mono ?_); rintro e w5 ⟨rfl, ha5, hf5⟩)
              have HA5 := As.mk ha5
              have HF5 := As.mk (HF4.out.after hf5 (fun b _ h => HG.out b h))
              have HF25 := As.mk (HF24.out.after hf5 (fun b _ h => HG.out b h))
              have HD5 := As.mk (HXN.out HD4.out (HNX.out.1) hf5)
              have HO5 := As.mk (HXN.out HO4.out (HNX.out.2) hf5)
              clear ha5 hf5
              by_cases hk0 : (σ.up.saveN B d o (i + 1)).2 = 0
              · have HK5 := As.mk hk0
                rw [hk0]
                clear hk0
                go_wp2_with fail
                exact ⟨⟨i + 1, rfl, by omega, HK5, HA5, HG7, HF5, HF25, HD5, HO5⟩, by simp [intOf]; omega⟩
              · have d0 : ((σ.up.saveN B d o (i + 1)).2 != 0) = true := by rw [bne_iff_ne]; exact hk0
                have HPost := As.mk (show ∀ (e : Ending) (w' : World), e = .returned (.int .i64 (σ.up.saveN B d o (i + 1)).2) → ArAt w' (σ.up.saveN B d o (i + 1)).1 K → Fr (AF K σ) w w' → SvPost σ K w e w' from fun e w' k1 k2 k3 => by
                  have h1 : σ.save = σ.up.saveN B d o (i + 1) := by rw [HSV.out]; exact saveN_stuck σ.up B d o (i + 1) _ (by omega) hk0
                  unfold SvPost
                  rw [h1]
                  exact ⟨k1, k2, k3⟩)
                generalize (σ.up.saveN B d o (i + 1)).2 = k at *
                clear hk0
                go_wp2_with fail
                go_ret
                exact HPost.out _ _ rfl HA5.out HF5.out
            · have d7 : (r.2 == 71) = false := beq_eq_false_iff_ne.2 hk7
              have HN2 := As.mk (show σ.up.saveN B d o (i + 1) = ({ τ with s := r.1 }, r.2) from by rw [HN1.out, if_neg hk7])
              by_cases hk0 : r.2 = 0
              · rw [hk0] at HN2 ⊢
                clear hk0 hk7 d7
                go_wp2_with fail
                exact ⟨⟨i + 1, rfl, by omega, ⟨by rw [HN2.out]⟩, ⟨by rw [HN2.out]; exact HA4.out⟩, ⟨by rw [HN2.out]; exact HGR.out⟩, HF4, HF24, HD4, HO4⟩, by simp [intOf]; omega⟩
              · have d0 : (r.2 != 0) = true := by rw [bne_iff_ne]; exact hk0
                have HPost := As.mk (show ∀ (e : Ending) (w' : World), e = .returned (.int .i64 r.2) → ArAt w' { τ with s := r.1 } K → Fr (AF K σ) w w' → SvPost σ K w e w' from fun e w' k1 k2 k3 => by
                  have h0 : (σ.up.saveN B d o (i + 1)).2 ≠ 0 := by rw [HN2.out]; exact hk0
                  have h1 : σ.save = σ.up.saveN B d o (i + 1) := by rw [HSV.out]; exact saveN_stuck σ.up B d o (i + 1) _ (by omega) h0
                  unfold SvPost
                  rw [h1, HN2.out]
                  exact ⟨k1, k2, k3⟩)
                generalize r.2 = k at *
                clear hk0 hk7
                go_wp2_with fail
                go_ret
                exact HPost.out _ _ rfl HA4.out HF4.out
      · have hltI : ¬ (i : Int) < (σ.s.n : Int) := by omega
        have HPost := As.mk (show ∀ (e : Ending) (w' : World), e = .returned (.int .i64 0) → ArAt w' (σ.up.saveN B d o i).1 K → Fr (AF K σ) w w' → SvPost σ K w e w' from fun e w' k1 k2 k3 => by
          have h1 : σ.save = σ.up.saveN B d o i := by rw [HSV.out]; congr 1; omega
          unfold SvPost
          rw [h1, HK.out]
          exact ⟨k1, k2, k3⟩)
        go_wp2_with fail
        go_ret
        exact HPost.out _ _ rfl HAi.out HFi.out
end Go.Proofs.YteofgpaceeibpaaGreat.ArrG

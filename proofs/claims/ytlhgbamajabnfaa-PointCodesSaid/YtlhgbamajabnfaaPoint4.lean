/- gabionlaw14: same, shape, light. -/
import Derived.Test.YtlhgbamajabnfaaPoint3
namespace Go.Proofs.Ytlhgbamajabnfaa.Point4
open Go.RowKit Go.Proofs.Ytlhgbamajabnfaa.Gab Go.Proofs.Ytlhgbamajabnfaa.Wr Go.Proofs.Ytlhgbamajabnfaa.Geom Go.Proofs.Ytlhgbamajabnfaa.Ref Go.Proofs.Ytlhgbamajabnfaa.Point1 Go.Proofs.Ytlhgbamajabnfaa.Point2 Go.Proofs.Ytlhgbamajabnfaa.Point3
set_option linter.unusedVariables false
set_option linter.unusedSimpArgs false

/-- The document's point, as it stands. -/
structure RPt where
  seq : Int
  batch : Int
  A : Option Addr
  n : Nat
  c : Nat
  B : Option Addr
  k : Nat
  d : Nat
def RPt.cells (x : RPt) : Array Value := #[.int .i64 x.seq, .int .i64 x.batch, .slice x.A x.n x.c, .slice x.B x.k x.d]
structure RPtAt (w : World) (x : RPt) (m er : List Int) : Prop where
  seq : 0 ≤ x.seq ∧ x.seq < 4294967296
  batch : 0 ≤ x.batch ∧ x.batch < 4294967296
  map : Rd .i64 w x.A x.n m
  mapR : InR 4294967296 m
  mapN : x.n ≤ 100000
  ers : Rd .i64 w x.B x.k er
  ersR : InR 4294967296 er
  ersN : x.k ≤ 100000
theorem RPtAt.none_ {w w' : World} {x : RPt} {m er : List Int} (h : RPtAt w x m er) (hf : Fr None_ w w') : RPtAt w' x m er := ⟨h.seq, h.batch, h.map.none_ hf, h.mapR, h.mapN, h.ers.none_ hf, h.ersR, h.ersN⟩
theorem RPtAt.enc {w : World} {x : RPt} {m er : List Int} (h : RPtAt w x m er) : Calls Try.prog 33 #[.agg x.cells] w fun e w' => ∃ v, e = .returned v ∧ Row 5 .u8 w' w.heap.size v (encB x.seq x.batch m er) ∧ Fr None_ w w' :=
  REncode_calls x.seq x.batch x.A x.B x.n x.c x.k x.d m er w h.seq h.batch h.map h.mapR h.ers h.ersR h.mapN h.ersN
theorem le_range : ∀ (n : Nat) (v : Int), InR 256 (le v n)
  | 0, v => fun x hx => by cases hx
  | n + 1, v => fun x hx => by
    unfold le at hx
    rcases List.mem_cons.1 hx with rfl | hx
    · omega
    · exact le_range n _ x hx
theorem les_range (n : Nat) (l : List Int) : InR 256 (les n l) := fun x hx => by
  unfold les at hx
  obtain ⟨v, _, hv⟩ := List.mem_flatMap.1 hx
  exact le_range n v x hv
theorem encB_range (seq batch : Int) (m er : List Int) : InR 256 (encB seq batch m er) := fun x hx => by
  unfold encB at hx
  rcases List.mem_append.1 hx with h | h
  · rcases List.mem_append.1 h with h | h
    · exact les_range 4 _ x h
    · exact les_range 4 _ x h
  · exact les_range 4 _ x h

set_option maxHeartbeats 4000000 in
set_option maxRecDepth 100000 in
theorem same_calls (x y : RPt) (m er m' er' : List Int) (w : World) (hx : RPtAt w x m er) (hy : RPtAt w y m' er') :
    Calls Try.prog 35 #[.agg x.cells, .agg y.cells] w fun e w' => e = .returned (.bool (decide (encB x.seq x.batch m er = encB y.seq y.batch m' er'))) ∧ Fr None_ w w' := by
  have HX := As.mk (fun (w' : World) (hf : Fr None_ w w') => (hx.none_ hf).enc)
  have HY := As.mk (fun (w' : World) (hf : Fr None_ w w') => (hy.none_ hf).enc)
  have h1 := encB_range x.seq x.batch m er
  have h2 := encB_range y.seq y.batch m' er'
  have HR1 := As.mk h1
  have HR2 := As.mk h2
  generalize encB x.seq x.batch m er = xs at *
  generalize encB y.seq y.batch m' er' = ys at *
  unfold RPt.cells at *
  clear hx hy h1 h2
  have HFW : As (Fr None_ w ((w.alloc (.cells #[.int .i64 x.seq, .int .i64 x.batch, .slice x.A x.n x.c, .slice x.B x.k x.d] 82)).alloc (.cells #[.int .i64 y.seq, .int .i64 y.batch, .slice y.A y.n y.c, .slice y.B y.k y.d] 82))) := ⟨((Fr.refl None_ w).alloc _).alloc _⟩
  go_enter Try.func35, Try.ntmps35
  go_upto_region 1 with fail
  have hb0 := at_old (.cells #[.int .i64 y.seq, .int .i64 y.batch, .slice y.A y.n y.c, .slice y.B y.k y.d] 82) (heap_alloc_new w (.cells #[.int .i64 x.seq, .int .i64 x.batch, .slice x.A x.n x.c, .slice x.B x.k x.d] 82))
  have hb1 := at_new (.cells #[.int .i64 y.seq, .int .i64 y.batch, .slice y.A y.n y.c, .slice y.B y.k y.d] 82) (size_new (.cells #[.int .i64 x.seq, .int .i64 x.batch, .slice x.A x.n x.c, .slice x.B x.k x.d] 82) (rfl : w.heap.size = w.heap.size))
  generalize (w.alloc (.cells #[.int .i64 x.seq, .int .i64 x.batch, .slice x.A x.n x.c, .slice x.B x.k x.d] 82)).alloc (.cells #[.int .i64 y.seq, .int .i64 y.batch, .slice y.A y.n y.c, .slice y.B y.k y.d] 82) = w2 at *
  have a0 := cell_is (i := 0) hb0 rfl
  have a1 := cell_is (i := 1) hb0 rfl
  have a2 := cell_is (i := 2) hb0 rfl
  have a3 := cell_is (i := 3) hb0 rfl
  have b0 := cell_is (i := 0) hb1 rfl
  have b1 := cell_is (i := 1) hb1 rfl
  have b2 := cell_is (i := 2) hb1 rfl
  have b3 := cell_is (i := 3) hb1 rfl
  clear hb0 hb1
  go_region_held3 (fun w' => w'.cell? ⟨w.heap.size, 0, none⟩ = some (.int .i64 x.seq) ∧ w'.cell? ⟨w.heap.size, 1, none⟩ = some (.int .i64 x.batch) ∧ w'.cell? ⟨w.heap.size, 2, none⟩ = some (.slice x.A x.n x.c) ∧ w'.cell? ⟨w.heap.size, 3, none⟩ = some (.slice x.B x.k x.d) ∧ w'.cell? ⟨w.heap.size + 1, 0, none⟩ = some (.int .i64 y.seq) ∧ w'.cell? ⟨w.heap.size + 1, 1, none⟩ = some (.int .i64 y.batch) ∧ w'.cell? ⟨w.heap.size + 1, 2, none⟩ = some (.slice y.A y.n y.c) ∧ w'.cell? ⟨w.heap.size + 1, 3, none⟩ = some (.slice y.B y.k y.d)) (first | go_keep | (refine ⟨?_, ?_, ?_, ?_, ?_, ?_, ?_, ?_⟩ <;> (refine Fr.cell ‹Fr None_ _ _› ?_ (fun h => h); go_keep))) (first | ((with_reducible refine (Same_calls Aa Ad na ca nd cd xs ys wd (HDa.out.none_ hfd) HDd.out HR1.out HR2.out).mono ?_); rintro e w9 ⟨rfl, rfl⟩) | ((with_reducible refine (Same_calls Ab Ac nb cb nc cc xs ys wb HDb.out (HDc.out.none_ hfb) HR1.out HR2.out).mono ?_); rintro e w9 ⟨rfl, rfl⟩) | ((with_reducible refine (HY.out wa HFa.out).mono ?_); rintro e wd ⟨vd, rfl, hrd, hfd⟩; obtain ⟨Ad, nd, cd, ed, _, hdd, _⟩ := hrd.rd; subst ed; have HFd := As.mk (Fr.after (T := None_) HFa.out hfd (fun _ _ h => h)); have HDd := As.mk hdd.out; clear hrd hdd) | ((with_reducible refine (HX.out wc HFc.out).mono ?_); rintro e wb ⟨vb, rfl, hrb, hfb⟩; obtain ⟨Ab, nb, cb, eb, _, hdb, _⟩ := hrb.rd; subst eb; have HFb := As.mk (Fr.after (T := None_) HFc.out hfb (fun _ _ h => h)); have HDb := As.mk hdb.out; clear hrb hdb) | ((with_reducible refine (HX.out w2.drew HFW.out.drew).mono ?_); rintro e wa ⟨va, rfl, hra, hfa⟩; obtain ⟨Aa, na, ca, ea, _, hda, _⟩ := hra.rd; subst ea; have HFa := As.mk (Fr.after (T := None_) HFW.out.drew hfa (fun _ _ h => h)); have HDa := As.mk hda.out; clear hra hda) | ((with_reducible refine (HY.out w2.drew HFW.out.drew).mono ?_); rintro e wc ⟨vc, rfl, hrc, hfc⟩; obtain ⟨Ac, nc, cc, ec, _, hdc, _⟩ := hrc.rd; subst ec; have HFc := As.mk (Fr.after (T := None_) HFW.out.drew hfc (fun _ _ h => h)); have HDc := As.mk hdc.out; clear hrc hdc) | fail)
  all_goals
    go_wp2_with fail
    go_ret
    first
    | exact ⟨rfl, HFd.out⟩
    | exact ⟨rfl, HFb.out⟩
set_option maxHeartbeats 1000000 in
set_option maxRecDepth 100000 in
theorem light_calls (x : Pt) (w : World) : Calls Try.prog 29 #[.agg x.cells] w fun e w' => e = .returned (.bool (decide (x.mn ≤ 900 ∧ x.en ≤ 100))) ∧ Fr None_ w w' := by
  unfold Pt.cells
  by_cases h1 : x.mn ≤ 900
  · have d1 : decide ((x.mn : Int) ≤ 900) = true := decide_eq_true (by omega)
    by_cases h2 : x.en ≤ 100
    · have d2 : decide ((x.en : Int) ≤ 100) = true := decide_eq_true (by omega)
      have hd : decide (x.mn ≤ 900 ∧ x.en ≤ 100) = true := decide_eq_true ⟨h1, h2⟩
      have HD := As.mk hd
      clear hd h1 h2
      go_enter Try.func29, Try.ntmps29
      go_wp2_with fail
      go_ret
      exact ⟨by rw [HD.out]; rfl, (Fr.refl None_ w).alloc _⟩
    · have d2 : decide ((x.en : Int) ≤ 100) = false := decide_eq_false (by omega)
      have hd : decide (x.mn ≤ 900 ∧ x.en ≤ 100) = false := decide_eq_false (fun h => h2 h.2)
      have HD := As.mk hd
      clear hd h1 h2
      go_enter Try.func29, Try.ntmps29
      go_wp2_with fail
      go_ret
      exact ⟨by rw [HD.out]; rfl, (Fr.refl None_ w).alloc _⟩
  · have d1 : decide ((x.mn : Int) ≤ 900) = false := decide_eq_false (by omega)
    have hd : decide (x.mn ≤ 900 ∧ x.en ≤ 100) = false := decide_eq_false (fun h => h1 h.1)
    have HD := As.mk hd
    clear hd h1
    go_enter Try.func29, Try.ntmps29
    go_wp2_with fail
    go_ret
    exact ⟨by rw [HD.out]; rfl, (Fr.refl None_ w).alloc _⟩
end Go.Proofs.Ytlhgbamajabnfaa.Point4

/- stripe.Read: a page of a stripe, as it stands, or out of all others. -/
import Derived.Test.YtlhgbamajabnfaaAgain
namespace Go.Proofs.Ytlhgbamajabnfaa.SRead
open Go.RowKit Go.Proofs.Ytlhgbamajabnfaa.Gab Go.Proofs.Ytlhgbamajabnfaa.Map Go.Proofs.Ytlhgbamajabnfaa.Geom Go.Proofs.Ytlhgbamajabnfaa.Ram Go.Proofs.Ytlhgbamajabnfaa.Sum Go.Proofs.Ytlhgbamajabnfaa.Ref Go.Proofs.Ytlhgbamajabnfaa.Par Go.Proofs.Ytlhgbamajabnfaa.Fields Go.Proofs.Ytlhgbamajabnfaa.Seal Go.Proofs.Ytlhgbamajabnfaa.Ord Go.Proofs.Ytlhgbamajabnfaa.Write Go.Proofs.Ytlhgbamajabnfaa.Miss Go.Proofs.Ytlhgbamajabnfaa.Again
open Go.Proofs.Ytlhgbamajabnfaa.Wr (InR)
open Go.Proofs.Ytlhgbamajabnfaa.Str (pcells PPs take_snoc)
open Go.Proofs.Ytlhgbamajabnfaa.Open (openOf)
set_option linter.unusedVariables false
set_option linter.unusedSimpArgs false

theorem mem_range {g : Geo} (hg : g.Ok) (seg row slot : Int) (h0 : 0 ≤ slot) (h1 : slot < g.c - 1) : 0 ≤ g.mem seg row slot ∧ g.mem seg row slot < g.c ∧ g.mem seg row slot ≠ g.par seg row := by
  obtain ⟨h2, h3⟩ := par_range hg seg row
  unfold Geo.mem
  split <;> omega
/-- What again needs, and answers. -/
structure Makes (s : Ram.St) (seg row m : Int) (h' : Head) (d : List Int) : Prop where
  gone : ∀ n, 0 ≤ n → n < s.g.c → n ≠ m → ¬ 0 < s.gone n
  others : ∀ n, 0 ≤ n → n < s.g.c → n ≠ m → n ≠ s.g.par seg row → (openOf (pD s seg row n) (pO s seg row n)).2 = true
  par : ∃ h, openOf (pD s seg row (s.g.par seg row)) (pO s seg row (s.g.par seg row)) = (h, true) ∧ h.kind = 5
  res : openOf (missD s.g.s.toNat (pD s seg row (s.g.par seg row)) (othersTo s seg row m s.g.c.toNat)) (missO (pO s seg row (s.g.par seg row)) (othersTo s seg row m s.g.c.toNat)) = (h', true)
  page : d = missD s.g.s.toNat (pD s seg row (s.g.par seg row)) (othersTo s seg row m s.g.c.toNat)
/-- What is read. -/
def Reads (s : Ram.St) (seg row slot : Int) (h : Head) (d : List Int) : Prop :=
  (¬ 0 < s.gone (s.g.mem seg row slot) ∧ openOf (pD s seg row (s.g.mem seg row slot)) (pO s seg row (s.g.mem seg row slot)) = (h, true) ∧ d = pD s seg row (s.g.mem seg row slot)) ∨
  ((0 < s.gone (s.g.mem seg row slot) ∨ (openOf (pD s seg row (s.g.mem seg row slot)) (pO s seg row (s.g.mem seg row slot))).2 = false) ∧ Makes s seg row (s.g.mem seg row slot) h d)

set_option maxHeartbeats 8000000 in
set_option maxRecDepth 100000 in
theorem Read_direct (p : Nat) (s : Ram.St) (seg row slot : Int) (w : World) (h : Head) (d : List Int) (hR : RamE w p s) (ha : s.g.At seg row) (hs0 : 0 ≤ slot) (hs1 : slot < s.g.c - 1) (hg : ¬ 0 < s.gone (s.g.mem seg row slot)) (ho : openOf (pD s seg row (s.g.mem seg row slot)) (pO s seg row (s.g.mem seg row slot)) = (h, true)) (hd : d = pD s seg row (s.g.mem seg row slot)) :
    Calls Try.prog 24 #[dev p, .agg #[.int .i64 seg, .int .i64 row, .int .i64 slot]] w fun e w' => ∃ v, e = .returned (.tuple #[.agg (pcells h v), .int .i64 0]) ∧ Row 5 .u8 w' w.heap.size v d ∧ Fr None_ w w' := by
  have hok : s.g.Ok := by obtain ⟨_, _, _, _, _, h⟩ := hR; exact h.ok
  have hp : p < w.heap.size := hR.lt
  have HR := As.mk hR
  have hc1 := hok.c
  have hb1 := hok.b
  have hp1 := hok.p
  have hgs1 := hok.s
  have HG := As.mk (fun w' (hf : Fr None_ w w') => Geo_calls p s w' (hR.none_ hf))
  have HNU := As.mk (fun w => Number_calls s.g seg row slot w hok ha hs0 hs1)
  have HME := As.mk (fun w => Member_calls s.g seg row slot w hok ha hs0 (by omega))
  have hnum : 1 ≤ s.g.num seg row slot := by
    have h1 : 0 ≤ (seg * s.g.p + row) * (s.g.c - 1) := Int.mul_nonneg (by have := mul_range hok ha; have := ha.row; omega) (by omega)
    unfold Geo.num
    omega
  have hnb : (s.g.num seg row slot == 0) = false := by rw [beq_eq_false_iff_ne]; omega
  have hmr := mem_range hok seg row slot hs0 hs1
  have HPF := As.mk (page_facts hR seg row (s.g.mem seg row slot))
  have HRT := As.mk (fun (w' : World) (hf : Fr None_ w w') => Read_there p s (s.g.mem seg row slot) seg row w' (hR.none_ hf) ⟨⟨hmr.1, hmr.2.1⟩, ha⟩ hg)
  change As (∀ (w' : World), Fr None_ w w' → Calls Try.prog 110 #[.pointer (some ⟨p, 0, none⟩), .int .i64 (s.g.mem seg row slot), .int .i64 seg, .int .i64 row] w' fun e w'' => ∃ v1 v2, e = .returned (.tuple #[v1, v2, .int .i64 0]) ∧ Row 5 .u8 w'' w'.heap.size v1 (pD s seg row (s.g.mem seg row slot)) ∧ Row 5 .u8 w'' w'.heap.size v2 (pO s seg row (s.g.mem seg row slot)) ∧ Fr None_ w' w'') at HRT
  unfold Geo.val at HG HNU HME
  generalize s.g.num seg row slot = num at *
  generalize hmem : s.g.mem seg row slot = m at *
  obtain ⟨hm0, hm1, hm2⟩ := hmr
  clear hR ha hok hmem hm2
  generalize pD s seg row m = fd at *
  generalize pO s seg row m = fo at *
  have HD := As.mk hd
  have HOP := As.mk (fun (D1 O1 : Option Addr) (nd1 cd1 no1 co1 : Nat) (w' : World) (h1 : Rd .u8 w' O1 no1 fo) (h2 : Rd .u8 w' D1 nd1 fd) (h3 : no1 ≤ co1) (h4 : nd1 ≤ cd1) => Open.Open_calls O1 D1 no1 co1 nd1 cd1 fo fd w' h1 h2 HPF.out.2.2.2 HPF.out.2.2.1 h3 h4)
  rw [ho] at HOP
  unfold Head.vals at HOP
  dsimp only at HOP
  clear hd ho hg
  unfold dev pcells at *
  have HPL0 := As.mk (heap_alloc_new w (.cells #[.int .i64 seg, .int .i64 row, .int .i64 slot] 63))
  have HPL1 := As.mk (at_old (.cells #[.int .u8 0, .int .u32 0, .int .u32 0, .int .u16 0, .int .u16 0, .int .u32 0, .int .u32 0, .slice none 0 0] 56) HPL0.out)
  have HPG1 := As.mk (at_new (.cells #[.int .u8 0, .int .u32 0, .int .u32 0, .int .u16 0, .int .u16 0, .int .u32 0, .int .u32 0, .slice none 0 0] 56) (size_new (.cells #[.int .i64 seg, .int .i64 row, .int .i64 slot] 63) (rfl : w.heap.size = w.heap.size)))
  have HFW : As (Fr None_ w ((w.alloc (.cells #[.int .i64 seg, .int .i64 row, .int .i64 slot] 63)).alloc (.cells #[.int .u8 0, .int .u32 0, .int .u32 0, .int .u16 0, .int .u16 0, .int .u32 0, .int .u32 0, .slice none 0 0] 56))) := ⟨((Fr.refl _ w).alloc _).alloc _⟩
  go_enter Try.func24, Try.ntmps24
  go_wp2_with fail
  ((with_reducible refine (HG.out _ HFW.out).mono ?_); rintro e w1 ⟨rfl, hf1⟩)
  have HF1 := As.mk (HFW.out.after hf1 (fun _ _ h => h))
  have HPLa := As.mk (hf1.heap HPL1.out (fun h => h))
  have HPGa := As.mk (hf1.heap HPG1.out (fun h => h))
  clear hf1
  have c0 := cell_is (i := 0) HPLa.out rfl
  have c1 := cell_is (i := 1) HPLa.out rfl
  have c2 := cell_is (i := 2) HPLa.out rfl
  have l0 : w.heap.size < w1.heap.size := (Array.getElem?_eq_some_iff.1 HPLa.out).1
  go_wp2_with fail
  ((with_reducible refine (HNU.out _).mono ?_); rintro e w2 ⟨rfl, hf2⟩)
  have HGEb := As.mk (hf2.heap (heap_alloc_new w1 (.cells #[.int .i64 s.g.c, .int .i64 s.g.b, .int .i64 s.g.p, .int .i64 s.g.s] 28)) (fun h => h))
  have HPLb := As.mk (hf2.heap (at_old (.cells #[.int .i64 s.g.c, .int .i64 s.g.b, .int .i64 s.g.p, .int .i64 s.g.s] 28) HPLa.out) (fun h => h))
  have HPGb := As.mk (hf2.heap (at_old (.cells #[.int .i64 s.g.c, .int .i64 s.g.b, .int .i64 s.g.p, .int .i64 s.g.s] 28) HPGa.out) (fun h => h))
  have HF2 := As.mk ((HF1.out.alloc _).after hf2 (fun _ _ h => h))
  have hz8 : w.heap.size ≤ w1.heap.size := HF1.out.size
  clear c0 c1 c2 l0 hf2
  generalize hg8 : w1.heap.size = g8 at *
  clear hg8
  have c0 := cell_is (i := 0) HPLb.out rfl
  have c1 := cell_is (i := 1) HPLb.out rfl
  have c2 := cell_is (i := 2) HPLb.out rfl
  have d0 := cell_is (i := 0) HGEb.out rfl
  have d1 := cell_is (i := 1) HGEb.out rfl
  have d2 := cell_is (i := 2) HGEb.out rfl
  have d3 := cell_is (i := 3) HGEb.out rfl
  go_wp2_with fail
  ((with_reducible refine (HME.out _).mono ?_); rintro e w3 ⟨rfl, hf3⟩)
  have HPLc := As.mk (hf3.heap HPLb.out (fun h => h))
  have HPGc := As.mk (hf3.heap HPGb.out (fun h => h))
  have HF3 := As.mk (HF2.out.after hf3 (fun _ _ h => h))
  clear c0 c1 c2 d0 d1 d2 d3 hf3
  have c0 := cell_is (i := 0) HPLc.out rfl
  have c1 := cell_is (i := 1) HPLc.out rfl
  go_wp2_with fail
  ((with_reducible refine (HRT.out _ HF3.out).mono ?_); rintro e w4 ⟨v1, v2, rfl, hr1, hr2, hf4⟩)
  have HR1 := As.mk hr1
  have HR2 := As.mk hr2
  have HF4 := As.mk (HF3.out.after hf4 (fun _ _ h => h))
  have HPGd := As.mk (hf4.heap HPGc.out (fun h => h))
  clear hr1 hr2 hf4 c0 c1
  obtain ⟨A3, n3, c3, e3, hm3, hd3, _⟩ := HR1.out.rd
  obtain ⟨A4, n4, c4, e4, hm4, hd4, _⟩ := HR2.out.rd
  subst e3 e4
  go_wp2_with fail
  ((with_reducible refine (HOP.out A3 A4 n3 c3 n4 c4 _ hd4.out hd3.out hm4.out hm3.out).mono ?_); rintro e w5 ⟨rfl, hf5⟩)
  have HF5 := As.mk hf5
  have HPGe := As.mk (hf5.heap HPGd.out (fun h => h))
  clear hf5
  go_upto_region 12 with fail
  have hnew := heap_alloc_new w5 (.cells #[.int .u8 h.kind, .int .u32 h.epoch, .int .u32 h.batch, .int .u16 h.index, .int .u16 h.count, .int .u32 h.block, .int .u32 h.more] 54)
  have HF6 := As.mk (HF5.out.alloc (.cells #[.int .u8 h.kind, .int .u32 h.epoch, .int .u32 h.batch, .int .u16 h.index, .int .u16 h.count, .int .u32 h.block, .int .u32 h.more] 54))
  generalize w5.alloc (.cells #[.int .u8 h.kind, .int .u32 h.epoch, .int .u32 h.batch, .int .u16 h.index, .int .u16 h.count, .int .u32 h.block, .int .u32 h.more] 54) = w6 at *
  have hpg := HF6.out.heap HPGd.out (fun h => h)
  have HPG5 := As.mk hpg
  generalize hg20 : w5.heap.size = g20 at *
  clear hg20
  have k0 := cell_is (i := 0) hnew rfl
  have k1 := cell_is (i := 1) hnew rfl
  have k2 := cell_is (i := 2) hnew rfl
  have k3 := cell_is (i := 3) hnew rfl
  have k4 := cell_is (i := 4) hnew rfl
  have k5 := cell_is (i := 5) hnew rfl
  have k6 := cell_is (i := 6) hnew rfl
  have x0 := cell_is (i := 0) hpg rfl
  have x1 := cell_is (i := 1) hpg rfl
  have x2 := cell_is (i := 2) hpg rfl
  have x3 := cell_is (i := 3) hpg rfl
  have x4 := cell_is (i := 4) hpg rfl
  have x5 := cell_is (i := 5) hpg rfl
  have x6 := cell_is (i := 6) hpg rfl
  have x7 := cell_is (i := 7) hpg rfl
  have y0 := free_of (i := 0) hpg
  have y1 := free_of (i := 1) hpg
  have y2 := free_of (i := 2) hpg
  have y3 := free_of (i := 3) hpg
  have y4 := free_of (i := 4) hpg
  have y5 := free_of (i := 5) hpg
  have y6 := free_of (i := 6) hpg
  have y7 := free_of (i := 7) hpg
  clear hnew hpg
  go_wp2_with fail
  have hz := HF3.out.size
  have hr6 := HR1.out.none_ HF6.out
  have hF6 : Fr None_ w w6 := HF4.out.after HF6.out (fun _ _ h => h)
  refine bodyPost_ret (v := .tuple #[.agg #[.int .u8 h.kind, .int .u32 h.epoch, .int .u32 h.batch, .int .u16 h.index, .int .u16 h.count, .int .u32 h.block, .int .u32 h.more, .slice A3 n3 c3], .int .i64 0]) (by simp [results, Try.results24, go_sem, x0, x1, x2, x3, x4, x5, x6, x7]) rfl ⟨_, rfl, ?_, ?_⟩
  · rw [HD.out]
    refine Row.fr (S := fun b => b = w.heap.size + 1) (hr6.lower hz) ?_ (fun b hbo e => Row.ne hr6 HPG5.out (by decide) (e ▸ hbo))
    exact fr_set8 (b := w.heap.size + 1) (Fr.refl (fun b => b = w.heap.size + 1) w6) (fun _ => rfl) _ _ _ _ _ _ _ _
  · exact fr_set8 hF6 (fun hl => absurd hl (by omega)) _ _ _ _ _ _ _ _

set_option maxHeartbeats 8000000 in
set_option maxRecDepth 100000 in
theorem Read_gone' (p : Nat) (s : Ram.St) (seg row slot : Int) (w : World) (h : Head) (d : List Int) (hR : RamE w p s) (ha : s.g.At seg row) (hs0 : 0 ≤ slot) (hs1 : slot < s.g.c - 1) (hg : 0 < s.gone (s.g.mem seg row slot)) (hmk : Makes s seg row (s.g.mem seg row slot) h d) :
    Calls Try.prog 24 #[dev p, .agg #[.int .i64 seg, .int .i64 row, .int .i64 slot]] w fun e w' => ∃ v, e = .returned (.tuple #[.agg (pcells h v), .int .i64 0]) ∧ Row 5 .u8 w' w.heap.size v d ∧ Fr None_ w w' := by
  have hok : s.g.Ok := by obtain ⟨_, _, _, _, _, h⟩ := hR; exact h.ok
  have hp : p < w.heap.size := hR.lt
  have HR := As.mk hR
  have hc1 := hok.c
  have hb1 := hok.b
  have hp1 := hok.p
  have hgs1 := hok.s
  have HG := As.mk (fun w' (hf : Fr None_ w w') => Geo_calls p s w' (hR.none_ hf))
  have HNU := As.mk (fun w => Number_calls s.g seg row slot w hok ha hs0 hs1)
  have HME := As.mk (fun w => Member_calls s.g seg row slot w hok ha hs0 (by omega))
  have hnum : 1 ≤ s.g.num seg row slot := by
    have h1 : 0 ≤ (seg * s.g.p + row) * (s.g.c - 1) := Int.mul_nonneg (by have := mul_range hok ha; have := ha.row; omega) (by omega)
    unfold Geo.num
    omega
  have hnb : (s.g.num seg row slot == 0) = false := by rw [beq_eq_false_iff_ne]; omega
  have hmr := mem_range hok seg row slot hs0 hs1
  have HPF := As.mk (page_facts hR seg row (s.g.mem seg row slot))
  have HAG := As.mk (fun (w' : World) (hf : Fr None_ w w') => again_calls p s seg row slot (s.g.mem seg row slot) w' hmk.par.choose h (hR.none_ hf) ha ⟨hmr.1, hmr.2.1⟩ hmr.2.2 hmk.gone hmk.others hmk.par.choose_spec.1 hmk.par.choose_spec.2 hmk.res)
  rw [← hmk.page] at HAG
  have HRG := As.mk (fun (w' : World) (hf : Fr None_ w w') => Ram.Read_gone p s (s.g.mem seg row slot) seg row w' (hR.none_ hf) ⟨⟨hmr.1, hmr.2.1⟩, ha⟩ hg)
  unfold Geo.val at HG HNU HME
  generalize s.g.num seg row slot = num at *
  generalize hmem : s.g.mem seg row slot = m at *
  obtain ⟨hm0, hm1, hm2⟩ := hmr
  clear hR ha hok hmem hm2
  have HOP := As.mk (fun (w' : World) => Open.Open_calls none none 0 0 0 0 [] [] w' (Rd.nil _ _ _) (Rd.nil _ _ _) (fun x hx => by cases hx) (fun x hx => by cases hx) (Nat.le_refl _) (Nat.le_refl _))
  rw [show openOf [] [] = (Open.zeroHead, false) from rfl] at HOP
  unfold Head.vals Open.zeroHead at HOP
  dsimp only at HOP
  clear hg hmk
  unfold dev pcells at *
  have HPL0 := As.mk (heap_alloc_new w (.cells #[.int .i64 seg, .int .i64 row, .int .i64 slot] 63))
  have HPL1 := As.mk (at_old (.cells #[.int .u8 0, .int .u32 0, .int .u32 0, .int .u16 0, .int .u16 0, .int .u32 0, .int .u32 0, .slice none 0 0] 56) HPL0.out)
  have HPG1 := As.mk (at_new (.cells #[.int .u8 0, .int .u32 0, .int .u32 0, .int .u16 0, .int .u16 0, .int .u32 0, .int .u32 0, .slice none 0 0] 56) (size_new (.cells #[.int .i64 seg, .int .i64 row, .int .i64 slot] 63) (rfl : w.heap.size = w.heap.size)))
  have HFW : As (Fr None_ w ((w.alloc (.cells #[.int .i64 seg, .int .i64 row, .int .i64 slot] 63)).alloc (.cells #[.int .u8 0, .int .u32 0, .int .u32 0, .int .u16 0, .int .u16 0, .int .u32 0, .int .u32 0, .slice none 0 0] 56))) := ⟨((Fr.refl _ w).alloc _).alloc _⟩
  go_enter Try.func24, Try.ntmps24
  go_wp2_with fail
  ((with_reducible refine (HG.out _ HFW.out).mono ?_); rintro e w1 ⟨rfl, hf1⟩)
  have HF1 := As.mk (HFW.out.after hf1 (fun _ _ h => h))
  have HPLa := As.mk (hf1.heap HPL1.out (fun h => h))
  have HPGa := As.mk (hf1.heap HPG1.out (fun h => h))
  clear hf1
  have c0 := cell_is (i := 0) HPLa.out rfl
  have c1 := cell_is (i := 1) HPLa.out rfl
  have c2 := cell_is (i := 2) HPLa.out rfl
  have l0 : w.heap.size < w1.heap.size := (Array.getElem?_eq_some_iff.1 HPLa.out).1
  go_wp2_with fail
  ((with_reducible refine (HNU.out _).mono ?_); rintro e w2 ⟨rfl, hf2⟩)
  have HGEb := As.mk (hf2.heap (heap_alloc_new w1 (.cells #[.int .i64 s.g.c, .int .i64 s.g.b, .int .i64 s.g.p, .int .i64 s.g.s] 28)) (fun h => h))
  have HPLb := As.mk (hf2.heap (at_old (.cells #[.int .i64 s.g.c, .int .i64 s.g.b, .int .i64 s.g.p, .int .i64 s.g.s] 28) HPLa.out) (fun h => h))
  have HPGb := As.mk (hf2.heap (at_old (.cells #[.int .i64 s.g.c, .int .i64 s.g.b, .int .i64 s.g.p, .int .i64 s.g.s] 28) HPGa.out) (fun h => h))
  have HF2 := As.mk ((HF1.out.alloc _).after hf2 (fun _ _ h => h))
  have hz8 : w.heap.size ≤ w1.heap.size := HF1.out.size
  clear c0 c1 c2 l0 hf2
  generalize hg8 : w1.heap.size = g8 at *
  clear hg8
  have c0 := cell_is (i := 0) HPLb.out rfl
  have c1 := cell_is (i := 1) HPLb.out rfl
  have c2 := cell_is (i := 2) HPLb.out rfl
  have d0 := cell_is (i := 0) HGEb.out rfl
  have d1 := cell_is (i := 1) HGEb.out rfl
  have d2 := cell_is (i := 2) HGEb.out rfl
  have d3 := cell_is (i := 3) HGEb.out rfl
  go_wp2_with fail
  ((with_reducible refine (HME.out _).mono ?_); rintro e w3 ⟨rfl, hf3⟩)
  have HPLc := As.mk (hf3.heap HPLb.out (fun h => h))
  have HPGc := As.mk (hf3.heap HPGb.out (fun h => h))
  have HF3 := As.mk (HF2.out.after hf3 (fun _ _ h => h))
  clear c0 c1 c2 d0 d1 d2 d3 hf3
  have c0 := cell_is (i := 0) HPLc.out rfl
  have c1 := cell_is (i := 1) HPLc.out rfl
  go_wp2_with fail
  ((with_reducible refine (HRG.out _ HF3.out).mono ?_); rintro e w4 ⟨rfl, hf4⟩)
  have HF4 := As.mk (HF3.out.after hf4 (fun _ _ h => h))
  have HPGx := As.mk (hf4.heap HPGc.out (fun h => h))
  have HPLx := As.mk (hf4.heap HPLc.out (fun h => h))
  clear hf4 c0 c1
  go_wp2_with fail
  ((with_reducible refine (HOP.out _).mono ?_); rintro e w5 ⟨rfl, hf5⟩)
  have HF5 := As.mk (HF4.out.after hf5 (fun _ _ h => h))
  have HPGd := As.mk (hf5.heap HPGx.out (fun h => h))
  have HPLd := As.mk (hf5.heap HPLx.out (fun h => h))
  clear hf5
  have c0 := cell_is (i := 0) HPLd.out rfl
  have c1 := cell_is (i := 1) HPLd.out rfl
  have c2 := cell_is (i := 2) HPLd.out rfl
  have l0 : w.heap.size < w5.heap.size := (Array.getElem?_eq_some_iff.1 HPLd.out).1
  go_wp2_with fail
  ((with_reducible refine (HAG.out _ ?a0).mono ?_); (case a0 => exact HF5.out.alloc _); rintro e w6 ⟨v6, rfl, hr6, hf6⟩)
  have HR6 := As.mk hr6
  have HF6 := As.mk ((HF5.out.alloc _).after hf6 (fun _ _ h => h))
  have hpg := hf6.heap (at_old _ HPGd.out) (fun h => h)
  have HPG5 := As.mk hpg
  clear hr6 hf6 c0 c1 c2 l0
  obtain ⟨A3, n3, c3, e3, hm3, hd3, _⟩ := HR6.out.rd
  subst e3
  have x0 := cell_is (i := 0) hpg rfl
  have x1 := cell_is (i := 1) hpg rfl
  have x2 := cell_is (i := 2) hpg rfl
  have x3 := cell_is (i := 3) hpg rfl
  have x4 := cell_is (i := 4) hpg rfl
  have x5 := cell_is (i := 5) hpg rfl
  have x6 := cell_is (i := 6) hpg rfl
  have x7 := cell_is (i := 7) hpg rfl
  have y0 := free_of (i := 0) hpg
  have y1 := free_of (i := 1) hpg
  have y2 := free_of (i := 2) hpg
  have y3 := free_of (i := 3) hpg
  have y4 := free_of (i := 4) hpg
  have y5 := free_of (i := 5) hpg
  have y6 := free_of (i := 6) hpg
  have y7 := free_of (i := 7) hpg
  clear hpg
  go_wp2_with fail
  have hz := HF5.out.size
  have hF6 := HF6.out
  have hr6 := HR6.out
  refine bodyPost_ret (v := .tuple #[.agg #[.int .u8 h.kind, .int .u32 h.epoch, .int .u32 h.batch, .int .u16 h.index, .int .u16 h.count, .int .u32 h.block, .int .u32 h.more, .slice A3 n3 c3], .int .i64 0]) (by simp [results, Try.results24, go_sem, x0, x1, x2, x3, x4, x5, x6, x7]) rfl ⟨_, rfl, ?_, ?_⟩
  · refine Row.fr (S := fun b => b = w.heap.size + 1) (hr6.lower (by simp; omega)) ?_ (fun b hbo e => Row.ne hr6 HPG5.out (by decide) (e ▸ hbo))
    exact fr_set8 (b := w.heap.size + 1) (Fr.refl (fun b => b = w.heap.size + 1) w6) (fun _ => rfl) _ _ _ _ _ _ _ _
  · exact fr_set8 hF6 (fun hl => absurd hl (by omega)) _ _ _ _ _ _ _ _

set_option maxHeartbeats 8000000 in
set_option maxRecDepth 100000 in
theorem Read_spoilt (p : Nat) (s : Ram.St) (seg row slot : Int) (w : World) (h : Head) (d : List Int) (hR : RamE w p s) (ha : s.g.At seg row) (hs0 : 0 ≤ slot) (hs1 : slot < s.g.c - 1) (hg : ¬ 0 < s.gone (s.g.mem seg row slot)) (ho : (openOf (pD s seg row (s.g.mem seg row slot)) (pO s seg row (s.g.mem seg row slot))).2 = false) (hmk : Makes s seg row (s.g.mem seg row slot) h d) :
    Calls Try.prog 24 #[dev p, .agg #[.int .i64 seg, .int .i64 row, .int .i64 slot]] w fun e w' => ∃ v, e = .returned (.tuple #[.agg (pcells h v), .int .i64 0]) ∧ Row 5 .u8 w' w.heap.size v d ∧ Fr None_ w w' := by
  have hok : s.g.Ok := by obtain ⟨_, _, _, _, _, h⟩ := hR; exact h.ok
  have hp : p < w.heap.size := hR.lt
  have HR := As.mk hR
  have hc1 := hok.c
  have hb1 := hok.b
  have hp1 := hok.p
  have hgs1 := hok.s
  have HG := As.mk (fun w' (hf : Fr None_ w w') => Geo_calls p s w' (hR.none_ hf))
  have HNU := As.mk (fun w => Number_calls s.g seg row slot w hok ha hs0 hs1)
  have HME := As.mk (fun w => Member_calls s.g seg row slot w hok ha hs0 (by omega))
  have hnum : 1 ≤ s.g.num seg row slot := by
    have h1 : 0 ≤ (seg * s.g.p + row) * (s.g.c - 1) := Int.mul_nonneg (by have := mul_range hok ha; have := ha.row; omega) (by omega)
    unfold Geo.num
    omega
  have hnb : (s.g.num seg row slot == 0) = false := by rw [beq_eq_false_iff_ne]; omega
  have hmr := mem_range hok seg row slot hs0 hs1
  have HPF := As.mk (page_facts hR seg row (s.g.mem seg row slot))
  have HAG := As.mk (fun (w' : World) (hf : Fr None_ w w') => again_calls p s seg row slot (s.g.mem seg row slot) w' hmk.par.choose h (hR.none_ hf) ha ⟨hmr.1, hmr.2.1⟩ hmr.2.2 hmk.gone hmk.others hmk.par.choose_spec.1 hmk.par.choose_spec.2 hmk.res)
  rw [← hmk.page] at HAG
  have HRT := As.mk (fun (w' : World) (hf : Fr None_ w w') => Read_there p s (s.g.mem seg row slot) seg row w' (hR.none_ hf) ⟨⟨hmr.1, hmr.2.1⟩, ha⟩ hg)
  change As (∀ (w' : World), Fr None_ w w' → Calls Try.prog 110 #[.pointer (some ⟨p, 0, none⟩), .int .i64 (s.g.mem seg row slot), .int .i64 seg, .int .i64 row] w' fun e w'' => ∃ v1 v2, e = .returned (.tuple #[v1, v2, .int .i64 0]) ∧ Row 5 .u8 w'' w'.heap.size v1 (pD s seg row (s.g.mem seg row slot)) ∧ Row 5 .u8 w'' w'.heap.size v2 (pO s seg row (s.g.mem seg row slot)) ∧ Fr None_ w' w'') at HRT
  unfold Geo.val at HG HNU HME
  generalize s.g.num seg row slot = num at *
  generalize hmem : s.g.mem seg row slot = m at *
  obtain ⟨hm0, hm1, hm2⟩ := hmr
  clear hR ha hok hmem hm2
  generalize pD s seg row m = fd at *
  generalize pO s seg row m = fo at *
  have HOP := As.mk (fun (D1 O1 : Option Addr) (nd1 cd1 no1 co1 : Nat) (w' : World) (h1 : Rd .u8 w' O1 no1 fo) (h2 : Rd .u8 w' D1 nd1 fd) (h3 : no1 ≤ co1) (h4 : nd1 ≤ cd1) => Open.Open_calls O1 D1 no1 co1 nd1 cd1 fo fd w' h1 h2 HPF.out.2.2.2 HPF.out.2.2.1 h3 h4)
  obtain ⟨hq, hhq⟩ : ∃ hq, openOf fd fo = (hq, false) := ⟨(openOf fd fo).1, by rw [← ho]⟩
  rw [hhq] at HOP
  unfold Head.vals at HOP
  dsimp only at HOP
  clear hg hmk ho hhq
  unfold dev pcells at *
  have HPL0 := As.mk (heap_alloc_new w (.cells #[.int .i64 seg, .int .i64 row, .int .i64 slot] 63))
  have HPL1 := As.mk (at_old (.cells #[.int .u8 0, .int .u32 0, .int .u32 0, .int .u16 0, .int .u16 0, .int .u32 0, .int .u32 0, .slice none 0 0] 56) HPL0.out)
  have HPG1 := As.mk (at_new (.cells #[.int .u8 0, .int .u32 0, .int .u32 0, .int .u16 0, .int .u16 0, .int .u32 0, .int .u32 0, .slice none 0 0] 56) (size_new (.cells #[.int .i64 seg, .int .i64 row, .int .i64 slot] 63) (rfl : w.heap.size = w.heap.size)))
  have HFW : As (Fr None_ w ((w.alloc (.cells #[.int .i64 seg, .int .i64 row, .int .i64 slot] 63)).alloc (.cells #[.int .u8 0, .int .u32 0, .int .u32 0, .int .u16 0, .int .u16 0, .int .u32 0, .int .u32 0, .slice none 0 0] 56))) := ⟨((Fr.refl _ w).alloc _).alloc _⟩
  go_enter Try.func24, Try.ntmps24
  go_wp2_with fail
  ((with_reducible refine (HG.out _ HFW.out).mono ?_); rintro e w1 ⟨rfl, hf1⟩)
  have HF1 := As.mk (HFW.out.after hf1 (fun _ _ h => h))
  have HPLa := As.mk (hf1.heap HPL1.out (fun h => h))
  have HPGa := As.mk (hf1.heap HPG1.out (fun h => h))
  clear hf1
  have c0 := cell_is (i := 0) HPLa.out rfl
  have c1 := cell_is (i := 1) HPLa.out rfl
  have c2 := cell_is (i := 2) HPLa.out rfl
  have l0 : w.heap.size < w1.heap.size := (Array.getElem?_eq_some_iff.1 HPLa.out).1
  go_wp2_with fail
  ((with_reducible refine (HNU.out _).mono ?_); rintro e w2 ⟨rfl, hf2⟩)
  have HGEb := As.mk (hf2.heap (heap_alloc_new w1 (.cells #[.int .i64 s.g.c, .int .i64 s.g.b, .int .i64 s.g.p, .int .i64 s.g.s] 28)) (fun h => h))
  have HPLb := As.mk (hf2.heap (at_old (.cells #[.int .i64 s.g.c, .int .i64 s.g.b, .int .i64 s.g.p, .int .i64 s.g.s] 28) HPLa.out) (fun h => h))
  have HPGb := As.mk (hf2.heap (at_old (.cells #[.int .i64 s.g.c, .int .i64 s.g.b, .int .i64 s.g.p, .int .i64 s.g.s] 28) HPGa.out) (fun h => h))
  have HF2 := As.mk ((HF1.out.alloc _).after hf2 (fun _ _ h => h))
  have hz8 : w.heap.size ≤ w1.heap.size := HF1.out.size
  clear c0 c1 c2 l0 hf2
  generalize hg8 : w1.heap.size = g8 at *
  clear hg8
  have c0 := cell_is (i := 0) HPLb.out rfl
  have c1 := cell_is (i := 1) HPLb.out rfl
  have c2 := cell_is (i := 2) HPLb.out rfl
  have d0 := cell_is (i := 0) HGEb.out rfl
  have d1 := cell_is (i := 1) HGEb.out rfl
  have d2 := cell_is (i := 2) HGEb.out rfl
  have d3 := cell_is (i := 3) HGEb.out rfl
  go_wp2_with fail
  ((with_reducible refine (HME.out _).mono ?_); rintro e w3 ⟨rfl, hf3⟩)
  have HPLc := As.mk (hf3.heap HPLb.out (fun h => h))
  have HPGc := As.mk (hf3.heap HPGb.out (fun h => h))
  have HF3 := As.mk (HF2.out.after hf3 (fun _ _ h => h))
  clear c0 c1 c2 d0 d1 d2 d3 hf3
  have c0 := cell_is (i := 0) HPLc.out rfl
  have c1 := cell_is (i := 1) HPLc.out rfl
  go_wp2_with fail
  ((with_reducible refine (HRT.out _ HF3.out).mono ?_); rintro e w4 ⟨v1, v2, rfl, hr1, hr2, hf4⟩)
  have HR1 := As.mk hr1
  have HR2 := As.mk hr2
  have HF4 := As.mk (HF3.out.after hf4 (fun _ _ h => h))
  have HPGx := As.mk (hf4.heap HPGc.out (fun h => h))
  have HPLx := As.mk (hf4.heap HPLc.out (fun h => h))
  clear hr1 hr2 hf4 c0 c1
  obtain ⟨A3, n3, c3, e3, hm3, hd3, _⟩ := HR1.out.rd
  obtain ⟨A4, n4, c4, e4, hm4, hd4, _⟩ := HR2.out.rd
  subst e3 e4
  go_wp2_with fail
  ((with_reducible refine (HOP.out A3 A4 n3 c3 n4 c4 _ hd4.out hd3.out hm4.out hm3.out).mono ?_); rintro e w5 ⟨rfl, hf5⟩)
  have HF5 := As.mk (HF4.out.after hf5 (fun _ _ h => h))
  have HPGd := As.mk (hf5.heap HPGx.out (fun h => h))
  have HPLd := As.mk (hf5.heap HPLx.out (fun h => h))
  clear hf5
  have c0 := cell_is (i := 0) HPLd.out rfl
  have c1 := cell_is (i := 1) HPLd.out rfl
  have c2 := cell_is (i := 2) HPLd.out rfl
  have l0 : w.heap.size < w5.heap.size := (Array.getElem?_eq_some_iff.1 HPLd.out).1
  go_wp2_with fail
  ((with_reducible refine (HAG.out _ ?a0).mono ?_); (case a0 => exact HF5.out.alloc _); rintro e w6 ⟨v6, rfl, hr6, hf6⟩)
  have HR6 := As.mk hr6
  have HF6 := As.mk ((HF5.out.alloc _).after hf6 (fun _ _ h => h))
  have hpg := hf6.heap (at_old _ HPGd.out) (fun h => h)
  have HPG5 := As.mk hpg
  clear hr6 hf6 c0 c1 c2 l0
  obtain ⟨A5, n5, c5, e3, hm5, hd5, _⟩ := HR6.out.rd
  subst e3
  have x0 := cell_is (i := 0) hpg rfl
  have x1 := cell_is (i := 1) hpg rfl
  have x2 := cell_is (i := 2) hpg rfl
  have x3 := cell_is (i := 3) hpg rfl
  have x4 := cell_is (i := 4) hpg rfl
  have x5 := cell_is (i := 5) hpg rfl
  have x6 := cell_is (i := 6) hpg rfl
  have x7 := cell_is (i := 7) hpg rfl
  have y0 := free_of (i := 0) hpg
  have y1 := free_of (i := 1) hpg
  have y2 := free_of (i := 2) hpg
  have y3 := free_of (i := 3) hpg
  have y4 := free_of (i := 4) hpg
  have y5 := free_of (i := 5) hpg
  have y6 := free_of (i := 6) hpg
  have y7 := free_of (i := 7) hpg
  clear hpg
  go_wp2_with fail
  have hz := HF5.out.size
  have hF6 := HF6.out
  have hr6 := HR6.out
  refine bodyPost_ret (v := .tuple #[.agg #[.int .u8 h.kind, .int .u32 h.epoch, .int .u32 h.batch, .int .u16 h.index, .int .u16 h.count, .int .u32 h.block, .int .u32 h.more, .slice A5 n5 c5], .int .i64 0]) (by simp [results, Try.results24, go_sem, x0, x1, x2, x3, x4, x5, x6, x7]) rfl ⟨_, rfl, ?_, ?_⟩
  · refine Row.fr (S := fun b => b = w.heap.size + 1) (hr6.lower (by simp; omega)) ?_ (fun b hbo e => Row.ne hr6 HPG5.out (by decide) (e ▸ hbo))
    exact fr_set8 (b := w.heap.size + 1) (Fr.refl (fun b => b = w.heap.size + 1) w6) (fun _ => rfl) _ _ _ _ _ _ _ _
  · exact fr_set8 hF6 (fun hl => absurd hl (by omega)) _ _ _ _ _ _ _ _

theorem Read_calls (p : Nat) (s : Ram.St) (seg row slot : Int) (w : World) (h : Head) (d : List Int) (hR : RamE w p s) (ha : s.g.At seg row) (hs0 : 0 ≤ slot) (hs1 : slot < s.g.c - 1) (hr : Reads s seg row slot h d) :
    Calls Try.prog 24 #[dev p, .agg #[.int .i64 seg, .int .i64 row, .int .i64 slot]] w fun e w' => ∃ v, e = .returned (.tuple #[.agg (pcells h v), .int .i64 0]) ∧ Row 5 .u8 w' w.heap.size v d ∧ Fr None_ w w' := by
  rcases hr with ⟨h1, h2, h3⟩ | ⟨h1, h2⟩
  · exact Read_direct p s seg row slot w h d hR ha hs0 hs1 h1 h2 h3
  · by_cases hg : 0 < s.gone (s.g.mem seg row slot)
    · exact Read_gone' p s seg row slot w h d hR ha hs0 hs1 hg h2
    · rcases h1 with h1 | h1
      · exact absurd h1 hg
      · exact Read_spoilt p s seg row slot w h d hR ha hs0 hs1 hg h1 h2
end Go.Proofs.Ytlhgbamajabnfaa.SRead

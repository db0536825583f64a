/- stripe.Read over an array: a page whose member is dead. | stripe.Row over an array, of which a member may be dead: nothing stands there, or a whole stripe. -/
import Derived.Test.YteofgpaceeibpaaGreatTkAAgn
import Derived.Test.YteofgpaceeibpaaGreatTkAllA
import Derived.Test.YteofgpaceeibpaaGreatTkBlank
namespace Go.Proofs.YteofgpaceeibpaaGreat.AMade
open Go.RowKit Gab Geom Go.Proofs.YteofgpaceeibpaaGreat.Sum Ref Par Fields Seal Nand NandA NandH ArrA ArrD AOrd AWrA StgA ARead AGet AAgn
open Wr (InR)
open Heap (cell_is)
open Str (pcells PPs take_snoc)
open Go.Proofs.YteofgpaceeibpaaGreat.Open (openOf)
set_option linter.unusedVariables false
set_option linter.unusedSimpArgs false

set_option maxHeartbeats 8000000 in
set_option maxRecDepth 100000 in
theorem Read_made (σ σ1 τ : Ar) (K : ALay) (seg row slot : Int) (w : World) (h : Head) (d : List Int) (x : List Int × List Int) (hR : ArAt w σ K) (hth : σ.There) (ha : σ.s.g.At seg row) (hs0 : 0 ≤ slot) (hs1 : slot < σ.s.g.c - 1)
    (ho : One σ (σ.s.g.mem seg row slot).toNat seg.toNat row.toNat (σ1, 71) x) (m0 : Nat) (hsf : σ.s.Safe (m0 + 1))
    (hag : ∀ w', ArAt w' σ1 K → Calls Tryz.prog 78 #[dev K.x, .agg #[.int .i64 seg, .int .i64 row, .int .i64 slot], .int .i64 (σ.s.g.mem seg row slot)] w' (AgPost σ1 τ K h d w')) :
    Calls Tryz.prog 44 #[dev K.x, .agg #[.int .i64 seg, .int .i64 row, .int .i64 slot]] w (AgPost σ τ K h d w) := by
  have hok : σ.s.g.Ok := hR.nand.ok
  have HLTF := As.mk (show ∀ b, AF K σ b → b < w.heap.size from fun b hb => by
    rcases hb with h | h | h
    · exact hR.nand.lt h
    · rw [h]; exact (Array.getElem?_eq_some_iff.1 hR.main).1
    · obtain ⟨cs, hv, _⟩ := hR.vols
      rw [h]; exact (Array.getElem?_eq_some_iff.1 hv).1)
  have HNF := As.mk (show ∀ b, w.heap.size ≤ b → ¬ AF K σ b from fun b hb ha => absurd (HLTF.out b ha) (by omega))
  have HR := As.mk hR
  have hc1 := hok.c
  have hb1 := hok.b
  have hp1 := hok.p
  have hgs1 := hok.s
  have HG := As.mk (fun w' (hf : Fr None_ w w') => ArrA.Geo_calls σ K w' (hR.none_ hf))
  have HNU := As.mk (fun w => Number_calls σ.s.g seg row slot w hok ha hs0 hs1)
  have HME := As.mk (fun w => Member_calls σ.s.g seg row slot w hok ha hs0 (by omega))
  have hnum : 1 ≤ σ.s.g.num seg row slot := by
    have h1 : 0 ≤ (seg * σ.s.g.p + row) * (σ.s.g.c - 1) := Int.mul_nonneg (by have := mul_range hok ha; have := ha.row; omega) (by omega)
    unfold Geo.num
    omega
  have hnb : (σ.s.g.num seg row slot == 0) = false := by rw [beq_eq_false_iff_ne]; omega
  have hmr := mem_range hok seg row slot hs0 hs1
  have HRG := As.mk (fun (w' : World) (hf : Fr None_ w w') => Read_one σ σ K (σ.s.g.mem seg row slot) seg row _ _ w' (hR.none_ hf) hth rfl hmr.1 hmr.2.1 ha ho m0 hsf)
  have HSM := As.mk (show σ1.s.g = σ.s.g from by
    have h := read_same σ (σ.s.g.mem seg row slot).toNat
    rw [ho.read] at h
    exact h)
  have HAG := As.mk hag
  unfold Geo.val at HG HNU HME
  generalize σ.s.g.num seg row slot = num at *
  generalize hmem : σ.s.g.mem seg row slot = m at *
  obtain ⟨hm0, hm1, hm2⟩ := hmr
  have HOP := As.mk (fun (w' : World) => Open.Open_calls none none 0 0 0 0 [] [] w' (Rd.nil _ _ _) (Rd.nil _ _ _) (fun x hx => by cases hx) (fun x hx => by cases hx) (Nat.le_refl _) (Nat.le_refl _))
  rw [show openOf [] [] = (Open.zeroHead, false) from rfl] at HOP
  unfold Head.vals Open.zeroHead at HOP
  dsimp only at HOP
  unfold AgPost at HAG
  obtain ⟨Q, hQ⟩ : ∃ Q, AgPost σ τ K h d w = Q := ⟨_, rfl⟩
  have HQ := As.mk hQ
  rw [hQ]
  clear hR ha hok hmem hm2 ho hsf hag hth hQ
  unfold dev pcells at *
  have HPL0 := As.mk (heap_alloc_new w (.cells #[.int .i64 seg, .int .i64 row, .int .i64 slot] 108))
  have HPL1 := As.mk (at_old (.cells #[.int .u8 0, .int .u32 0, .int .u32 0, .int .u16 0, .int .u16 0, .int .u32 0, .int .u32 0, .slice none 0 0] 117) HPL0.out)
  have HPG1 := As.mk (at_new (.cells #[.int .u8 0, .int .u32 0, .int .u32 0, .int .u16 0, .int .u16 0, .int .u32 0, .int .u32 0, .slice none 0 0] 117) (size_new (.cells #[.int .i64 seg, .int .i64 row, .int .i64 slot] 108) (rfl : w.heap.size = w.heap.size)))
  have HFW : As (Fr None_ w ((w.alloc (.cells #[.int .i64 seg, .int .i64 row, .int .i64 slot] 108)).alloc (.cells #[.int .u8 0, .int .u32 0, .int .u32 0, .int .u16 0, .int .u16 0, .int .u32 0, .int .u32 0, .slice none 0 0] 117))) := ⟨((Fr.refl _ w).alloc _).alloc _⟩
  go_enter Tryz.func44, Tryz.ntmps44
  go_wp2_with fail
  ((with_reducible refine (HG.out _ HFW.out).mono ?_); rintro e w1 ⟨rfl, hf1⟩)
  have HF1 := As.mk (HFW.out.after hf1 (fun _ _ h => h))
  have HPLa := As.mk (hf1.heap HPL1.out (fun h => h))
  have HPGa := As.mk (hf1.heap HPG1.out (fun h => h))
  clear hf1
  have c0 := cell_is (i := 0) HPLa.out rfl
  have c1 := cell_is (i := 1) HPLa.out rfl
  have c2 := cell_is (i := 2) HPLa.out rfl
  have l0 : w.heap.size < w1.heap.size := (Array.getElem?_eq_some_iff.1 HPLa.out).1
  go_wp2_with fail
  ((with_reducible refine (HNU.out _).mono ?_); rintro e w2 ⟨rfl, hf2⟩)
  have HGEb := As.mk (hf2.heap (heap_alloc_new w1 (.cells #[.int .i64 σ.s.g.c, .int .i64 σ.s.g.b, .int .i64 σ.s.g.p, .int .i64 σ.s.g.s] 24)) (fun h => h))
  have HPLb := As.mk (hf2.heap (at_old (.cells #[.int .i64 σ.s.g.c, .int .i64 σ.s.g.b, .int .i64 σ.s.g.p, .int .i64 σ.s.g.s] 24) HPLa.out) (fun h => h))
  have HPGb := As.mk (hf2.heap (at_old (.cells #[.int .i64 σ.s.g.c, .int .i64 σ.s.g.b, .int .i64 σ.s.g.p, .int .i64 σ.s.g.s] 24) HPGa.out) (fun h => h))
  have HF2 := As.mk ((HF1.out.alloc _).after hf2 (fun _ _ h => h))
  have hz8 : w.heap.size ≤ w1.heap.size := HF1.out.size
  clear c0 c1 c2 l0 hf2
  generalize hg8 : w1.heap.size = g8 at *
  clear hg8
  have c0 := cell_is (i := 0) HPLb.out rfl
  have c1 := cell_is (i := 1) HPLb.out rfl
  have c2 := cell_is (i := 2) HPLb.out rfl
  have d0 := cell_is (i := 0) HGEb.out rfl
  have d1 := cell_is (i := 1) HGEb.out rfl
  have d2 := cell_is (i := 2) HGEb.out rfl
  have d3 := cell_is (i := 3) HGEb.out rfl
  go_wp2_with fail
  ((with_reducible refine (HME.out _).mono ?_); rintro e w3 ⟨rfl, hf3⟩)
  have HPLc := As.mk (hf3.heap HPLb.out (fun h => h))
  have HPGc := As.mk (hf3.heap HPGb.out (fun h => h))
  have HF3 := As.mk (HF2.out.after hf3 (fun _ _ h => h))
  clear c0 c1 c2 d0 d1 d2 d3 hf3
  have c0 := cell_is (i := 0) HPLc.out rfl
  have c1 := cell_is (i := 1) HPLc.out rfl
  go_wp2_with fail
  ((with_reducible refine (HRG.out _ HF3.out).mono ?_); rintro e w4 ⟨A3, n3, c3, A4, n4, c4, rfl, ha4, hf4, _, hy4⟩)
  obtain ⟨y1, y2⟩ := hy4 (show (71 : Int) ≠ 0 by decide)
  injection y1 with q1 q2 q3
  injection y2 with q4 q5 q6
  subst q1 q2 q3 q4 q5 q6
  have HA4 := As.mk ha4
  have HF4 := As.mk ((HF3.out.mono (T := AF K σ) (fun _ _ h => h.elim)).after hf4 (fun _ _ h => h))
  have HPGx := As.mk (hf4.heap HPGc.out (HNF.out _ (Nat.le_succ _)))
  have HPLx := As.mk (hf4.heap HPLc.out (HNF.out _ (Nat.le_refl _)))
  clear hf4 c0 c1 ha4 hy4
  go_wp2_with fail
  ((with_reducible refine (HOP.out _).mono ?_); rintro e w5 ⟨rfl, hf5⟩)
  have HF5 := As.mk (HF4.out.after hf5 (fun _ _ h => h.elim))
  have HA5 := As.mk (HA4.out.none_ hf5)
  have HPGd := As.mk (hf5.heap HPGx.out (fun h => h))
  have HPLd := As.mk (hf5.heap HPLx.out (fun h => h))
  clear hf5
  have c0 := cell_is (i := 0) HPLd.out rfl
  have c1 := cell_is (i := 1) HPLd.out rfl
  have c2 := cell_is (i := 2) HPLd.out rfl
  have l0 : w.heap.size < w5.heap.size := (Array.getElem?_eq_some_iff.1 HPLd.out).1
  go_wp2_with fail
  ((with_reducible refine (HAG.out _ ?a0).mono ?_); (case a0 => exact HA5.out.none_ ((Fr.refl None_ w5).alloc _)); rintro e w6 ⟨v6, rfl, hr6, hA6, hf6⟩)
  have HR6 := As.mk hr6
  have HA6 := As.mk hA6
  have hf6' : Fr (AF K σ) _ w6 := hf6.mono (fun b _ hb => (AF.eq HSM.out b).1 hb)
  have HF6 := As.mk ((HF5.out.alloc _).after hf6' (fun _ _ h => h))
  have hpg := hf6'.heap (at_old _ HPGd.out) (HNF.out _ (Nat.le_succ _))
  have HPG5 := As.mk hpg
  clear hr6 hf6 hf6' c0 c1 c2 l0 hA6
  obtain ⟨A3, n3, c3, e3, hm3, hd3, _⟩ := HR6.out.rd
  subst e3
  have x0 := cell_is (i := 0) hpg rfl
  have x1 := cell_is (i := 1) hpg rfl
  have x2 := cell_is (i := 2) hpg rfl
  have x3 := cell_is (i := 3) hpg rfl
  have x4 := cell_is (i := 4) hpg rfl
  have x5 := cell_is (i := 5) hpg rfl
  have x6 := cell_is (i := 6) hpg rfl
  have x7 := cell_is (i := 7) hpg rfl
  have y0 := free_of (i := 0) hpg
  have y1 := free_of (i := 1) hpg
  have y2 := free_of (i := 2) hpg
  have y3 := free_of (i := 3) hpg
  have y4 := free_of (i := 4) hpg
  have y5 := free_of (i := 5) hpg
  have y6 := free_of (i := 6) hpg
  have y7 := free_of (i := 7) hpg
  clear hpg
  go_wp2_with fail
  have hz := HF5.out.size
  have hF6 := HF6.out
  have hr6 := HR6.out
  refine bodyPost_ret (v := .tuple #[.agg #[.int .u8 h.kind, .int .u32 h.epoch, .int .u32 h.batch, .int .u16 h.index, .int .u16 h.count, .int .u32 h.block, .int .u32 h.more, .slice A3 n3 c3], .int .i64 0]) (by simp [results, Tryz.results44, go_sem, x0, x1, x2, x3, x4, x5, x6, x7]) rfl ?_
  rw [← HQ.out]
  refine ⟨_, rfl, ?_, ?_, ?_⟩
  · refine Row.fr (S := fun b => b = w.heap.size + 1) (hr6.lower (by simp; omega)) ?_ (fun b hbo e => Row.ne hr6 HPG5.out (by decide) (e ▸ hbo))
    exact fr_set8 (b := w.heap.size + 1) (Fr.refl (fun b => b = w.heap.size + 1) w6) (fun _ => rfl) _ _ _ _ _ _ _ _
  · exact beside HA6.out HPG5.out (fr_set8 (b := w.heap.size + 1) (Fr.refl (fun b => b = w.heap.size + 1) w6) (fun _ => rfl) _ _ _ _ _ _ _ _)
  · exact fr_set8 hF6 (fun hl => absurd hl (by omega)) _ _ _ _ _ _ _ _
end Go.Proofs.YteofgpaceeibpaaGreat.AMade
namespace Go.Proofs.YteofgpaceeibpaaGreat.ARowW
open Go.RowKit Gab Geom Go.Proofs.YteofgpaceeibpaaGreat.Sum Ref Par Fields Seal Nand NandA NandH ArrA ArrD AOrd AWrA StgA ARead AGet HeldA LawA AllA
open Wr (InR)
open Heap (cell_is)
open Str (pcells RowV.ne)
open Go.Proofs.YteofgpaceeibpaaGreat.Open (openOf)
open Blank (allFF Blank_calls)
set_option linter.unusedVariables false
set_option linter.unusedSimpArgs false

/-- All members are read; one may be dead; all others are good, or nothing stands there. -/
structure Scan (σ : Ar) (seg row dm : Int) (good : Bool) (c : Nat → Ar) : Prop where
  zero : c 0 = σ
  there : ∀ m : Nat, (m : Int) < σ.s.g.c → (c m).There
  g : ∀ m : Nat, (m : Int) < σ.s.g.c → (c m).s.g = σ.s.g
  safe : ∀ m : Nat, (m : Int) < σ.s.g.c → ∃ n, (c m).s.Safe (n + 1)
  rng : -1 ≤ dm ∧ dm < σ.s.g.c
  one : ∀ m : Nat, (m : Int) < σ.s.g.c → (m : Int) ≠ dm → ∃ x, One (c m) m seg.toNat row.toNat (c (m + 1), 0) x ∧ (good = true → (openOf x.1 x.2).2 = true ∧ ¬ (allFF x.1 ∧ allFF x.2)) ∧ (good = false → allFF x.1 ∧ allFF x.2)
  dead : ∀ m : Nat, (m : Int) < σ.s.g.c → (m : Int) = dm → ∃ x, One (c m) m seg.toNat row.toNat (c (m + 1), 71) x
/-- Its pages are read, one behind the other. -/
structure Whole (K : ALay) (σ : Ar) (seg row : Int) (l : List (Head × List Int)) (ex : Nat → Ar) : Prop where
  len : (l.length : Int) = σ.s.g.c - 1
  g : ∀ s, s < l.length → (ex s).s.g = σ.s.g
  read : ∀ s, s < l.length → RdOk K (ex s) (ex (s + 1)) seg row s (l.getD s noPage)
  ok : ∀ s, s < l.length → (l.getD s noPage).1.Ok
def cnt (dm i : Int) : Int := i - (if 0 ≤ dm ∧ dm < i then 1 else 0)
def ScanPost (σ τ : Ar) (K : ALay) (good : Bool) (l : List (Head × List Int)) (w : World) (e : Ending) (w' : World) : Prop :=
  (∃ v, e = .returned (.tuple #[v, .int .i64 (if good = true then 2 else 0), .int .i64 0]) ∧ (good = true → PL w' w.heap.size v l)) ∧ ArAt w' τ K ∧ Fr (AF K σ) w w'
def endOf (good : Bool) (c ex : Nat → Ar) (n : Int) : Ar := if good = true then ex (n - 1).toNat else c n.toNat

set_option maxHeartbeats 16000000 in
set_option maxRecDepth 100000 in
theorem Row_scan (σ : Ar) (K : ALay) (seg row dm : Int) (good : Bool) (c ex : Nat → Ar) (l : List (Head × List Int)) (w : World) (hR : ArAt w σ K) (ha : σ.s.g.At seg row) (hB : Scan σ seg row dm good c) (hW : good = true → Whole K σ seg row l ex ∧ ex 0 = c σ.s.g.c.toNat) :
    Calls Tryz.prog 12 #[dev K.x, .int .i64 seg, .int .i64 row] w (ScanPost σ (endOf good c ex σ.s.g.c) K good l w) := by
  have hok : σ.s.g.Ok := hR.nand.ok
  have HR := As.mk hR
  have hb := hok.b
  have hc := hok.c
  have hgc0 : 3 ≤ σ.s.g.c := hc.1
  have hgc1 : σ.s.g.c ≤ 16 := hc.2
  have HAT := As.mk ha
  have HG := As.mk (fun w' (hf : Fr None_ w w') => ArrA.Geo_calls σ K w' (hR.none_ hf))
  have HNU := As.mk (fun w => Number_calls σ.s.g seg row 0 w hok ha (Int.le_refl _) (by omega))
  have HWI := As.mk (fun w => Width_calls σ.s.g w hok)
  have HLTF := As.mk (show ∀ b, AF K σ b → b < w.heap.size from fun b hb => by
    rcases hb with h | h | h
    · exact hR.nand.lt h
    · rw [h]; exact (Array.getElem?_eq_some_iff.1 hR.main).1
    · obtain ⟨cs, hv, _⟩ := hR.vols
      rw [h]; exact (Array.getElem?_eq_some_iff.1 hv).1)
  have hnum : 1 ≤ σ.s.g.num seg row 0 := by
    have h1 : 0 ≤ (seg * σ.s.g.p + row) * (σ.s.g.c - 1) := Int.mul_nonneg (by have := mul_range hok ha; have := ha.row; omega) (by omega)
    unfold Geo.num
    omega
  have hnb : (σ.s.g.num seg row 0 == 0) = false := by rw [beq_eq_false_iff_ne]; omega
  generalize σ.s.g.num seg row 0 = num at *
  have HROW : As (∀ (m k : Int) (x : List Int × List Int) (wr : World), ArAt wr (c m.toNat) K → 0 ≤ m → m < σ.s.g.c → One (c m.toNat) m.toNat seg.toNat row.toNat (c (m.toNat + 1), k) x →
      Calls Tryz.prog 22 #[.pointer (some ⟨K.x, 0, none⟩), .int .i64 m, .int .i64 seg, .int .i64 row] wr (OnePost σ K (c (m.toNat + 1), k) x wr)) := ⟨fun m k x wr hA h0 h1 ho => by
    obtain ⟨n, hs⟩ := hB.safe m.toNat (by omega)
    exact Read_one σ (c m.toNat) K m seg row _ x wr hA (hB.there m.toNat (by omega)) (hB.g m.toNat (by omega)) h0 h1 HAT.out ho n hs⟩
  have HB := As.mk hB
  have HWH := As.mk hW
  have hdm0 : -1 ≤ dm := hB.rng.1
  have hdm1 : dm < σ.s.g.c := hB.rng.2
  obtain ⟨Q, hQ⟩ : ∃ Q, ScanPost σ (endOf good c ex σ.s.g.c) K good l w = Q := ⟨_, rfl⟩
  have HQ := As.mk hQ
  rw [hQ]
  unfold dev Geo.val at *
  clear hR hok ha hB hnum hW hQ
  go_enter Tryz.func12, Tryz.ntmps12
  go_wp2_with fail
  ((with_reducible refine (HG.out _ (Fr.refl _ _)).mono ?_); rintro e w1 ⟨rfl, hf1⟩)
  have HF1 := As.mk hf1
  have HGEO := As.mk (heap_alloc_new w1 (.cells #[.int .i64 σ.s.g.c, .int .i64 σ.s.g.b, .int .i64 σ.s.g.p, .int .i64 σ.s.g.s] 24))
  have HF2 := As.mk (hf1.alloc (.cells #[.int .i64 σ.s.g.c, .int .i64 σ.s.g.b, .int .i64 σ.s.g.p, .int .i64 σ.s.g.s] 24))
  clear hf1
  go_upto_region 4 with fail
  generalize w1.alloc (.cells #[.int .i64 σ.s.g.c, .int .i64 σ.s.g.b, .int .i64 σ.s.g.p, .int .i64 σ.s.g.s] 24) = w2 at *
  have HGG := As.mk (show w.heap.size ≤ w1.heap.size from HF1.out.size)
  generalize w1.heap.size = gg at *
  have z0 := cell_is (i := 0) HGEO.out rfl
  have z1 := cell_is (i := 1) HGEO.out rfl
  have z2 := cell_is (i := 2) HGEO.out rfl
  have z3 := cell_is (i := 3) HGEO.out rfl
  go_wp2_with fail
  ((with_reducible refine (HNU.out _).mono ?_); rintro e w3 ⟨rfl, hf3⟩)
  have HGE3 := As.mk (hf3.heap HGEO.out (fun h => h))
  have HF3 := As.mk (HF2.out.after hf3 (fun _ _ h => h))
  have HR3 := As.mk (HR.out.none_ HF3.out)
  clear hf3 z0 z1 z2 z3
  have z0 := cell_is (i := 0) HGE3.out rfl
  have HGN := As.mk (show ¬ AF K σ gg from fun ha => absurd (HLTF.out gg ha) (by have := HGG.out; omega))
  go_wp2_with fail
  clear z0
  go_loopw [10, 11, 12, 13, 14, 15, 16, 17, 18, 36, 57, 64, 68, 72] (fun v10 v11 v12 v13 v14 v15 v16 v17 v18 v36 v57 v64 v68 v72 w' => ∃ (m : Int), v36 = .int .i64 m ∧ v10 = .int .i64 (if good = true then 0 else cnt dm m) ∧ v11 = .int .i64 (if good = true then cnt dm m else 0) ∧ v12 = .int .i64 (if 0 ≤ dm ∧ dm < m then dm else -1) ∧ 0 ≤ m ∧ m ≤ σ.s.g.c ∧ As (ArAt w' (c m.toNat) K) ∧ As (Fr (AF K σ) w3 w')) (fun _ _ _ _ _ _ _ _ _ v36 _ _ _ _ _ => (σ.s.g.c - intOf v36).toNat)
  case atStart => exact ⟨0, rfl, by rw [show cnt dm 0 = 0 by unfold cnt; rw [if_neg (by omega)]; rfl]; cases good <;> rfl, by rw [show cnt dm 0 = 0 by unfold cnt; rw [if_neg (by omega)]; rfl]; cases good <;> rfl, by rw [if_neg (by omega)], by omega, by omega, ⟨by show ArAt w3 (c 0) K; rw [HB.out.zero]; exact HR3.out⟩, ⟨Fr.refl _ _⟩⟩
  case round =>
    obtain ⟨m, rfl, rfl, rfl, rfl, hm0, hm1, HX, HST⟩ := hrel
    by_cases hlt : m < σ.s.g.c
    · have hcn : cnt dm (m + 1) = if m = dm then cnt dm m else cnt dm m + 1 := by
        unfold cnt
        by_cases e : m = dm
        · rw [if_pos e, if_pos (by omega), if_neg (by omega)]
          omega
        · rw [if_neg e]
          by_cases e2 : 0 ≤ dm ∧ dm < m
          · rw [if_pos (by omega), if_pos e2]
            omega
          · rw [if_neg (by omega), if_neg e2]
            omega
      have hcr : 0 ≤ cnt dm m ∧ cnt dm m ≤ 16 := by unfold cnt; split <;> omega
      have HCN := As.mk hcn
      by_cases hmd : m = dm
      · obtain ⟨x, ho⟩ := HB.out.dead m.toNat (by omega) (by omega)
        have HRD := As.mk (HROW.out m 71 x wr HX.out hm0 hlt ho)
        rw [if_neg (show ¬ (0 ≤ dm ∧ dm < m) by omega)]
        obtain ⟨Bv, hBv⟩ : ∃ b, (if good = true then (0 : Int) else cnt dm m) = b := ⟨_, rfl⟩
        obtain ⟨Rv, hRv⟩ : ∃ b, (if good = true then cnt dm m else (0 : Int)) = b := ⟨_, rfl⟩
        rw [hBv, hRv]
        have HBV := As.mk hBv
        have HRV := As.mk hRv
        have HMD := As.mk hmd
        clear hBv hRv ho hcn hcr hmd
        go_wp2_with fail
        ((with_reducible refine HRD.out.mono ?_); rintro e w4 ⟨A3, n3, c3, A4, n4, c4, rfl, ha4, hf4, _, hy4⟩)
        obtain ⟨y1, y2⟩ := hy4 (show (71 : Int) ≠ 0 by decide)
        injection y1 with q1 q2 q3
        injection y2 with q4 q5 q6
        subst q1 q2 q3 q4 q5 q6
        have HF4 := As.mk (HST.out.after hf4 (fun _ _ h => h))
        have HA4 := As.mk ha4
        clear ha4 hf4 hy4
        go_wp2_with fail
        exact ⟨⟨m + 1, rfl, by rw [← HBV.out, HCN.out, if_pos HMD.out], by rw [← HRV.out, HCN.out, if_pos HMD.out], by rw [if_pos (by have := HMD.out; omega), HMD.out], by omega, by omega, ⟨by rw [show (m + 1).toNat = m.toNat + 1 by omega]; exact HA4.out⟩, HF4⟩, by simp [intOf]; omega⟩
      · obtain ⟨x, ho, hx1, hx2⟩ := HB.out.one m.toNat (by omega) (by omega)
        have HRD := As.mk (HROW.out m 0 x wr HX.out hm0 hlt ho)
        have hin := ho.inr rfl
        obtain ⟨Dv, hDv⟩ : ∃ b, (if 0 ≤ dm ∧ dm < m then dm else (-1 : Int)) = b := ⟨_, rfl⟩
        have hD2 : (if 0 ≤ dm ∧ dm < m + 1 then dm else (-1 : Int)) = Dv := by
          rw [← hDv]
          by_cases e : 0 ≤ dm ∧ dm < m
          · rw [if_pos e, if_pos (by omega)]
          · rw [if_neg e, if_neg (by omega)]
        have HD2 := As.mk hD2
        have HIN := As.mk hin
        rw [hDv]
        rw [if_neg hmd] at hcn
        have HCN2 := As.mk hcn
        by_cases hg : good = true
        · rw [if_pos hg, if_pos hg]
          have hop := (hx1 hg).1
          have HNB := As.mk (hx1 hg).2
          obtain ⟨hd, hhd⟩ : ∃ hd, openOf x.1 x.2 = (hd, true) := ⟨(openOf x.1 x.2).1, by rw [← hop]⟩
          have HOP := As.mk (fun (D1 O1 : Option Addr) (nd1 cd1 no1 co1 : Nat) (w' : World) (h1 : Rd .u8 w' O1 no1 x.2) (h2 : Rd .u8 w' D1 nd1 x.1) (h3 : no1 ≤ co1) (h4 : nd1 ≤ cd1) => Open.Open_calls O1 D1 no1 co1 nd1 cd1 x.2 x.1 w' h1 h2 HIN.out.2 HIN.out.1 h3 h4)
          rw [hhd] at HOP
          unfold Head.vals at HOP
          dsimp only at HOP
          have HGD := As.mk hg
          generalize cnt dm m = cv at *
          clear hx1 hx2 ho hin hDv hD2 hcn hmd hop hhd hg
          go_wp2_with fail
          ((with_reducible refine HRD.out.mono ?_); rintro e w4 ⟨A3, n3, c3, A4, n4, c4, rfl, ha4, hf4, hz4, _⟩)
          have HR1 := As.mk (hz4 rfl).1
          have HR2 := As.mk (hz4 rfl).2
          have HF4 := As.mk (HST.out.after hf4 (fun _ _ h => h))
          have HA4 := As.mk ha4
          clear hz4 ha4 hf4
          obtain ⟨_, _, _, e3, hm3, hd3, _⟩ := HR1.out.rd
          obtain ⟨_, _, _, e4, hm4, hd4, _⟩ := HR2.out.rd
          injection e3 with q1 q2 q3
          injection e4 with q4 q5 q6
          subst q1 q2 q3 q4 q5 q6
          have HBL := As.mk (Blank_calls A3 A4 n3 c3 n4 c4 x.1 x.2 w4 hd3.out hd4.out false ⟨fun h => (by cases h), fun h => absurd h HNB.out⟩)
          go_wp2_with fail
          ((with_reducible refine HBL.out.mono ?_); rintro e w5 ⟨rfl, hf5⟩)
          have HF5 := As.mk hf5
          clear hf5
          go_wp2_with fail
          ((with_reducible refine (HOP.out A3 A4 n3 c3 n4 c4 _ (hd4.out.none_ HF5.out) (hd3.out.none_ HF5.out) hm4.out hm3.out).mono ?_); rintro e w6 ⟨rfl, hf6⟩)
          have HF6 := As.mk ((HF5.out.after hf6 (fun _ _ h => h)).alloc (.cells #[.int .u8 hd.kind, .int .u32 hd.epoch, .int .u32 hd.batch, .int .u16 hd.index, .int .u16 hd.count, .int .u32 hd.block, .int .u32 hd.more] 112))
          clear hf6
          go_wp2_with fail
          exact ⟨⟨m + 1, rfl, by rw [if_pos HGD.out], by rw [if_pos HGD.out, HCN2.out], by rw [HD2.out], by omega, by omega, ⟨by rw [show (m + 1).toNat = m.toNat + 1 by omega]; exact HA4.out.none_ HF6.out⟩, ⟨HF4.out.after HF6.out (fun _ _ h => h.elim)⟩⟩, by simp [intOf]; omega⟩
        · rw [if_neg hg, if_neg hg]
          have HXF := As.mk (hx2 (by simpa using hg))
          have HGD := As.mk hg
          generalize cnt dm m = cv at *
          clear hx1 hx2 ho hin hDv hD2 hcn hmd hg
          go_wp2_with fail
          ((with_reducible refine HRD.out.mono ?_); rintro e w4 ⟨A3, n3, c3, A4, n4, c4, rfl, ha4, hf4, hz4, _⟩)
          have HR1 := As.mk (hz4 rfl).1
          have HR2 := As.mk (hz4 rfl).2
          have HF4 := As.mk (HST.out.after hf4 (fun _ _ h => h))
          have HA4 := As.mk ha4
          clear hz4 ha4 hf4
          obtain ⟨_, _, _, e3, hm3, hd3, _⟩ := HR1.out.rd
          obtain ⟨_, _, _, e4, hm4, hd4, _⟩ := HR2.out.rd
          injection e3 with q1 q2 q3
          injection e4 with q4 q5 q6
          subst q1 q2 q3 q4 q5 q6
          have HBL := As.mk (Blank_calls A3 A4 n3 c3 n4 c4 x.1 x.2 w4 hd3.out hd4.out true ⟨fun _ => HXF.out, fun _ => rfl⟩)
          go_wp2_with fail
          ((with_reducible refine HBL.out.mono ?_); rintro e w5 ⟨rfl, hf5⟩)
          have HF5 := As.mk hf5
          clear hf5
          go_wp2_with fail
          exact ⟨⟨m + 1, rfl, by rw [if_neg HGD.out, HCN2.out], by rw [if_neg HGD.out], by rw [HD2.out], by omega, by omega, ⟨by rw [show (m + 1).toNat = m.toNat + 1 by omega]; exact HA4.out.none_ HF5.out⟩, ⟨HF4.out.after HF5.out (fun _ _ h => h.elim)⟩⟩, by simp [intOf]; omega⟩
    · have hme : m = σ.s.g.c := by omega
      subst hme
      have z0 := cell_is (i := 0) (HST.out.heap HGE3.out HGN.out) rfl
      have z1 := cell_is (i := 1) (HST.out.heap HGE3.out HGN.out) rfl
      have z2 := cell_is (i := 2) (HST.out.heap HGE3.out HGN.out) rfl
      have z3 := cell_is (i := 3) (HST.out.heap HGE3.out HGN.out) rfl
      have hcr : 2 ≤ cnt dm σ.s.g.c ∧ cnt dm σ.s.g.c ≤ 16 := by unfold cnt; split <;> omega
      have HCD := As.mk (show (0 ≤ dm → cnt dm σ.s.g.c = σ.s.g.c - 1) ∧ (¬ 0 ≤ dm → cnt dm σ.s.g.c = σ.s.g.c) from ⟨fun h => by unfold cnt; rw [if_pos ⟨h, hdm1⟩], fun h => by unfold cnt; rw [if_neg (fun h2 => h h2.1)]; omega⟩)
      obtain ⟨Bv, hBv⟩ : ∃ b, (if good = true then (0 : Int) else cnt dm σ.s.g.c) = b := ⟨_, rfl⟩
      obtain ⟨Rv, hRv⟩ : ∃ b, (if good = true then cnt dm σ.s.g.c else (0 : Int)) = b := ⟨_, rfl⟩
      rw [hBv, hRv]
      have HBV := As.mk hBv
      have HRV := As.mk hRv
      obtain ⟨Dv, hDv⟩ : ∃ b, (if 0 ≤ dm ∧ dm < σ.s.g.c then dm else (-1 : Int)) = b := ⟨_, rfl⟩
      rw [hDv]
      have HDV := As.mk hDv
      clear hBv hRv hDv
      go_upto_if 82 with fail
      go_cut [19] (fun v19 wc => v19 = .int .i64 (cnt dm σ.s.g.c) ∧ As (wc = wr))
      case first =>
        by_cases hd : 0 ≤ dm
        · have hdv : 0 ≤ Dv := by rw [← HDV.out, if_pos ⟨hd, hdm1⟩]; exact hd
          have HC1 := As.mk (HCD.out.1 hd)
          go_wp2_with fail
          go_meet
          case rel => exact ⟨by rw [HC1.out], ⟨rfl⟩⟩
        · have hdv : ¬ 0 ≤ Dv := by rw [← HDV.out, if_neg (fun h => hd h.1)]; decide
          have HC1 := As.mk (HCD.out.2 hd)
          go_wp2_with fail
          go_meet
          case rel => exact ⟨by rw [HC1.out], ⟨rfl⟩⟩
      case rest =>
        obtain ⟨rfl, hwc⟩ := hcut
        rename World => wc
        obtain rfl := hwc.out
        generalize cnt dm σ.s.g.c = cv at *
        by_cases hg : good = true
        · have hB0 : Bv = 0 := by rw [← HBV.out, if_pos hg]
          have hRc : Rv = cv := by rw [← HRV.out, if_pos hg]
          subst hB0 hRc
          have HGD := As.mk hg
          obtain ⟨hwh, hex⟩ := HWH.out hg
          have HWL := As.mk hwh
          have HEX := As.mk (show ArAt wc (ex (0 : Int).toNat) K from by show ArAt wc (ex 0) K; rw [hex]; exact HX.out)
          have hll := hwh.len
          clear hg hwh hex HWH
          go_wp2_with fail
          ((with_reducible refine (HWI.out _).mono ?_); rintro e w4 ⟨rfl, hf4⟩)
          have HF4 := As.mk (show Fr (AF K σ) w w4 from ((HF3.out.mono (fun _ _ h => h.elim)).after HST.out (fun _ _ h => h)).after hf4 (fun _ _ h => h.elim))
          have HEX4 := As.mk (HEX.out.none_ hf4)
          clear hf4 z0 z1 z2 z3
          have HAFG := As.mk (fun (s : Nat) (hs : s < l.length) (b : Nat) => (AF.eq (K := K) (σ := σ) (σ' := ex s) (HWL.out.g s hs) b).1)
          have hll2 : l.length = (σ.s.g.c - 1).toNat := by omega
          have HLL := As.mk hll2
          clear hll2
          go_wp2_with fail
          go_loopw [20, 21, 22, 23, 95] (fun v20 v21 v22 v23 v95 w' => ∃ (s : Int) (vs : List Value), v95 = .int .i64 s ∧ 0 ≤ s ∧ s ≤ σ.s.g.c - 1 ∧ As (RowV SP 8 w' w4.heap.size v20 s.toNat vs ∧ SPs None_ w' vs (l.take s.toNat)) ∧ As (ArAt w' (ex s.toNat) K) ∧ As (Fr (AF K σ) w4 w')) (fun _ _ _ _ v95 _ => (σ.s.g.c - 1 - intOf v95).toNat)
          case atStart => exact ⟨0, [], rfl, by omega, by omega, ⟨RowV.nil _ _ _ _, SPs.nil _ _⟩, HEX4, ⟨Fr.refl _ _⟩⟩
          case round =>
            obtain ⟨s, vs, rfl, hs0, hs1, HX1, HE1, HFr⟩ := hrel
            rename World => w5
            obtain ⟨A1, cap1, e1, _, _, _⟩ := HX1.out.1.rd
            subst e1
            by_cases hsl : s < σ.s.g.c - 1
            · have hsn : s.toNat < l.length := by omega
              have hrd := HWL.out.read s.toNat hsn w5 HE1.out
              rw [show ((s.toNat : Nat) : Int) = s by omega] at hrd
              unfold PgOk dev at hrd
              have HOK1 := As.mk (HWL.out.ok s.toNat hsn)
              have HTK := As.mk (show l.take (s + 1).toNat = l.take s.toNat ++ [l.getD s.toNat noPage] from by rw [show (s + 1).toNat = s.toNat + 1 by omega]; exact Go.Proofs.YteofgpaceeibpaaGreat.Str.take_snoc noPage hsn)
              obtain ⟨q, hq⟩ : ∃ q, l.getD s.toNat noPage = q := ⟨_, rfl⟩
              rw [hq] at hrd HOK1 HTK
              unfold pcells at hrd
              have HRD := As.mk hrd
              have HAFS := As.mk (HAFG.out s.toNat hsn)
              clear hrd hq hsn
              go_wp2_with fail
              ((with_reducible refine HRD.out.mono ?_); rintro e w6 ⟨v6, rfl, hr6, hA6, hf6⟩)
              have HR6 := As.mk hr6
              have HA6 := As.mk hA6
              have hf6' : Fr (AF K σ) w5 w6 := hf6.mono (fun b _ hb => HAFS.out b hb)
              have HF6 := As.mk (HFr.out.after hf6' (fun _ _ h => h))
              have HX6 := As.mk (HX1.out.1.fr hf6' (fun b hb ha => absurd (HLTF.out b ha) (by have h1 := (RowV.blk HX1.out.1 b hb).1; have h2 := HF4.out.size; omega)))
              have HS6 := As.mk (spsTy HX1.out.2 hf6' (fun b cs hb => af_ty (by
                have h9 : ArAt w5 (ex s.toNat) K := HE1.out
                exact h9) hb (.inr (.inr (.inr rfl))) |> fun h9 ha => h9 ((AF.eq (K := K) (σ := σ) (σ' := ex s.toNat) (HWL.out.g s.toNat (by have := HLL.out; omega)) b).2 ha)))
              obtain ⟨A5, n5, c5, e5, _, _, _⟩ := hr6.rd
              subst e5
              have hz6 : w4.heap.size ≤ w6.heap.size := HF6.out.size
              have HZ6 := As.mk hz6
              clear hr6 hA6 hf6 hf6' hz6
              go_upto_region 39 with fail
              have hnew := heap_alloc_new w6 (.cells #[.int .u8 q.1.kind, .int .u32 q.1.epoch, .int .u32 q.1.batch, .int .u16 q.1.index, .int .u16 q.1.count, .int .u32 q.1.block, .int .u32 q.1.more, .slice A5 n5 c5] 117)
              have HF7 := As.mk ((Fr.refl None_ w6).alloc (.cells #[.int .u8 q.1.kind, .int .u32 q.1.epoch, .int .u32 q.1.batch, .int .u16 q.1.index, .int .u16 q.1.count, .int .u32 q.1.block, .int .u32 q.1.more, .slice A5 n5 c5] 117))
              generalize w6.alloc (.cells #[.int .u8 q.1.kind, .int .u32 q.1.epoch, .int .u32 q.1.batch, .int .u16 q.1.index, .int .u16 q.1.count, .int .u32 q.1.block, .int .u32 q.1.more, .slice A5 n5 c5] 117) = w7 at *
              generalize w6.heap.size = gt at *
              have k0 := cell_is (i := 0) hnew rfl
              have k1 := cell_is (i := 1) hnew rfl
              have k2 := cell_is (i := 2) hnew rfl
              have k3 := cell_is (i := 3) hnew rfl
              have k4 := cell_is (i := 4) hnew rfl
              have k5 := cell_is (i := 5) hnew rfl
              have k6 := cell_is (i := 6) hnew rfl
              have k7 := cell_is (i := 7) hnew rfl
              have HZ7 := As.mk (show w4.heap.size ≤ w7.heap.size from Nat.le_trans HF6.out.size HF7.out.size)
              have HX7 := As.mk (HX6.out.none_ HF7.out)
              clear hnew
              go_wp2_with (at_builtin; (with_reducible refine appendV w4.heap.size rfl _ _ 34 117 (.agg #[.int .u8 0, .int .u32 0, .int .u32 0, .int .u16 0, .int .u16 0, .int .u32 0, .int .u32 0, .slice none 0 0]) 8 48 rfl Tryz.underlying34 infoSP rfl (by decide) (by decide) (.slice A1 s.toNat cap1) s.toNat vs #[.int .u8 q.1.kind, .int .u32 q.1.epoch, .int .u32 q.1.batch, .int .u16 q.1.index, .int .u16 q.1.count, .int .u32 q.1.block, .int .u32 q.1.more, .slice A5 n5 c5] _ rfl rfl rfl rfl ?o0 HX7.out ?o2 ?o3 ?_); (case o0 => intro u hu; simp at hu; rcases hu with rfl | rfl | rfl | rfl | rfl | rfl | rfl | rfl <;> rfl); (case o2 => exact HZ7.out); (case o3 => omega); intro v9 w9 hrow9 hfr9 hat9; have HR9 := As.mk hrow9; have HF9 := As.mk hfr9; clear hrow9 hfr9 hat9; obtain ⟨A9, c9, e9, _, _, _⟩ := HR9.out.rd; subst e9)
              have hX7 := HX7.out
              have hsd : SlO None_ w7 (.slice A5 n5 c5) q.2 := (SlO.of_row (F := None_) (N := 0) (fun b h => h.elim) HR6.out (Nat.zero_le _)).none_ HF7.out
              have hsn := (HS6.out.none_ HF7.out).snoc hsd HOK1.out
              have hF9 : Fr (AF K σ) w4 w9 := (HF6.out.after HF7.out (fun _ _ h => h.elim)).after HF9.out (fun b hb hs => absurd hb (by have := (RowV.blk hX7 b hs).1; omega))
              refine ⟨⟨s + 1, vs ++ (pcells q.1 (.slice A5 n5 c5)).toList, rfl, by omega, by omega, ⟨?_, ?_⟩, ⟨?_⟩, ⟨hF9⟩⟩, by simp [intOf]; omega⟩
              · rw [show (s + 1).toNat = s.toNat + 1 by omega]
                exact HR9.out
              · rw [HTK.out]
                exact spsTy hsn HF9.out (fun b cs hb => RowV.ne hX7 hb (by decide))
              · rw [show (s + 1).toNat = s.toNat + 1 by omega]
                refine keeps (HA6.out.none_ HF7.out) HF9.out (fun b hb _ => ?_)
                obtain ⟨_, _, cs, hc⟩ := RowV.blk hX7 b hb
                exact ⟨_, _, _, hc, .inr (.inr rfl)⟩
            · have hse : s = σ.s.g.c - 1 := by omega
              have HPF := As.mk (show ∀ e w', e = Ending.returned (.tuple #[.slice A1 s.toNat cap1, .int .i64 2, .int .i64 0]) → w' = w5 → Q e w' from fun e w' h1 h2 => by
                subst h2
                rw [← HQ.out]
                have htl : l.take s.toNat = l := List.take_of_length_le (by have := HLL.out; omega)
                refine ⟨⟨_, by rw [h1, if_pos HGD.out], fun _ => ?_⟩, by unfold endOf; rw [if_pos HGD.out, ← hse]; exact HE1.out, HF4.out.after HFr.out (fun _ _ h => h)⟩
                refine PL.lower ⟨vs, ?_, ?_⟩ HF4.out.size
                · have h9 := HX1.out.1
                  rw [show l.length = s.toNat by have := HLL.out; omega]
                  exact h9
                · have h9 := HX1.out.2
                  rw [htl] at h9
                  exact h9)
              clear hse
              go_wp2_with fail
              exact HPF.out _ _ rfl rfl
        · have hBc : Bv = cv := by rw [← HBV.out, if_neg hg]
          have hR0 : Rv = 0 := by rw [← HRV.out, if_neg hg]
          subst hBc hR0
          have HPF := As.mk (show ∀ e w', e = Ending.returned (.tuple #[.slice none 0 0, .int .i64 0, .int .i64 0]) → w' = wc → Q e w' from fun e w' h1 h2 => by
            subst h2
            rw [← HQ.out]
            refine ⟨⟨_, by rw [h1, if_neg hg], fun h => absurd h hg⟩, by unfold endOf; rw [if_neg hg]; exact HX.out, (HF3.out.mono (fun _ _ h => h.elim)).after HST.out (fun _ _ h => h)⟩)
          clear hg
          go_wp2_with fail
          exact HPF.out _ _ rfl rfl
end Go.Proofs.YteofgpaceeibpaaGreat.ARowW

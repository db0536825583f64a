/- array.staged: a page that the other one of a dead member's pair has. | array.page: a page of the dead member, out of the others. -/
import Derived.Test.YteofgpaceeibpaaGreatTkARowW
import Derived.Deep.RegionHeld3
import Derived.Deep.RegionLaw
namespace Go.Proofs.YteofgpaceeibpaaGreat.TckA
open Go.RowKit Gab Geom Go.Proofs.YteofgpaceeibpaaGreat.Sum Ref Par Fields Seal Nand NandA NandH ArrA ArrD AOrd AWrA StgA ARead AGet AAgn
open Wr (InR)
open Heap (cell_is)
open Go.Proofs.YteofgpaceeibpaaGreat.Open (openOf)
set_option linter.unusedVariables false
set_option linter.unusedSimpArgs false

/-- The other one of a pair. -/
def mate (m : Int) : Int := m + 1 - 2 * (m % 2)
theorem mate_is {m : Int} (h0 : 0 ≤ m) (h1 : m < 16) : bits .xor .i64 m 1 = mate m := by
  have h : m = 0 ∨ m = 1 ∨ m = 2 ∨ m = 3 ∨ m = 4 ∨ m = 5 ∨ m = 6 ∨ m = 7 ∨ m = 8 ∨ m = 9 ∨ m = 10 ∨ m = 11 ∨ m = 12 ∨ m = 13 ∨ m = 14 ∨ m = 15 := by omega
  rcases h with rfl | rfl | rfl | rfl | rfl | rfl | rfl | rfl | rfl | rfl | rfl | rfl | rfl | rfl | rfl | rfl <;> decide
/-- A page with what stands beside it, of one's own. -/
def PgR (w0 w w' : World) (e : Ending) (x : List Int × List Int) (ok : Bool) : Prop := ∃ A n c B k j, e = .returned (.tuple #[.agg #[.slice A n c, .slice B k j], .bool ok, .int .i64 0]) ∧ (ok = true → Row 5 .u8 w' w0.heap.size (.slice A n c) x.1 ∧ Row 5 .u8 w' w0.heap.size (.slice B k j) x.2)

set_option maxHeartbeats 8000000 in
set_option maxRecDepth 100000 in
theorem staged_none (σ : Ar) (K : ALay) (m b row : Int) (w : World) (hR : ArAt w σ K) (hm : 2 * σ.s.g.pairs ≤ m) :
    Calls Tryz.prog 121 #[.pointer (some ⟨K.x, 0, none⟩), .int .i64 m, .int .i64 b, .int .i64 row] w fun e w' => e = .returned (.tuple #[.agg #[.slice none 0 0, .slice none 0 0], .bool false, .int .i64 0]) ∧ Fr None_ w w' := by
  have hok : σ.s.g.Ok := hR.nand.ok
  have HP := As.mk (fun w => Pairs_calls σ.s.g w hok)
  obtain ⟨_, g1, g2, g3, g4, _⟩ := hR.cs
  have hpr := pairs_range hok
  have d0 : decide (2 * σ.s.g.pairs ≤ m) = true := decide_eq_true hm
  have hlx : K.x < w.heap.size := (Array.getElem?_eq_some_iff.1 hR.main).1
  have HPG := As.mk (heap_alloc_new w (.cells #[.slice none 0 0, .slice none 0 0] 157))
  unfold Geo.val at HP
  clear hR hok
  go_enter Tryz.func121, Tryz.ntmps121
  go_wp2_with fail
  ((with_reducible refine (HP.out _).mono ?_); rintro e w1 ⟨rfl, hf1⟩)
  have HF1 := As.mk (((Fr.refl None_ w).alloc _).after hf1 (fun _ _ h => h))
  have hpg := hf1.heap HPG.out (fun h => h)
  have x0 := cell_is (i := 0) hpg rfl
  have x1 := cell_is (i := 1) hpg rfl
  have y0 := free_of (i := 0) hpg
  have y1 := free_of (i := 1) hpg
  clear hf1 hpg
  go_wp2_with fail
  refine bodyPost_ret (v := .tuple #[.agg #[.slice none 0 0, .slice none 0 0], .bool false, .int .i64 0]) (by simp [results, Tryz.results121, go_sem, x0, x1]) rfl ⟨rfl, ?_⟩
  exact (HF1.out.setCell (p := ⟨w.heap.size, 0, none⟩) (fun h => absurd h (Nat.lt_irrefl _)) _).setCell (p := ⟨w.heap.size, 1, none⟩) (fun h => absurd h (Nat.lt_irrefl _)) _

set_option maxHeartbeats 8000000 in
set_option maxRecDepth 100000 in
theorem staged_calls (σ σ' : Ar) (K : ALay) (m b row : Int) (x : List Int × List Int) (hd : Head) (ok : Bool) (w : World) (hR : ArAt w σ K) (hth : σ.There) (ha : σ.s.g.At b row) (hm0 : 0 ≤ m) (hm : m < 2 * σ.s.g.pairs) (ho : One σ (mate m).toNat b.toNat row.toNat (σ', 0) x) (hop : openOf x.1 x.2 = (hd, ok)) (m0 : Nat) (hs : σ.s.Safe (m0 + 1)) :
    Calls Tryz.prog 121 #[.pointer (some ⟨K.x, 0, none⟩), .int .i64 m, .int .i64 b, .int .i64 row] w fun e w' => PgR w w w' e x ok ∧ (ok = false → True) ∧ ArAt w' σ' K ∧ Fr (AF K σ) w w' := by
  have hok : σ.s.g.Ok := hR.nand.ok
  have HR := As.mk hR
  have HP := As.mk (fun w => Pairs_calls σ.s.g w hok)
  obtain ⟨_, g1, g2, g3, g4, _⟩ := hR.cs
  have hpr := pairs_range hok
  have hgc := hok.c
  have d0 : decide (2 * σ.s.g.pairs ≤ m) = false := decide_eq_false (by omega)
  have hlx : K.x < w.heap.size := (Array.getElem?_eq_some_iff.1 hR.main).1
  have hxr := mate_is hm0 (show m < 16 by omega)
  have hmt : 0 ≤ mate m ∧ mate m < σ.s.g.c := by unfold mate; omega
  have HRD := As.mk (fun w' (hf : Fr None_ w w') => Read_one σ σ K (mate m) b row _ x w' (hR.none_ hf) hth rfl hmt.1 hmt.2 ha ho m0 hs)
  have hin := ho.inr rfl
  have HOP := As.mk (fun (D1 O1 : Option Addr) (nd1 cd1 no1 co1 : Nat) (w' : World) (h1 : Rd .u8 w' O1 no1 x.2) (h2 : Rd .u8 w' D1 nd1 x.1) (h3 : no1 ≤ co1) (h4 : nd1 ≤ cd1) => Open.Open_calls O1 D1 no1 co1 nd1 cd1 x.2 x.1 w' h1 h2 hin.2 hin.1 h3 h4)
  rw [hop] at HOP
  unfold Head.vals at HOP
  dsimp only at HOP
  have HPG := As.mk (heap_alloc_new w (.cells #[.slice none 0 0, .slice none 0 0] 157))
  have HNF := As.mk (show ¬ AF K σ w.heap.size from fun hb => by
    rcases hb with h | h | h
    · exact absurd (hR.nand.lt h) (Nat.lt_irrefl _)
    · omega
    · obtain ⟨cs, hv, _⟩ := hR.vols
      have := (Array.getElem?_eq_some_iff.1 hv).1
      omega)
  unfold Geo.val at HP
  clear hR hok ho hop hin hth ha hs
  go_enter Tryz.func121, Tryz.ntmps121
  go_wp2_with fail
  ((with_reducible refine (HP.out _).mono ?_); rintro e w1 ⟨rfl, hf1⟩)
  have HF1 := As.mk (((Fr.refl None_ w).alloc (.cells #[.slice none 0 0, .slice none 0 0] 157)).after hf1 (fun _ _ h => h))
  have HPG1 := As.mk (hf1.heap HPG.out (fun h => h))
  clear hf1
  go_wp2_with fail
  ((with_reducible refine (HRD.out _ HF1.out).mono ?_); rintro e w2 ⟨A3, n3, c3, A4, n4, c4, rfl, ha4, hf4, hz4, _⟩)
  have HR1 := As.mk (hz4 rfl).1
  have HR2 := As.mk (hz4 rfl).2
  have HF2 := As.mk ((HF1.out.mono (T := AF K σ) (fun _ _ h => h.elim)).after hf4 (fun _ _ h => h))
  have HA2 := As.mk ha4
  have HPG2 := As.mk (hf4.heap HPG1.out HNF.out)
  have HZ := As.mk HF1.out.size
  clear hz4 ha4 hf4
  obtain ⟨_, _, _, e3, hm3, hd3, _⟩ := HR1.out.rd
  obtain ⟨_, _, _, e4, hm4, hd4, _⟩ := HR2.out.rd
  injection e3 with q1 q2 q3
  injection e4 with q4 q5 q6
  subst q1 q2 q3 q4 q5 q6
  go_wp2_with fail
  ((with_reducible refine (HOP.out A3 A4 n3 c3 n4 c4 _ hd4.out hd3.out hm4.out hm3.out).mono ?_); rintro e w3 ⟨rfl, hf3⟩)
  have HF3 := As.mk (hf3.alloc (.cells #[.int .u8 hd.kind, .int .u32 hd.epoch, .int .u32 hd.batch, .int .u16 hd.index, .int .u16 hd.count, .int .u32 hd.block, .int .u32 hd.more] 112))
  clear hf3
  go_upto_region 9 with fail
  generalize w3.alloc (.cells #[.int .u8 hd.kind, .int .u32 hd.epoch, .int .u32 hd.batch, .int .u16 hd.index, .int .u16 hd.count, .int .u32 hd.block, .int .u32 hd.more] 112) = w4 at *
  have hpg := HF3.out.heap HPG2.out (fun h => h)
  have HPG4 := As.mk hpg
  have x0 := cell_is (i := 0) hpg rfl
  have x1 := cell_is (i := 1) hpg rfl
  have y0 := free_of (i := 0) hpg
  have y1 := free_of (i := 1) hpg
  clear hpg
  go_wp2_with fail
  have hset : Fr (fun b => b = w.heap.size) w4 ((w4.setCell ⟨w.heap.size, 0, none⟩ (.slice A3 n3 c3)).setCell ⟨w.heap.size, 1, none⟩ (.slice A4 n4 c4)) := ((Fr.refl (fun b => b = w.heap.size) w4).setCell (p := ⟨w.heap.size, 0, none⟩) (fun _ => rfl) _).setCell (p := ⟨w.heap.size, 1, none⟩) (fun _ => rfl) _
  have hr1 := (HR1.out.none_ HF3.out).lower HZ.out
  have hr2 := (HR2.out.none_ HF3.out).lower HZ.out
  refine bodyPost_ret (v := .tuple #[.agg #[.slice A3 n3 c3, .slice A4 n4 c4], .bool ok, .int .i64 0]) (by simp [results, Tryz.results121, go_sem, x0, x1]) rfl ⟨⟨A3, n3, c3, A4, n4, c4, rfl, fun _ => ⟨?_, ?_⟩⟩, fun _ => trivial, ?_, ?_⟩
  · exact hr1.fr hset (fun b hbo e => Row.ne hr1 HPG4.out (by decide) (e ▸ hbo))
  · exact hr2.fr hset (fun b hbo e => Row.ne hr2 HPG4.out (by decide) (e ▸ hbo))
  · exact besideP (HA2.out.none_ HF3.out) HPG4.out hset
  · exact (HF2.out.after HF3.out (fun _ _ h => h.elim)).after hset (fun b hb e => absurd hb (by omega))
end Go.Proofs.YteofgpaceeibpaaGreat.TckA
namespace Go.Proofs.YteofgpaceeibpaaGreat.TckB
open Go.RowKit Gab Geom Go.Proofs.YteofgpaceeibpaaGreat.Sum Ref Par Fields Seal Nand NandA NandH ArrA ArrD AOrd AWrA StgA ARead AGet AAgn HeldA AllA ARowW TckA
open Wr (InR)
open Heap (cell_is)
open Str (pcells RowV.ne take_snoc Of_calls)
open Go.Proofs.YteofgpaceeibpaaGreat.Open (openOf)
set_option linter.unusedVariables false
set_option linter.unusedSimpArgs false

/-- A page with what stands beside it, as it is handed on. -/
def PgS (σ τ : Ar) (K : ALay) (x : List Int × List Int) (ok : Bool) (w : World) (e : Ending) (w' : World) : Prop :=
  (∃ A n c B k j, e = .returned (.tuple #[.agg #[.slice A n c, .slice B k j], .bool ok, .int .i64 0]) ∧ (ok = true → SlO None_ w' (.slice A n c) x.1 ∧ SlO None_ w' (.slice B k j) x.2)) ∧ ArAt w' τ K ∧ Fr (AF K σ) w w'

set_option maxHeartbeats 8000000 in
set_option maxRecDepth 100000 in
theorem page_staged (σ σ' : Ar) (K : ALay) (b row : Int) (x : List Int × List Int) (hd : Head) (ok : Bool) (w : World) (hR : ArAt w σ K) (hth : σ.There) (ha : σ.s.g.At b row) (hb : b = 4 ∨ b = 5) (hm0 : 0 ≤ σ.set.dead) (hm : σ.set.dead < 2 * σ.s.g.pairs) (ho : One σ (mate σ.set.dead).toNat b.toNat row.toNat (σ', 0) x) (hop : openOf x.1 x.2 = (hd, ok)) (m0 : Nat) (hs : σ.s.Safe (m0 + 1)) :
    Calls Tryz.prog 114 #[.pointer (some ⟨K.x, 0, none⟩), .int .i64 b, .int .i64 row] w (PgS σ σ' K x ok w) := by
  have HR := As.mk hR
  obtain ⟨_, _, _, _, _, _, _, _, _, c9, _, _⟩ := hR.cs
  have HST := As.mk (fun w' (hf : Fr None_ w w') => staged_calls σ σ' K σ.set.dead b row x hd ok w' (hR.none_ hf) hth ha hm0 hm ho hop m0 hs)
  have HPG := As.mk (heap_alloc_new w (.cells #[.slice none 0 0, .slice none 0 0] 157))
  have HNF := As.mk (show ¬ AF K σ w.heap.size from fun hb => by
    rcases hb with h | h | h
    · exact absurd (hR.nand.lt h) (Nat.lt_irrefl _)
    · have := (Array.getElem?_eq_some_iff.1 hR.main).1
      omega
    · obtain ⟨cs, hv, _⟩ := hR.vols
      have := (Array.getElem?_eq_some_iff.1 hv).1
      omega)
  have hlx : K.x < w.heap.size := (Array.getElem?_eq_some_iff.1 hR.main).1
  have hbb : ((b == 4) || (b == 5)) = true := by rcases hb with rfl | rfl <;> rfl
  obtain ⟨Q, hQ⟩ : ∃ Q, PgS σ σ' K x ok w = Q := ⟨_, rfl⟩
  have HQ := As.mk hQ
  rw [hQ]
  clear hR hth ha hm0 hm ho hop hs hQ
  rcases hb with rfl | rfl
  all_goals
    clear hbb
    go_enter Tryz.func114, Tryz.ntmps114
    go_wp2_with fail
    ((with_reducible refine (HST.out _ ((Fr.refl None_ w).alloc _)).mono ?_); rintro e w1 ⟨⟨A, n, c, B, k, j, rfl, hrr⟩, _, hA1, hf1⟩)
    have hpg := hf1.heap HPG.out HNF.out
    have HPG1 := As.mk hpg
    have x0 := cell_is (i := 0) hpg rfl
    have x1 := cell_is (i := 1) hpg rfl
    have y0 := free_of (i := 0) hpg
    have y1 := free_of (i := 1) hpg
    have HA1 := As.mk hA1
    have HF1 := As.mk (((Fr.refl (AF K σ) w).alloc (.cells #[.slice none 0 0, .slice none 0 0] 157)).after hf1 (fun _ _ h => h))
    have HRR := As.mk hrr
    clear hpg hA1 hf1 hrr
    go_wp2_with fail
    have hset : Fr (fun b => b = w.heap.size) w1 ((w1.setCell ⟨w.heap.size, 0, none⟩ (.slice A n c)).setCell ⟨w.heap.size, 1, none⟩ (.slice B k j)) := ((Fr.refl (fun b => b = w.heap.size) w1).setCell (p := ⟨w.heap.size, 0, none⟩) (fun _ => rfl) _).setCell (p := ⟨w.heap.size, 1, none⟩) (fun _ => rfl) _
    refine bodyPost_ret (v := .tuple #[.agg #[.slice A n c, .slice B k j], .bool ok, .int .i64 0]) (by simp [results, Tryz.results114, go_sem, x0, x1]) rfl ?_
    rw [← HQ.out]
    refine ⟨⟨A, n, c, B, k, j, rfl, fun h => ?_⟩, besideP HA1.out HPG1.out hset, HF1.out.after hset (fun b hb e => absurd hb (by omega))⟩
    obtain ⟨h1, h2⟩ := HRR.out h
    exact ⟨(SlO.of_row (F := None_) (N := 0) (fun b h => h.elim) h1 (Nat.zero_le _)).fr hset (fun b cs hb e => blk_ne hb HPG1.out (by decide) e), (SlO.of_row (F := None_) (N := 0) (fun b h => h.elim) h2 (Nat.zero_le _)).fr hset (fun b cs hb e => blk_ne hb HPG1.out (by decide) e)⟩

set_option maxHeartbeats 8000000 in
set_option maxRecDepth 100000 in
theorem page_none (σ : Ar) (K : ALay) (b row : Int) (w : World) (hR : ArAt w σ K) (hb : b = 4 ∨ b = 5) (hm : 2 * σ.s.g.pairs ≤ σ.set.dead) :
    Calls Tryz.prog 114 #[.pointer (some ⟨K.x, 0, none⟩), .int .i64 b, .int .i64 row] w (PgS σ σ K ([], []) false w) := by
  have HR := As.mk hR
  obtain ⟨_, _, _, _, _, _, _, _, _, c9, _, _⟩ := hR.cs
  have HST := As.mk (fun w' (hf : Fr None_ w w') => staged_none σ K σ.set.dead b row w' (hR.none_ hf) hm)
  have HPG := As.mk (heap_alloc_new w (.cells #[.slice none 0 0, .slice none 0 0] 157))
  have hlx : K.x < w.heap.size := (Array.getElem?_eq_some_iff.1 hR.main).1
  obtain ⟨Q, hQ⟩ : ∃ Q, PgS σ σ K ([], []) false w = Q := ⟨_, rfl⟩
  have HQ := As.mk hQ
  rw [hQ]
  clear hR hm hQ
  rcases hb with rfl | rfl
  all_goals
    go_enter Tryz.func114, Tryz.ntmps114
    go_wp2_with fail
    ((with_reducible refine (HST.out _ ((Fr.refl None_ w).alloc _)).mono ?_); rintro e w1 ⟨rfl, hf1⟩)
    have hpg := hf1.heap HPG.out (fun h => h)
    have HPG1 := As.mk hpg
    have x0 := cell_is (i := 0) hpg rfl
    have x1 := cell_is (i := 1) hpg rfl
    have y0 := free_of (i := 0) hpg
    have y1 := free_of (i := 1) hpg
    have HF1 := As.mk (((Fr.refl None_ w).alloc (.cells #[.slice none 0 0, .slice none 0 0] 157)).after hf1 (fun _ _ h => h))
    clear hpg hf1
    go_wp2_with fail
    have hset : Fr (fun b => b = w.heap.size) w1 ((w1.setCell ⟨w.heap.size, 0, none⟩ (.slice none 0 0)).setCell ⟨w.heap.size, 1, none⟩ (.slice none 0 0)) := ((Fr.refl (fun b => b = w.heap.size) w1).setCell (p := ⟨w.heap.size, 0, none⟩) (fun _ => rfl) _).setCell (p := ⟨w.heap.size, 1, none⟩) (fun _ => rfl) _
    refine bodyPost_ret (v := .tuple #[.agg #[.slice none 0 0, .slice none 0 0], .bool false, .int .i64 0]) (by simp [results, Tryz.results114, go_sem, x0, x1]) rfl ?_
    rw [← HQ.out]
    exact ⟨⟨none, 0, 0, none, 0, 0, rfl, fun h => by cases h⟩, besideP (HR.out.none_ HF1.out) HPG1.out hset, (HF1.out.mono (fun _ _ h => h.elim)).after hset (fun b hb e => absurd hb (by omega))⟩

set_option maxHeartbeats 8000000 in
set_option maxRecDepth 100000 in
theorem page_blank (σ : Ar) (K : ALay) (b row dm : Int) (c ex : Nat → Ar) (w : World) (hR : ArAt w σ K) (ha : σ.s.g.At b row) (hb : ¬ (b = 4 ∨ b = 5)) (hB : Scan σ b row dm false c) :
    Calls Tryz.prog 114 #[.pointer (some ⟨K.x, 0, none⟩), .int .i64 b, .int .i64 row] w (PgS σ (c σ.s.g.c.toNat) K ([], []) false w) := by
  have HR := As.mk hR
  obtain ⟨_, _, _, _, _, _, _, _, _, c9, _, _⟩ := hR.cs
  have HRW := As.mk (fun w' (hf : Fr None_ w w') => Row_scan σ K b row dm false c ex [] w' (hR.none_ hf) ha hB (fun h => by cases h))
  have HPG := As.mk (heap_alloc_new w (.cells #[.slice none 0 0, .slice none 0 0] 157))
  have HNF := As.mk (show ¬ AF K σ w.heap.size from fun hb => by
    rcases hb with h | h | h
    · exact absurd (hR.nand.lt h) (Nat.lt_irrefl _)
    · have := (Array.getElem?_eq_some_iff.1 hR.main).1
      omega
    · obtain ⟨cs, hv, _⟩ := hR.vols
      have := (Array.getElem?_eq_some_iff.1 hv).1
      omega)
  have hlx : K.x < w.heap.size := (Array.getElem?_eq_some_iff.1 hR.main).1
  have b4 : (b == 4) = false := by rw [beq_eq_false_iff_ne]; exact fun e => hb (.inl e)
  have b5 : (b == 5) = false := by rw [beq_eq_false_iff_ne]; exact fun e => hb (.inr e)
  obtain ⟨Q, hQ⟩ : ∃ Q, PgS σ (c σ.s.g.c.toNat) K ([], []) false w = Q := ⟨_, rfl⟩
  have HQ := As.mk hQ
  rw [hQ]
  unfold ScanPost dev at HRW
  clear hR ha hB hQ hb
  go_enter Tryz.func114, Tryz.ntmps114
  go_wp2_with fail
  ((with_reducible refine (HRW.out _ ((Fr.refl None_ w).alloc _)).mono ?_); rintro e w1 ⟨⟨v1, rfl, _⟩, hA1, hf1⟩)
  have hpg := hf1.heap HPG.out HNF.out
  have HPG1 := As.mk hpg
  have x0 := cell_is (i := 0) hpg rfl
  have x1 := cell_is (i := 1) hpg rfl
  have y0 := free_of (i := 0) hpg
  have y1 := free_of (i := 1) hpg
  have HA1 := As.mk (show ArAt w1 (c σ.s.g.c.toNat) K from hA1)
  have HF1 := As.mk (((Fr.refl (AF K σ) w).alloc (.cells #[.slice none 0 0, .slice none 0 0] 157)).after hf1 (fun _ _ h => h))
  clear hpg hA1 hf1
  go_wp2_with fail
  have hset : Fr (fun b => b = w.heap.size) w1 ((w1.setCell ⟨w.heap.size, 0, none⟩ (.slice none 0 0)).setCell ⟨w.heap.size, 1, none⟩ (.slice none 0 0)) := ((Fr.refl (fun b => b = w.heap.size) w1).setCell (p := ⟨w.heap.size, 0, none⟩) (fun _ => rfl) _).setCell (p := ⟨w.heap.size, 1, none⟩) (fun _ => rfl) _
  refine bodyPost_ret (v := .tuple #[.agg #[.slice none 0 0, .slice none 0 0], .bool false, .int .i64 0]) (by simp [results, Tryz.results114, go_sem, x0, x1]) rfl ?_
  rw [← HQ.out]
  exact ⟨⟨none, 0, 0, none, 0, 0, rfl, fun h => by cases h⟩, besideP HA1.out HPG1.out hset, HF1.out.after hset (fun b hb e => absurd hb (by omega))⟩
end Go.Proofs.YteofgpaceeibpaaGreat.TckB

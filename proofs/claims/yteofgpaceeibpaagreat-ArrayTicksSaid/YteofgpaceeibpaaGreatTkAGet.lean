/- stripe.Read over an array: a page as it stands. | stage.Get over an array, where a page is found. -/
import Derived.Test.YteofgpaceeibpaaGreatTkStgB
namespace Go.Proofs.YteofgpaceeibpaaGreat.ARead
open Go.RowKit Gab Geom Go.Proofs.YteofgpaceeibpaaGreat.Sum Ref Par Fields Seal Nand NandA NandH ArrA ArrD AOrd AWrA
open Wr (InR)
open Heap (cell_is)
open Str (pcells PPs take_snoc)
open Go.Proofs.YteofgpaceeibpaaGreat.Open (openOf)
set_option linter.unusedVariables false
set_option linter.unusedSimpArgs false

theorem fr_set8 {S : Nat → Prop} {w w' : World} (h : Fr S w w') {b : Nat} (hb : b < w.heap.size → S b) (v0 v1 v2 v3 v4 v5 v6 v7 : Value) : Fr S w ((((((((w'.setCell ⟨b, 0, none⟩ v0).setCell ⟨b, 1, none⟩ v1).setCell ⟨b, 2, none⟩ v2).setCell ⟨b, 3, none⟩ v3).setCell ⟨b, 4, none⟩ v4).setCell ⟨b, 5, none⟩ v5).setCell ⟨b, 6, none⟩ v6).setCell ⟨b, 7, none⟩ v7) :=
  ((((((((h.setCell (p := ⟨b, 0, none⟩) hb v0).setCell (p := ⟨b, 1, none⟩) hb v1).setCell (p := ⟨b, 2, none⟩) hb v2).setCell (p := ⟨b, 3, none⟩) hb v3).setCell (p := ⟨b, 4, none⟩) hb v4).setCell (p := ⟨b, 5, none⟩) hb v5).setCell (p := ⟨b, 6, none⟩) hb v6).setCell (p := ⟨b, 7, none⟩) hb v7)
/-- A page beside it is written. -/
theorem beside {w w' : World} {σ : Ar} {K : ALay} (h : ArAt w σ K) {pb : Nat} {cs : Array Value} (hp : w.heap[pb]? = some (.cells cs 117 (0, 0))) (hf : Fr (fun b => b = pb) w w') : ArAt w' σ K := by
  have hne : ∀ {b : Nat} {cs : Array Value} {T : TypeId} {f : Nat × Nat}, w.heap[b]? = some (.cells cs T f) → T ≠ 117 → ¬ b = pb := fun hb hT => blk_ne hb hp hT
  refine ⟨h.nand.one hp hf ⟨⟨by decide, by decide, by decide, by decide, by decide⟩, by decide, by decide⟩, hf.heap h.main (hne h.main (by decide)), h.ccn, ?_, fun c t hc e => ⟨(h.vol c t hc e).1.ty hf (fun b cs T f hb hT => hne hb (by rcases hT with rfl | rfl <;> decide)), (h.vol c t hc e).2⟩, ?_, h.ok⟩
  · obtain ⟨ds, e, hds⟩ := h.vols
    exact ⟨ds, hf.heap e (hne e (by decide)), hds⟩
  · obtain ⟨ds, e, hds⟩ := h.chips
    exact ⟨ds, hf.heap e (hne e (by decide)), hds⟩
theorem mem_range {g : Geo} (hg : g.Ok) (seg row slot : Int) (h0 : 0 ≤ slot) (h1 : slot < g.c - 1) : 0 ≤ g.mem seg row slot ∧ g.mem seg row slot < g.c ∧ g.mem seg row slot ≠ g.par seg row := by
  obtain ⟨h2, h3⟩ := par_range hg seg row
  unfold Geo.mem
  split <;> omega

set_option maxHeartbeats 8000000 in
set_option maxRecDepth 100000 in
theorem Read_direct (σ : Ar) (K : ALay) (seg row slot : Int) (w : World) (h : Head) (r : Ar × Int) (x : List Int × List Int) (hR : ArAt w σ K) (hth : σ.There) (ha : σ.s.g.At seg row) (hs0 : 0 ≤ slot) (hs1 : slot < σ.s.g.c - 1) (hr : σ.read (σ.s.g.mem seg row slot).toNat = r) (hk : r.2 = 0)
    (hx : σ.bytes (σ.s.g.mem seg row slot).toNat seg.toNat row.toNat = x) (ho : openOf x.1 x.2 = (h, true)) (hx1 : InR 256 x.1 ∧ InR 256 x.2) (m0 : Nat) (hsf : σ.s.Safe (m0 + 1)) :
    Calls Tryz.prog 44 #[dev K.x, .agg #[.int .i64 seg, .int .i64 row, .int .i64 slot]] w fun e w' => ∃ v, e = .returned (.tuple #[.agg (pcells h v), .int .i64 0]) ∧ Row 5 .u8 w' w.heap.size v x.1 ∧ ArAt w' r.1 K ∧ Fr (AF K σ) w w' := by
  have hok : σ.s.g.Ok := hR.nand.ok
  have HLTF := As.mk (show ∀ b, AF K σ b → b < w.heap.size from fun b hb => by
    rcases hb with h | h | h
    · exact hR.nand.lt h
    · rw [h]; exact (Array.getElem?_eq_some_iff.1 hR.main).1
    · obtain ⟨cs, hv, _⟩ := hR.vols
      rw [h]; exact (Array.getElem?_eq_some_iff.1 hv).1)
  have HR := As.mk hR
  have hc1 := hok.c
  have hb1 := hok.b
  have hp1 := hok.p
  have hgs1 := hok.s
  have HG := As.mk (fun w' (hf : Fr None_ w w') => ArrA.Geo_calls σ K w' (hR.none_ hf))
  have HNU := As.mk (fun w => Number_calls σ.s.g seg row slot w hok ha hs0 hs1)
  have HME := As.mk (fun w => Member_calls σ.s.g seg row slot w hok ha hs0 (by omega))
  have hnum : 1 ≤ σ.s.g.num seg row slot := by
    have h1 : 0 ≤ (seg * σ.s.g.p + row) * (σ.s.g.c - 1) := Int.mul_nonneg (by have := mul_range hok ha; have := ha.row; omega) (by omega)
    unfold Geo.num
    omega
  have hnb : (σ.s.g.num seg row slot == 0) = false := by rw [beq_eq_false_iff_ne]; omega
  have hmr := mem_range hok seg row slot hs0 hs1
  have hseg := ha.seg
  have hrow := ha.row
  have HRT := As.mk (show ∀ (w' : World), Fr None_ w w' → Calls Tryz.prog 22 #[.pointer (some ⟨K.x, 0, none⟩), .int .i64 (σ.s.g.mem seg row slot), .int .i64 seg, .int .i64 row] w' fun e w'' => ∃ v1 v2, e = .returned (.tuple #[v1, v2, .int .i64 0]) ∧ Row 5 .u8 w'' w'.heap.size v1 x.1 ∧ Row 5 .u8 w'' w'.heap.size v2 x.2 ∧ ArAt w'' r.1 K ∧ Fr (AF K σ) w' w'' from fun w' hf => by
    have e1 : ((σ.s.g.mem seg row slot).toNat : Int) = σ.s.g.mem seg row slot := by omega
    have e2 : (seg.toNat : Int) = seg := by omega
    have e3 : (row.toNat : Int) = row := by omega
    have h1 := ArrD.Read_calls σ K (σ.s.g.mem seg row slot).toNat seg.toNat row.toNat w' (hR.none_ hf) hth (by omega) (by omega) (by unfold St.np; omega) m0 hsf
    rw [e1, e2, e3] at h1
    refine h1.mono ?_
    rintro e w'' ⟨A, n, k, B, j, i, he, hA, hF, hz, _⟩
    rw [hr, hk] at he hz
    obtain ⟨z1, z2⟩ := hz rfl
    rw [hx] at z1 z2
    rw [hr] at hA
    exact ⟨_, _, he, z1, z2, hA, hF⟩)
  unfold Geo.val at HG HNU HME
  generalize σ.s.g.num seg row slot = num at *
  generalize hmem : σ.s.g.mem seg row slot = m at *
  obtain ⟨hm0, hm1, hm2⟩ := hmr
  obtain ⟨fd, fo⟩ := x
  dsimp only at ho HRT hx1 ⊢
  clear hR ha hok hmem hm2 hr hk hx hsf hth hseg hrow
  have HOP := As.mk (fun (D1 O1 : Option Addr) (nd1 cd1 no1 co1 : Nat) (w' : World) (h1 : Rd .u8 w' O1 no1 fo) (h2 : Rd .u8 w' D1 nd1 fd) (h3 : no1 ≤ co1) (h4 : nd1 ≤ cd1) => Open.Open_calls O1 D1 no1 co1 nd1 cd1 fo fd w' h1 h2 hx1.2 hx1.1 h3 h4)
  rw [ho] at HOP
  unfold Head.vals at HOP
  dsimp only at HOP
  clear ho hx1
  unfold dev pcells at *
  have HPL0 := As.mk (heap_alloc_new w (.cells #[.int .i64 seg, .int .i64 row, .int .i64 slot] 108))
  have HPL1 := As.mk (at_old (.cells #[.int .u8 0, .int .u32 0, .int .u32 0, .int .u16 0, .int .u16 0, .int .u32 0, .int .u32 0, .slice none 0 0] 117) HPL0.out)
  have HPG1 := As.mk (at_new (.cells #[.int .u8 0, .int .u32 0, .int .u32 0, .int .u16 0, .int .u16 0, .int .u32 0, .int .u32 0, .slice none 0 0] 117) (size_new (.cells #[.int .i64 seg, .int .i64 row, .int .i64 slot] 108) (rfl : w.heap.size = w.heap.size)))
  have HFW : As (Fr None_ w ((w.alloc (.cells #[.int .i64 seg, .int .i64 row, .int .i64 slot] 108)).alloc (.cells #[.int .u8 0, .int .u32 0, .int .u32 0, .int .u16 0, .int .u16 0, .int .u32 0, .int .u32 0, .slice none 0 0] 117))) := ⟨((Fr.refl _ w).alloc _).alloc _⟩
  go_enter Tryz.func44, Tryz.ntmps44
  go_wp2_with fail
  ((with_reducible refine (HG.out _ HFW.out).mono ?_); rintro e w1 ⟨rfl, hf1⟩)
  have HF1 := As.mk (HFW.out.after hf1 (fun _ _ h => h))
  have HPLa := As.mk (hf1.heap HPL1.out (fun h => h))
  have HPGa := As.mk (hf1.heap HPG1.out (fun h => h))
  clear hf1
  have c0 := cell_is (i := 0) HPLa.out rfl
  have c1 := cell_is (i := 1) HPLa.out rfl
  have c2 := cell_is (i := 2) HPLa.out rfl
  have l0 : w.heap.size < w1.heap.size := (Array.getElem?_eq_some_iff.1 HPLa.out).1
  go_wp2_with fail
  ((with_reducible refine (HNU.out _).mono ?_); rintro e w2 ⟨rfl, hf2⟩)
  have HGEb := As.mk (hf2.heap (heap_alloc_new w1 (.cells #[.int .i64 σ.s.g.c, .int .i64 σ.s.g.b, .int .i64 σ.s.g.p, .int .i64 σ.s.g.s] 24)) (fun h => h))
  have HPLb := As.mk (hf2.heap (at_old (.cells #[.int .i64 σ.s.g.c, .int .i64 σ.s.g.b, .int .i64 σ.s.g.p, .int .i64 σ.s.g.s] 24) HPLa.out) (fun h => h))
  have HPGb := As.mk (hf2.heap (at_old (.cells #[.int .i64 σ.s.g.c, .int .i64 σ.s.g.b, .int .i64 σ.s.g.p, .int .i64 σ.s.g.s] 24) HPGa.out) (fun h => h))
  have HF2 := As.mk ((HF1.out.alloc _).after hf2 (fun _ _ h => h))
  have hz8 : w.heap.size ≤ w1.heap.size := HF1.out.size
  clear c0 c1 c2 l0 hf2
  generalize hg8 : w1.heap.size = g8 at *
  clear hg8
  have c0 := cell_is (i := 0) HPLb.out rfl
  have c1 := cell_is (i := 1) HPLb.out rfl
  have c2 := cell_is (i := 2) HPLb.out rfl
  have d0 := cell_is (i := 0) HGEb.out rfl
  have d1 := cell_is (i := 1) HGEb.out rfl
  have d2 := cell_is (i := 2) HGEb.out rfl
  have d3 := cell_is (i := 3) HGEb.out rfl
  go_wp2_with fail
  ((with_reducible refine (HME.out _).mono ?_); rintro e w3 ⟨rfl, hf3⟩)
  have HPLc := As.mk (hf3.heap HPLb.out (fun h => h))
  have HPGc := As.mk (hf3.heap HPGb.out (fun h => h))
  have HF3 := As.mk (HF2.out.after hf3 (fun _ _ h => h))
  clear c0 c1 c2 d0 d1 d2 d3 hf3
  have c0 := cell_is (i := 0) HPLc.out rfl
  have c1 := cell_is (i := 1) HPLc.out rfl
  go_wp2_with fail
  ((with_reducible refine (HRT.out _ HF3.out).mono ?_); rintro e w4 ⟨v1, v2, rfl, hr1, hr2, ha4, hf4⟩)
  have HR1 := As.mk hr1
  have HR2 := As.mk hr2
  have HF4 := As.mk ((HF3.out.mono (T := AF K σ) (fun _ _ h => h.elim)).after hf4 (fun _ _ h => h))
  have HPGd := As.mk (hf4.heap HPGc.out (fun h => absurd (HLTF.out _ h) (by omega)))
  have HA4 := As.mk ha4
  clear hr1 hr2 ha4 hf4 c0 c1
  obtain ⟨A3, n3, c3, e3, hm3, hd3, _⟩ := HR1.out.rd
  obtain ⟨A4, n4, c4, e4, hm4, hd4, _⟩ := HR2.out.rd
  subst e3 e4
  go_wp2_with fail
  ((with_reducible refine (HOP.out A3 A4 n3 c3 n4 c4 _ hd4.out hd3.out hm4.out hm3.out).mono ?_); rintro e w5 ⟨rfl, hf5⟩)
  have HF5 := As.mk hf5
  have HPGe := As.mk (hf5.heap HPGd.out (fun h => h))
  clear hf5
  go_upto_region 12 with fail
  have hnew := heap_alloc_new w5 (.cells #[.int .u8 h.kind, .int .u32 h.epoch, .int .u32 h.batch, .int .u16 h.index, .int .u16 h.count, .int .u32 h.block, .int .u32 h.more] 112)
  have HF6 := As.mk (HF5.out.alloc (.cells #[.int .u8 h.kind, .int .u32 h.epoch, .int .u32 h.batch, .int .u16 h.index, .int .u16 h.count, .int .u32 h.block, .int .u32 h.more] 112))
  generalize w5.alloc (.cells #[.int .u8 h.kind, .int .u32 h.epoch, .int .u32 h.batch, .int .u16 h.index, .int .u16 h.count, .int .u32 h.block, .int .u32 h.more] 112) = w6 at *
  have hpg := HF6.out.heap HPGd.out (fun h => h)
  have HPG5 := As.mk hpg
  generalize hg20 : w5.heap.size = g20 at *
  clear hg20
  have k0 := cell_is (i := 0) hnew rfl
  have k1 := cell_is (i := 1) hnew rfl
  have k2 := cell_is (i := 2) hnew rfl
  have k3 := cell_is (i := 3) hnew rfl
  have k4 := cell_is (i := 4) hnew rfl
  have k5 := cell_is (i := 5) hnew rfl
  have k6 := cell_is (i := 6) hnew rfl
  have x0 := cell_is (i := 0) hpg rfl
  have x1 := cell_is (i := 1) hpg rfl
  have x2 := cell_is (i := 2) hpg rfl
  have x3 := cell_is (i := 3) hpg rfl
  have x4 := cell_is (i := 4) hpg rfl
  have x5 := cell_is (i := 5) hpg rfl
  have x6 := cell_is (i := 6) hpg rfl
  have x7 := cell_is (i := 7) hpg rfl
  have y0 := free_of (i := 0) hpg
  have y1 := free_of (i := 1) hpg
  have y2 := free_of (i := 2) hpg
  have y3 := free_of (i := 3) hpg
  have y4 := free_of (i := 4) hpg
  have y5 := free_of (i := 5) hpg
  have y6 := free_of (i := 6) hpg
  have y7 := free_of (i := 7) hpg
  clear hnew hpg
  go_wp2_with fail
  have hz := HF3.out.size
  have hr6 := HR1.out.none_ HF6.out
  have hF6 : Fr (AF K σ) w w6 := HF4.out.after HF6.out (fun _ _ h => h.elim)
  refine bodyPost_ret (v := .tuple #[.agg #[.int .u8 h.kind, .int .u32 h.epoch, .int .u32 h.batch, .int .u16 h.index, .int .u16 h.count, .int .u32 h.block, .int .u32 h.more, .slice A3 n3 c3], .int .i64 0]) (by simp [results, Tryz.results44, go_sem, x0, x1, x2, x3, x4, x5, x6, x7]) rfl ⟨_, rfl, ?_, ?_, ?_⟩
  · refine Row.fr (S := fun b => b = w.heap.size + 1) (hr6.lower hz) ?_ (fun b hbo e => Row.ne hr6 HPG5.out (by decide) (e ▸ hbo))
    exact fr_set8 (b := w.heap.size + 1) (Fr.refl (fun b => b = w.heap.size + 1) w6) (fun _ => rfl) _ _ _ _ _ _ _ _
  · exact beside (HA4.out.none_ HF6.out) HPG5.out (fr_set8 (b := w.heap.size + 1) (Fr.refl (fun b => b = w.heap.size + 1) w6) (fun _ => rfl) _ _ _ _ _ _ _ _)
  · exact fr_set8 hF6 (fun hl => absurd hl (by omega)) _ _ _ _ _ _ _ _
end Go.Proofs.YteofgpaceeibpaaGreat.ARead
namespace Go.Proofs.YteofgpaceeibpaaGreat.AGet
open Go.RowKit Gab Geom Go.Proofs.YteofgpaceeibpaaGreat.Sum Ref Par Fields Seal Nand NandA NandH ArrA ArrD AOrd AWrA StgA ARead
open Wr (InR)
open Heap (cell_is)
open Str (pcells)
open Go.Proofs.YteofgpaceeibpaaGreat.Open (openOf)
open AWrC
set_option linter.unusedVariables false
set_option linter.unusedSimpArgs false

/-- What a read of one member answers: the array then, the code, what is read. -/
structure One (σ : Ar) (m b q : Nat) (r : Ar × Int) (x : List Int × List Int) : Prop where
  read : σ.read m = r
  bytes : σ.bytes m b q = x
  inr : r.2 = 0 → InR 256 x.1 ∧ InR 256 x.2
/-- A page is found on the first member, or on the second. -/
def Last (τ : Ar) (m b q : Nat) (h : Head) (d : List Int) (σ' : Ar) : Prop := ∃ x, One τ m b q (σ', 0) x ∧ openOf x.1 x.2 = (h, true) ∧ d = x.1
def Gets (σ : Ar) (m b q : Nat) (h : Head) (d : List Int) (σ' : Ar) : Prop :=
  Last σ m b q h d σ' ∨ ∃ τ k x, τ.There ∧ One σ m b q (τ, k) x ∧ (k = 71 ∨ (k = 0 ∧ (openOf x.1 x.2).2 = false)) ∧ Last τ (m + 1) b q h d σ'
theorem read_keeps {σ : Ar} (m : Nat) {n : Nat} (h : σ.s.Safe (n + 1)) : (σ.read m).1.s.Safe n := by
  unfold Ar.read
  split
  · exact h.le (Nat.le_succ n)
  · split
    · exact h.le (Nat.le_succ n)
    · split
      · split
        · rw [(died_same _ _).1]; exact h.read _
        · rw [(died_same _ _).1]; exact h.read _
      · exact h.read _
/-- A read of a member's page. -/
def OnePost (σ : Ar) (K : ALay) (r : Ar × Int) (x : List Int × List Int) (w : World) (e : Ending) (w' : World) : Prop :=
  ∃ A n k B j i, e = .returned (.tuple #[.slice A n k, .slice B j i, .int .i64 r.2]) ∧ ArAt w' r.1 K ∧ Fr (AF K σ) w w' ∧
    (r.2 = 0 → Row 5 .u8 w' w.heap.size (.slice A n k) x.1 ∧ Row 5 .u8 w' w.heap.size (.slice B j i) x.2) ∧ (r.2 ≠ 0 → Value.slice A n k = .slice none 0 0 ∧ Value.slice B j i = .slice none 0 0)
theorem Read_one (σ τ : Ar) (K : ALay) (m seg row : Int) (r : Ar × Int) (x : List Int × List Int) (w : World) (hA : ArAt w τ K) (hth : τ.There) (hg : τ.s.g = σ.s.g) (hm0 : 0 ≤ m) (hm1 : m < σ.s.g.c) (ha : σ.s.g.At seg row) (ho : One τ m.toNat seg.toNat row.toNat r x) (n : Nat) (hs : τ.s.Safe (n + 1)) :
    Calls Tryz.prog 22 #[.pointer (some ⟨K.x, 0, none⟩), .int .i64 m, .int .i64 seg, .int .i64 row] w (OnePost σ K r x w) := by
  have hseg := ha.seg
  have hrow := ha.row
  have e1 : (m.toNat : Int) = m := by omega
  have e2 : (seg.toNat : Int) = seg := by omega
  have e3 : (row.toNat : Int) = row := by omega
  have h1 := ArrD.Read_calls τ K m.toNat seg.toNat row.toNat w hA hth (by rw [hg]; omega) (by rw [hg]; omega) (by unfold St.np; rw [hg]; omega) n hs
  rw [e1, e2, e3] at h1
  refine h1.mono ?_
  rintro e w' ⟨A, n, k, B, j, i, he, hA', hF, hz, hy⟩
  rw [ho.read] at he hA' hz hy
  rw [ho.bytes] at hz
  exact ⟨A, n, k, B, j, i, he, hA', hF.mono (fun b _ hb => (AF.eq hg b).1 hb), hz, hy⟩

set_option maxHeartbeats 8000000 in
set_option maxRecDepth 100000 in
theorem Get_calls (σ σ' : Ar) (K : ALay) (which n : Int) (h : Head) (d : List Int) (w : World) (hR : ArAt w σ K) (hth : σ.There) (hwh : 0 ≤ which ∧ which ≤ 1) (h0 : 0 ≤ n) (h1 : n < σ.s.g.room)
    (hg : Gets σ (2 * (n % σ.s.g.pairs)).toNat (4 + which).toNat (n / σ.s.g.pairs).toNat h d σ') (m0 : Nat) (hs : σ.s.Safe (m0 + 2)) :
    Calls Tryz.prog 52 #[dev K.x, .int .i64 which, .int .i64 n] w fun e w' => ∃ v, e = .returned (.tuple #[.agg (pcells h v), .int .i64 0]) ∧ Row 5 .u8 w' w.heap.size v d ∧ ArAt w' σ' K ∧ Fr (AF K σ) w w' := by
  have hok : σ.s.g.Ok := hR.nand.ok
  have HTH := As.mk hth
  have HLTF := As.mk (show ∀ b, AF K σ b → b < w.heap.size from fun b hb => by
    rcases hb with h | h | h
    · exact hR.nand.lt h
    · rw [h]; exact (Array.getElem?_eq_some_iff.1 hR.main).1
    · obtain ⟨cs, hv, _⟩ := hR.vols
      rw [h]; exact (Array.getElem?_eq_some_iff.1 hv).1)
  have HR := As.mk hR
  have HSF := As.mk hs
  have hsp := spot_range hok h0 h1
  have hb := hok.b
  have hc := hok.c
  have hp := hok.p
  have HAT := As.mk (show σ.s.g.At (4 + which) (n / σ.s.g.pairs) from ⟨by omega, by omega⟩)
  have HG := As.mk (fun w' (hf : Fr None_ w w') => ArrA.Geo_calls σ K w' (hR.none_ hf))
  have HSP := As.mk (fun w => Spot_calls σ.s.g n w hok h0 h1)
  have d0 : decide (which < 0) = false := decide_eq_false (by omega)
  have d1 : decide (1 < which) = false := decide_eq_false (by omega)
  have HGT := As.mk hg
  have hrz : 0 ≤ n / σ.s.g.pairs := hsp.1
  generalize n / σ.s.g.pairs = row at *
  generalize 2 * (n % σ.s.g.pairs) = lo at *
  have hws : IntKind.i64.wrap (4 + which) = 4 + which := by rw [IntKind.wrap_i64]; omega
  have HLO := As.mk hsp
  have HROW : As (∀ (τ : Ar) (k : Int) (r : Ar × Int) (x : List Int × List Int) (wr : World), ArAt wr τ K → τ.There → τ.s.g = σ.s.g → 0 ≤ k → k ≤ 1 → One τ (lo + k).toNat (4 + which).toNat row.toNat r x → (∃ n, τ.s.Safe (n + 1)) →
      Calls Tryz.prog 22 #[.pointer (some ⟨K.x, 0, none⟩), .int .i64 (lo + k), .int .i64 (4 + which), .int .i64 row] wr (OnePost σ K r x wr)) := ⟨fun τ k r x wr hA ht hg hk0 hk1 ho hs => by
    obtain ⟨n, hs⟩ := hs
    exact Read_one σ τ K (lo + k) (4 + which) row r x wr hA ht hg (by have := HLO.out; omega) (by have := HLO.out; omega) HAT.out ho n hs⟩
  unfold dev pcells Geo.val at *
  clear hR hth hs hok hg h0 h1
  have HPG1 := As.mk (heap_alloc_new w (.cells #[.int .u8 0, .int .u32 0, .int .u32 0, .int .u16 0, .int .u16 0, .int .u32 0, .int .u32 0, .slice none 0 0] 117))
  have HFW : As (Fr None_ w (w.alloc (.cells #[.int .u8 0, .int .u32 0, .int .u32 0, .int .u16 0, .int .u16 0, .int .u32 0, .int .u32 0, .slice none 0 0] 117))) := ⟨(Fr.refl _ w).alloc _⟩
  go_enter Tryz.func52, Tryz.ntmps52
  go_wp2_with fail
  ((with_reducible refine (HG.out _ HFW.out).mono ?_); rintro e w1 ⟨rfl, hf1⟩)
  have HF1 := As.mk (HFW.out.after hf1 (fun _ _ h => h))
  have HPGa := As.mk (hf1.heap HPG1.out (fun h => h))
  have HGEO := As.mk (heap_alloc_new w1 (.cells #[.int .i64 σ.s.g.c, .int .i64 σ.s.g.b, .int .i64 σ.s.g.p, .int .i64 σ.s.g.s] 24))
  have HPGb := As.mk (at_old (.cells #[.int .i64 σ.s.g.c, .int .i64 σ.s.g.b, .int .i64 σ.s.g.p, .int .i64 σ.s.g.s] 24) HPGa.out)
  have HF2 := As.mk (HF1.out.alloc (.cells #[.int .i64 σ.s.g.c, .int .i64 σ.s.g.b, .int .i64 σ.s.g.p, .int .i64 σ.s.g.s] 24))
  clear hf1
  go_upto_region 4 with fail
  generalize w1.alloc (.cells #[.int .i64 σ.s.g.c, .int .i64 σ.s.g.b, .int .i64 σ.s.g.p, .int .i64 σ.s.g.s] 24) = w2 at *
  generalize w1.heap.size = g9 at *
  obtain ⟨pb, hpb⟩ : ∃ pb, w.heap.size = pb := ⟨_, rfl⟩
  have HPB := As.mk hpb
  rw [hpb] at HPGb
  have z0 := cell_is (i := 0) HGEO.out rfl
  have z1 := cell_is (i := 1) HGEO.out rfl
  have z2 := cell_is (i := 2) HGEO.out rfl
  have z3 := cell_is (i := 3) HGEO.out rfl
  go_wp2_with fail
  ((with_reducible refine (HSP.out _).mono ?_); rintro e w3 ⟨rfl, hf3⟩)
  have HPGc := As.mk (hf3.heap HPGb.out (fun h => h))
  have HF3 := As.mk (HF2.out.after hf3 (fun _ _ h => h))
  have HR3 := As.mk (HR.out.none_ HF3.out)
  have HPBN := As.mk (show ¬ AF K σ pb from fun h => absurd (HLTF.out _ h) (by have := HPB.out; omega))
  clear hf3 z0 z1 z2 z3 HPGb HPGa HPG1
  go_wp2_with fail
  go_loopw [12, 13, 14, 15, 16, 17, 41] (fun v12 v13 v14 v15 v16 v17 v41 w' => ∃ (k : Int) (τ : Ar), v41 = .int .i64 k ∧ 0 ≤ k ∧ k ≤ 1 ∧ As (ArAt w' τ K ∧ τ.There ∧ τ.s.g = σ.s.g ∧ τ.s.Safe (m0 + (2 - k.toNat))) ∧ As (Fr (AF K σ) w3 w') ∧ As ((k = 0 ∧ τ = σ) ∨ (k = 1 ∧ Last τ (lo + 1).toNat (4 + which).toNat row.toNat h d σ'))) (fun _ _ _ _ _ _ v41 _ => 2 - (intOf v41).toNat)
  case atStart => exact ⟨0, σ, rfl, by omega, by omega, ⟨HR3.out, HTH.out, rfl, HSF.out⟩, ⟨Fr.refl _ _⟩, ⟨.inl ⟨rfl, rfl⟩⟩⟩
  case round =>
    obtain ⟨k, τ, rfl, hk0, hk1, HX, HST, HW⟩ := hrel
    have hlt : k < 2 := by omega
    have hlo0 : 0 ≤ lo := HLO.out.2.2.1
    have hlo1 : lo + 2 ≤ 16 := by have := HLO.out; omega
    have HSA : As (∃ n, τ.s.Safe (n + 1)) := ⟨⟨m0 + (1 - k.toNat), by rw [show m0 + (1 - k.toNat) + 1 = m0 + (2 - k.toNat) by omega]; exact HX.out.2.2.2⟩⟩
    have hsum : Last τ (lo + k).toNat (4 + which).toNat row.toNat h d σ' ∨ (k = 0 ∧ ∃ τ' e x, τ'.There ∧ One τ (lo + k).toNat (4 + which).toNat row.toNat (τ', e) x ∧ (e = 71 ∨ (e = 0 ∧ (openOf x.1 x.2).2 = false)) ∧ Last τ' (lo + 1).toNat (4 + which).toNat row.toNat h d σ') := by
      rcases HW.out with ⟨rfl, rfl⟩ | ⟨rfl, hl⟩
      · rcases HGT.out with h1 | ⟨τ', e, x, h1, h2, h3, h4⟩
        · exact .inl (by rw [show lo + 0 = lo by omega]; exact h1)
        · exact .inr ⟨rfl, τ', e, x, h1, by rw [show lo + 0 = lo by omega]; exact h2, h3, by rw [show (lo + 1).toNat = lo.toNat + 1 by omega]; exact h4⟩
      · exact .inl hl
    have HPGr := As.mk (HST.out.heap HPGc.out HPBN.out)
    rcases hsum with ⟨x, ho, hopn, hdx⟩ | ⟨hkz, τ', e', x, hth', ho, he, hl⟩
    · have HRD := As.mk (HROW.out τ k (σ', 0) x wr HX.out.1 HX.out.2.1 HX.out.2.2.1 hk0 hk1 ho HSA.out)
      obtain ⟨fd, fo⟩ := x
      dsimp only at hopn hdx
      subst hdx
      have hx1 := ho.inr rfl
      dsimp only at hx1
      have HOP := As.mk (fun (D1 O1 : Option Addr) (nd1 cd1 no1 co1 : Nat) (w' : World) (h1 : Rd .u8 w' O1 no1 fo) (h2 : Rd .u8 w' D1 nd1 d) (h3 : no1 ≤ co1) (h4 : nd1 ≤ cd1) => Open.Open_calls O1 D1 no1 co1 nd1 cd1 fo d w' h1 h2 hx1.2 hx1.1 h3 h4)
      rw [hopn] at HOP
      unfold Head.vals at HOP
      dsimp only at HOP
      have HSC := As.mk (HLTF.out)
      clear ho hopn hx1
      have HRAD := As.mk (AF.eq (K := K) (σ := σ) (σ' := τ) HX.out.2.2.1)
      go_wp2_with fail
      ((with_reducible refine HRD.out.mono ?_); rintro e w4 ⟨A3, n3, c3, A4, n4, c4, rfl, ha4, hf4, hz4, _⟩)
      have HR1 := As.mk (hz4 rfl).1
      have HR2 := As.mk (hz4 rfl).2
      have HZ3 := As.mk (show w.heap.size ≤ wr.heap.size from Nat.le_trans HF3.out.size HST.out.size)
      have HF4 := As.mk (((HF3.out.mono (T := AF K σ) (fun _ _ h => h.elim)).after HST.out (fun _ _ h => h)).after hf4 (fun _ _ h => h))
      have HPGd := As.mk (hf4.heap HPGr.out HPBN.out)
      have HA4 := As.mk ha4
      clear hz4 ha4 hf4
      obtain ⟨_, _, _, e3, hm3, hd3, _⟩ := HR1.out.rd
      obtain ⟨_, _, _, e4, hm4, hd4, _⟩ := HR2.out.rd
      injection e3 with q1 q2 q3
      injection e4 with q4 q5 q6
      subst q1 q2 q3 q4 q5 q6
      go_wp2_with fail
      ((with_reducible refine (HOP.out A3 A4 n3 c3 n4 c4 _ hd4.out hd3.out hm4.out hm3.out).mono ?_); rintro e w5 ⟨rfl, hf5⟩)
      have HF5 := As.mk hf5
      have HPGe := As.mk (hf5.heap HPGd.out (fun h => h))
      clear hf5
      go_upto_region 16 with fail
      have hnew := heap_alloc_new w5 (.cells #[.int .u8 h.kind, .int .u32 h.epoch, .int .u32 h.batch, .int .u16 h.index, .int .u16 h.count, .int .u32 h.block, .int .u32 h.more] 112)
      have HF6 := As.mk (HF5.out.alloc (.cells #[.int .u8 h.kind, .int .u32 h.epoch, .int .u32 h.batch, .int .u16 h.index, .int .u16 h.count, .int .u32 h.block, .int .u32 h.more] 112))
      generalize w5.alloc (.cells #[.int .u8 h.kind, .int .u32 h.epoch, .int .u32 h.batch, .int .u16 h.index, .int .u16 h.count, .int .u32 h.block, .int .u32 h.more] 112) = w6 at *
      have hpg := HF6.out.heap HPGd.out (fun h => h)
      have HPG5 := As.mk hpg
      generalize hg20 : w5.heap.size = g20 at *
      clear hg20
      have k0 := cell_is (i := 0) hnew rfl
      have k1 := cell_is (i := 1) hnew rfl
      have k2 := cell_is (i := 2) hnew rfl
      have k3 := cell_is (i := 3) hnew rfl
      have k4 := cell_is (i := 4) hnew rfl
      have k5 := cell_is (i := 5) hnew rfl
      have k6 := cell_is (i := 6) hnew rfl
      have x0 := cell_is (i := 0) hpg rfl
      have x1 := cell_is (i := 1) hpg rfl
      have x2 := cell_is (i := 2) hpg rfl
      have x3 := cell_is (i := 3) hpg rfl
      have x4 := cell_is (i := 4) hpg rfl
      have x5 := cell_is (i := 5) hpg rfl
      have x6 := cell_is (i := 6) hpg rfl
      have x7 := cell_is (i := 7) hpg rfl
      have y0 := free_of (i := 0) hpg
      have y1 := free_of (i := 1) hpg
      have y2 := free_of (i := 2) hpg
      have y3 := free_of (i := 3) hpg
      have y4 := free_of (i := 4) hpg
      have y5 := free_of (i := 5) hpg
      have y6 := free_of (i := 6) hpg
      have y7 := free_of (i := 7) hpg
      clear hnew hpg
      go_wp2_with fail
      have hr6 := HR1.out.none_ HF6.out
      have hF6 : Fr (AF K σ) w w6 := HF4.out.after HF6.out (fun _ _ h => h.elim)
      refine bodyPost_ret (v := .tuple #[.agg #[.int .u8 h.kind, .int .u32 h.epoch, .int .u32 h.batch, .int .u16 h.index, .int .u16 h.count, .int .u32 h.block, .int .u32 h.more, .slice A3 n3 c3], .int .i64 0]) (by simp [results, Tryz.results52, go_sem, x0, x1, x2, x3, x4, x5, x6, x7]) rfl ⟨_, rfl, ?_, ?_, ?_⟩
      · refine Row.fr (S := fun b => b = pb) (hr6.lower HZ3.out) ?_ (fun b hbo e => Row.ne hr6 HPG5.out (by decide) (e ▸ hbo))
        exact fr_set8 (b := pb) (Fr.refl (fun b => b = pb) w6) (fun _ => rfl) _ _ _ _ _ _ _ _
      · exact beside (HA4.out.none_ HF6.out) HPG5.out (fr_set8 (b := pb) (Fr.refl (fun b => b = pb) w6) (fun _ => rfl) _ _ _ _ _ _ _ _)
      · exact fr_set8 hF6 (fun hl => absurd hl (by have := HPB.out; omega)) _ _ _ _ _ _ _ _
    · subst hkz
      have hrk := read_keeps (σ := τ) (lo + 0).toNat (n := m0 + 1) (by have := HX.out.2.2.2; exact this)
      have hrs := read_same τ (lo + 0).toNat
      rw [ho.read] at hrk hrs
      dsimp only at hrk hrs
      have HN : As (τ'.There ∧ τ'.s.g = σ.s.g ∧ τ'.s.Safe (m0 + (2 - (1 : Int).toNat))) := ⟨hth', hrs.trans HX.out.2.2.1, hrk⟩
      have HL := As.mk hl
      rcases he with rfl | ⟨rfl, hopn⟩
      · have HRD := HROW.out τ 0 (τ', 71) x wr HX.out.1 HX.out.2.1 HX.out.2.2.1 hk0 hk1 ho HSA.out
        rw [Int.add_zero] at HRD
        replace HRD := As.mk HRD
        clear ho hl hth' hrk hrs
        go_wp2_with fail
        ((with_reducible refine HRD.out.mono ?_); rintro e w4 ⟨A3, n3, c3, A4, n4, c4, rfl, ha4, hf4, _, hy4⟩)
        obtain ⟨y1, y2⟩ := hy4 (show (71 : Int) ≠ 0 by decide)
        injection y1 with q1 q2 q3
        injection y2 with q4 q5 q6
        subst q1 q2 q3 q4 q5 q6
        have HA4 := As.mk ha4
        have HF4 := As.mk (HST.out.after hf4 (fun _ _ h => h))
        clear hf4 ha4 hy4
        go_wp2_with fail
        exact ⟨⟨1, τ', rfl, by omega, by omega, ⟨HA4.out, HN.out⟩, HF4, ⟨.inr ⟨rfl, HL.out⟩⟩⟩, by simp [intOf]⟩
      · have HRD := HROW.out τ 0 (τ', 0) x wr HX.out.1 HX.out.2.1 HX.out.2.2.1 hk0 hk1 ho HSA.out
        rw [Int.add_zero] at HRD
        replace HRD := As.mk HRD
        obtain ⟨fd, fo⟩ := x
        dsimp only at hopn
        have hx1 := ho.inr rfl
        dsimp only at hx1
        have HOP := As.mk (fun (D1 O1 : Option Addr) (nd1 cd1 no1 co1 : Nat) (w' : World) (h1 : Rd .u8 w' O1 no1 fo) (h2 : Rd .u8 w' D1 nd1 fd) (h3 : no1 ≤ co1) (h4 : nd1 ≤ cd1) => Open.Open_calls O1 D1 no1 co1 nd1 cd1 fo fd w' h1 h2 hx1.2 hx1.1 h3 h4)
        rw [hopn] at HOP
        unfold Head.vals at HOP
        clear ho hl hth' hrk hrs hopn hx1
        generalize (openOf fd fo).1 = ho at *
        go_wp2_with fail
        ((with_reducible refine HRD.out.mono ?_); rintro e w4 ⟨A3, n3, c3, A4, n4, c4, rfl, ha4, hf4, hz4, _⟩)
        have HR1 := As.mk (hz4 rfl).1
        have HR2 := As.mk (hz4 rfl).2
        have HF4 := As.mk (HST.out.after hf4 (fun _ _ h => h))
        have HA4 := As.mk ha4
        clear hz4 ha4 hf4
        obtain ⟨_, _, _, e3, hm3, hd3, _⟩ := HR1.out.rd
        obtain ⟨_, _, _, e4, hm4, hd4, _⟩ := HR2.out.rd
        injection e3 with q1 q2 q3
        injection e4 with q4 q5 q6
        subst q1 q2 q3 q4 q5 q6
        go_wp2_with ((with_reducible refine (HOP.out A3 A4 n3 c3 n4 c4 _ hd4.out hd3.out hm4.out hm3.out).mono ?_); rintro e w5 ⟨rfl, hf5⟩; have HF5 := As.mk hf5; clear hf5)
        exact ⟨⟨1, τ', rfl, by omega, by omega, ⟨(HA4.out.none_ (HF5.out.alloc _)), HN.out⟩, ⟨HF4.out.after (HF5.out.alloc _) (fun _ _ h => h.elim)⟩, ⟨.inr ⟨rfl, HL.out⟩⟩⟩, by simp [intOf]⟩
end Go.Proofs.YteofgpaceeibpaaGreat.AGet

/- gabionlaw13: its shapes, pages, and whether pages are the same. | Plain laws: an array of fresh chips; what stands on them; the stripe and the staged page of 'kept'. | gabionlaw13: what an array should hold, in memory. | gabionlaw13.act: a stripe is written; a page is staged. | gabionlaw13.act: a page is staged. | gabionlaw13.all: an array holds it. | Plain law of 'kept': a stripe and a staged page of fresh chips are read when a chip is dead. | gabionlaw13.kept. -/
import Derived.Test.YteofgpaceeibpaaGreatPartDev
import Derived.Deep.RegionLaw
import Derived.Deep.RegionHeld3
import Derived.StillTailTactics
import Derived.Test.YteofgpaceeibpaaGreatPartFmt
namespace Go.Proofs.YteofgpaceeibpaaGreat.LawA
open Go.RowKit Go.Proofs.YteofgpaceeibpaaGreat.Gab Go.Proofs.YteofgpaceeibpaaGreat.Geom Go.Proofs.YteofgpaceeibpaaGreat.Sum Go.Proofs.YteofgpaceeibpaaGreat.Ref Go.Proofs.YteofgpaceeibpaaGreat.Par Go.Proofs.YteofgpaceeibpaaGreat.Fields Go.Proofs.YteofgpaceeibpaaGreat.Seal
open Go.Proofs.YteofgpaceeibpaaGreat.Wr (InR)
open Go.Proofs.YteofgpaceeibpaaGreat.Heap (cell_is)
open Go.Proofs.YteofgpaceeibpaaGreat.Str (pcells)
open Go.Proofs.YteofgpaceeibpaaGreat.ARead (fr_set8)
set_option linter.unusedVariables false
set_option linter.unusedSimpArgs false

theorem Row.at_ {e : TypeId} {k : IntKind} {w : World} {base : Nat} {v : Value} {xs : List Int} (h : Row e k w base v xs) (hx : 0 < xs.length) : ∃ g cap, v = .slice (some ⟨g, 0, none⟩) xs.length cap ∧ RowAt e k w base g xs.length cap xs := by
  have h0 := h
  rcases h.2 with ⟨rfl, hn⟩ | ⟨g, cap, cur, rfl, _⟩
  · omega
  · exact ⟨g, cap, rfl, rfl, h0⟩
theorem infoSP : (Tryz.prog.info? 117).map (fun i => (i.zero, i.size, i.bytes)) = some (some (.agg #[.int .u8 0, .int .u32 0, .int .u32 0, .int .u16 0, .int .u16 0, .int .u32 0, .int .u32 0, .slice none 0 0]), 8, 48) := by kernel_rfl
def u64of (n : Int) : Int := n % 18446744073709551616
/-- A shape, of some members. -/
def geoOf (n : Int) : Geo := ⟨3 + u64of n % 3, 16, 4, 256⟩
theorem geo_ok (n : Int) : (geoOf n).Ok := ⟨by show 3 ≤ 3 + u64of n % 3 ∧ 3 + u64of n % 3 ≤ 16; omega, by show (16 : Int) ≤ 16 ∧ (16 : Int) ≤ 64; decide, by show (4 : Int) ≤ 4 ∧ (4 : Int) ≤ 32; decide, by show (256 : Int) ≤ 256 ∧ (256 : Int) ≤ 1024; decide, by show (256 : Int) % 64 = 0; decide⟩

set_option maxHeartbeats 1000000 in
set_option maxRecDepth 100000 in
theorem geo_calls (n : Int) (w : World) : Calls Tryz.prog 8 #[.int .i64 n] w fun e w' => e = .returned (geoOf n).val ∧ Fr None_ w w' := by
  have h0 : IntKind.u64.wrap n = u64of n := IntKind.wrap_u64 _
  have h1 : 0 ≤ u64of n := by unfold u64of; omega
  have h2 : u64of n < 18446744073709551616 := by unfold u64of; omega
  have h4 : 0 ≤ u64of n % 3 := by omega
  have h5 : u64of n % 3 < 3 := by omega
  have h6 : IntKind.u64.wrap (Int.tmod (u64of n) 3) = u64of n % 3 := by rw [Int.tmod_eq_emod_of_nonneg h1, IntKind.wrap_u64]; omega
  unfold Geo.val geoOf
  generalize u64of n = u at *
  go_enter Tryz.func8, Tryz.ntmps8
  go_wp2
  exact bodyPost_ret (v := .agg #[.int .i64 (3 + u % 3), .int .i64 16, .int .i64 4, .int .i64 256]) (by simp [results, Tryz.results8, go_sem]) rfl ⟨rfl, (Fr.refl None_ w).alloc _⟩

/-- The header of the n-th page. -/
def phead (n c : Int) : Head := ⟨4, c, 0, 0, 0, n, 0⟩
theorem phead_ok {n c : Int} (h0 : 0 ≤ n) (h1 : n < 4294967296) (h2 : 0 ≤ c) (h3 : c < 256) : (phead n c).Ok := ⟨by simp [phead], ⟨h2, by show c < 4294967296; omega⟩, by simp [phead], by simp [phead], by simp [phead], ⟨h0, h1⟩, by simp [phead]⟩
def pbyte (n c i : Int) : Int := (c + (i + n)) % 256
def pdatTo (n c : Int) (k : Nat) : List Int := (List.range 256).map fun (j : Nat) => if j < k then pbyte n c j else 0
/-- Its bytes. -/
def pdat (n c : Int) : List Int := (List.range 256).map fun (j : Nat) => pbyte n c j
theorem pdat_len (n c : Int) : (pdat n c).length = 256 := by simp [pdat]
theorem pdat_range (n c : Int) : InR 256 (pdat n c) := fun x hx => by
  obtain ⟨j, _, rfl⟩ := List.mem_map.1 hx
  show 0 ≤ pbyte n c j ∧ pbyte n c j < 256
  unfold pbyte
  omega
theorem pdatTo_set (n c : Int) {k : Nat} (hk : k < 256) : (pdatTo n c k).set k (pbyte n c k) = pdatTo n c (k + 1) := by
  apply List.ext_getElem?
  intro j
  unfold pdatTo
  by_cases hj : j = k
  · subst hj
    rw [List.getElem?_set_self (by simpa using hk), List.getElem?_map, List.getElem?_range hk]
    show some (pbyte n c j) = some (if j < j + 1 then pbyte n c j else 0)
    rw [if_pos (Nat.lt_succ_self j)]
  · rw [List.getElem?_set_ne (fun e => hj e.symm)]
    by_cases h2 : j < 256
    · rw [List.getElem?_map, List.getElem?_map, List.getElem?_range h2]
      show some (if j < k then pbyte n c j else 0) = some (if j < k + 1 then pbyte n c j else 0)
      by_cases h3 : j < k
      · rw [if_pos h3, if_pos (by omega)]
      · rw [if_neg h3, if_neg (by omega)]
    · rw [List.getElem?_eq_none (by first | (rw [List.length_map, List.length_range]; omega) | (rw [List.length_set, List.length_map, List.length_range]; omega)), List.getElem?_eq_none (by first | (rw [List.length_map, List.length_range]; omega) | (rw [List.length_replicate]; omega))]
theorem pdatTo_zero (n c : Int) : pdatTo n c 0 = List.replicate 256 0 := by
  apply List.ext_getElem?
  intro j
  unfold pdatTo
  by_cases h2 : j < 256
  · rw [List.getElem?_map, List.getElem?_range h2, List.getElem?_replicate, if_pos h2]
    rfl
  · rw [List.getElem?_eq_none (by first | (rw [List.length_map, List.length_range]; omega) | (rw [List.length_set, List.length_map, List.length_range]; omega)), List.getElem?_eq_none (by first | (rw [List.length_map, List.length_range]; omega) | (rw [List.length_replicate]; omega))]
theorem pdatTo_all (n c : Int) : pdatTo n c 256 = pdat n c := by
  apply List.ext_getElem?
  intro j
  unfold pdatTo pdat
  by_cases h2 : j < 256
  · rw [List.getElem?_map, List.getElem?_map, List.getElem?_range h2]
    show some (if j < 256 then pbyte n c j else 0) = _
    rw [if_pos h2]
    rfl
  · rw [List.getElem?_eq_none (by first | (rw [List.length_map, List.length_range]; omega) | (rw [List.length_set, List.length_map, List.length_range]; omega)), List.getElem?_eq_none (by first | (rw [List.length_map, List.length_range]; omega) | (rw [List.length_replicate]; omega))]

set_option maxHeartbeats 4000000 in
set_option maxRecDepth 100000 in
theorem page_calls (n c : Int) (w : World) (h0 : 0 ≤ n) (h1 : n ≤ 1000) (h2 : 0 ≤ c) (h3 : c < 256) :
    Calls Tryz.prog 46 #[.int .i64 n, .int .u8 c] w fun e w' => ∃ v, e = .returned (.agg (pcells (phead n c) v)) ∧ Row 5 .u8 w' w.heap.size v (pdat n c) ∧ Fr None_ w w' := by
  have HZ := As.mk (fun (w : World) => show Calls Tryz.prog 79 #[.int .i64 256] w fun e w' => ∃ v, e = .returned v ∧ Row 5 .u8 w' w.heap.size v (List.replicate 256 0) ∧ Fr None_ w w' from Zeros_calls 256 w (by decide))
  have HPG := As.mk (heap_alloc_new w (.cells #[.int .u8 0, .int .u32 0, .int .u32 0, .int .u16 0, .int .u16 0, .int .u32 0, .int .u32 0, .slice none 0 0] 117))
  unfold pcells phead
  go_enter Tryz.func46, Tryz.ntmps46
  go_wp2_with fail
  ((with_reducible refine (HZ.out _).mono ?_); rintro e w4 ⟨v4, rfl, hrow4, hf4⟩)
  have HF4 := As.mk (((Fr.refl None_ w).alloc (.cells #[.int .u8 0, .int .u32 0, .int .u32 0, .int .u16 0, .int .u16 0, .int .u32 0, .int .u32 0, .slice none 0 0] 117)).after hf4 (fun _ _ h => h))
  have HPA := As.mk (hf4.heap HPG.out (fun h => h))
  rw [size_new _ rfl] at hrow4
  obtain ⟨gd, capd, ed, hrat⟩ := Row.at_ hrow4 (by simp)
  have hbl := hrow4.blk gd (by rw [ed]; rfl)
  have HGD := As.mk (show w.heap.size < gd from by have h1 := hbl.1; omega)
  rw [show (List.replicate 256 (0 : Int)).length = 256 by simp] at ed hrat
  subst ed
  rw [← pdatTo_zero n c] at hrat
  have HRT := As.mk hrat
  clear hrow4 hf4 hrat hbl
  go_wp2_with fail
  go_loopw [6] (fun v6 w' => ∃ k : Int, v6 = .int .i64 k ∧ 0 ≤ k ∧ k ≤ 256 ∧ As (RowAt 5 .u8 w' (w.heap.size + 1) gd 256 capd (pdatTo n c k.toNat)) ∧ As (Fr (fun b => b = gd) w4 w')) (fun v6 _ => (256 - intOf v6).toNat)
  case atStart => exact ⟨0, rfl, by omega, by omega, ⟨HRT.out⟩, ⟨Fr.refl _ _⟩⟩
  case round =>
    obtain ⟨k, rfl, hk0, hk, HY, HG⟩ := hrel
    by_cases hlk : k < 256
    · have hcell := HY.out.cell k hk0 hlk
      obtain ⟨c1, f1⟩ := hcell
      have HST1 := As.mk (show RowAt 5 .u8 (wr.setCell ⟨gd, k.toNat, none⟩ (.int .u8 (pbyte n c k))) (w.heap.size + 1) gd 256 capd (pdatTo n c (k + 1).toNat) from by
        have h := HY.out.store k (pbyte n c k)
        rw [show pbyte n c k = pbyte n c (k.toNat : Int) by rw [show (k.toNat : Int) = k by omega], pdatTo_set n c (by omega)] at h
        rw [show (k + 1).toNat = k.toNat + 1 by omega, show pbyte n c k = pbyte n c (k.toNat : Int) by rw [show (k.toNat : Int) = k by omega]]
        exact h)
      have HG1 := As.mk (HG.out.setCell (p := ⟨gd, k.toNat, none⟩) (fun _ => rfl) (.int .u8 (pbyte n c k)))
      unfold pbyte at HST1 HG1
      go_wp2_with fail
      exact ⟨⟨k + 1, rfl, by omega, by omega, HST1, HG1⟩, by simp [intOf]; omega⟩
    · have HKE : As (k = 256) := ⟨by omega⟩
      have hpa := HG.out.heap HPA.out (by have := HGD.out; omega)
      have x0 := cell_is (i := 0) hpa rfl
      have x1 := cell_is (i := 1) hpa rfl
      have x2 := cell_is (i := 2) hpa rfl
      have x3 := cell_is (i := 3) hpa rfl
      have x4 := cell_is (i := 4) hpa rfl
      have x5 := cell_is (i := 5) hpa rfl
      have x6 := cell_is (i := 6) hpa rfl
      have x7 := cell_is (i := 7) hpa rfl
      have y0 := free_of (i := 0) hpa
      have y1 := free_of (i := 1) hpa
      have y2 := free_of (i := 2) hpa
      have y3 := free_of (i := 3) hpa
      have y4 := free_of (i := 4) hpa
      have y5 := free_of (i := 5) hpa
      have y6 := free_of (i := 6) hpa
      have y7 := free_of (i := 7) hpa
      have HPB := As.mk hpa
      have l0 : w.heap.size < wr.heap.size := (Array.getElem?_eq_some_iff.1 hpa).1
      have HFN := As.mk (show Fr None_ w wr from HF4.out.after HG.out (fun b hb e => absurd hb (by have := HGD.out; omega)))
      clear hpa
      have hn32 : IntKind.u32.wrap n = n := by rw [IntKind.wrap_u32]; omega
      have hc32 : IntKind.u32.wrap c = c := by rw [IntKind.wrap_u32]; omega
      go_wp2_with fail
      refine bodyPost_ret (v := .agg #[.int .u8 4, .int .u32 c, .int .u32 0, .int .u16 0, .int .u16 0, .int .u32 n, .int .u32 0, .slice (some ⟨gd, 0, none⟩) 256 capd]) (by simp [results, Tryz.results46, go_sem, x0, x1, x2, x3, x4, x5, x6, x7]) rfl ⟨_, rfl, ?_, ?_⟩
      · have h1 := HY.out.2
        rw [show k.toNat = 256 by have := HKE.out; omega, pdatTo_all] at h1
        refine Row.fr (S := fun b => b = w.heap.size) (h1.lower (Nat.le_succ _)) ?_ (fun b hbo e => Row.ne h1 HPB.out (by decide) (e ▸ hbo))
        exact fr_set8 (b := w.heap.size) (Fr.refl (fun b => b = w.heap.size) wr) (fun _ => rfl) _ _ _ _ _ _ _ _
      · exact fr_set8 (b := w.heap.size) HFN.out (fun hl => absurd hl (Nat.lt_irrefl _)) _ _ _ _ _ _ _ _
set_option maxHeartbeats 1000000 in
set_option maxRecDepth 100000 in
/-- The same page, twice. -/
theorem same_calls (h : Head) (A B : Option Addr) (n c m d : Nat) (xs : List Int) (w : World) (hA : Rd .u8 w A n xs) (hB : Rd .u8 w B m xs) (hx : InR 256 xs) :
    Calls Tryz.prog 51 #[.agg (pcells h (.slice A n c)), .agg (pcells h (.slice B m d))] w fun e w' => e = .returned (.bool true) ∧ Fr None_ w w' := by
  have HS := As.mk (fun (w' : World) (hf : Fr None_ w w') => Same_calls A B n c m d xs xs w' (hA.none_ hf) (hB.none_ hf) hx hx)
  simp only [decide_true] at HS
  unfold pcells
  clear hA hB hx
  go_enter Tryz.func51, Tryz.ntmps51
  go_wp2_with fail
  ((with_reducible refine (HS.out _ (((Fr.refl None_ w).alloc _).alloc _)).mono ?_); rintro e w1 ⟨rfl, rfl⟩)
  go_wp2_with fail
  go_ret
  exact ⟨rfl, ((Fr.refl None_ w).alloc _).alloc _⟩
end Go.Proofs.YteofgpaceeibpaaGreat.LawA
namespace Go.Proofs.YteofgpaceeibpaaGreat.PlB
open Go.RowKit Go.Proofs.YteofgpaceeibpaaGreat.Gab Go.Proofs.YteofgpaceeibpaaGreat.Geom Go.Proofs.YteofgpaceeibpaaGreat.Ref Go.Proofs.YteofgpaceeibpaaGreat.Fields Go.Proofs.YteofgpaceeibpaaGreat.Seal Go.Proofs.YteofgpaceeibpaaGreat.Nand Go.Proofs.YteofgpaceeibpaaGreat.NandA Go.Proofs.YteofgpaceeibpaaGreat.NandB Go.Proofs.YteofgpaceeibpaaGreat.NandC Go.Proofs.YteofgpaceeibpaaGreat.NandD Go.Proofs.YteofgpaceeibpaaGreat.NandE Go.Proofs.YteofgpaceeibpaaGreat.NandF Go.Proofs.YteofgpaceeibpaaGreat.NandH Go.Proofs.YteofgpaceeibpaaGreat.RemapA Go.Proofs.YteofgpaceeibpaaGreat.VolA Go.Proofs.YteofgpaceeibpaaGreat.VolB Go.Proofs.YteofgpaceeibpaaGreat.VolD Go.Proofs.YteofgpaceeibpaaGreat.VolE Go.Proofs.YteofgpaceeibpaaGreat.VolF Go.Proofs.YteofgpaceeibpaaGreat.VolG Go.Proofs.YteofgpaceeibpaaGreat.MemA Go.Proofs.YteofgpaceeibpaaGreat.MemB Go.Proofs.YteofgpaceeibpaaGreat.MemC Go.Proofs.YteofgpaceeibpaaGreat.ArrA Go.Proofs.YteofgpaceeibpaaGreat.ArrC Go.Proofs.YteofgpaceeibpaaGreat.ArrD Go.Proofs.YteofgpaceeibpaaGreat.ArrE Go.Proofs.YteofgpaceeibpaaGreat.ArrF Go.Proofs.YteofgpaceeibpaaGreat.ArrG Go.Proofs.YteofgpaceeibpaaGreat.ArrI Go.Proofs.YteofgpaceeibpaaGreat.AOrd Go.Proofs.YteofgpaceeibpaaGreat.AOrdB Go.Proofs.YteofgpaceeibpaaGreat.AWrA Go.Proofs.YteofgpaceeibpaaGreat.AWrB Go.Proofs.YteofgpaceeibpaaGreat.PlA Go.Proofs.YteofgpaceeibpaaGreat.AGet Go.Proofs.YteofgpaceeibpaaGreat.LawA
open Go.Proofs.YteofgpaceeibpaaGreat.Open (openOf okB rightB numAt zeroHead)
open Go.Proofs.YteofgpaceeibpaaGreat.Wr (InR)
set_option linter.unusedVariables false
set_option linter.unusedSimpArgs false

/-! ### an array of fresh chips -/
def V1 (g : Geo) : View := (Vf g g.c.toNat).saved g.c.toNat 3 (spage g 1)
theorem afmt_new {g : Geo} (hg : g.Ok) : ∃ σ, (St.new g).afmt = (σ, 0) ∧ Whole σ g (V1 g) 1 := by
  obtain ⟨s1, h1, e1⟩ := sees_afN (sees_new g) g.c.toNat
  have e1' : (St.new g).afN (St.new g).g.c.toNat = (s1, 0) := e1
  have hw : Whole (St.new g).ar0 g (Vf g g.c.toNat) 0 := by
    refine ⟨?_, rfl, fun c => rfl, rfl⟩
    show Sees ((St.new g).afN g.c.toNat).1 g _
    rw [e1]
    exact h1
  obtain ⟨s2, h2, e2⟩ := hw.save hg (by decide) (fun _ _ => rfl)
  refine ⟨_, ?_, h2⟩
  unfold St.afmt
  rw [e1']
  exact e2
theorem afmt_safe {s : St} (hg : s.g.Ok) {m : Nat} (h : s.Safe (m + 1200)) : s.afmt.1.s.Safe m := by
  have hc := hg.c
  have h1 : (s.afN s.g.c.toNat).1.Safe (m + 34) := safe_afN hg s.g.c.toNat (m + 34) (h.le (by omega))
  unfold St.afmt
  split
  · unfold Ar.save
    refine safe_saveN _ _ _ _ _ ?_
    have hn : s.ar0.s.n ≤ 17 := by
      show ((s.afN s.g.c.toNat).1.g.c + 1).toNat ≤ 17
      rw [(afN_g s s.g.c.toNat).1]
      omega
    exact h1.le (by omega)
  · exact h1.le (by omega)
theorem new_safe (g : Geo) {n : Nat} (hn : n ≤ 4000000000000000000) : (St.new g).Safe n := ⟨fun e he => (by cases he), fun _ _ => rfl, ⟨Int.le_refl _, by show (0 : Int) + n ≤ _; omega⟩, fun _ _ => ⟨Int.le_refl _, by show (0 : Int) + n ≤ _; omega⟩⟩
theorem safe_kill {s : St} {n : Nat} (h : s.Safe n) (k : Nat) : (s.kill k).Safe n := ⟨h.calm, h.good, h.ops, h.er⟩
theorem V1_nx {g : Geo} (c : Nat) {b : Nat} (hb : 3 < b) : (V1 g).nx c b = 0 := by
  show (if c < g.c.toNat ∧ b = 3 then (1 : Int) else if c < g.c.toNat ∧ b = 1 then 1 else 0) = 0
  rw [if_neg (fun h => by omega), if_neg (fun h => by omega)]
theorem V1_pg {g : Geo} (c : Nat) {b : Nat} (hb : 3 < b) (q : Nat) : (V1 g).pg c b q = none := by
  show (if c < g.c.toNat ∧ b = 3 then _ else if c < g.c.toNat ∧ b = 1 then _ else none) = none
  rw [if_neg (fun h => by omega), if_neg (fun h => by omega)]

/-! ### a row of pages is programmed -/
def _root_.Go.Proofs.YteofgpaceeibpaaGreat.PlA.View.row (V : View) (b q : Nat) (pg : Int → List Int × List Int) (ms : List Int) : View := ⟨V.dead, fun c b' k => if (c : Int) ∈ ms ∧ b' = b ∧ k = q then some (pg c) else V.pg c b' k, fun c b' => if (c : Int) ∈ ms ∧ b' = b then (q : Int) + 1 else V.nx c b'⟩
theorem whole_progs {g : Geo} {q : Int} (hg : g.Ok) {seg row : Int} (ha : g.At seg row) (pg : Int → List Int × List Int) : ∀ (ms : List Int) (σ : Ar) (V : View) (k : Int), Whole σ g V q → ms.Nodup → (∀ m ∈ ms, 0 ≤ m ∧ m < g.c ∧ V.dead m.toNat = false ∧ V.nx m.toNat (seg.toNat + 2) = row) →
    ∃ s', Sees s' g (V.row (seg.toNat + 2) row.toNat pg ms) ∧ ms.foldl (pstep seg row pg) (σ, k, 0) = ({ σ with s := s' }, k, 0) ∧ ∀ n, σ.s.Safe (n + ms.length) → s'.Safe n
  | [], σ, V, k, h, _, _ => ⟨σ.s, h.sees.as (fun _ => rfl) (fun c b j => by simp [View.row]) (fun c b => by simp [View.row]), rfl, fun n h => h⟩
  | m :: ms, σ, V, k, h, hnd, hm => by
    obtain ⟨m0, m1, md, mn⟩ := hm m List.mem_cons_self
    have hseg := ha.seg
    have hrow := ha.row
    have em : (m.toNat : Int) = m := by omega
    obtain ⟨s1, h1, e1, f1⟩ := h.prog (m := m.toNat) (b := seg.toNat) (k := row.toNat) hg (pg m).1 (pg m).2 (by omega) (by omega) md (by rw [mn]; omega)
    have hst : pstep seg row pg (σ, k, 0) m = ({ σ with s := s1 }, k, 0) := by
      unfold pstep
      dsimp only
      rw [if_pos rfl, e1]
      rfl
    rw [List.nodup_cons] at hnd
    obtain ⟨s2, h2, e2, f2⟩ := whole_progs hg ha pg ms { σ with s := s1 } _ k (h.turn h1) hnd.2 (fun x hx => by
      obtain ⟨x0, x1, xd, xn⟩ := hm x (List.mem_cons_of_mem _ hx)
      refine ⟨x0, x1, xd, ?_⟩
      show (if x.toNat = m.toNat ∧ _ then _ else V.nx x.toNat (seg.toNat + 2)) = row
      rw [if_neg (fun hh => hnd.1 (by rw [show m = x by omega]; exact hx))]
      exact xn)
    refine ⟨s2, h2.as (fun _ => rfl) (fun c b j => ?_) (fun c b => ?_), ?_⟩
    · show (if (c : Int) ∈ ms ∧ b = seg.toNat + 2 ∧ j = row.toNat then some (pg c) else if c = m.toNat ∧ b = seg.toNat + 2 ∧ j = row.toNat then some ((pg m).1, (pg m).2) else V.pg c b j) = if (c : Int) ∈ m :: ms ∧ b = seg.toNat + 2 ∧ j = row.toNat then some (pg c) else V.pg c b j
      by_cases hb : b = seg.toNat + 2 ∧ j = row.toNat
      · by_cases hc : (c : Int) ∈ ms
        · rw [if_pos ⟨hc, hb⟩, if_pos ⟨List.mem_cons_of_mem _ hc, hb⟩]
        · rw [if_neg (fun h => hc h.1)]
          by_cases he : c = m.toNat
          · rw [if_pos ⟨he, hb⟩, if_pos ⟨by rw [he, em]; exact List.mem_cons_self, hb⟩, he, em]
          · rw [if_neg (fun h => he h.1), if_neg (fun h => by
              rcases List.mem_cons.1 h.1 with h2 | h2
              · exact he (by omega)
              · exact hc h2)]
      · rw [if_neg (fun h => hb h.2), if_neg (fun h => hb h.2), if_neg (fun h => hb h.2)]
    · show (if (c : Int) ∈ ms ∧ b = seg.toNat + 2 then (row.toNat : Int) + 1 else if c = m.toNat ∧ b = seg.toNat + 2 then (row.toNat : Int) + 1 else V.nx c b) = if (c : Int) ∈ m :: ms ∧ b = seg.toNat + 2 then (row.toNat : Int) + 1 else V.nx c b
      by_cases hb : b = seg.toNat + 2
      · by_cases hc : (c : Int) ∈ ms
        · rw [if_pos ⟨hc, hb⟩, if_pos ⟨List.mem_cons_of_mem _ hc, hb⟩]
        · rw [if_neg (fun h => hc h.1)]
          by_cases he : c = m.toNat
          · rw [if_pos ⟨he, hb⟩, if_pos ⟨by rw [he, em]; exact List.mem_cons_self, hb⟩]
          · rw [if_neg (fun h => he h.1), if_neg (fun h => by
              rcases List.mem_cons.1 h.1 with h2 | h2
              · exact he (by omega)
              · exact hc h2)]
      · rw [if_neg (fun h => hb h.2), if_neg (fun h => hb h.2), if_neg (fun h => hb h.2)]
    · rw [List.foldl_cons, hst]
      exact ⟨e2, fun n hs => f2 n (f1 (n + ms.length) (by rw [show n + ms.length + 1 = n + (m :: ms).length by rw [List.length_cons]; omega]; exact hs))⟩
theorem ahead_none {σ : Ar} {g : Geo} {V : View} {q : Int} (h : Whole σ g V q) : σ.ahead = -1 := by
  unfold Ar.ahead
  rw [h.set]
  rfl

/-! ### pages as they are read -/
theorem blank_not (g : Geo) : (openOf (List.replicate g.s.toNat 255) (List.replicate 64 255)).2 = false := by
  have h1 : (numAt (List.replicate 64 255) 0 2 == 22356) = false := by decide +kernel
  have h2 : okB (List.replicate g.s.toNat 255) (List.replicate 64 255) = false := by
    unfold okB rightB
    rw [h1]
    simp
  unfold openOf
  rw [h2]
  rfl
theorem open_sealed {h : Head} (hh : h.Ok) (h1 : 1 ≤ h.kind) (h6 : h.kind ≤ 6) (d : List Int) : openOf d (sealOf h d []) = (h, true) := Go.Proofs.YteofgpaceeibpaaGreat.OS.open_seal hh h1 h6 (fun x hx => by cases hx)
theorem open_page {n c : Int} (h0 : 0 ≤ n) (h1 : n < 4294967296) (h2 : 0 ≤ c) (h3 : c < 256) : openOf (pdat n c) (sealOf (phead n c) (pdat n c) []) = (phead n c, true) := open_sealed (phead_ok h0 h1 h2 h3) (by show (1 : Int) ≤ 4; decide) (by show (4 : Int) ≤ 6; decide) _
end Go.Proofs.YteofgpaceeibpaaGreat.PlB
namespace Go.Proofs.YteofgpaceeibpaaGreat.HeldA
open Go.RowKit Go.Proofs.YteofgpaceeibpaaGreat.Gab Go.Proofs.YteofgpaceeibpaaGreat.Geom Go.Proofs.YteofgpaceeibpaaGreat.Sum Go.Proofs.YteofgpaceeibpaaGreat.Ref Go.Proofs.YteofgpaceeibpaaGreat.Par Go.Proofs.YteofgpaceeibpaaGreat.Fields Go.Proofs.YteofgpaceeibpaaGreat.Nand Go.Proofs.YteofgpaceeibpaaGreat.NandA Go.Proofs.YteofgpaceeibpaaGreat.ArrA Go.Proofs.YteofgpaceeibpaaGreat.AWrA
open Go.Proofs.YteofgpaceeibpaaGreat.Heap (cell_is heap_set fr_set1)
open Go.Proofs.YteofgpaceeibpaaGreat.Str (pcells RowV.ne)
set_option linter.unusedVariables false
set_option linter.unusedSimpArgs false

abbrev HT : TypeId := 55
abbrev LP : TypeId := 34
abbrev SP : TypeId := 117
/-- What is held. -/
structure Held where
  rows : Nat → List (List (Head × List Int))
  staged : List (Head × List Int)
  lost : Int
/-- Where it lies. -/
structure HLay where
  hb : Nat
  r : Nat → Value
  rv : Nat → List Value
  st : Value
  sv : List Value
/-- A list of pages. -/
def PL (w : World) (base : Nat) (v : Value) (l : List (Head × List Int)) : Prop := ∃ vs, RowV SP 8 w base v l.length vs ∧ SPs None_ w vs l
theorem spsTy {S F : Nat → Prop} {w w' : World} {vs : List Value} {l : List (Head × List Int)} (h : SPs F w vs l) (hf : Fr S w w') (hS : ∀ b cs, w.heap[b]? = some (.cells cs 5 (0, 0)) → ¬ S b) : SPs F w' vs l :=
  ⟨h.1, fun j hj d => ⟨(h.2 j hj d).1, (h.2 j hj d).2.1.fr hf hS, (h.2 j hj d).2.2⟩⟩
theorem PL.fr {S : Nat → Prop} {w w' : World} {base : Nat} {v : Value} {l : List (Head × List Int)} (h : PL w base v l) (hf : Fr S w w') (h0 : ∀ b, v.ownBlock = some b → ¬ S b) (hS : ∀ b cs, w.heap[b]? = some (.cells cs 5 (0, 0)) → ¬ S b) : PL w' base v l := by
  obtain ⟨vs, h1, h2⟩ := h
  exact ⟨vs, h1.fr hf h0, spsTy h2 hf hS⟩
theorem PL.none_ {w w' : World} {base : Nat} {v : Value} {l : List (Head × List Int)} (h : PL w base v l) (hf : Fr None_ w w') : PL w' base v l := h.fr hf (fun _ _ h => h) (fun _ _ _ h => h)
theorem PL.blk {w : World} {base : Nat} {v : Value} {l : List (Head × List Int)} (h : PL w base v l) {b : Nat} (hb : v.ownBlock = some b) : base ≤ b ∧ b < w.heap.size ∧ ∃ cs, w.heap[b]? = some (.cells cs SP (0, 0)) := by
  obtain ⟨vs, h1, _⟩ := h
  exact RowV.blk h1 b hb
theorem PL.lower {w : World} {base base' : Nat} {v : Value} {l : List (Head × List Int)} (h : PL w base v l) (hb : base' ≤ base) : PL w base' v l := by
  obtain ⟨vs, h1, h2⟩ := h
  exact ⟨vs, h1.lower hb, h2⟩
structure HeldAt (w : World) (base : Nat) (H : Held) (Y : HLay) : Prop where
  main : w.heap[Y.hb]? = some (.cells #[Y.r 0, Y.r 1, Y.r 2, Y.r 3, Y.st, .int .i64 H.lost] HT (0, 0))
  low : base ≤ Y.hb
  rows : ∀ k, k < 4 → RowV LP 1 w base (Y.r k) (H.rows k).length (Y.rv k)
  page : ∀ k, k < 4 → ∀ n, n < (H.rows k).length → PL w base ((Y.rv k).getD n undef) ((H.rows k).getD n [])
  staged : RowV SP 8 w base Y.st H.staged.length Y.sv
  spg : SPs None_ w Y.sv H.staged
  apart : ∀ k k', k < 4 → k' < 4 → k ≠ k' → ∀ b, (Y.r k).ownBlock = some b → (Y.r k').ownBlock ≠ some b
  sep : ∀ k, k < 4 → ∀ n, n < (H.rows k).length → ∀ b, ((Y.rv k).getD n undef).ownBlock = some b → Y.st.ownBlock ≠ some b
def HTy (T : TypeId) : Prop := T = HT ∨ T = LP ∨ T = SP ∨ T = 5
theorem HeldAt.ty {S : Nat → Prop} {w w' : World} {base : Nat} {H : Held} {Y : HLay} (h : HeldAt w base H Y) (hf : Fr S w w') (hS : ∀ b cs T f, w.heap[b]? = some (.cells cs T f) → HTy T → ¬ S b) : HeldAt w' base H Y := by
  have hu : ∀ b cs, w.heap[b]? = some (.cells cs 5 (0, 0)) → ¬ S b := fun b cs hb => hS b cs _ _ hb (.inr (.inr (.inr rfl)))
  refine ⟨hf.heap h.main (hS _ _ _ _ h.main (.inl rfl)), h.low, fun k hk => (h.rows k hk).fr hf (fun b hb => ?_), fun k hk n hn => (h.page k hk n hn).fr hf (fun b hb => ?_) hu, h.staged.fr hf (fun b hb => ?_), spsTy h.spg hf hu, h.apart, h.sep⟩
  · obtain ⟨_, _, cs, hc⟩ := RowV.blk (h.rows k hk) b hb
    exact hS b cs _ _ hc (.inr (.inl rfl))
  · obtain ⟨_, _, cs, hc⟩ := (h.page k hk n hn).blk hb
    exact hS b cs _ _ hc (.inr (.inr (.inl rfl)))
  · obtain ⟨_, _, cs, hc⟩ := RowV.blk h.staged b hb
    exact hS b cs _ _ hc (.inr (.inr (.inl rfl)))
theorem HeldAt.none_ {w w' : World} {base : Nat} {H : Held} {Y : HLay} (h : HeldAt w base H Y) (hf : Fr None_ w w') : HeldAt w' base H Y := h.ty hf (fun _ _ _ _ _ _ h => h)
/-- An array's blocks are of other types. -/
theorem af_ty {w : World} {σ : Ar} {K : ALay} (h : ArAt w σ K) {b : Nat} {cs : Array Value} {T : TypeId} {f : Nat × Nat} (hb : w.heap[b]? = some (.cells cs T f)) (hT : HTy T) : ¬ AF K σ b := fun ha => by
  rcases ha with ha | ha | ha
  · exact h.nand.ne hb (by unfold HTy at hT; rcases hT with rfl | rfl | rfl | rfl <;> exact ⟨by decide, by decide, by decide, by decide, by decide⟩) ha
  · subst ha
    exact blk_ne hb h.main (by unfold HTy at hT; rcases hT with rfl | rfl | rfl | rfl <;> decide) rfl
  · subst ha
    obtain ⟨ds, e, _⟩ := h.vols
    exact blk_ne hb e (by unfold HTy at hT; rcases hT with rfl | rfl | rfl | rfl <;> decide) rfl
theorem HeldAt.af {w w' : World} {base : Nat} {H : Held} {Y : HLay} {σ : Ar} {K : ALay} (h : HeldAt w base H Y) (hA : ArAt w σ K) (hf : Fr (AF K σ) w w') : HeldAt w' base H Y := h.ty hf (fun _ _ _ _ hb hT => af_ty hA hb hT)
/-- Pages, apart from an array. -/
theorem sps_af {w : World} {σ : Ar} {K : ALay} (hA : ArAt w σ K) {vs : List Value} {l : List (Head × List Int)} (h : SPs None_ w vs l) : SPs (AF K σ) w vs l :=
  ⟨h.1, fun j hj d => ⟨(h.2 j hj d).1, ⟨(h.2 j hj d).2.1.1, fun b hb => by
    obtain ⟨_, cs, hc⟩ := (h.2 j hj d).2.1.2 b hb
    exact ⟨af_ty hA hc (.inr (.inr (.inr rfl))), cs, hc⟩⟩, (h.2 j hj d).2.2⟩⟩
/-- A block of what is held is written: an array keeps. -/
theorem keeps {w w' : World} {σ : Ar} {K : ALay} (h : ArAt w σ K) {S : Nat → Prop} (hf : Fr S w w') (hS : ∀ b, S b → b < w.heap.size → ∃ cs T f, w.heap[b]? = some (.cells cs T f) ∧ (T = HT ∨ T = LP ∨ T = SP)) : ArAt w' σ K := by
  have hne : ∀ {b : Nat} {cs : Array Value} {T : TypeId} {f : Nat × Nat}, w.heap[b]? = some (.cells cs T f) → (T ≠ HT ∧ T ≠ LP ∧ T ≠ SP) → ¬ S b := fun hb hT hs => by
    obtain ⟨cs', T', f', h1, h2⟩ := hS _ hs (Array.getElem?_eq_some_iff.1 hb).1
    rw [hb] at h1
    injection h1 with h1
    injection h1 with _ h1
    subst h1
    rcases h2 with h2 | h2 | h2
    · exact hT.1 h2
    · exact hT.2.1 h2
    · exact hT.2.2 h2
  refine ⟨?_, hf.heap h.main (hne h.main (by decide)), h.ccn, ?_, fun c t hc e => ⟨(h.vol c t hc e).1.ty hf (fun b cs T f hb hT => hne hb (by rcases hT with rfl | rfl <;> decide)), (h.vol c t hc e).2⟩, ?_, h.ok⟩
  · refine h.nand.typed hf (fun b cs T f hs hb => ?_)
    obtain ⟨cs', T', f', h1, h2⟩ := hS _ hs (Array.getElem?_eq_some_iff.1 hb).1
    rw [hb] at h1
    injection h1 with h1
    injection h1 with _ h1
    subst h1
    rcases h2 with rfl | rfl | rfl <;> exact ⟨⟨by decide, by decide, by decide, by decide, by decide⟩, by decide, by decide⟩
  · obtain ⟨ds, e, hds⟩ := h.vols
    exact ⟨ds, hf.heap e (hne e (by decide)), hds⟩
  · obtain ⟨ds, e, hds⟩ := h.chips
    exact ⟨ds, hf.heap e (hne e (by decide)), hds⟩
theorem getD_snoc {α : Type} (l : List α) (x d : α) (i : Nat) : (l ++ [x]).getD i d = if i < l.length then l.getD i d else if i = l.length then x else d := by
  simp only [List.getD_eq_getElem?_getD]
  by_cases h : i < l.length
  · rw [if_pos h, List.getElem?_append_left h]
  · rw [if_neg h, List.getElem?_append_right (by omega)]
    by_cases h2 : i = l.length
    · rw [if_pos h2, h2]; simp
    · rw [if_neg h2, List.getElem?_eq_none (by simp; omega)]; rfl
def Held.push (H : Held) (k : Nat) (l : List (Head × List Int)) : Held := { H with rows := fun j => if j = k then H.rows k ++ [l] else H.rows j }
def HLay.push (Y : HLay) (k : Nat) (v1 v : Value) : HLay := { Y with r := fun j => if j = k then v1 else Y.r j, rv := fun j => if j = k then Y.rv k ++ [v] else Y.rv j }
def Held.stage (H : Held) (h : Head) (d : List Int) : Held := { H with staged := H.staged ++ [(h, d)] }
theorem set_main {w : World} {b : Nat} {T : TypeId} {a0 a1 a2 a3 a4 a5 : Value} (h : w.heap[b]? = some (.cells #[a0, a1, a2, a3, a4, a5] T (0, 0))) (k : Nat) (v : Value) : (w.setCell ⟨b, k, none⟩ v).heap[b]? = some (.cells (#[a0, a1, a2, a3, a4, a5].setIfInBounds k v) T (0, 0)) ∧ Fr (fun i => i = b) w (w.setCell ⟨b, k, none⟩ v) := ⟨heap_set h k v, fr_set1 v⟩
/-- A stripe more is held. -/
theorem HeldAt.push {w w1 : World} {base k : Nat} {H : Held} {Y : HLay} (h : HeldAt w base H Y) (hk : k < 4) {v v1 : Value} {l : List (Head × List Int)} (hl : PL w base v l) (hv : ∀ b, v.ownBlock = some b → Y.st.ownBlock ≠ some b)
    (hr : RowV LP 1 w1 base v1 ((H.rows k).length + 1) (Y.rv k ++ [v])) (hf : Fr (fun b => (Y.r k).ownBlock = some b) w w1) (hn : v1.ownBlock = (Y.r k).ownBlock ∨ ∃ b, v1.ownBlock = some b ∧ w.heap.size ≤ b) :
    HeldAt (w1.setCell ⟨Y.hb, k, none⟩ v1) base (H.push k l) (Y.push k v1 v) ∧ Fr (fun b => b = Y.hb ∨ (Y.r k).ownBlock = some b) w (w1.setCell ⟨Y.hb, k, none⟩ v1) := by
  have hm1 := hf.heap h.main (RowV.ne (h.rows k hk) h.main (by decide))
  obtain ⟨hm2, hf2⟩ := set_main hm1 k v1
  have hfb : Fr (fun b => b = Y.hb ∨ (Y.r k).ownBlock = some b) w (w1.setCell ⟨Y.hb, k, none⟩ v1) := (hf.mono (fun _ _ h => .inr h)).after hf2 (fun _ _ h => .inl h)
  have hu : ∀ b cs, w.heap[b]? = some (.cells cs 5 (0, 0)) → ¬ (b = Y.hb ∨ (Y.r k).ownBlock = some b) := fun b cs hb e => by
    rcases e with e | e
    · exact blk_ne hb h.main (by decide) e
    · exact RowV.ne (h.rows k hk) hb (by decide) e
  have hsp : ∀ b cs, w.heap[b]? = some (.cells cs SP (0, 0)) → ¬ (b = Y.hb ∨ (Y.r k).ownBlock = some b) := fun b cs hb e => by
    rcases e with e | e
    · exact blk_ne hb h.main (by decide) e
    · exact RowV.ne (h.rows k hk) hb (by decide) e
  have hvl : (Y.rv k).length = (H.rows k).length := by have := (h.rows k hk).2; omega
  have hnew : ∀ b, v1.ownBlock = some b → (Y.r k).ownBlock = some b ∨ w.heap.size ≤ b := fun b hb => by
    rcases hn with e | ⟨b', e, hle⟩
    · exact .inl (e ▸ hb)
    · rw [e] at hb; injection hb with hb; subst hb; exact .inr hle
  refine ⟨⟨?_, h.low, fun j hj => ?_, fun j hj n hn' => ?_, h.staged.fr hfb (fun b hb => ?_), spsTy h.spg hfb hu, fun a a' ha ha' hne b hb => ?_, fun j hj n hn' b hb => ?_⟩, hfb⟩
  · show (w1.setCell ⟨Y.hb, k, none⟩ v1).heap[Y.hb]? = _
    rw [hm2]
    have : k = 0 ∨ k = 1 ∨ k = 2 ∨ k = 3 := by omega
    rcases this with rfl | rfl | rfl | rfl <;> rfl
  · show RowV LP 1 _ base (if j = k then v1 else Y.r j) (if j = k then H.rows k ++ [l] else H.rows j).length (if j = k then Y.rv k ++ [v] else Y.rv j)
    by_cases e : j = k
    · rw [if_pos e, if_pos e, if_pos e, List.length_append, List.length_singleton]
      exact hr.fr hf2 (fun b hb e9 => RowV.ne hr hm1 (by decide) (e9 ▸ hb))
    · rw [if_neg e, if_neg e, if_neg e]
      refine (h.rows j hj).fr hfb (fun b hb e9 => ?_)
      rcases e9 with e9 | e9
      · subst e9; exact RowV.ne (h.rows j hj) h.main (by decide) hb
      · exact h.apart j k hj hk e b hb e9
  · show PL _ base ((if j = k then Y.rv k ++ [v] else Y.rv j).getD n undef) ((if j = k then H.rows k ++ [l] else H.rows j).getD n [])
    by_cases e : j = k
    · rw [if_pos e, if_pos e, getD_snoc, getD_snoc, hvl]
      have hn2 : n < (H.rows k).length + 1 := by
        have : n < (if j = k then H.rows k ++ [l] else H.rows j).length := hn'
        rw [if_pos e, List.length_append, List.length_singleton] at this
        exact this
      by_cases e2 : n < (H.rows k).length
      · rw [if_pos e2, if_pos e2]
        exact (h.page k hk n e2).fr hfb (fun b hb => by obtain ⟨_, _, cs, hc⟩ := (h.page k hk n e2).blk hb; exact hsp b cs hc) hu
      · rw [if_neg e2, if_neg e2, if_pos (by omega), if_pos (by omega)]
        exact hl.fr hfb (fun b hb => by obtain ⟨_, _, cs, hc⟩ := hl.blk hb; exact hsp b cs hc) hu
    · rw [if_neg e, if_neg e]
      have hn2 : n < (H.rows j).length := by
        have : n < (if j = k then H.rows k ++ [l] else H.rows j).length := hn'
        rw [if_neg e] at this
        exact this
      exact (h.page j hj n hn2).fr hfb (fun b hb => by obtain ⟨_, _, cs, hc⟩ := (h.page j hj n hn2).blk hb; exact hsp b cs hc) hu
  · obtain ⟨_, _, cs, hc⟩ := RowV.blk h.staged b hb
    exact hsp b cs hc
  · show (if a' = k then v1 else Y.r a').ownBlock ≠ some b
    have hb' : (if a = k then v1 else Y.r a).ownBlock = some b := hb
    by_cases e : a = k
    · rw [if_pos e] at hb'
      rw [if_neg (fun e2 => hne (e.trans e2.symm))]
      intro h9
      rcases hnew b hb' with h8 | h8
      · exact h.apart k a' hk ha' (fun e2 => hne (e.trans e2)) b h8 h9
      · have := (RowV.blk (h.rows a' ha') b h9).2.1; omega
    · rw [if_neg e] at hb'
      by_cases e2 : a' = k
      · rw [if_pos e2]
        intro h9
        rcases hnew b h9 with h8 | h8
        · exact h.apart a k ha hk e b hb' h8
        · have := (RowV.blk (h.rows a ha) b hb').2.1; omega
      · rw [if_neg e2]
        exact h.apart a a' ha ha' hne b hb'
  · show Y.st.ownBlock ≠ some b
    have hb' : ((if j = k then Y.rv k ++ [v] else Y.rv j).getD n undef).ownBlock = some b := hb
    have hn2 : n < (if j = k then H.rows k ++ [l] else H.rows j).length := hn'
    by_cases e : j = k
    · rw [if_pos e, List.length_append, List.length_singleton] at hn2
      rw [if_pos e, getD_snoc, hvl] at hb'
      by_cases e2 : n < (H.rows k).length
      · rw [if_pos e2] at hb'
        exact h.sep k hk n e2 b hb'
      · rw [if_neg e2, if_pos (by omega)] at hb'
        exact hv b hb'
    · rw [if_neg e] at hn2 hb'
      exact h.sep j hj n hn2 b hb'
/-- A staged page more is held. -/
theorem HeldAt.stage {w w1 : World} {base : Nat} {H : Held} {Y : HLay} (h : HeldAt w base H Y) {hd : Head} {D v1 : Value} {d : List Int} (hs : SPs None_ w (Y.sv ++ (pcells hd D).toList) (H.staged ++ [(hd, d)]))
    (hr : RowV SP 8 w1 base v1 (H.staged.length + 1) (Y.sv ++ (pcells hd D).toList)) (hf : Fr (fun b => Y.st.ownBlock = some b) w w1) (hn : v1.ownBlock = Y.st.ownBlock ∨ ∃ b, v1.ownBlock = some b ∧ w.heap.size ≤ b) :
    HeldAt (w1.setCell ⟨Y.hb, 4, none⟩ v1) base (H.stage hd d) { Y with st := v1, sv := Y.sv ++ (pcells hd D).toList } ∧ Fr (fun b => b = Y.hb ∨ Y.st.ownBlock = some b) w (w1.setCell ⟨Y.hb, 4, none⟩ v1) := by
  have hm1 := hf.heap h.main (RowV.ne h.staged h.main (by decide))
  obtain ⟨hm2, hf2⟩ := set_main hm1 4 v1
  have hfb : Fr (fun b => b = Y.hb ∨ Y.st.ownBlock = some b) w (w1.setCell ⟨Y.hb, 4, none⟩ v1) := (hf.mono (fun _ _ h => .inr h)).after hf2 (fun _ _ h => .inl h)
  have hu : ∀ b cs, w.heap[b]? = some (.cells cs 5 (0, 0)) → ¬ (b = Y.hb ∨ Y.st.ownBlock = some b) := fun b cs hb e => by
    rcases e with e | e
    · exact blk_ne hb h.main (by decide) e
    · exact RowV.ne h.staged hb (by decide) e
  have hlp : ∀ b cs, w.heap[b]? = some (.cells cs LP (0, 0)) → ¬ (b = Y.hb ∨ Y.st.ownBlock = some b) := fun b cs hb e => by
    rcases e with e | e
    · exact blk_ne hb h.main (by decide) e
    · exact RowV.ne h.staged hb (by decide) e
  have hnew : ∀ b, v1.ownBlock = some b → Y.st.ownBlock = some b ∨ w.heap.size ≤ b := fun b hb => by
    rcases hn with e | ⟨b', e, hle⟩
    · exact .inl (e ▸ hb)
    · rw [e] at hb; injection hb with hb; subst hb; exact .inr hle
  refine ⟨⟨?_, h.low, fun j hj => (h.rows j hj).fr hfb (fun b hb => ?_), fun j hj n hn' => (h.page j hj n hn').fr hfb (fun b hb e => ?_) hu, ?_, ?_, h.apart, fun j hj n hn' b hb h9 => ?_⟩, hfb⟩
  · show (w1.setCell ⟨Y.hb, 4, none⟩ v1).heap[Y.hb]? = _
    rw [hm2]
    rfl
  · obtain ⟨_, _, cs, hc⟩ := RowV.blk (h.rows j hj) b hb
    exact hlp b cs hc
  · rcases e with e | e
    · obtain ⟨_, _, cs, hc⟩ := (h.page j hj n hn').blk hb
      exact blk_ne hc h.main (by decide) e
    · exact h.sep j hj n hn' b hb e
  · show RowV SP 8 _ base v1 (H.staged ++ [(hd, d)]).length _
    rw [List.length_append, List.length_singleton]
    exact hr.fr hf2 (fun b hb e9 => RowV.ne hr hm1 (by decide) (e9 ▸ hb))
  · exact spsTy hs hfb hu
  · rcases hnew b h9 with h8 | h8
    · exact h.sep j hj n hn' b hb h8
    · have := ((h.page j hj n hn').blk hb).2.1; omega
end Go.Proofs.YteofgpaceeibpaaGreat.HeldA
namespace Go.Proofs.YteofgpaceeibpaaGreat.ActA
open Go.RowKit Go.Proofs.YteofgpaceeibpaaGreat.Gab Go.Proofs.YteofgpaceeibpaaGreat.Geom Go.Proofs.YteofgpaceeibpaaGreat.Sum Go.Proofs.YteofgpaceeibpaaGreat.Ref Go.Proofs.YteofgpaceeibpaaGreat.Par Go.Proofs.YteofgpaceeibpaaGreat.Fields Go.Proofs.YteofgpaceeibpaaGreat.Seal Go.Proofs.YteofgpaceeibpaaGreat.Nand Go.Proofs.YteofgpaceeibpaaGreat.NandA Go.Proofs.YteofgpaceeibpaaGreat.NandH Go.Proofs.YteofgpaceeibpaaGreat.ArrA Go.Proofs.YteofgpaceeibpaaGreat.AOrd Go.Proofs.YteofgpaceeibpaaGreat.AOrdB Go.Proofs.YteofgpaceeibpaaGreat.AWrA Go.Proofs.YteofgpaceeibpaaGreat.AWrB Go.Proofs.YteofgpaceeibpaaGreat.AWrC Go.Proofs.YteofgpaceeibpaaGreat.StgA Go.Proofs.YteofgpaceeibpaaGreat.LawA Go.Proofs.YteofgpaceeibpaaGreat.HeldA
open Go.Proofs.YteofgpaceeibpaaGreat.Wr (InR)
open Go.Proofs.YteofgpaceeibpaaGreat.Heap (cell_is)
open Go.Proofs.YteofgpaceeibpaaGreat.Str (pcells RowV.ne)
set_option linter.unusedVariables false
set_option linter.unusedSimpArgs false

/-- append of one element of several cells, where the region draws its order. -/
theorem step_appendV {P : Program} {ops : Array Oper} {o : Oper} {a : Act} {K : Act → World → Prop} {Q : Exit → Act → World → Prop} {E : Prop} {W : World} (base : Nat) (hgd : o.guard = none) (s x : Operand) (t e : TypeId) (z : Value) (size bytes : Nat)
    (ho : o.op = .call { callee := .builtin .append, args := #[s, x], argTypes := #[t, t] })
    (ht : P.underlying t = some (.slice e)) (hinfo : (P.info? e).map (fun i => (i.zero, i.size, i.bytes)) = some (some z, size, bytes)) (hzs : z.cells.size = size) (hs0 : 0 < size) (hb0 : 0 < bytes)
    (v : Value) (n : Nat) (vs : List Value) (ys : Array Value) (g : Nat) (hs : a.eval s = v) (hx : a.eval x = .slice (some ⟨g, 0, none⟩) 1 1) (hys : ys.size = size) (hone : ∀ u ∈ ys.toList, u.oneCell' = true)
    (hcell : W.heap[g]? = some (.cells ys e (0, 0))) (HO : Par.RowV e size W base v n vs) (hbase : base ≤ W.heap.size) (hl : (n + 1) * bytes ≤ 140737488355328)
    (h : ∀ v1 w1, Par.RowV e size w1 base v1 (n + 1) (vs ++ ys.toList) → Fr (fun b => v.ownBlock = some b) W w1 → (v1.ownBlock = v.ownBlock ∨ ∃ b, v1.ownBlock = some b ∧ W.heap.size ≤ b) → K (a.put o.dst v1) w1) :
    if Region.wanted o (yielded ops a.tmps) = true then Oper.wp P o a W K Q else E := by
  have hw : Region.wanted o (yielded ops a.tmps) = true := by simp [Region.wanted, hgd]
  rw [if_pos hw]
  obtain ⟨i0, hi, hzz⟩ := Option.map_eq_some_iff.1 hinfo
  simp only [Prod.mk.injEq] at hzz
  obtain ⟨hz0, hz1, hz2⟩ := hzz
  have hlen : n + 1 ≤ 140737488355328 := Nat.le_trans (Nat.le_mul_of_pos_right _ hb0) hl
  obtain ⟨v1, w1, hr, hown, hg, _, hat⟩ := run_append_own_at (P := P) (w := W) base t o.type e i0 z size bytes ht hi hz0 hz1 hz2 hzs hs0 v n vs HO.1 ⟨g, 0, none⟩ 1 1 ys.toList (by simp [hys]) (World.news_of_block hcell) hone (by simp only [maxLen]; omega) hl hbase
  unfold Oper.wp execOp
  simp only [ho, resolve, invoke, builtin, Sem.run_bind, Sem.run_pure, Result.andThen_ok, List.map_toArray, List.map_cons, List.map_nil, hs, hx, hr]
  refine h v1 w1 ⟨hown, ?_⟩ ((Fr.refl _ W).grown hg (fun k hk _ => hk.symm ▸ rfl)) ?_
  · rw [List.length_append, HO.2, Array.length_toList, hys, Nat.add_mul, Nat.one_mul]
  · rcases hat with hat | hat
    · exact .inl hat
    · exact .inr ⟨_, hat, Nat.le_refl _⟩
theorem infoLP : (Tryz.prog.info? 34).map (fun i => (i.zero, i.size, i.bytes)) = some (some (.slice none 0 0), 1, 24) := by kernel_rfl
/-- Pages of a stripe, some of them. -/
def pgs (n c : Int) (k : Nat) : List (Head × List Int) := (List.range k).map fun (j : Nat) => (phead (j + n) c, pdat (j + n) c)
theorem pgs_succ (n c : Int) (k : Nat) : pgs n c (k + 1) = pgs n c k ++ [(phead (k + n) c, pdat (k + n) c)] := by simp [pgs, List.range_succ]
theorem pgs_len (n c : Int) (k : Nat) : (pgs n c k).length = k := by simp [pgs]
theorem _root_.Go.Proofs.YteofgpaceeibpaaGreat.HeldA.HeldAt.rowc {w : World} {base : Nat} {H : Held} {Y : HLay} (h : HeldAt w base H Y) {k : Nat} (hk : k < 4) : w.cell? ⟨Y.hb, k, none⟩ = some (Y.r k) ∧ w.frozen? ⟨Y.hb, k, none⟩ = false := by
  refine ⟨?_, free_of h.main⟩
  have h4 : k = 0 ∨ k = 1 ∨ k = 2 ∨ k = 3 := by omega
  rcases h4 with rfl | rfl | rfl | rfl
  · exact cell_is h.main rfl
  · exact cell_is h.main rfl
  · exact cell_is h.main rfl
  · exact cell_is h.main rfl
/-- What act answers. -/
def ActPost (σ' : Ar) (σ : Ar) (K : ALay) (base : Nat) (H' : Held) (hb : Nat) (w : World) (e : Ending) (w' : World) : Prop :=
  e = .returned (.int .i64 0) ∧ ArAt w' σ' K ∧ (∃ Y', HeldAt w' base H' Y' ∧ Y'.hb = hb) ∧ Fr (fun b => AF K σ b ∨ base ≤ b) w w'

set_option maxHeartbeats 8000000 in
set_option maxRecDepth 100000 in
theorem Act1_calls (σ : Ar) (K : ALay) (base : Nat) (H : Held) (Y : HLay) (sg c : Int) (X : Ar × Int × Int) (w : World) (hA : ArAt w σ K) (hth : σ.There) (hH : HeldAt w base H Y) (hbase : base ≤ w.heap.size) (hc0 : 0 ≤ c) (hc1 : c < 256) (hgs : σ.s.g.s = 256)
    (hn : ((H.rows (u64of sg % 4).toNat).length : Int) < σ.s.g.p)
    (hX : σ.progs (6 + u64of sg % 4) (H.rows (u64of sg % 4).toNat).length (fun m => pageOf σ.s.g (pgs (H.rows (u64of sg % 4).toNat).length c (σ.s.g.c - 1).toNat) (6 + u64of sg % 4) (H.rows (u64of sg % 4).toNat).length m) (orderOf σ.ahead σ.s.g.c) = X) (hx : wcode X = 0) (m0 : Nat) (hs : σ.s.Safe (m0 + 18)) :
    Calls Tryz.prog 16 #[.pointer (some ⟨K.x, 0, none⟩), .pointer (some ⟨Y.hb, 0, none⟩), .agg #[.int .i64 1, .int .i64 sg, .int .u8 c]] w (ActPost X.1 σ K base (H.push (u64of sg % 4).toNat (pgs (H.rows (u64of sg % 4).toNat).length c (σ.s.g.c - 1).toNat)) Y.hb w) := by
  have hok : σ.s.g.Ok := hA.nand.ok
  have h0 : IntKind.u64.wrap sg = u64of sg := IntKind.wrap_u64 _
  have h1 : 0 ≤ u64of sg := by unfold u64of; omega
  have h2 : u64of sg < 18446744073709551616 := by unfold u64of; omega
  have h6 : IntKind.u64.wrap (Int.tmod (u64of sg) 4) = u64of sg % 4 := by rw [Int.tmod_eq_emod_of_nonneg h1, IntKind.wrap_u64]; omega
  have hk0 : 0 ≤ u64of sg % 4 := by omega
  have hk4 : u64of sg % 4 < 4 := by omega
  have HA := As.mk hA
  have HH := As.mk hH
  have hb1 := hok.b
  have hp1 := hok.p
  have hc2 := hok.c
  have hgc0 : (3 : Int) ≤ σ.s.g.c := hc2.1
  have hgc1 : σ.s.g.c ≤ 16 := hc2.2
  have hrk := hH.rows (u64of sg % 4).toNat (by omega)
  have hcl := hH.rowc (k := (u64of sg % 4).toNat) (by omega)
  obtain ⟨rA, rc, er, _, _, _⟩ := hrk.rd
  have HER := As.mk er
  have hw6 : IntKind.i64.wrap (6 + u64of sg % 4) = 6 + u64of sg % 4 := by rw [IntKind.wrap_i64]; omega
  generalize u64of sg = u at *
  generalize hN : (H.rows (u % 4).toNat).length = N at *
  have HNE := As.mk hN
  have HAT := As.mk (show σ.s.g.At (6 + u % 4) N from ⟨by omega, by omega⟩)
  have HLTF := As.mk (show ∀ b, AF K σ b → b < w.heap.size from fun b hb => by
    rcases hb with h | h | h
    · exact hA.nand.lt h
    · rw [h]; exact (Array.getElem?_eq_some_iff.1 hA.main).1
    · obtain ⟨cs, hv, _⟩ := hA.vols
      rw [h]; exact (Array.getElem?_eq_some_iff.1 hv).1)
  have HG := As.mk (fun w' (hf : Fr None_ w w') => ArrA.Geo_calls σ K w' (hA.none_ hf))
  have HPAGE := As.mk (fun (i : Int) (w' : World) (i0 : 0 ≤ i) (i1 : i ≤ 16) => page_calls (i + N) c w' (by omega) (by omega) hc0 hc1)
  have HWR := As.mk (fun (A : Option Addr) (n cp : Nat) (vs : List Value) (l : List (Head × List Int)) (w' : World) (h1 : ArAt w' σ K) (h2 : (n : Int) = σ.s.g.c - 1) (h3 : RdCO (AF K σ) w' A (n * 8) vs) (h4 : SPs (AF K σ) w' vs l) (h5 : ∀ q ∈ l, (q.2.length : Int) = σ.s.g.s ∧ InR 256 q.2) => Write_calls σ K (6 + u % 4) N A n cp vs l w' h1 hth HAT.out h2 h3 h4 h5 m0 hs)
  have HX := As.mk hX
  have HXC := As.mk hx
  have HGS := As.mk hgs
  have HPL := As.mk hok
  have HBASE := As.mk hbase
  have d9 : decide (σ.s.g.p ≤ (N : Int)) = false := decide_eq_false (by omega)
  have hNp : (N : Int) ≤ 32 := by omega
  rw [er] at hcl
  unfold Geo.val at HG
  unfold dev at HWR
  unfold pcells phead at HPAGE
  dsimp only at HPAGE
  have HOP := As.mk (heap_alloc_new w (.cells #[.int .i64 1, .int .i64 sg, .int .u8 c] 58))
  have HFW : As (Fr None_ w (w.alloc (.cells #[.int .i64 1, .int .i64 sg, .int .u8 c] 58))) := ⟨(Fr.refl _ w).alloc _⟩
  obtain ⟨Q, hQ⟩ : ∃ Q, ActPost X.1 σ K base (H.push (u % 4).toNat (pgs N c (σ.s.g.c - 1).toNat)) Y.hb w = Q := ⟨_, rfl⟩
  have HQ := As.mk hQ
  rw [hQ]
  clear hA hth hH hok hX hx hs hrk er hgs hbase hn hN hQ
  go_enter Tryz.func16, Tryz.ntmps16
  go_wp2_with fail
  ((with_reducible refine (HG.out _ HFW.out).mono ?_); rintro e w1 ⟨rfl, hf1⟩)
  have HF1 := As.mk (HFW.out.after hf1 (fun _ _ h => h))
  have HOP1 := As.mk (hf1.heap HOP.out (fun h => h))
  have HGE := As.mk (heap_alloc_new w1 (.cells #[.int .i64 σ.s.g.c, .int .i64 σ.s.g.b, .int .i64 σ.s.g.p, .int .i64 σ.s.g.s] 24))
  have HOP2 := As.mk (at_old (.cells #[.int .i64 σ.s.g.c, .int .i64 σ.s.g.b, .int .i64 σ.s.g.p, .int .i64 σ.s.g.s] 24) HOP1.out)
  have HF2 := As.mk (HF1.out.alloc (.cells #[.int .i64 σ.s.g.c, .int .i64 σ.s.g.b, .int .i64 σ.s.g.p, .int .i64 σ.s.g.s] 24))
  clear hf1
  go_upto_region 2 with fail
  generalize w1.alloc (.cells #[.int .i64 σ.s.g.c, .int .i64 σ.s.g.b, .int .i64 σ.s.g.p, .int .i64 σ.s.g.s] 24) = w2 at *
  generalize w1.heap.size = gg at *
  have o0 := cell_is (i := 0) HOP2.out rfl
  have o1 := cell_is (i := 1) HOP2.out rfl
  have g2 := cell_is (i := 2) HGE.out rfl
  have hcl2 := HF2.out.cell hcl.1 (fun h => h)
  go_wp2_with fail
  clear o0 o1 g2 hcl2
  go_loopw [10, 11] (fun v10 v11 w' => ∃ (i : Int) (vs : List Value), v11 = .int .i64 i ∧ 0 ≤ i ∧ i ≤ σ.s.g.c - 1 ∧ As (RowV 117 8 w' w2.heap.size v10 i.toNat vs ∧ SPs None_ w' vs (pgs N c i.toNat)) ∧ As (Fr None_ w2 w')) (fun _ v11 _ => (σ.s.g.c - 1 - intOf v11).toNat)
  case atStart => exact ⟨0, [], rfl, by omega, by omega, ⟨RowV.nil _ _ _ _, SPs.nil _ _⟩, ⟨Fr.refl _ _⟩⟩
  case round =>
    obtain ⟨i, vs, rfl, hi0, hi, HX1, HFr⟩ := hrel
    have hFw : Fr None_ w wr := HF2.out.after HFr.out (fun _ _ h => h)
    have HFW2 := As.mk hFw
    have g0 := cell_is (i := 0) (HFr.out.heap HGE.out (fun h => h)) rfl
    have o2 := cell_is (i := 2) (HFr.out.heap HOP2.out (fun h => h)) rfl
    obtain ⟨A1, cap1, e1, _, _, _⟩ := HX1.out.1.rd
    subst e1
    clear hFw
    by_cases hlt : i < σ.s.g.c - 1
    · go_wp2_with fail
      ((with_reducible refine (HPAGE.out i _ hi0 (by omega)).mono ?_); rintro e w4 ⟨v4, rfl, hrow4, hf4⟩)
      have HR4 := As.mk hrow4
      have HF4 := As.mk hf4
      have HZ4 := As.mk (show w2.heap.size ≤ w4.heap.size from Nat.le_trans HFr.out.size hf4.size)
      obtain ⟨A4, n4, c4, e4, _, _, _⟩ := hrow4.rd
      subst e4
      clear hrow4 hf4
      go_wp2_with (at_builtin; (with_reducible refine appendV w2.heap.size rfl _ _ 34 117 (.agg #[.int .u8 0, .int .u32 0, .int .u32 0, .int .u16 0, .int .u16 0, .int .u32 0, .int .u32 0, .slice none 0 0]) 8 48 rfl Tryz.underlying34 infoSP rfl (by decide) (by decide) (.slice A1 i.toNat cap1) i.toNat vs #[.int .u8 4, .int .u32 c, .int .u32 0, .int .u16 0, .int .u16 0, .int .u32 (i + N), .int .u32 0, .slice A4 n4 c4] _ rfl rfl rfl rfl ?o0 (HX1.out.1.none_ HF4.out) ?o2 ?o3 ?_); (case o0 => intro u hu; simp at hu; rcases hu with rfl | rfl | rfl | rfl | rfl | rfl | rfl | rfl <;> rfl); (case o2 => exact HZ4.out); (case o3 => omega); intro v6 w6 hrow6 hfr6 hat6; have HR6 := As.mk hrow6; have HF6 := As.mk hfr6; clear hrow6 hfr6 hat6; obtain ⟨A6, c6, e6, _, _, _⟩ := HR6.out.rd; subst e6)
      have hX4 := HX1.out.1.none_ HF4.out
      have hsd : SlO None_ w4 (.slice A4 n4 c4) (pdat (i + N) c) := SlO.of_row (F := None_) (N := 0) (fun b h => h.elim) HR4.out (Nat.zero_le _)
      have hsn := (SPs.none_ HX1.out.2 HF4.out).snoc hsd (phead_ok (n := i + N) (c := c) (by omega) (by omega) hc0 hc1)
      refine ⟨⟨i + 1, vs ++ (pcells (phead (i + N) c) (.slice A4 n4 c4)).toList, rfl, by omega, by omega, ⟨?_, ?_⟩, ⟨?_⟩⟩, by simp [intOf]; omega⟩
      · rw [show (i + 1).toNat = i.toNat + 1 by omega]
        exact HR6.out
      · rw [show (i + 1).toNat = i.toNat + 1 by omega, pgs_succ, show ((i.toNat : Nat) : Int) = i by omega]
        exact spsTy hsn HF6.out (fun b cs hb => RowV.ne hX4 hb (by decide))
      · exact RowV.grow hX4 (HFr.out.after HF4.out (fun _ _ h => h)) HF6.out
    · have hie : i = σ.s.g.c - 1 := by omega
      have hW := HWR.out A1 i.toNat cap1 vs (pgs N c i.toNat) wr (HA.out.none_ HFW2.out) (by omega) (RdCO.of_rowV HLTF.out HX1.out.1 HF2.out.size) (sps_af (HA.out.none_ HFW2.out) HX1.out.2) (fun q hq => by
        obtain ⟨j, _, rfl⟩ := List.mem_map.1 hq
        exact ⟨by show ((pdat (j + N) c).length : Int) = σ.s.g.s; rw [pdat_len, HGS.out]; rfl, pdat_range _ _⟩)
      rw [hie, HX.out] at hW
      unfold WrPost at hW
      rw [HXC.out] at hW
      rw [← hie] at hW
      have HW := As.mk hW
      have HIE := As.mk hie
      clear hW hie
      go_wp2_with fail
      ((with_reducible refine HW.out.mono ?_); rintro e w5 ⟨rfl, hA5, hf5⟩)
      have HA5 := As.mk hA5
      have HF5 := As.mk hf5
      have HH5 := As.mk ((HH.out.none_ HFW2.out).af (HA.out.none_ HFW2.out) hf5)
      have hPL5 : PL w5 w2.heap.size (.slice A1 i.toNat cap1) (pgs N c i.toNat) := PL.fr ⟨vs, by rw [pgs_len]; exact HX1.out.1, HX1.out.2⟩ hf5 (fun b hb => af_ty (HA.out.none_ HFW2.out) (RowV.blk HX1.out.1 b hb).2.2.choose_spec (.inr (.inr (.inl rfl)))) (fun b cs hb => af_ty (HA.out.none_ HFW2.out) hb (.inr (.inr (.inr rfl))))
      have HPL5 := As.mk hPL5
      clear hA5 hf5 hPL5 g0 o2
      have hcl5 := HH5.out.rowc (k := (u % 4).toNat) (by omega)
      rw [HER.out] at hcl5
      obtain ⟨k5, k6⟩ := hcl5
      go_upto_region 15 with fail
      have hcd : (w5.alloc (.cells #[.slice A1 i.toNat cap1] LP)).drew.heap[w5.heap.size]? = some (.cells #[.slice A1 i.toNat cap1] LP (0, 0)) := heap_alloc_new w5 _
      have hfd : Fr None_ w5 (w5.alloc (.cells #[.slice A1 i.toNat cap1] LP)).drew := ((Fr.refl None_ w5).alloc _).drew
      have HCD := As.mk hcd
      have HFD := As.mk hfd
      have hHd := HH5.out.none_ hfd
      have HHD := As.mk hHd
      have HRD := As.mk (show RowV LP 1 (w5.alloc (.cells #[.slice A1 i.toNat cap1] LP)).drew base (.slice rA N rc) N (Y.rv (u % 4).toNat) from by
        have h9 := hHd.rows (u % 4).toNat (by omega)
        rw [HNE.out, HER.out] at h9
        exact h9)
      have HZD := As.mk (show base ≤ (w5.alloc (.cells #[.slice A1 i.toNat cap1] LP)).drew.heap.size from Nat.le_trans HBASE.out (Nat.le_trans HFW2.out.size (Nat.le_trans HF5.out.size hfd.size)))
      clear hcd hfd hHd
      have k5a : (w5.alloc (.cells #[.slice A1 i.toNat cap1] LP)).cell? ⟨Y.hb, (u % 4).toNat, none⟩ = some (.slice rA N rc) := HFD.out.cell k5 (fun h => h)
      go_region_law (first | ((with_reducible refine step_appendV base rfl _ _ 52 34 (.slice none 0 0) 1 24 rfl Tryz.underlying52 infoLP rfl (by decide) (by decide) (.slice rA N rc) N (Y.rv (u % 4).toNat) #[.slice A1 i.toNat cap1] w5.heap.size rfl rfl rfl ?o0 ?oc ?oR ?oz ?o3 ?_); (case o0 => intro u hu; simp at hu; subst hu; rfl); (case oc => exact HCD.out); (case oR => exact HRD.out); (case oz => exact HZD.out); (case o3 => omega); intro v6 w6 hrow6 hfr6 hat6; have HR6 := As.mk hrow6; have HF6 := As.mk (show Fr (fun b => (Value.slice rA N rc).ownBlock = some b) (w5.alloc (.cells #[.slice A1 i.toNat cap1] LP)).drew w6 from hfr6); have HT6 := As.mk (show v6.ownBlock = (Value.slice rA N rc).ownBlock ∨ ∃ b, v6.ownBlock = some b ∧ (w5.alloc (.cells #[.slice A1 i.toNat cap1] LP)).drew.heap.size ≤ b from hat6); clear hrow6 hfr6 hat6; obtain ⟨A6, c6, e6, _, _, _⟩ := HR6.out.rd; subst e6; have h7 := HF6.out.cell (HFD.out.cell k5 (fun h => h)) (fun h => RowV.ne HRD.out HHD.out.main (by decide) h); have h8 : w6.frozen? ⟨Y.hb, (u % 4).toNat, none⟩ = false := free_of (HF6.out.heap HHD.out.main (fun h => RowV.ne HRD.out HHD.out.main (by decide) h))))
      all_goals
        have hvb : ∀ b, (Value.slice A1 i.toNat cap1).ownBlock = some b → Y.st.ownBlock ≠ some b := fun b hb h9 => by
          have q1 := (HPL5.out.blk hb).1
          have q2 := (RowV.blk HH.out.staged b h9).2.1
          have q3 := HF2.out.size
          omega
        have hpush := HHD.out.push (k := (u % 4).toNat) (by omega) (v := .slice A1 i.toNat cap1) (v1 := .slice A6 (N + 1) c6) ((HPL5.out.none_ HFD.out).lower (Nat.le_trans HBASE.out HF2.out.size)) hvb (by rw [HNE.out]; exact HR6.out) (by rw [HER.out]; exact HF6.out) (by rw [HER.out]; exact HT6.out)
        have hA7 : ArAt (w6.setCell ⟨Y.hb, (u % 4).toNat, none⟩ (.slice A6 (N + 1) c6)) X.1 K := keeps (HA5.out.none_ HFD.out) hpush.2 (fun b hb hlt9 => by
          rcases hb with hb | hb
          · exact ⟨_, _, _, by rw [hb]; exact HHD.out.main, .inl rfl⟩
          · obtain ⟨_, _, cs, hc⟩ := RowV.blk (HHD.out.rows (u % 4).toNat (by omega)) b hb
            exact ⟨_, _, _, hc, .inr (.inl rfl)⟩)
        have hFin : Fr (fun b => AF K σ b ∨ base ≤ b) w (w6.setCell ⟨Y.hb, (u % 4).toNat, none⟩ (.slice A6 (N + 1) c6)) := (((HFW2.out.mono (T := fun b => AF K σ b ∨ base ≤ b) (fun _ _ h => h.elim)).after HF5.out (fun _ _ h => .inl h)).after HFD.out (fun _ _ h => h.elim)).after hpush.2 (fun b _ hb => by
          rcases hb with hb | hb
          · exact .inr (by rw [hb]; exact HH.out.low)
          · exact .inr (RowV.blk (HHD.out.rows (u % 4).toNat (by omega)) b hb).1)
        have HP7 := As.mk hpush.1
        have HA7 := As.mk hA7
        have HF7 := As.mk hFin
        clear hpush hA7 hFin hvb h7 h8 k5 k6 k5a
        generalize w6.setCell ⟨Y.hb, (u % 4).toNat, none⟩ (.slice A6 (N + 1) c6) = w7 at *
        go_wp2_with fail
        rw [← HQ.out, ← HIE.out]
        exact ⟨rfl, HA7.out, ⟨_, HP7.out, rfl⟩, HF7.out⟩
end Go.Proofs.YteofgpaceeibpaaGreat.ActA
namespace Go.Proofs.YteofgpaceeibpaaGreat.ActB
open Go.RowKit Go.Proofs.YteofgpaceeibpaaGreat.Gab Go.Proofs.YteofgpaceeibpaaGreat.Geom Go.Proofs.YteofgpaceeibpaaGreat.Sum Go.Proofs.YteofgpaceeibpaaGreat.Ref Go.Proofs.YteofgpaceeibpaaGreat.Par Go.Proofs.YteofgpaceeibpaaGreat.Fields Go.Proofs.YteofgpaceeibpaaGreat.Seal Go.Proofs.YteofgpaceeibpaaGreat.Nand Go.Proofs.YteofgpaceeibpaaGreat.NandA Go.Proofs.YteofgpaceeibpaaGreat.NandH Go.Proofs.YteofgpaceeibpaaGreat.ArrA Go.Proofs.YteofgpaceeibpaaGreat.AOrd Go.Proofs.YteofgpaceeibpaaGreat.AOrdB Go.Proofs.YteofgpaceeibpaaGreat.AWrA Go.Proofs.YteofgpaceeibpaaGreat.AWrB Go.Proofs.YteofgpaceeibpaaGreat.AWrC Go.Proofs.YteofgpaceeibpaaGreat.StgA Go.Proofs.YteofgpaceeibpaaGreat.StgB Go.Proofs.YteofgpaceeibpaaGreat.LawA Go.Proofs.YteofgpaceeibpaaGreat.HeldA Go.Proofs.YteofgpaceeibpaaGreat.ActA
open Go.Proofs.YteofgpaceeibpaaGreat.Wr (InR)
open Go.Proofs.YteofgpaceeibpaaGreat.Heap (cell_is)
open Go.Proofs.YteofgpaceeibpaaGreat.Str (pcells RowV.ne)
set_option linter.unusedVariables false
set_option linter.unusedSimpArgs false

set_option maxHeartbeats 8000000 in
set_option maxRecDepth 100000 in
theorem Act2_calls (σ : Ar) (K : ALay) (base : Nat) (H : Held) (Y : HLay) (sg c : Int) (X : Ar × Int × Int) (w : World) (hA : ArAt w σ K) (hth : σ.There) (hH : HeldAt w base H Y) (hbase : base ≤ w.heap.size) (hc0 : 0 ≤ c) (hc1 : c < 256) (hgs : σ.s.g.s = 256)
    (hn : (H.staged.length : Int) < σ.s.g.room)
    (hX : σ.progs 4 (H.staged.length / σ.s.g.pairs) (fun _ => (pdat H.staged.length c, sealOf (phead H.staged.length c) (pdat H.staged.length c) [])) (orderAt σ.ahead (2 * (H.staged.length % σ.s.g.pairs)) 2) = X) (hx : wcode X = 0) (m0 : Nat) (hs : σ.s.Safe (m0 + 4)) :
    Calls Tryz.prog 16 #[.pointer (some ⟨K.x, 0, none⟩), .pointer (some ⟨Y.hb, 0, none⟩), .agg #[.int .i64 2, .int .i64 sg, .int .u8 c]] w (ActPost X.1 σ K base (H.stage (phead H.staged.length c) (pdat H.staged.length c)) Y.hb w) := by
  have hok : σ.s.g.Ok := hA.nand.ok
  have h0 : IntKind.u64.wrap sg = u64of sg := IntKind.wrap_u64 _
  have h1 : 0 ≤ u64of sg := by unfold u64of; omega
  have h2 : u64of sg < 18446744073709551616 := by unfold u64of; omega
  have h6 : IntKind.u64.wrap (Int.tmod (u64of sg) 4) = u64of sg % 4 := by rw [Int.tmod_eq_emod_of_nonneg h1, IntKind.wrap_u64]; omega
  have HA := As.mk hA
  have HH := As.mk hH
  have hrm := room_range hok
  have hp1 := hok.p
  have hst := hH.staged
  have hc4 := cell_is (i := 4) hH.main rfl
  obtain ⟨rA, rc, er, _, _, _⟩ := hst.rd
  have HER := As.mk er
  generalize u64of sg = u at *
  generalize hN : H.staged.length = N at *
  have HNE := As.mk hN
  have HLTF := As.mk (show ∀ b, AF K σ b → b < w.heap.size from fun b hb => by
    rcases hb with h | h | h
    · exact hA.nand.lt h
    · rw [h]; exact (Array.getElem?_eq_some_iff.1 hA.main).1
    · obtain ⟨cs, hv, _⟩ := hA.vols
      rw [h]; exact (Array.getElem?_eq_some_iff.1 hv).1)
  have HG := As.mk (fun w' (hf : Fr None_ w w') => ArrA.Geo_calls σ K w' (hA.none_ hf))
  have HRM := As.mk (fun w' => Room_calls σ.s.g w' hok)
  have HHD := As.mk (phead_ok (n := N) (c := c) (by omega) (by omega) hc0 hc1)
  have HPAGE := As.mk (fun (w' : World) => page_calls N c w' (by omega) (by omega) hc0 hc1)
  have HPUT := As.mk (fun (D : Option Addr) (nd cd : Nat) (w' : World) (h1 : ArAt w' σ K) (h2 : SlO (AF K σ) w' (.slice D nd cd) (pdat N c)) => Put_calls σ K 0 N (phead N c) D nd cd (pdat N c) w' h1 hth ⟨by decide, by decide⟩ (by omega) hn HHD.out h2 (by rw [pdat_len, hgs]; rfl) (pdat_range _ _) m0 hs)
  rw [show (4 : Int) + 0 = 4 by omega, hX] at HPUT
  unfold WrPost at HPUT
  rw [hx] at HPUT
  have HBASE := As.mk hbase
  have d9 : decide (σ.s.g.room ≤ (N : Int)) = false := decide_eq_false (by omega)
  have hN9 : (N : Int) ≤ 256 := by omega
  rw [er] at hc4
  unfold Geo.val at HG HRM
  unfold dev at HPUT
  unfold pcells phead at HPAGE HPUT
  dsimp only at HPAGE HPUT
  have HOP := As.mk (heap_alloc_new w (.cells #[.int .i64 2, .int .i64 sg, .int .u8 c] 58))
  have HFW : As (Fr None_ w (w.alloc (.cells #[.int .i64 2, .int .i64 sg, .int .u8 c] 58))) := ⟨(Fr.refl _ w).alloc _⟩
  obtain ⟨Q, hQ⟩ : ∃ Q, ActPost X.1 σ K base (H.stage (phead N c) (pdat N c)) Y.hb w = Q := ⟨_, rfl⟩
  have HQ := As.mk hQ
  rw [hQ]
  have hEP : ∀ args (W : World), (callFunc 46 args).run Tryz.prog W = .ok (.enter 46 args) W := fun _ _ => rfl
  clear hA hth hH hok hX hx hs hst er hgs hbase hn hN hQ
  go_enter Tryz.func16, Tryz.ntmps16
  go_wp2_with fail
  ((with_reducible refine (HG.out _ HFW.out).mono ?_); rintro e w1 ⟨rfl, hf1⟩)
  have HF1 := As.mk (HFW.out.after hf1 (fun _ _ h => h))
  have HOP1 := As.mk (hf1.heap HOP.out (fun h => h))
  have HGE := As.mk (heap_alloc_new w1 (.cells #[.int .i64 σ.s.g.c, .int .i64 σ.s.g.b, .int .i64 σ.s.g.p, .int .i64 σ.s.g.s] 24))
  have HOP2 := As.mk (at_old (.cells #[.int .i64 σ.s.g.c, .int .i64 σ.s.g.b, .int .i64 σ.s.g.p, .int .i64 σ.s.g.s] 24) HOP1.out)
  have HF2 := As.mk (HF1.out.alloc (.cells #[.int .i64 σ.s.g.c, .int .i64 σ.s.g.b, .int .i64 σ.s.g.p, .int .i64 σ.s.g.s] 24))
  clear hf1
  go_upto_region 2 with fail
  generalize w1.alloc (.cells #[.int .i64 σ.s.g.c, .int .i64 σ.s.g.b, .int .i64 σ.s.g.p, .int .i64 σ.s.g.s] 24) = w2 at *
  generalize w1.heap.size = gg at *
  have o0 := cell_is (i := 0) HOP2.out rfl
  have o1 := cell_is (i := 1) HOP2.out rfl
  have g0 := cell_is (i := 0) HGE.out rfl
  have g1 := cell_is (i := 1) HGE.out rfl
  have g2 := cell_is (i := 2) HGE.out rfl
  have g3 := cell_is (i := 3) HGE.out rfl
  have hcl2 := HF2.out.cell hc4 (fun h => h)
  go_wp2_with fail
  ((with_reducible refine (HRM.out _).mono ?_); rintro e w3 ⟨rfl, hf3⟩)
  have HF3 := As.mk (HF2.out.after hf3 (fun _ _ h => h))
  have HOP3 := As.mk (hf3.heap HOP2.out (fun h => h))
  clear hf3 o0 o1 g0 g1 g2 g3 hcl2
  have o2 := cell_is (i := 2) HOP3.out rfl
  go_wp2_with fail
  ((with_reducible refine (HPAGE.out _).mono ?_); rintro e w4 ⟨v4, rfl, hrow4, hf4⟩)
  have HF4 := As.mk (HF3.out.after hf4 (fun _ _ h => h))
  have HOP4 := As.mk (hf4.heap HOP3.out (fun h => h))
  have HD4 : As (SlO (AF K σ) w4 v4 (pdat N c)) := ⟨SlO.of_row HLTF.out hrow4 HF3.out.size⟩
  obtain ⟨A4, n4, c4, e4, _, _, _⟩ := hrow4.rd
  subst e4
  clear hrow4 hf4 o2
  go_wp2_with fail
  ((with_reducible refine (HPUT.out A4 n4 c4 _ (HA.out.none_ HF4.out) HD4.out).mono ?_); rintro e w5 ⟨rfl, hA5, hf5⟩)
  have HA5 := As.mk hA5
  have HF5 := As.mk hf5
  have HH5 := As.mk ((HH.out.none_ HF4.out).af (HA.out.none_ HF4.out) hf5)
  have HOP5 := As.mk (hf5.heap HOP4.out (fun h => absurd (HLTF.out _ h) (Nat.lt_irrefl _)))
  clear hA5 hf5
  have k5 := cell_is (i := 4) HH5.out.main rfl
  have k6 := free_of (i := 4) HH5.out.main
  have o5 := cell_is (i := 2) HOP5.out rfl
  rw [HER.out] at k5
  go_upto_region 23 with fail
  have HST5 := As.mk (show RowV SP 8 w5 base (.slice rA N rc) N Y.sv from by
    have h9 := HH5.out.staged
    rw [HNE.out, HER.out] at h9
    exact h9)
  have HZ5 := As.mk (show base ≤ w5.heap.size from Nat.le_trans HBASE.out (Nat.le_trans HF4.out.size HF5.out.size))
  clear HPUT
  go_region_law (first
    | ((with_reducible refine Go.Proofs.YteofgpaceeibpaaGreat.Rdz.step_call2 rfl 46 _ _ _ rfl (.int .i64 N) (.int .u8 c) rfl rfl hEP (HPAGE.out _) (fun e w' h => ⟨_, h.choose_spec.1⟩) ?_); rintro vv w7 ⟨v7, hv, hrow7, hf7⟩; injection hv with hv; subst hv; have HF7 := As.mk (show Fr None_ w5 w7 from ⟨hf7.os, hf7.tape, hf7.output, hf7.size, hf7.block⟩); have HR7 := As.mk (show Row 5 .u8 w7 w5.heap.size v7 (pdat N c) from hrow7); clear hrow7 hf7; obtain ⟨A7, n7, c7, e7, _, _, _⟩ := HR7.out.rd; subst e7; have k7 := HF7.out.cell k5 (fun h => h); have k7a : (w7.alloc (.cells #[.int .u8 4, .int .u32 c, .int .u32 0, .int .u16 0, .int .u16 0, .int .u32 N, .int .u32 0, .slice A7 n7 c7] 117)).cell? ⟨Y.hb, 4, none⟩ = some (.slice rA N rc) := ((Fr.refl None_ w7).alloc _).cell k7 (fun h => h))
    | ((with_reducible refine step_appendV base rfl _ _ 34 117 (.agg #[.int .u8 0, .int .u32 0, .int .u32 0, .int .u16 0, .int .u16 0, .int .u32 0, .int .u32 0, .slice none 0 0]) 8 48 rfl Tryz.underlying34 infoSP rfl (by decide) (by decide) (.slice rA N rc) N Y.sv #[.int .u8 4, .int .u32 c, .int .u32 0, .int .u16 0, .int .u16 0, .int .u32 N, .int .u32 0, .slice A7 n7 c7] w7.heap.size rfl rfl rfl ?o0 ?oc ?oR ?oz ?o3 ?_); (case o0 => intro u hu; simp at hu; rcases hu with rfl | rfl | rfl | rfl | rfl | rfl | rfl | rfl <;> rfl); (case oc => exact heap_alloc_new w7 _); (case oR => have h9 := HST5.out.none_ (HF7.out.alloc (.cells #[.int .u8 4, .int .u32 c, .int .u32 0, .int .u16 0, .int .u16 0, .int .u32 N, .int .u32 0, .slice A7 n7 c7] 117)); exact h9); (case oz => exact Nat.le_trans HZ5.out (HF7.out.alloc (.cells #[.int .u8 4, .int .u32 c, .int .u32 0, .int .u16 0, .int .u16 0, .int .u32 N, .int .u32 0, .slice A7 n7 c7] 117)).size); (case o3 => omega); intro v6 w6 hrow6 hfr6 hat6; have HR6 := As.mk hrow6; have HF6 := As.mk (show Fr (fun b => (Value.slice rA N rc).ownBlock = some b) (w7.alloc (.cells #[.int .u8 4, .int .u32 c, .int .u32 0, .int .u16 0, .int .u16 0, .int .u32 N, .int .u32 0, .slice A7 n7 c7] 117)) w6 from ⟨hfr6.os, hfr6.tape, hfr6.output, hfr6.size, hfr6.block⟩); have HT6 := As.mk (show v6.ownBlock = (Value.slice rA N rc).ownBlock ∨ ∃ b, v6.ownBlock = some b ∧ (w7.alloc (.cells #[.int .u8 4, .int .u32 c, .int .u32 0, .int .u16 0, .int .u16 0, .int .u32 N, .int .u32 0, .slice A7 n7 c7] 117)).heap.size ≤ b from hat6); clear hrow6 hfr6 hat6; obtain ⟨A6, c6, e6, _, _, _⟩ := HR6.out.rd; subst e6; have hhm := (HF7.out.alloc (.cells #[.int .u8 4, .int .u32 c, .int .u32 0, .int .u16 0, .int .u16 0, .int .u32 N, .int .u32 0, .slice A7 n7 c7] 117)).heap HH5.out.main (fun h => h); have h7 := HF6.out.cell (((Fr.refl None_ w7).alloc (.cells #[.int .u8 4, .int .u32 c, .int .u32 0, .int .u16 0, .int .u16 0, .int .u32 N, .int .u32 0, .slice A7 n7 c7] 117)).cell k7 (fun h => h)) (fun h => RowV.ne HST5.out HH5.out.main (by decide) h); have h8 : w6.frozen? ⟨Y.hb, 4, none⟩ = false := free_of (HF6.out.heap hhm (fun h => RowV.ne HST5.out HH5.out.main (by decide) h)); clear hhm))
  all_goals
    have hHa := HH5.out.none_ (HF7.out.alloc (.cells #[.int .u8 4, .int .u32 c, .int .u32 0, .int .u16 0, .int .u16 0, .int .u32 N, .int .u32 0, .slice A7 n7 c7] 117))
    have HHA := As.mk hHa
    have hsn : SPs None_ (w7.alloc (.cells #[.int .u8 4, .int .u32 c, .int .u32 0, .int .u16 0, .int .u16 0, .int .u32 N, .int .u32 0, .slice A7 n7 c7] 117)) (Y.sv ++ (pcells (phead N c) (.slice A7 n7 c7)).toList) (H.staged ++ [(phead N c, pdat N c)]) := hHa.spg.snoc ((SlO.of_row (F := None_) (N := 0) (fun b h => h.elim) HR7.out (Nat.zero_le _)).none_ ((Fr.refl None_ w7).alloc _)) HHD.out
    have hpush := hHa.stage (hd := phead N c) (D := .slice A7 n7 c7) (v1 := .slice A6 (N + 1) c6) (d := pdat N c) hsn (by rw [HNE.out]; exact HR6.out) (by rw [HER.out]; exact HF6.out) (by rw [HER.out]; exact HT6.out)
    have hA7 : ArAt (w6.setCell ⟨Y.hb, 4, none⟩ (.slice A6 (N + 1) c6)) X.1 K := keeps (HA5.out.none_ (HF7.out.alloc (.cells #[.int .u8 4, .int .u32 c, .int .u32 0, .int .u16 0, .int .u16 0, .int .u32 N, .int .u32 0, .slice A7 n7 c7] 117))) hpush.2 (fun b hb hlt9 => by
      rcases hb with hb | hb
      · exact ⟨_, _, _, by rw [hb]; exact hHa.main, .inl rfl⟩
      · obtain ⟨_, _, cs, hc⟩ := RowV.blk hHa.staged b hb
        exact ⟨_, _, _, hc, .inr (.inr rfl)⟩)
    have hFin : Fr (fun b => AF K σ b ∨ base ≤ b) w (w6.setCell ⟨Y.hb, 4, none⟩ (.slice A6 (N + 1) c6)) := (((HF4.out.mono (T := fun b => AF K σ b ∨ base ≤ b) (fun _ _ h => h.elim)).after HF5.out (fun _ _ h => .inl h)).after (HF7.out.alloc (.cells #[.int .u8 4, .int .u32 c, .int .u32 0, .int .u16 0, .int .u16 0, .int .u32 N, .int .u32 0, .slice A7 n7 c7] 117)) (fun _ _ h => h.elim)).after hpush.2 (fun b _ hb => by
      rcases hb with hb | hb
      · exact .inr (by rw [hb]; exact HH.out.low)
      · exact .inr (RowV.blk hHa.staged b hb).1)
    have HP7 := As.mk hpush.1
    have HA7 := As.mk hA7
    have HFN := As.mk hFin
    clear hpush hA7 hFin hsn hHa h7 h8 k5 k6 k7 k7a o5
    generalize w6.setCell ⟨Y.hb, 4, none⟩ (.slice A6 (N + 1) c6) = w8 at *
    go_wp2_with fail
    rw [← HQ.out]
    exact ⟨rfl, HA7.out, ⟨_, HP7.out, rfl⟩, HFN.out⟩
end Go.Proofs.YteofgpaceeibpaaGreat.ActB
namespace Go.Proofs.YteofgpaceeibpaaGreat.AllA
open Go.RowKit Go.Proofs.YteofgpaceeibpaaGreat.Gab Go.Proofs.YteofgpaceeibpaaGreat.Geom Go.Proofs.YteofgpaceeibpaaGreat.Sum Go.Proofs.YteofgpaceeibpaaGreat.Ref Go.Proofs.YteofgpaceeibpaaGreat.Par Go.Proofs.YteofgpaceeibpaaGreat.Fields Go.Proofs.YteofgpaceeibpaaGreat.Seal Go.Proofs.YteofgpaceeibpaaGreat.Nand Go.Proofs.YteofgpaceeibpaaGreat.NandA Go.Proofs.YteofgpaceeibpaaGreat.NandH Go.Proofs.YteofgpaceeibpaaGreat.ArrA Go.Proofs.YteofgpaceeibpaaGreat.ArrD Go.Proofs.YteofgpaceeibpaaGreat.AOrd Go.Proofs.YteofgpaceeibpaaGreat.AOrdB Go.Proofs.YteofgpaceeibpaaGreat.AWrA Go.Proofs.YteofgpaceeibpaaGreat.AWrB Go.Proofs.YteofgpaceeibpaaGreat.AWrC Go.Proofs.YteofgpaceeibpaaGreat.StgA Go.Proofs.YteofgpaceeibpaaGreat.StgB Go.Proofs.YteofgpaceeibpaaGreat.LawA Go.Proofs.YteofgpaceeibpaaGreat.HeldA Go.Proofs.YteofgpaceeibpaaGreat.ActA
open Go.Proofs.YteofgpaceeibpaaGreat.Wr (InR)
open Go.Proofs.YteofgpaceeibpaaGreat.Heap (cell_is)
open Go.Proofs.YteofgpaceeibpaaGreat.Str (pcells RowV.ne)
set_option linter.unusedVariables false
set_option linter.unusedSimpArgs false

/-- A page is read: what is answered. -/
def PgOk (K : ALay) (τ τ' : Ar) (q : Head × List Int) (w : World) (e : Ending) (w' : World) : Prop :=
  ∃ v, e = .returned (.tuple #[.agg (pcells q.1 v), .int .i64 0]) ∧ Row 5 .u8 w' w.heap.size v q.2 ∧ ArAt w' τ' K ∧ Fr (AF K τ) w w'
def RdOk (K : ALay) (τ τ' : Ar) (seg row slot : Int) (q : Head × List Int) : Prop := ∀ w, ArAt w τ K → Calls Tryz.prog 44 #[dev K.x, .agg #[.int .i64 seg, .int .i64 row, .int .i64 slot]] w (PgOk K τ τ' q w)
def GtOk (K : ALay) (τ τ' : Ar) (n : Int) (q : Head × List Int) : Prop := ∀ w, ArAt w τ K → Calls Tryz.prog 52 #[dev K.x, .int .i64 0, .int .i64 n] w (PgOk K τ τ' q w)
/-- All that is held can be read, so many times; behind a staged page's reading it stands so. -/
structure Tells (K : ALay) (g : Geo) (H : Held) (I : Nat → Ar → Prop) (G : Ar → Prop) : Prop where
  g : ∀ n τ, I n τ → τ.s.g = g
  mono : ∀ n m τ, I n τ → m ≤ n → I m τ
  row : ∀ n τ, I (n + 1) τ → ∀ k : Nat, k < 4 → (k : Int) ≠ H.lost → ∀ m : Nat, m < (H.rows k).length → ∀ s : Nat, s < ((H.rows k).getD m []).length → ∃ τ', I n τ' ∧ RdOk K τ τ' (6 + k) m s (((H.rows k).getD m []).getD s noPage)
  st : ∀ n τ, I (n + 1) τ → ∀ m : Nat, m < H.staged.length → ∃ τ', I n τ' ∧ G τ' ∧ GtOk K τ τ' m (H.staged.getD m noPage)
  inr : ∀ k, k < 4 → ∀ m, m < (H.rows k).length → ∀ s, s < ((H.rows k).getD m []).length → InR 256 (((H.rows k).getD m []).getD s noPage).2
  ins : ∀ m, m < H.staged.length → InR 256 (H.staged.getD m noPage).2
  few : ∀ k, k < 4 → (H.rows k).length ≤ 64 ∧ ∀ m, m < (H.rows k).length → ((H.rows k).getD m []).length ≤ 64
  fews : H.staged.length ≤ 1000
theorem _root_.Go.Proofs.YteofgpaceeibpaaGreat.HeldA.HeldAt.rowAt {w : World} {base : Nat} {H : Held} {Y : HLay} (h : HeldAt w base H Y) {k n : Nat} (hk : k < 4) (hn : n < (H.rows k).length) : ∃ ad c, Y.r k = .slice (some ad) (H.rows k).length c ∧ w.cell? (ad.add n) = some ((Y.rv k).getD n undef) := by
  obtain ⟨A, c, e, _, hcd, _⟩ := (h.rows k hk).rd
  obtain ⟨ad, ea, hcc⟩ := hcd.out.2 (by omega)
  subst ea
  exact ⟨ad, c, e, hcc n (by omega)⟩
theorem pagesAt {w : World} {base : Nat} {v : Value} {l : List (Head × List Int)} {vs : List Value} (h1 : RowV SP 8 w base v l.length vs) (h2 : SPs None_ w vs l) {s : Nat} (hs : s < l.length) : ∃ ad ax D nd cd c, v = .slice (some ad) l.length c ∧ ad.add (s * 8) = ax ∧ w.cell? ax = some (.int .u8 (l.getD s noPage).1.kind) ∧ w.cell? ⟨ax.block, ax.off + 1, none⟩ = some (.int .u32 (l.getD s noPage).1.epoch) ∧ w.cell? ⟨ax.block, ax.off + 2, none⟩ = some (.int .u32 (l.getD s noPage).1.batch) ∧ w.cell? ⟨ax.block, ax.off + 3, none⟩ = some (.int .u16 (l.getD s noPage).1.index) ∧ w.cell? ⟨ax.block, ax.off + 4, none⟩ = some (.int .u16 (l.getD s noPage).1.count) ∧ w.cell? ⟨ax.block, ax.off + 5, none⟩ = some (.int .u32 (l.getD s noPage).1.block) ∧ w.cell? ⟨ax.block, ax.off + 6, none⟩ = some (.int .u32 (l.getD s noPage).1.more) ∧ w.cell? ⟨ax.block, ax.off + 7, none⟩ = some (.slice D nd cd) ∧ As (Rd .u8 w D nd (l.getD s noPage).2) := by
  obtain ⟨A, c, e, _, hcd, _⟩ := h1.rd
  obtain ⟨ad, ax, D, nd, cd, eA, hax, k0, k1, k2, k3, k4, k5, k6, k7, hD, _⟩ := SPs.at_ hcd.out h2 (s : Int) (by omega) (by omega)
  subst eA
  exact ⟨ad, ax, D, nd, cd, c, e, hax, k0, k1, k2, k3, k4, k5, k6, k7, ⟨hD.out.2.1⟩⟩
def fuel (m0 S : Nat) (k n s : Int) : Nat := m0 + S + (4096 * (4 - k) - 64 * n - s).toNat
/-- What all answers. -/
def AllPost (σ : Ar) (K : ALay) (H : Held) (I : Nat → Ar → Prop) (G : Ar → Prop) (m0 : Nat) (w : World) (e : Ending) (w' : World) : Prop :=
  e = .returned (.bool true) ∧ ∃ τ, I m0 τ ∧ (0 < H.staged.length → G τ) ∧ ArAt w' τ K ∧ Fr (AF K σ) w w'

set_option maxHeartbeats 16000000 in
set_option maxRecDepth 100000 in
theorem All_calls (σ : Ar) (K : ALay) (base : Nat) (H : Held) (Y : HLay) (I : Nat → Ar → Prop) (G : Ar → Prop) (m0 : Nat) (w : World) (hA : ArAt w σ K) (hH : HeldAt w base H Y) (hT : Tells K σ.s.g H I G) (hI : I (fuel m0 H.staged.length 0 0 0) σ) :
    Calls Tryz.prog 17 #[.pointer (some ⟨K.x, 0, none⟩), .pointer (some ⟨Y.hb, 0, none⟩)] w (AllPost σ K H I G m0 w) := by
  have HA := As.mk hA
  have HH := As.mk hH
  have HT := As.mk hT
  have HI := As.mk hI
  have hc4 := hH.staged
  obtain ⟨sA, sc, es, _, _, _⟩ := hc4.rd
  have HES := As.mk es
  have HAFS := As.mk (fun (τ : Ar) (n : Nat) (h : I n τ) (b : Nat) => (AF.eq (K := K) (σ := σ) (σ' := τ) (hT.g n τ h) b).1)
  clear hA hH hT hI hc4 es
  go_enter Tryz.func17, Tryz.ntmps17
  go_wp2_with fail
  go_loopw [5, 6, 7, 8, 9] (fun v5 v6 v7 v8 v9 w' => ∃ (k : Int) (τ : Ar), v5 = .int .i64 k ∧ 0 ≤ k ∧ k ≤ 4 ∧ As (ArAt w' τ K ∧ I (fuel m0 H.staged.length k 0 0) τ) ∧ As (Fr (AF K σ) w w')) (fun v5 _ _ _ _ _ => (4 - intOf v5).toNat)
  case atStart => exact ⟨0, σ, rfl, by omega, by omega, ⟨HA.out, HI.out⟩, ⟨Fr.refl _ _⟩⟩
  case round =>
    obtain ⟨k, τ, rfl, hk0, hk4, HX, HF⟩ := hrel
    by_cases hk : k < 4
    · have HKN := As.mk (show k.toNat < 4 by omega)
      have hrk := HH.out.rows k.toNat HKN.out
      obtain ⟨rA, rc, er, _, _, _⟩ := hrk.rd
      have HER := As.mk er
      generalize hN : (H.rows k.toNat).length = N at *
      have HNE := As.mk hN
      have hN64 : N ≤ 64 := by rw [← hN]; exact (HT.out.few k.toNat HKN.out).1
      clear hrk er hN
      go_wp2_with fail
      go_loopw [6, 7, 8, 9] (fun v6 v7 v8 v9 w' => ∃ (n : Int) (τ : Ar), v6 = .int .i64 n ∧ 0 ≤ n ∧ n ≤ N ∧ As (ArAt w' τ K ∧ I (fuel m0 H.staged.length k n 0) τ) ∧ As (Fr (AF K σ) w w')) (fun v6 _ _ _ _ => N - (intOf v6).toNat)
      case atStart => exact ⟨0, τ, rfl, by omega, by omega, HX, HF⟩
      case round =>
        clear HX HF
        obtain ⟨n, τ, rfl, hn0, hnN, HX, HF⟩ := hrel
        rename World => w2
        have hH2 := HH.out.af HA.out HF.out
        have HH2 := As.mk hH2
        have hr1 := (hH2.rowc (k := k.toNat) HKN.out).1
        have l5 := cell_is (i := 5) hH2.main rfl
        rw [HER.out] at hr1
        clear hH2
        by_cases hn : n < (N : Int)
        · have hNl : n.toNat < N := by omega
          have hcr := (HH2.out.rows k.toNat HKN.out)
          rw [HER.out, HNE.out] at hcr
          obtain ⟨_, _, eq1, _, hcd, _⟩ := hcr.rd
          injection eq1 with q1 q2 q3
          subst q1 q3
          obtain ⟨rad, hra, hcc⟩ := hcd.out.2 (by omega)
          subst hra
          have hr2 := hcc n.toNat (by omega)
          have hpl := HH2.out.page k.toNat HKN.out n.toNat (by rw [HNE.out]; exact hNl)
          obtain ⟨pvs, hprow, hpsp⟩ := hpl
          obtain ⟨pA, pc, ep, _, _, _⟩ := hprow.rd
          have HEP := As.mk ep
          have HPV := As.mk hprow.2
          generalize hL : ((H.rows k.toNat).getD n.toNat []).length = L at *
          have HLE := As.mk hL
          have hL64 : L ≤ 64 := by rw [← hL]; exact (HT.out.few k.toNat HKN.out).2 n.toNat (by rw [HNE.out]; exact hNl)
          rw [ep] at hr2
          by_cases hkl : k = H.lost
          · have hkb : (k != H.lost) = false := by rw [bne_eq_false_iff_eq]; exact hkl
            have HFU := As.mk (show I (fuel m0 H.staged.length (k + 1) 0 0) τ from HT.out.mono _ _ _ HX.out.2 (by unfold fuel; omega))
            clear hcr hcd hcc hprow hpsp ep hL hr2 hkl
            go_wp2_with fail
            exact ⟨⟨k + 1, τ, rfl, by omega, by omega, ⟨HX.out.1, HFU.out⟩, HF⟩, by simp [intOf]; omega⟩
          · have hkb : (k != H.lost) = true := by rw [bne_iff_ne]; exact hkl
            have HKL := As.mk hkl
            have HPVS := As.mk hpsp.1
            clear hcr hcd hcc hprow hpsp ep hL hr2 hkl
            go_wp2_with fail
            go_loopw [7, 8, 9] (fun v7 v8 v9 w' => ∃ (s : Int) (τ : Ar), v7 = .int .i64 s ∧ 0 ≤ s ∧ s ≤ L ∧ As (ArAt w' τ K ∧ I (fuel m0 H.staged.length k n s) τ) ∧ As (Fr (AF K σ) w w')) (fun v7 _ _ _ => L - (intOf v7).toNat)
            case atStart => exact ⟨0, τ, rfl, by omega, by omega, HX, HF⟩
            case round =>
              clear HX HF HH2 hr1 l5 hkb
              obtain ⟨s, τ, rfl, hs0, hsL, HX, HF⟩ := hrel
              rename World => w3
              have hH3 := HH.out.af HA.out HF.out
              have HH3 := As.mk hH3
              have hr1 := (hH3.rowc (k := k.toNat) HKN.out).1
              rw [HER.out] at hr1
              have hcr := (hH3.rows k.toNat HKN.out)
              rw [HER.out, HNE.out] at hcr
              obtain ⟨_, _, eq1, _, hcd, _⟩ := hcr.rd
              injection eq1 with q1 q2 q3
              subst q3
              obtain ⟨rad', hra, hcc⟩ := hcd.out.2 (by omega)
              rw [← q1] at hra
              injection hra with hra
              subst hra
              have hr2 := hcc n.toNat (by omega)
              rw [HEP.out] at hr2
              have hpl := hH3.page k.toNat HKN.out n.toNat (by rw [HNE.out]; exact hNl)
              rw [HEP.out] at hpl
              obtain ⟨pvs', hprow, hpsp⟩ := hpl
              rw [HLE.out] at hprow
              obtain ⟨_, _, eq2, _, hpcd, _⟩ := hprow.rd
              injection eq2 with p1 p2 p3
              subst p1 p3
              clear hH3 hcr hcd hcc q1 q2 p2 hpsp hpcd hprow pvs'
              by_cases hs : s < (L : Int)
              · have hsl : s.toNat < L := by omega
                obtain ⟨τ', hI', hRd⟩ := HT.out.row (fuel m0 H.staged.length k n (s + 1)) τ (by have h := HX.out.2; rw [show fuel m0 H.staged.length k n s = fuel m0 H.staged.length k n (s + 1) + 1 by unfold fuel; omega] at h; exact h) k.toNat HKN.out (by rw [show ((k.toNat : Nat) : Int) = k by omega]; exact HKL.out) n.toNat (by rw [HNE.out]; exact hNl) s.toNat (by rw [HLE.out]; exact hsl)
                have HI2 := As.mk hI'
                have hrng := HT.out.inr k.toNat HKN.out n.toNat (by rw [HNE.out]; exact hNl) s.toNat (by rw [HLE.out]; exact hsl)
                have HRD := As.mk (hRd w3 HX.out.1)
                rw [show (6 + ((k.toNat : Nat) : Int)) = 6 + k by omega, show ((n.toNat : Nat) : Int) = n by omega, show ((s.toNat : Nat) : Int) = s by omega] at HRD
                obtain ⟨q, hq⟩ : ∃ q, ((H.rows k.toNat).getD n.toNat []).getD s.toNat noPage = q := ⟨_, rfl⟩
                have HQ := As.mk hq
                rw [hq] at HRD hrng
                have HRNG := As.mk hrng
                unfold PgOk dev pcells at HRD
                have hw6 : IntKind.i64.wrap (6 + k) = 6 + k := by rw [IntKind.wrap_i64]; omega
                have HAFT := As.mk (HAFS.out τ _ HX.out.2)
                clear hI' hRd hq hrng
                go_wp2_with fail
                ((with_reducible refine HRD.out.mono ?_); rintro e w4 ⟨v4, rfl, hr4, hA4, hf4⟩)
                have HF4 := As.mk (HF.out.after hf4 (fun b _ hb => HAFT.out b hb))
                have HA4 := As.mk hA4
                have HR4 := As.mk hr4
                obtain ⟨A5, n5, c5, e5, _, _, _⟩ := hr4.rd
                subst e5
                clear hr4 hA4 hf4 hr1 hr2
                go_upto_region 11 with fail
                have HF6 := As.mk ((Fr.refl None_ w4).alloc (.cells #[.int .u8 q.1.kind, .int .u32 q.1.epoch, .int .u32 q.1.batch, .int .u16 q.1.index, .int .u16 q.1.count, .int .u32 q.1.block, .int .u32 q.1.more, .slice A5 n5 c5] 117))
                have hnew := heap_alloc_new w4 (.cells #[.int .u8 q.1.kind, .int .u32 q.1.epoch, .int .u32 q.1.batch, .int .u16 q.1.index, .int .u16 q.1.count, .int .u32 q.1.block, .int .u32 q.1.more, .slice A5 n5 c5] 117)
                generalize w4.alloc (.cells #[.int .u8 q.1.kind, .int .u32 q.1.epoch, .int .u32 q.1.batch, .int .u16 q.1.index, .int .u16 q.1.count, .int .u32 q.1.block, .int .u32 q.1.more, .slice A5 n5 c5] 117) = w6 at *
                generalize w4.heap.size = gt at *
                have k0 := cell_is (i := 0) hnew rfl
                have k1 := cell_is (i := 1) hnew rfl
                have k2 := cell_is (i := 2) hnew rfl
                have k3 := cell_is (i := 3) hnew rfl
                have k4 := cell_is (i := 4) hnew rfl
                have k5 := cell_is (i := 5) hnew rfl
                have k6 := cell_is (i := 6) hnew rfl
                have k7 := cell_is (i := 7) hnew rfl
                have hH6 := (HH.out.af HA.out HF4.out).none_ HF6.out
                have hr1 := (hH6.rowc (k := k.toNat) HKN.out).1
                rw [HER.out] at hr1
                obtain ⟨rad', rc', eq1, hr2⟩ := hH6.rowAt (k := k.toNat) (n := n.toNat) HKN.out (by rw [HNE.out]; exact hNl)
                rw [HER.out] at eq1
                injection eq1 with q1 q2 q3
                injection q1 with q1
                subst q1 q3
                rw [HEP.out] at hr2
                have hpl := hH6.page k.toNat HKN.out n.toNat (by rw [HNE.out]; exact hNl)
                rw [HEP.out] at hpl
                obtain ⟨pvs', hprow, hpsp⟩ := hpl
                obtain ⟨pad, ax, D, nd, cd, pc', eq2, hax, a0, a1, a2, a3, a4, a5, a6, a7, HDD⟩ := pagesAt hprow hpsp (s := s.toNat) (by rw [HLE.out]; exact hsl)
                rw [HLE.out] at eq2
                injection eq2 with p1 p2 p3
                subst p1 p3
                rw [HQ.out] at a0 a1 a2 a3 a4 a5 a6 HDD
                have HD6 := As.mk ((HR4.out.none_ HF6.out).rd)
                obtain ⟨_, _, _, e9, _, hd9, _⟩ := HD6.out
                injection e9 with q4 q5 q6
                subst q4 q5 q6
                have HSM := As.mk (fun (w' : World) (hf : Fr None_ w6 w') => same_calls q.1 A5 D n5 c5 nd cd q.2 w' (hd9.out.none_ hf) (HDD.out.none_ hf) HRNG.out)
                unfold pcells at HSM
                clear hnew hH6 q2 p2 hprow hpsp pvs' HD6 hd9
                go_region_held3 (fun w' => w'.cell? ⟨gt, 0, none⟩ = some (.int .u8 q.1.kind) ∧ w'.cell? ⟨gt, 1, none⟩ = some (.int .u32 q.1.epoch) ∧ w'.cell? ⟨gt, 2, none⟩ = some (.int .u32 q.1.batch) ∧ w'.cell? ⟨gt, 3, none⟩ = some (.int .u16 q.1.index) ∧ w'.cell? ⟨gt, 4, none⟩ = some (.int .u16 q.1.count) ∧ w'.cell? ⟨gt, 5, none⟩ = some (.int .u32 q.1.block) ∧ w'.cell? ⟨gt, 6, none⟩ = some (.int .u32 q.1.more) ∧ w'.cell? ⟨gt, 7, none⟩ = some (.slice A5 n5 c5) ∧ w'.cell? ax = some (.int .u8 q.1.kind) ∧ w'.cell? ⟨ax.block, ax.off + 1, none⟩ = some (.int .u32 q.1.epoch) ∧ w'.cell? ⟨ax.block, ax.off + 2, none⟩ = some (.int .u32 q.1.batch) ∧ w'.cell? ⟨ax.block, ax.off + 3, none⟩ = some (.int .u16 q.1.index) ∧ w'.cell? ⟨ax.block, ax.off + 4, none⟩ = some (.int .u16 q.1.count) ∧ w'.cell? ⟨ax.block, ax.off + 5, none⟩ = some (.int .u32 q.1.block) ∧ w'.cell? ⟨ax.block, ax.off + 6, none⟩ = some (.int .u32 q.1.more) ∧ w'.cell? ⟨ax.block, ax.off + 7, none⟩ = some (.slice D nd cd) ∧ w'.cell? ⟨Y.hb, k.toNat, none⟩ = some (.slice (some rad) N rc) ∧ w'.cell? (rad.add n.toNat) = some (.slice (some pad) L pc)) (first | go_keep | (refine ⟨?_, ?_, ?_, ?_, ?_, ?_, ?_, ?_, ?_, ?_, ?_, ?_, ?_, ?_, ?_, ?_, ?_, ?_⟩ <;> (refine Fr.cell ‹Fr None_ w6.drew _› ?_ (fun h => h); go_keep))) (first | ((with_reducible refine (HSM.out _ ((Fr.refl None_ w6).drew)).mono ?_); rintro e w7 ⟨rfl, hf7⟩))
                all_goals
                  have HF7 := As.mk (HF6.out.after ((Fr.refl None_ w6).drew.after hf7 (fun _ _ h => h)) (fun _ _ h => h))
                  clear hf7
                  go_wp2_with fail
                  exact ⟨⟨s + 1, τ', rfl, by omega, by omega, ⟨HA4.out.none_ HF7.out, HI2.out⟩, ⟨HF4.out.after HF7.out (fun _ _ h => h.elim)⟩⟩, by simp [intOf]; omega⟩
              · have HFU := As.mk (show I (fuel m0 H.staged.length k (n + 1) 0) τ from HT.out.mono _ _ _ HX.out.2 (by unfold fuel; omega))
                go_wp2_with fail
                exact ⟨⟨n + 1, τ, rfl, by omega, by omega, ⟨HX.out.1, HFU.out⟩, HF⟩, by simp [intOf]; omega⟩
        · have HFU := As.mk (show I (fuel m0 H.staged.length (k + 1) 0 0) τ from HT.out.mono _ _ _ HX.out.2 (by unfold fuel; omega))
          go_wp2_with fail
          exact ⟨⟨k + 1, τ, rfl, by omega, by omega, ⟨HX.out.1, HFU.out⟩, HF⟩, by simp [intOf]; omega⟩
    · have hke : k = 4 := by omega
      have HFU := As.mk (show I (m0 + (H.staged.length - (0 : Int).toNat)) τ from by have h := HX.out.2; unfold fuel at h; rw [hke] at h; exact h)
      generalize hS : H.staged.length = S at *
      have HSE := As.mk hS
      have hs1000 : S ≤ 1000 := by rw [← hS]; exact HT.out.fews
      clear hke hS
      go_wp2_with fail
      go_loopw [10, 11, 12] (fun v10 v11 v12 w' => ∃ (n : Int) (τ : Ar), v10 = .int .i64 n ∧ 0 ≤ n ∧ n ≤ S ∧ As (ArAt w' τ K ∧ I (m0 + (S - n.toNat)) τ ∧ (0 < n → G τ)) ∧ As (Fr (AF K σ) w w')) (fun v10 _ _ _ => S - (intOf v10).toNat)
      case atStart => exact ⟨0, τ, rfl, by omega, by omega, ⟨HX.out.1, HFU.out, fun h => absurd h (by decide)⟩, HF⟩
      case round =>
        clear HX HF HFU
        obtain ⟨n, τ, rfl, hn0, hnS, HX, HF⟩ := hrel
        rename World => w3
        have hH3 := HH.out.af HA.out HF.out
        have l4 := cell_is (i := 4) hH3.main rfl
        rw [HES.out] at l4
        clear hH3
        by_cases hn : n < (S : Int)
        · have hnl : n.toNat < S := by omega
          obtain ⟨τ', hI', hG', hRd⟩ := HT.out.st (m0 + (S - (n + 1).toNat)) τ (by have h := HX.out.2.1; rw [show m0 + (S - n.toNat) = m0 + (S - (n + 1).toNat) + 1 by omega] at h; exact h) n.toNat (by rw [HSE.out]; exact hnl)
          have HI2 := As.mk hI'
          have HG2 := As.mk hG'
          have hrng := HT.out.ins n.toNat (by rw [HSE.out]; exact hnl)
          have HRD := As.mk (hRd w3 HX.out.1)
          rw [show ((n.toNat : Nat) : Int) = n by omega] at HRD
          obtain ⟨q, hq⟩ : ∃ q, H.staged.getD n.toNat noPage = q := ⟨_, rfl⟩
          have HQ := As.mk hq
          rw [hq] at HRD hrng
          have HRNG := As.mk hrng
          unfold PgOk dev pcells at HRD
          have HAFT := As.mk (HAFS.out τ _ HX.out.2.1)
          clear hI' hG' hRd hq hrng
          go_wp2_with fail
          ((with_reducible refine HRD.out.mono ?_); rintro e w4 ⟨v4, rfl, hr4, hA4, hf4⟩)
          have HF4 := As.mk (HF.out.after hf4 (fun b _ hb => HAFT.out b hb))
          have HA4 := As.mk hA4
          have HR4 := As.mk hr4
          obtain ⟨A5, n5, c5, e5, _, _, _⟩ := hr4.rd
          subst e5
          clear hr4 hA4 hf4 l4
          go_upto_region 17 with fail
          have HF6 := As.mk ((Fr.refl None_ w4).alloc (.cells #[.int .u8 q.1.kind, .int .u32 q.1.epoch, .int .u32 q.1.batch, .int .u16 q.1.index, .int .u16 q.1.count, .int .u32 q.1.block, .int .u32 q.1.more, .slice A5 n5 c5] 117))
          have hnew := heap_alloc_new w4 (.cells #[.int .u8 q.1.kind, .int .u32 q.1.epoch, .int .u32 q.1.batch, .int .u16 q.1.index, .int .u16 q.1.count, .int .u32 q.1.block, .int .u32 q.1.more, .slice A5 n5 c5] 117)
          generalize w4.alloc (.cells #[.int .u8 q.1.kind, .int .u32 q.1.epoch, .int .u32 q.1.batch, .int .u16 q.1.index, .int .u16 q.1.count, .int .u32 q.1.block, .int .u32 q.1.more, .slice A5 n5 c5] 117) = w6 at *
          generalize w4.heap.size = gt at *
          have k0 := cell_is (i := 0) hnew rfl
          have k1 := cell_is (i := 1) hnew rfl
          have k2 := cell_is (i := 2) hnew rfl
          have k3 := cell_is (i := 3) hnew rfl
          have k4 := cell_is (i := 4) hnew rfl
          have k5 := cell_is (i := 5) hnew rfl
          have k6 := cell_is (i := 6) hnew rfl
          have k7 := cell_is (i := 7) hnew rfl
          have hH6 := (HH.out.af HA.out HF4.out).none_ HF6.out
          have l4 := cell_is (i := 4) hH6.main rfl
          obtain ⟨pad, ax, D, nd, cd, pc', eq2, hax, a0, a1, a2, a3, a4, a5, a6, a7, HDD⟩ := pagesAt hH6.staged hH6.spg (s := n.toNat) (by rw [HSE.out]; exact hnl)
          rw [HSE.out] at eq2
          rw [eq2] at l4
          rw [HQ.out] at a0 a1 a2 a3 a4 a5 a6 HDD
          have HD6 := As.mk ((HR4.out.none_ HF6.out).rd)
          obtain ⟨_, _, _, e9, _, hd9, _⟩ := HD6.out
          injection e9 with q4 q5 q6
          subst q4 q5 q6
          have HSM := As.mk (fun (w' : World) (hf : Fr None_ w6 w') => same_calls q.1 A5 D n5 c5 nd cd q.2 w' (hd9.out.none_ hf) (HDD.out.none_ hf) HRNG.out)
          unfold pcells at HSM
          clear hnew hH6 HD6 hd9 eq2
          go_region_held3 (fun w' => w'.cell? ⟨gt, 0, none⟩ = some (.int .u8 q.1.kind) ∧ w'.cell? ⟨gt, 1, none⟩ = some (.int .u32 q.1.epoch) ∧ w'.cell? ⟨gt, 2, none⟩ = some (.int .u32 q.1.batch) ∧ w'.cell? ⟨gt, 3, none⟩ = some (.int .u16 q.1.index) ∧ w'.cell? ⟨gt, 4, none⟩ = some (.int .u16 q.1.count) ∧ w'.cell? ⟨gt, 5, none⟩ = some (.int .u32 q.1.block) ∧ w'.cell? ⟨gt, 6, none⟩ = some (.int .u32 q.1.more) ∧ w'.cell? ⟨gt, 7, none⟩ = some (.slice A5 n5 c5) ∧ w'.cell? ax = some (.int .u8 q.1.kind) ∧ w'.cell? ⟨ax.block, ax.off + 1, none⟩ = some (.int .u32 q.1.epoch) ∧ w'.cell? ⟨ax.block, ax.off + 2, none⟩ = some (.int .u32 q.1.batch) ∧ w'.cell? ⟨ax.block, ax.off + 3, none⟩ = some (.int .u16 q.1.index) ∧ w'.cell? ⟨ax.block, ax.off + 4, none⟩ = some (.int .u16 q.1.count) ∧ w'.cell? ⟨ax.block, ax.off + 5, none⟩ = some (.int .u32 q.1.block) ∧ w'.cell? ⟨ax.block, ax.off + 6, none⟩ = some (.int .u32 q.1.more) ∧ w'.cell? ⟨ax.block, ax.off + 7, none⟩ = some (.slice D nd cd) ∧ w'.cell? ⟨Y.hb, 4, none⟩ = some (.slice (some pad) S pc')) (first | go_keep | (refine ⟨?_, ?_, ?_, ?_, ?_, ?_, ?_, ?_, ?_, ?_, ?_, ?_, ?_, ?_, ?_, ?_, ?_⟩ <;> (refine Fr.cell ‹Fr None_ w6.drew _› ?_ (fun h => h); go_keep))) (first | ((with_reducible refine (HSM.out _ ((Fr.refl None_ w6).drew)).mono ?_); rintro e w7 ⟨rfl, hf7⟩))
          all_goals
            have HF7 := As.mk (HF6.out.after ((Fr.refl None_ w6).drew.after hf7 (fun _ _ h => h)) (fun _ _ h => h))
            clear hf7
            go_wp2_with fail
            exact ⟨⟨n + 1, τ', rfl, by omega, by omega, ⟨HA4.out.none_ HF7.out, HI2.out, fun _ => HG2.out⟩, ⟨HF4.out.after HF7.out (fun _ _ h => h.elim)⟩⟩, by simp [intOf]; omega⟩
        · have hI0 : I m0 τ := by
            have h := HX.out.2.1
            rw [show m0 + (S - n.toNat) = m0 by omega] at h
            exact h
          have HI0 := As.mk hI0
          clear hI0
          have HPF := As.mk (show ∀ e w', e = Ending.returned (.bool true) → w' = w3 → AllPost σ K H I G m0 w e w' from fun e w' h1 h2 => by
            subst h2
            exact ⟨h1, τ, HI0.out, fun h => HX.out.2.2 (by rw [HSE.out] at h; omega), HX.out.1, HF.out⟩)
          go_wp2_with fail
          go_ret
          exact HPF.out _ _ rfl rfl
end Go.Proofs.YteofgpaceeibpaaGreat.AllA
namespace Go.Proofs.YteofgpaceeibpaaGreat.PlC
open Go.RowKit Go.Proofs.YteofgpaceeibpaaGreat.Gab Go.Proofs.YteofgpaceeibpaaGreat.Geom Go.Proofs.YteofgpaceeibpaaGreat.Ref Go.Proofs.YteofgpaceeibpaaGreat.Fields Go.Proofs.YteofgpaceeibpaaGreat.Seal Go.Proofs.YteofgpaceeibpaaGreat.Nand Go.Proofs.YteofgpaceeibpaaGreat.NandA Go.Proofs.YteofgpaceeibpaaGreat.NandB Go.Proofs.YteofgpaceeibpaaGreat.NandC Go.Proofs.YteofgpaceeibpaaGreat.NandD Go.Proofs.YteofgpaceeibpaaGreat.NandE Go.Proofs.YteofgpaceeibpaaGreat.NandF Go.Proofs.YteofgpaceeibpaaGreat.NandH Go.Proofs.YteofgpaceeibpaaGreat.RemapA Go.Proofs.YteofgpaceeibpaaGreat.VolA Go.Proofs.YteofgpaceeibpaaGreat.VolF Go.Proofs.YteofgpaceeibpaaGreat.MemA Go.Proofs.YteofgpaceeibpaaGreat.MemB Go.Proofs.YteofgpaceeibpaaGreat.MemC Go.Proofs.YteofgpaceeibpaaGreat.ArrA Go.Proofs.YteofgpaceeibpaaGreat.ArrC Go.Proofs.YteofgpaceeibpaaGreat.ArrD Go.Proofs.YteofgpaceeibpaaGreat.ArrE Go.Proofs.YteofgpaceeibpaaGreat.ArrF Go.Proofs.YteofgpaceeibpaaGreat.ArrG Go.Proofs.YteofgpaceeibpaaGreat.ArrI Go.Proofs.YteofgpaceeibpaaGreat.AOrd Go.Proofs.YteofgpaceeibpaaGreat.AOrdB Go.Proofs.YteofgpaceeibpaaGreat.AWrA Go.Proofs.YteofgpaceeibpaaGreat.AWrB Go.Proofs.YteofgpaceeibpaaGreat.AWrC Go.Proofs.YteofgpaceeibpaaGreat.ARead Go.Proofs.YteofgpaceeibpaaGreat.AGet Go.Proofs.YteofgpaceeibpaaGreat.LawA Go.Proofs.YteofgpaceeibpaaGreat.HeldA Go.Proofs.YteofgpaceeibpaaGreat.ActA Go.Proofs.YteofgpaceeibpaaGreat.AllA Go.Proofs.YteofgpaceeibpaaGreat.PlA Go.Proofs.YteofgpaceeibpaaGreat.PlB
open Go.Proofs.YteofgpaceeibpaaGreat.Open (openOf)
open Go.Proofs.YteofgpaceeibpaaGreat.Wr (InR)
set_option linter.unusedVariables false
set_option linter.unusedSimpArgs false

def g3 : Geo := ⟨3, 16, 4, 256⟩
theorem g3_ok : g3.Ok := ⟨by decide, by decide, by decide, by decide, by decide⟩
def kpgs : List (Head × List Int) := pgs 0 5 2
def kst : Head × List Int := (phead 0 6, pdat 0 6)
def kpg (m : Int) : List Int × List Int := pageOf g3 kpgs 6 0 m
def kstp : List Int × List Int := (pdat 0 6, sealOf (phead 0 6) (pdat 0 6) [])
def V2 : View := (V1 g3).row 8 0 kpg [0, 1, 2]
def V3 : View := V2.row 6 0 (fun _ => kstp) [0, 1]
def V4 : View := V3.kill 0
/-- Behind the stripe, and the staged page. -/
theorem kept_a {σ : Ar} (h : Whole σ g3 (V1 g3) 1) : ∃ s', Whole { σ with s := s' } g3 V2 1 ∧ σ.progs 6 0 kpg [0, 1, 2] = ({ σ with s := s' }, 0, 0) ∧ ∀ n, σ.s.Safe (n + 3) → s'.Safe n := by
  obtain ⟨s', h1, e1, f1⟩ := whole_progs (seg := 6) (row := 0) g3_ok ⟨by decide, by decide⟩ kpg [0, 1, 2] σ (V1 g3) 0 h (by decide) (fun m hm => by
    have h3 : m = 0 ∨ m = 1 ∨ m = 2 := by simpa using hm
    refine ⟨by omega, by show m < 3; omega, rfl, ?_⟩
    exact V1_nx _ (by decide))
  exact ⟨s', h.turn h1, e1, f1⟩
theorem kept_b {σ : Ar} (h : Whole σ g3 V2 1) : ∃ s', Whole { σ with s := s' } g3 V3 1 ∧ σ.progs 4 0 (fun _ => kstp) [0, 1] = ({ σ with s := s' }, 0, 0) ∧ ∀ n, σ.s.Safe (n + 2) → s'.Safe n := by
  obtain ⟨s', h1, e1, f1⟩ := whole_progs (seg := 4) (row := 0) g3_ok ⟨by decide, by decide⟩ (fun _ => kstp) [0, 1] σ V2 0 h (by decide) (fun m hm => by
    have h3 : m = 0 ∨ m = 1 := by simpa using hm
    refine ⟨by omega, by show m < 3; omega, rfl, ?_⟩
    show (if (m.toNat : Int) ∈ [0, 1, 2] ∧ (6 : Nat) = 8 then ((0 : Nat) : Int) + 1 else (V1 g3).nx m.toNat 6) = 0
    rw [if_neg (fun h => absurd h.2 (by decide))]
    exact V1_nx _ (by decide))
  exact ⟨s', h.turn h1, e1, f1⟩
/-- An array of which the first chip is dead; whether that is noted. -/
structure Kp (τ : Ar) (d : Bool) : Prop where
  sees : Sees τ.s g3 V4
  lost : τ.lost = false
  vol : ∀ c, c = 1 ∨ c = 2 → τ.vol c = some (tb g3)
  set : τ.set = if d = true then { first g3 with seq := 1, dead := 0, done := 0 } else { first g3 with seq := 1 }
theorem Kp.chip {τ : Ar} {d : Bool} (h : Kp τ d) {m : Nat} (hm : m < 3) : τ.chip m = m := by
  unfold Ar.chip
  rw [h.set]
  cases d
  · show (((List.range g3.c.toNat).map Int.ofNat).getD m 0).toNat = m
    rw [List.getD_eq_getElem?_getD, List.getElem?_map, List.getElem?_range (by show m < 3; exact hm)]
    rfl
  · show (((List.range g3.c.toNat).map Int.ofNat).getD m 0).toNat = m
    rw [List.getD_eq_getElem?_getD, List.getElem?_map, List.getElem?_range (by show m < 3; exact hm)]
    rfl
theorem Kp.more {τ : Ar} {d : Bool} (h : Kp τ d) : Kp { τ with s := τ.s.more } d := ⟨h.sees.more, h.lost, h.vol, h.set⟩
theorem Kp.read {τ : Ar} {d : Bool} (h : Kp τ d) {m : Nat} (hm : m = 1 ∨ m = 2) : τ.read m = ({ τ with s := τ.s.more }, 0) := by
  have hd : τ.set.dead ≠ (m : Int) := by rw [h.set]; cases d <;> rcases hm with rfl | rfl <;> decide
  have hl : V4.dead m = false := by rcases hm with rfl | rfl <;> rfl
  unfold Ar.read
  rw [h.lost, if_neg (by decide), if_neg hd, h.sees.read_ok (by rw [h.chip (by omega)]; exact hl)]
  rfl
theorem Kp.bytes {τ : Ar} {d : Bool} (h : Kp τ d) {m b : Nat} (k : Nat) (hm : m = 1 ∨ m = 2) (hb : (b : Int) < 11) {x : List Int × List Int} (hp : V4.pg m (b + 2) k = some x) : τ.bytes m b k = x := by
  unfold Ar.bytes
  have ht : τ.tab m = tb g3 := by unfold Ar.tab; rw [h.vol m hm]; rfl
  rw [h.chip (by omega), ht, at_fmt g3_ok (by show (b : Int) < 11; exact hb)]
  exact h.sees.bytes hp
theorem V4_row {m : Nat} (hm : m < 3) : V4.pg m 8 0 = some (kpg m) := by
  show (if (m : Int) ∈ [0, 1] ∧ (8 : Nat) = 6 ∧ (0 : Nat) = 0 then some kstp else if (m : Int) ∈ [0, 1, 2] ∧ (8 : Nat) = 8 ∧ (0 : Nat) = 0 then some (kpg m) else (V1 g3).pg m 8 0) = some (kpg m)
  have hin : (m : Int) ∈ [0, 1, 2] := by
    have : m = 0 ∨ m = 1 ∨ m = 2 := by omega
    rcases this with rfl | rfl | rfl <;> decide
  rw [if_neg (fun h => absurd h.2.1 (by decide)), if_pos ⟨hin, rfl, rfl⟩]
theorem V4_st {m : Nat} (hm : m < 2) : V4.pg m 6 0 = some kstp := by
  show (if (m : Int) ∈ [0, 1] ∧ (6 : Nat) = 6 ∧ (0 : Nat) = 0 then some kstp else _) = some kstp
  have hin : (m : Int) ∈ [0, 1] := by
    have : m = 0 ∨ m = 1 := by omega
    rcases this with rfl | rfl <;> decide
  rw [if_pos ⟨hin, rfl, rfl⟩]
theorem Kp.there {τ : Ar} {d : Bool} (h : Kp τ d) (h0 : d = false → ∃ t, τ.vol 0 = some t) : τ.There := fun _ m hm hne => by
  rw [h.sees.g] at hm
  have hm3 : (m : Int) < 3 := hm
  rw [h.chip (by omega)]
  by_cases e : m = 0
  · subst e
    cases d
    · exact h0 rfl
    · exact absurd (by rw [h.set]; rfl) hne
  · exact ⟨_, h.vol m (by omega)⟩
/-- The first chip's death is noted. -/
def d1 (τ : Ar) : Ar := { s := τ.s.more, vol := fun k => if k = 0 then none else τ.vol k, set := { τ.set with dead := 0, done := 0 }, lost := τ.lost }
theorem Kp.d1 {τ : Ar} (h : Kp τ false) : Kp (d1 τ) true := ⟨h.sees.more, h.lost, fun c hc => by
  show (if c = 0 then none else τ.vol c) = some (tb g3)
  rw [if_neg (by omega)]
  exact h.vol c hc, by show ({ τ.set with dead := 0, done := 0 } : MS) = _; rw [h.set]; rfl⟩
theorem Kp.read0 {τ : Ar} (h : Kp τ false) : τ.read 0 = (PlC.d1 τ, 71) := by
  have hr : τ.s.read 0 = (τ.s.more, 71) := by rw [h.sees.read 0]; rfl
  have hset : τ.set = { first g3 with seq := 1 } := h.set
  have hidx : idxOf τ.set.chips 0 = some 0 := by rw [hset]; rfl
  have hsp : τ.set.spare = 3 := by rw [hset]; rfl
  have hdd : τ.set.dead = 255 := by rw [hset]; rfl
  have hdied : Ar.died { τ with s := τ.s.more } 0 = (PlC.d1 τ, 0) := by
    unfold Ar.died
    show (if τ.set.spare = ((0 : Nat) : Int) then _ else _) = _
    rw [hsp, if_neg (by decide)]
    show (match idxOf τ.set.chips 0 with
      | some m => (Ar.drop { τ with s := τ.s.more } 0).gone m
      | none => (Ar.drop { τ with s := τ.s.more } 0, 0)) = _
    rw [hidx]
    show Ar.gone (Ar.drop { τ with s := τ.s.more } 0) 0 = _
    unfold Ar.gone
    show (if τ.set.dead = ((0 : Nat) : Int) then _ else if τ.set.dead = 255 then _ else _) = _
    rw [hdd, if_neg (by decide), if_pos rfl]
    rfl
  unfold Ar.read
  rw [if_neg (by rw [h.lost]; decide), hdd, if_neg (by decide), h.chip (by decide), hr]
  dsimp only
  rw [if_pos rfl, hdied]
  rfl
theorem Kp.read0' {τ : Ar} (h : Kp τ true) : τ.read 0 = (τ, 71) := by
  unfold Ar.read
  rw [h.lost, if_neg (by decide), h.set]
  rfl
def KI (n : Nat) (τ : Ar) : Prop := (Kp τ true ∨ (Kp τ false ∧ ∃ t, τ.vol 0 = some t)) ∧ τ.s.Safe (2 * n)
def KH : Held := ⟨fun j => if j = 0 then [kpgs] else [], [kst], -1⟩
theorem KI.there {n : Nat} {τ : Ar} (h : KI n τ) : τ.There := by
  rcases h.1 with h1 | ⟨h1, h2⟩
  · exact h1.there (fun e => by cases e)
  · exact h1.there (fun _ => h2)
theorem KI.kp {n : Nat} {τ : Ar} (h : KI n τ) : ∃ d, Kp τ d := by
  rcases h.1 with h1 | ⟨h1, h2⟩
  · exact ⟨_, h1⟩
  · exact ⟨_, h1⟩
theorem safe_more {s : St} {g : Geo} {V : View} (hs : Sees s g V) {n : Nat} (h : s.Safe (n + 1)) : s.more.Safe n := by
  have h1 := h.start 0
  rw [hs.start 0] at h1
  exact h1
theorem kpgs_get {s : Nat} (hs : s < 2) : kpgs.getD s noPage = (phead s 5, pdat s 5) := by
  have : s = 0 ∨ s = 1 := by omega
  rcases this with rfl | rfl <;> rfl
theorem kpg_data {s : Nat} (hs : s < 2) : kpg ((s : Int) + 1) = (pdat s 5, sealOf (phead s 5) (pdat s 5) []) := by
  have : s = 0 ∨ s = 1 := by omega
  rcases this with rfl | rfl <;> rfl
theorem kst_inr : InR 256 kstp.1 ∧ InR 256 kstp.2 := ⟨pdat_range _ _, seal_range (fun x hx => by cases hx)⟩
theorem kept_tells (K : ALay) : Tells K g3 KH KI (fun τ => Kp τ true) := by
  refine ⟨fun n τ h => by obtain ⟨d, h1⟩ := h.kp; exact h1.sees.g, fun n m τ h hm => ⟨h.1, h.2.le (by omega)⟩, ?_, ?_, ?_, ?_, ?_, by decide⟩
  · intro n τ h k hk hkl m hm s hs
    have hk0 : k = 0 := by
      by_cases e : k = 0
      · exact e
      · have : (KH.rows k).length = 0 := by show (if k = 0 then [kpgs] else []).length = 0; rw [if_neg e]; rfl
        omega
    subst hk0
    have hm0 : m = 0 := by have : (KH.rows 0).length = 1 := rfl; omega
    subst hm0
    have hs2 : s < 2 := by have : ((KH.rows 0).getD 0 []).length = 2 := rfl; omega
    obtain ⟨d, hkp⟩ := h.kp
    have hmem : g3.mem 6 0 s = (s : Int) + 1 := by
      have : s = 0 ∨ s = 1 := by omega
      rcases this with rfl | rfl <;> rfl
    have hmm : s + 1 = 1 ∨ s + 1 = 2 := by omega
    have hmt : (τ.s.g.mem 6 0 s).toNat = s + 1 := by rw [hkp.sees.g, hmem]; omega
    refine ⟨{ τ with s := τ.s.more }, ⟨?_, safe_more hkp.sees (h.2.le (by omega))⟩, fun w hA => ?_⟩
    · rcases h.1 with h1 | ⟨h1, h2⟩
      · exact .inl h1.more
      · exact .inr ⟨h1.more, h2⟩
    · have hby : τ.bytes (s + 1) 6 0 = (pdat s 5, sealOf (phead s 5) (pdat s 5) []) := by
        rw [← kpg_data hs2]
        exact hkp.bytes 0 hmm (by decide) (V4_row (m := s + 1) (by omega))
      have hq : ((KH.rows 0).getD 0 []).getD s noPage = (phead s 5, pdat s 5) := kpgs_get hs2
      rw [hq]
      show Calls _ _ #[dev K.x, .agg #[.int .i64 (6 + ((0 : Nat) : Int)), .int .i64 ((0 : Nat) : Int), .int .i64 (s : Int)]] _ _
      have hr := Read_direct τ K 6 0 s w (phead s 5) ({ τ with s := τ.s.more }, 0) (pdat s 5, sealOf (phead s 5) (pdat s 5) []) hA h.there ⟨by rw [hkp.sees.g]; decide, by rw [hkp.sees.g]; decide⟩ (by omega) (by rw [hkp.sees.g]; show (s : Int) < 2; omega) (by rw [hmt]; exact hkp.read hmm) rfl (by rw [hmt]; exact hby) (open_page (by omega) (by omega) (by decide) (by decide)) ⟨pdat_range _ _, seal_range (fun x hx => by cases hx)⟩ (2 * n) (h.2.le (by omega))
      exact hr
  · intro n τ h m hm
    have hm0 : m = 0 := by have : KH.staged.length = 1 := rfl; omega
    subst hm0
    obtain ⟨d, hkp⟩ := h.kp
    -- the array behind the first read
    have hstep : ∃ τ1, Kp τ1 true ∧ τ1.There ∧ One τ 0 4 0 (τ1, 71) (τ.bytes 0 4 0) ∧ τ1.s.Safe (2 * n + 1) := by
      rcases h.1 with h1 | ⟨h1, h2⟩
      · exact ⟨τ, h1, h.there, ⟨h1.read0', rfl, fun e => absurd (show (71 : Int) = 0 from e) (by decide)⟩, h.2.le (by omega)⟩
      · exact ⟨d1 τ, h1.d1, h1.d1.there (fun e => by cases e), ⟨h1.read0, rfl, fun e => absurd (show (71 : Int) = 0 from e) (by decide)⟩, safe_more h1.sees h.2⟩
    obtain ⟨τ1, k1, th1, o1, sf1⟩ := hstep
    have hby : τ1.bytes 1 4 0 = kstp := k1.bytes 0 (.inl rfl) (by decide) (V4_st (m := 1) (by decide))
    have hg : Gets τ 0 4 0 (phead 0 6) (pdat 0 6) { τ1 with s := τ1.s.more } := .inr ⟨τ1, 71, _, th1, o1, .inl rfl, ⟨kstp, ⟨k1.read (.inl rfl), hby, fun _ => kst_inr⟩, open_page (by decide) (by decide) (by decide) (by decide), rfl⟩⟩
    refine ⟨{ τ1 with s := τ1.s.more }, ⟨.inl k1.more, safe_more k1.sees sf1⟩, k1.more, fun w hA => ?_⟩
    exact Get_calls τ { τ1 with s := τ1.s.more } K 0 0 (phead 0 6) (pdat 0 6) w hA h.there ⟨by decide, by decide⟩ (by decide) (by rw [hkp.sees.g]; decide) (by rw [hkp.sees.g]; exact hg) (2 * n) h.2
  · intro k hk m hm s hs
    have hk0 : k = 0 := by
      by_cases e : k = 0
      · exact e
      · have : (KH.rows k).length = 0 := by show (if k = 0 then [kpgs] else []).length = 0; rw [if_neg e]; rfl
        omega
    subst hk0
    have hm0 : m = 0 := by have : (KH.rows 0).length = 1 := rfl; omega
    subst hm0
    have hs2 : s < 2 := by have : ((KH.rows 0).getD 0 []).length = 2 := rfl; omega
    have hq : ((KH.rows 0).getD 0 []).getD s noPage = (phead s 5, pdat s 5) := kpgs_get hs2
    rw [hq]
    exact pdat_range _ _
  · intro m hm
    have hm0 : m = 0 := by have : KH.staged.length = 1 := rfl; omega
    subst hm0
    exact pdat_range _ _
  · intro k hk
    have : k = 0 ∨ k = 1 ∨ k = 2 ∨ k = 3 := by omega
    rcases this with rfl | rfl | rfl | rfl
    · refine ⟨by decide, fun m hm => ?_⟩
      have hm0 : m = 0 := by have : (KH.rows 0).length = 1 := rfl; omega
      subst hm0
      decide
    · exact ⟨by decide, fun m hm => absurd hm (Nat.not_lt_zero _)⟩
    · exact ⟨by decide, fun m hm => absurd hm (Nat.not_lt_zero _)⟩
    · exact ⟨by decide, fun m hm => absurd hm (Nat.not_lt_zero _)⟩
end Go.Proofs.YteofgpaceeibpaaGreat.PlC
namespace Go.Proofs.YteofgpaceeibpaaGreat.Kpt
open Go.RowKit Go.Proofs.YteofgpaceeibpaaGreat.Gab Go.Proofs.YteofgpaceeibpaaGreat.Geom Go.Proofs.YteofgpaceeibpaaGreat.Sum Go.Proofs.YteofgpaceeibpaaGreat.Ref Go.Proofs.YteofgpaceeibpaaGreat.Par Go.Proofs.YteofgpaceeibpaaGreat.Fields Go.Proofs.YteofgpaceeibpaaGreat.Seal Go.Proofs.YteofgpaceeibpaaGreat.Nand Go.Proofs.YteofgpaceeibpaaGreat.NandA Go.Proofs.YteofgpaceeibpaaGreat.NandE Go.Proofs.YteofgpaceeibpaaGreat.NandF Go.Proofs.YteofgpaceeibpaaGreat.NandG Go.Proofs.YteofgpaceeibpaaGreat.NandH Go.Proofs.YteofgpaceeibpaaGreat.MemA Go.Proofs.YteofgpaceeibpaaGreat.MemC Go.Proofs.YteofgpaceeibpaaGreat.ArrA Go.Proofs.YteofgpaceeibpaaGreat.ArrB Go.Proofs.YteofgpaceeibpaaGreat.ArrD Go.Proofs.YteofgpaceeibpaaGreat.ArrI Go.Proofs.YteofgpaceeibpaaGreat.AOrd Go.Proofs.YteofgpaceeibpaaGreat.AOrdB Go.Proofs.YteofgpaceeibpaaGreat.AWrA Go.Proofs.YteofgpaceeibpaaGreat.AWrB Go.Proofs.YteofgpaceeibpaaGreat.AWrC Go.Proofs.YteofgpaceeibpaaGreat.LawA Go.Proofs.YteofgpaceeibpaaGreat.HeldA Go.Proofs.YteofgpaceeibpaaGreat.ActA Go.Proofs.YteofgpaceeibpaaGreat.ActB Go.Proofs.YteofgpaceeibpaaGreat.AllA Go.Proofs.YteofgpaceeibpaaGreat.PlA Go.Proofs.YteofgpaceeibpaaGreat.PlB Go.Proofs.YteofgpaceeibpaaGreat.PlC
open Go.Proofs.YteofgpaceeibpaaGreat.Wr (InR)
open Go.Proofs.YteofgpaceeibpaaGreat.Heap (cell_is)
open Go.Proofs.YteofgpaceeibpaaGreat.Str (pcells)
set_option linter.unusedVariables false
set_option linter.unusedSimpArgs false

def H0 : Held := ⟨fun _ => [], [], -1⟩
theorem held_new {w : World} {base : Nat} (hb : base ≤ w.heap.size) : HeldAt (w.alloc (.cells #[.slice none 0 0, .slice none 0 0, .slice none 0 0, .slice none 0 0, .slice none 0 0, .int .i64 (-1)] HT)) base H0 ⟨w.heap.size, fun _ => .slice none 0 0, fun _ => [], .slice none 0 0, []⟩ :=
  ⟨heap_alloc_new w _, hb, fun k _ => RowV.nil _ _ _ _, fun k _ n hn => absurd hn (Nat.not_lt_zero _), RowV.nil _ _ _ _, SPs.nil _ _, fun k k' _ _ _ b hb => (by cases hb), fun k _ n hn => absurd hn (Nat.not_lt_zero _)⟩
set_option maxHeartbeats 8000000 in
set_option maxRecDepth 100000 in
theorem kept_calls (w : World) : Calls Tryz.prog 7 #[] w fun e w' => e = .returned (.bool true) ∧ Fr None_ w w' := by
  have HGEO := As.mk (fun w => show Calls Tryz.prog 8 #[.int .i64 0] w fun e w' => e = .returned g3.val ∧ Fr None_ w w' from geo_calls 0 w)
  have HNEW := As.mk (fun w => New_calls g3 w g3_ok)
  obtain ⟨σ1, ef, hw1⟩ := afmt_new g3_ok
  have hs1 : σ1.s.Safe 1000000 := by
    have h := afmt_safe (s := St.new g3) g3_ok (m := 1000000) (new_safe g3 (by decide))
    rw [ef] at h
    exact h
  have HFMT := As.mk (fun p L w (hN : Nand w p (St.new g3) L) => Format_calls p (St.new g3) L w hN 1000000 (new_safe g3 (by decide)))
  unfold AFPost at HFMT
  rw [ef] at HFMT
  obtain ⟨s2, hw2, e2, f2⟩ := kept_a hw1
  obtain ⟨s3, hw3, e3, f3⟩ := kept_b hw2
  have HP1 := As.mk (show σ1.progs (6 + u64of 0 % 4) ([] : List (List (Head × List Int))).length (fun m => pageOf σ1.s.g (pgs ([] : List (List (Head × List Int))).length 5 (σ1.s.g.c - 1).toNat) (6 + u64of 0 % 4) ([] : List (List (Head × List Int))).length m) (orderOf σ1.ahead σ1.s.g.c) = ({ σ1 with s := s2 }, 0, 0) from by
    rw [hw1.sees.g, ahead_none hw1]
    exact e2)
  have HP2 := As.mk (show Ar.progs { σ1 with s := s2 } 4 (((([] : List (Head × List Int)).length : Nat) : Int) / (Ar.s { σ1 with s := s2 }).g.pairs) (fun _ => (pdat (([] : List (Head × List Int)).length : Nat) 6, sealOf (phead (([] : List (Head × List Int)).length : Nat) 6) (pdat (([] : List (Head × List Int)).length : Nat) 6) [])) (orderAt (Ar.ahead { σ1 with s := s2 }) (2 * ((([] : List (Head × List Int)).length : Nat) % (Ar.s { σ1 with s := s2 }).g.pairs)) 2) = ({ σ1 with s := s3 }, 0, 0) from by
    rw [hw2.sees.g, ahead_none hw2]
    exact e3)
  have hs2 := f2 900000 (hs1.le (by decide))
  have hs3 := f3 800000 (hs2.le (by decide))
  have HS1 := As.mk hs1
  have HS2 := As.mk hs2
  have HS3 := As.mk hs3
  have HW1 := As.mk hw1
  have HW2 := As.mk hw2
  have HW3 := As.mk hw3
  have HFU := As.mk (fun v w' (hv : MSV w' v σ1.set) => show Calls Tryz.prog 14 #[v] w' fun e w'' => e = .returned (.bool true) ∧ Fr None_ w' w'' from by
    have h := Full_calls v σ1.set w' hv
    rw [hw1.set] at h
    exact h)
  have HG1 := As.mk (fun K w' (h : ArAt w' σ1 K) => show Calls Tryz.prog 27 #[.pointer (some ⟨K.x, 0, none⟩)] w' fun e w'' => e = .returned (.agg #[.int .i64 3, .int .i64 16, .int .i64 4, .int .i64 256]) ∧ Fr None_ w' w'' from by
    have h9 := ArrA.Geo_calls σ1 K w' h
    rw [hw1.sees.g] at h9
    exact h9)
  clear ef hs1 e2 f2 e3 f3 hs2 hs3 hw1 hw2 hw3
  unfold Geo.val g3 at HGEO HNEW
  go_enter Tryz.func7, Tryz.ntmps7
  go_wp2_with fail
  ((with_reducible refine (HGEO.out _).mono ?_); rintro e w1 ⟨rfl, hf1⟩)
  have HF1 := As.mk hf1
  clear hf1
  go_wp2_with fail
  ((with_reducible refine (HNEW.out _).mono ?_); rintro e w2 ⟨p, L, rfl, hN2, hf2, hnf⟩)
  have HN2 := As.mk hN2
  have HF2 := As.mk (HF1.out.after hf2 (fun _ _ h => h))
  have HNF := As.mk (fun b hb => Nat.le_trans HF1.out.size (hnf b hb))
  clear hN2 hf2 hnf
  go_wp2_with fail
  ((with_reducible refine (HFMT.out p L _ HN2.out).mono ?_); rintro e w3 ⟨hf3, hr3⟩)
  obtain ⟨K, rfl, hA3, hK⟩ : ∃ K, e = .returned (.tuple #[.pointer (some ⟨K.x, 0, none⟩), .int .i64 0]) ∧ ArAt w3 σ1 K ∧ ANew w2.heap.size p L K := by
    rcases hr3 with ⟨_, h⟩ | ⟨h9, _⟩
    · exact h
    · exact absurd rfl h9
  have HK := As.mk hK
  have HA3 := As.mk hA3
  have HF3 := As.mk (show Fr None_ w w3 from HF2.out.after hf3 (fun b hb h => absurd (HNF.out b h) (by omega)))
  clear hA3 hf3 hK
  go_wp2_with fail
  ((with_reducible refine (ArrB.Set_calls σ1 K _ HA3.out).mono ?_); rintro e w4 ⟨v4, rfl, hm4, hf4⟩)
  have HF4 := As.mk (HF3.out.after hf4 (fun _ _ h => h))
  have HA4 := As.mk (HA3.out.none_ hf4)
  have HM4 := As.mk hm4.msv
  clear hf4 hm4
  go_wp2_with fail
  ((with_reducible refine (HFU.out v4 _ HM4.out).mono ?_); rintro e w5 ⟨rfl, hf5⟩)
  have HF5 := As.mk (HF4.out.after hf5 (fun _ _ h => h))
  have HA5 := As.mk (HA4.out.none_ hf5)
  clear hf5
  go_wp2_with fail
  ((with_reducible refine (HG1.out K _ HA5.out).mono ?_); rintro e w6 ⟨rfl, hf6⟩)
  have HF6 := As.mk (HF5.out.after hf6 (fun _ _ h => h))
  have HA6 := As.mk (HA5.out.none_ hf6)
  clear hf6
  go_wp2_with fail
  ((with_reducible refine (HGEO.out _).mono ?_); rintro e w7 ⟨rfl, hf7⟩)
  have HF7 := As.mk (HF6.out.after hf7 (fun _ _ h => h))
  have HA7 := As.mk (HA6.out.none_ hf7)
  clear hf7
  have hN7 : ∀ b, AF K σ1 b → w.heap.size ≤ b := fun b hb => by
    obtain ⟨k1, k2, k3, k4, k5⟩ := HK.out
    have hz := HF2.out.size
    rcases hb with hb | hb | hb
    · refine HNF.out b ?_
      rw [← k1, ← k2]
      have e1 : σ1.s.n = (St.new g3).n := by unfold St.n; rw [HW1.out.sees.g]; rfl
      have e2 : σ1.s.nb = (St.new g3).nb := by unfold St.nb; rw [HW1.out.sees.g]; rfl
      rw [e1, e2] at hb
      exact hb
    · omega
    · omega
  have HN7 := As.mk hN7
  have hsz : w.heap.size ≤ w7.heap.size := HF7.out.size
  have HH8 := As.mk (held_new hsz)
  have HF8 := As.mk (HF7.out.alloc (.cells #[.slice none 0 0, .slice none 0 0, .slice none 0 0, .slice none 0 0, .slice none 0 0, .int .i64 (-1)] HT))
  have HA8 := As.mk (HA7.out.none_ ((Fr.refl None_ w7).alloc (.cells #[.slice none 0 0, .slice none 0 0, .slice none 0 0, .slice none 0 0, .slice none 0 0, .int .i64 (-1)] HT)))
  clear hN7 hsz
  go_upto_region 8 with fail
  generalize w7.alloc (.cells #[.slice none 0 0, .slice none 0 0, .slice none 0 0, .slice none 0 0, .slice none 0 0, .int .i64 (-1)] HT) = w8 at *
  generalize w7.heap.size = hb at *
  have ha1 := Act1_calls σ1 K w.heap.size H0 ⟨hb, fun _ => .slice none 0 0, fun _ => [], .slice none 0 0, []⟩ 0 5 _ w8 HA8.out HW1.out.there HH8.out HF8.out.size (by decide) (by decide) (by rw [HW1.out.sees.g]; rfl) (by rw [HW1.out.sees.g]; decide) HP1.out (by simp [wcode]) 900000 (HS1.out.le (by decide))
  unfold ActPost at ha1
  rw [HW1.out.sees.g] at ha1
  have HA1 := As.mk ha1
  clear ha1
  go_wp2_with fail
  ((with_reducible refine HA1.out.mono ?_); rintro e w9 ⟨rfl, hA9, ⟨Y9, hH9, hY9⟩, hf9⟩)
  have HA9 := As.mk hA9
  have HH9 := As.mk hH9
  have HF9 := As.mk (show Fr None_ w w9 from HF8.out.after hf9 (fun b hb h => by
    rcases h with h | h
    · have := HN7.out b h; omega
    · omega))
  have HY9 := As.mk hY9
  clear hA9 hH9 hf9 hY9 HA1
  have ha2 := Act2_calls { σ1 with s := s2 } K w.heap.size _ Y9 0 6 _ w9 HA9.out HW2.out.there HH9.out HF9.out.size (by decide) (by decide) (by rw [HW2.out.sees.g]; rfl) (by rw [HW2.out.sees.g]; decide) HP2.out (by simp [wcode]) 800000 (HS2.out.le (by decide))
  unfold ActPost at ha2
  rw [HY9.out] at ha2
  have HA2 := As.mk ha2
  clear ha2
  go_wp2_with fail
  ((with_reducible refine HA2.out.mono ?_); rintro e wa ⟨rfl, hAa, ⟨Ya, hHa, hYa⟩, hfa⟩)
  have HAa := As.mk hAa
  have HHa := As.mk (show HeldAt wa w.heap.size KH Ya from hHa)
  have HYa := As.mk hYa
  have HFa := As.mk (show Fr None_ w wa from HF9.out.after hfa (fun b hb h => by
    rcases h with h | h
    · have := HN7.out b ((AF.eq (K := K) (σ := σ1) (σ' := { σ1 with s := s2 }) (by show s2.g = σ1.s.g; rw [HW2.out.sees.g, HW1.out.sees.g]) b).1 h); omega
    · omega))
  clear hAa hHa hYa hfa HA2
  have k0 := (HHa.out.rowc (k := 0) (by decide)).1
  rw [HYa.out] at k0
  obtain ⟨rA, rc, er, _, _, _⟩ := (HHa.out.rows 0 (by decide)).rd
  rw [er] at k0
  have k1 : wa.cell? ⟨hb, 0, none⟩ = some (.slice rA 1 rc) := k0
  have HKL := As.mk (show Calls Tryz.prog 20 #[.pointer (some ⟨p, 0, none⟩), .int .i64 0] wa fun e w' => e = .returned (.tuple #[]) ∧ ArAt w' { σ1 with s := s3.kill 0 } K ∧ HeldAt w' w.heap.size KH Ya ∧ Fr None_ w w' from by
    obtain ⟨q1, q2, _⟩ := HK.out
    have h := Kill_calls K.p s3 K.L 0 wa HAa.out.nand (by show 0 < s3.n; unfold St.n; rw [HW3.out.sees.g]; decide)
    rw [q2] at h
    refine h.mono ?_
    rintro e w' ⟨h1, h2, h3⟩
    rw [← q2] at h2 h3
    have h4 : ArAt w' { σ1 with s := s3.kill 0 } K := HAa.out.turn h2 rfl h3
    have h5 : Fr (AF K { σ1 with s := s3 }) wa w' := h3.mono (fun b _ h => .inl h)
    refine ⟨h1, h4, HHa.out.af HAa.out h5, HFa.out.after h3 (fun b hb h => absurd (HN7.out b (.inl ?_)) (by omega))⟩
    have e1 : s3.n = σ1.s.n := by unfold St.n; rw [HW3.out.sees.g, HW1.out.sees.g]
    have e2 : s3.nb = σ1.s.nb := by unfold St.nb; rw [HW3.out.sees.g, HW1.out.sees.g]
    rw [← e1, ← e2]
    exact h)
  clear k0 er
  go_wp2_with fail
  ((with_reducible refine HKL.out.mono ?_); rintro e wb ⟨rfl, hAb, hHb, hfb⟩)
  have HAb := As.mk hAb
  have HFb := As.mk hfb
  have hkp : Kp { σ1 with s := s3.kill 0 } false := ⟨HW3.out.sees.kill 0, HW1.out.lost, fun c hc => by rw [HW1.out.vol, if_pos (by show c < 3; omega)], HW1.out.set⟩
  have hki : KI (fuel 1000 KH.staged.length 0 0 0) { σ1 with s := s3.kill 0 } := ⟨.inr ⟨hkp, _, by rw [HW1.out.vol, if_pos (by decide)]⟩, safe_kill (HS3.out.le (by decide)) 0⟩
  have hall := All_calls { σ1 with s := s3.kill 0 } K w.heap.size KH Ya KI (fun τ => Kp τ true) 1000 wb hAb hHb (by show Tells K s3.g KH KI _; rw [HW3.out.sees.g]; exact kept_tells K) hki
  unfold AllPost at hall
  rw [HYa.out] at hall
  have HALL := As.mk hall
  clear hAb hHb hfb hkp hki hall k1
  go_wp2_with fail
  ((with_reducible refine HALL.out.mono ?_); rintro e wc ⟨rfl, τ, hI, hG, hAc, hfc⟩)
  have HG := As.mk (hG (by decide))
  have HAc := As.mk hAc
  have HFc := As.mk (show Fr None_ w wc from HFb.out.after hfc (fun b hb h => by
    have h9 : AF K σ1 b := (AF.eq (K := K) (σ := σ1) (σ' := { σ1 with s := s3.kill 0 }) (by show s3.g = σ1.s.g; rw [HW3.out.sees.g, HW1.out.sees.g]) b).1 h
    have := HN7.out b h9
    omega))
  clear hI hG hAc hfc HALL
  go_wp2_with fail
  ((with_reducible refine (ArrB.Set_calls τ K _ HAc.out).mono ?_); rintro e wd ⟨v5, rfl, hm5, hfd⟩)
  have HFd := As.mk (HFc.out.after hfd (fun _ _ h => h))
  have HAd := As.mk (HAc.out.none_ hfd)
  have HFL := As.mk (show Calls Tryz.prog 14 #[v5] wd fun e w'' => e = .returned (.bool false) ∧ Fr None_ wd w'' from by
    have h := Full_calls v5 τ.set wd hm5.msv
    rw [HG.out.set] at h
    exact h)
  have HAHD := As.mk (fun w' (h : ArAt w' τ K) => show Calls Tryz.prog 28 #[.pointer (some ⟨K.x, 0, none⟩)] w' fun e w'' => e = .returned (.int .i64 0) ∧ Fr None_ w' w'' from by
    have h9 := Ahead_calls τ K w' h
    have h8 : τ.ahead = 0 := by unfold Ar.ahead; rw [HG.out.set]; rfl
    rw [h8] at h9
    exact h9)
  clear hfd hm5
  go_wp2_with fail
  ((with_reducible refine HFL.out.mono ?_); rintro e we ⟨rfl, hfe⟩)
  have HFe := As.mk (HFd.out.after hfe (fun _ _ h => h))
  have HAe := As.mk (HAd.out.none_ hfe)
  clear hfe
  go_wp2_with fail
  ((with_reducible refine (HAHD.out _ HAe.out).mono ?_); rintro e wf ⟨rfl, hff⟩)
  have HFf := As.mk (HFe.out.after hff (fun _ _ h => h))
  clear hff
  go_wp2_with fail
  go_ret
  exact ⟨rfl, HFf.out⟩
end Go.Proofs.YteofgpaceeibpaaGreat.Kpt

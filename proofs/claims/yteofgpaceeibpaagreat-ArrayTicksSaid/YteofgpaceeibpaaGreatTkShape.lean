/- gabionlaw13: its shapes, pages, and whether pages are the same. | Plain laws: an array of fresh chips; what stands on them; the stripe and the staged page of 'kept'. | The laws' arguments, opened: a slice of operations, a case (a struct with slices). | The three shapes of law 13. -/
import Derived.Test.YteofgpaceeibpaaGreatTkAGet
import Derived.Test.YteofgpaceeibpaaGreatTkPlA
import Derived.Test.YteofgpaceeibpaaGreatRows
import Derived.Test.YteofgpaceeibpaaGreatTkStr
import Derived.WalkKit
import Derived.ProofKit
import Derived.OpenShut
import Derived.ChangeOld
import Derived.Below
import Derived.SizedLaws
import Derived.Deep.Slices
import Derived.Deep.Fields
import Derived.ChangeSame
namespace Go.Proofs.YteofgpaceeibpaaGreat.LawA
open Go.RowKit Gab Geom Go.Proofs.YteofgpaceeibpaaGreat.Sum Ref Par Fields Seal
open Wr (InR)
open Heap (cell_is)
open Str (pcells)
open ARead (fr_set8)
set_option linter.unusedVariables false
set_option linter.unusedSimpArgs false

theorem Row.at_ {e : TypeId} {k : IntKind} {w : World} {base : Nat} {v : Value} {xs : List Int} (h : Row e k w base v xs) (hx : 0 < xs.length) : ∃ g cap, v = .slice (some ⟨g, 0, none⟩) xs.length cap ∧ RowAt e k w base g xs.length cap xs := by
  have h0 := h
  rcases h.2 with ⟨rfl, hn⟩ | ⟨g, cap, cur, rfl, _⟩
  · omega
  · exact ⟨g, cap, rfl, rfl, h0⟩
theorem infoSP : (Tryz.prog.info? 117).map (fun i => (i.zero, i.size, i.bytes)) = some (some (.agg #[.int .u8 0, .int .u32 0, .int .u32 0, .int .u16 0, .int .u16 0, .int .u32 0, .int .u32 0, .slice none 0 0]), 8, 48) := by kernel_rfl
def u64of (n : Int) : Int := n % 18446744073709551616
/-- A shape, of some members. -/
def geoOf (n : Int) : Geo := ⟨3 + u64of n % 3, 16, 4, 256⟩
theorem geo_ok (n : Int) : (geoOf n).Ok := ⟨by show 3 ≤ 3 + u64of n % 3 ∧ 3 + u64of n % 3 ≤ 16; omega, by show (16 : Int) ≤ 16 ∧ (16 : Int) ≤ 64; decide, by show (4 : Int) ≤ 4 ∧ (4 : Int) ≤ 32; decide, by show (256 : Int) ≤ 256 ∧ (256 : Int) ≤ 1024; decide, by show (256 : Int) % 64 = 0; decide⟩

set_option maxHeartbeats 1000000 in
set_option maxRecDepth 100000 in
theorem geo_calls (n : Int) (w : World) : Calls Tryz.prog 8 #[.int .i64 n] w fun e w' => e = .returned (geoOf n).val ∧ Fr None_ w w' := by
  have h0 : IntKind.u64.wrap n = u64of n := IntKind.wrap_u64 _
  have h1 : 0 ≤ u64of n := by unfold u64of; omega
  have h2 : u64of n < 18446744073709551616 := by unfold u64of; omega
  have h4 : 0 ≤ u64of n % 3 := by omega
  have h5 : u64of n % 3 < 3 := by omega
  have h6 : IntKind.u64.wrap (Int.tmod (u64of n) 3) = u64of n % 3 := by rw [Int.tmod_eq_emod_of_nonneg h1, IntKind.wrap_u64]; omega
  unfold Geo.val geoOf
  generalize u64of n = u at *
  go_enter Tryz.func8, Tryz.ntmps8
  go_wp2
  exact bodyPost_ret (v := .agg #[.int .i64 (3 + u % 3), .int .i64 16, .int .i64 4, .int .i64 256]) (by simp [results, Tryz.results8, go_sem]) rfl ⟨rfl, (Fr.refl None_ w).alloc _⟩

/-- The header of the n-th page. -/
def phead (n c : Int) : Head := ⟨4, c, 0, 0, 0, n, 0⟩
theorem phead_ok {n c : Int} (h0 : 0 ≤ n) (h1 : n < 4294967296) (h2 : 0 ≤ c) (h3 : c < 256) : (phead n c).Ok := ⟨by simp [phead], ⟨h2, by show c < 4294967296; omega⟩, by simp [phead], by simp [phead], by simp [phead], ⟨h0, h1⟩, by simp [phead]⟩
def pbyte (n c i : Int) : Int := (c + (i + n)) % 256
def pdatTo (n c : Int) (k : Nat) : List Int := (List.range 256).map fun (j : Nat) => if j < k then pbyte n c j else 0
/-- Its bytes. -/
def pdat (n c : Int) : List Int := (List.range 256).map fun (j : Nat) => pbyte n c j
theorem pdat_len (n c : Int) : (pdat n c).length = 256 := by simp [pdat]
theorem pdat_range (n c : Int) : InR 256 (pdat n c) := fun x hx => by
  obtain ⟨j, _, rfl⟩ := List.mem_map.1 hx
  show 0 ≤ pbyte n c j ∧ pbyte n c j < 256
  unfold pbyte
  omega
theorem pdatTo_set (n c : Int) {k : Nat} (hk : k < 256) : (pdatTo n c k).set k (pbyte n c k) = pdatTo n c (k + 1) := by
  apply List.ext_getElem?
  intro j
  unfold pdatTo
  by_cases hj : j = k
  · subst hj
    rw [List.getElem?_set_self (by simpa using hk), List.getElem?_map, List.getElem?_range hk]
    show some (pbyte n c j) = some (if j < j + 1 then pbyte n c j else 0)
    rw [if_pos (Nat.lt_succ_self j)]
  · rw [List.getElem?_set_ne (fun e => hj e.symm)]
    by_cases h2 : j < 256
    · rw [List.getElem?_map, List.getElem?_map, List.getElem?_range h2]
      show some (if j < k then pbyte n c j else 0) = some (if j < k + 1 then pbyte n c j else 0)
      by_cases h3 : j < k
      · rw [if_pos h3, if_pos (by omega)]
      · rw [if_neg h3, if_neg (by omega)]
    · rw [List.getElem?_eq_none (by first | (rw [List.length_map, List.length_range]; omega) | (rw [List.length_set, List.length_map, List.length_range]; omega)), List.getElem?_eq_none (by first | (rw [List.length_map, List.length_range]; omega) | (rw [List.length_replicate]; omega))]
theorem pdatTo_zero (n c : Int) : pdatTo n c 0 = List.replicate 256 0 := by
  apply List.ext_getElem?
  intro j
  unfold pdatTo
  by_cases h2 : j < 256
  · rw [List.getElem?_map, List.getElem?_range h2, List.getElem?_replicate, if_pos h2]
    rfl
  · rw [List.getElem?_eq_none (by first | (rw [List.length_map, List.length_range]; omega) | (rw [List.length_set, List.length_map, List.length_range]; omega)), List.getElem?_eq_none (by first | (rw [List.length_map, List.length_range]; omega) | (rw [List.length_replicate]; omega))]
theorem pdatTo_all (n c : Int) : pdatTo n c 256 = pdat n c := by
  apply List.ext_getElem?
  intro j
  unfold pdatTo pdat
  by_cases h2 : j < 256
  · rw [List.getElem?_map, List.getElem?_map, List.getElem?_range h2]
    show some (if j < 256 then pbyte n c j else 0) = _
    rw [if_pos h2]
    rfl
  · rw [List.getElem?_eq_none (by first | (rw [List.length_map, List.length_range]; omega) | (rw [List.length_set, List.length_map, List.length_range]; omega)), List.getElem?_eq_none (by first | (rw [List.length_map, List.length_range]; omega) | (rw [List.length_replicate]; omega))]

set_option maxHeartbeats 4000000 in
set_option maxRecDepth 100000 in
theorem page_calls (n c : Int) (w : World) (h0 : 0 ≤ n) (h1 : n ≤ 1000) (h2 : 0 ≤ c) (h3 : c < 256) :
    Calls Tryz.prog 46 #[.int .i64 n, .int .u8 c] w fun e w' => ∃ v, e = .returned (.agg (pcells (phead n c) v)) ∧ Row 5 .u8 w' w.heap.size v (pdat n c) ∧ Fr None_ w w' := by
  have HZ := As.mk (fun (w : World) => show Calls Tryz.prog 79 #[.int .i64 256] w fun e w' => ∃ v, e = .returned v ∧ Row 5 .u8 w' w.heap.size v (List.replicate 256 0) ∧ Fr None_ w w' from Zeros_calls 256 w (by decide))
  have HPG := As.mk (heap_alloc_new w (.cells #[.int .u8 0, .int .u32 0, .int .u32 0, .int .u16 0, .int .u16 0, .int .u32 0, .int .u32 0, .slice none 0 0] 117))
  unfold pcells phead
  go_enter Tryz.func46, Tryz.ntmps46
  go_wp2_with fail
  ((with_reducible refine (HZ.out _).mono ?_); rintro e w4 ⟨v4, rfl, hrow4, hf4⟩)
  have HF4 := As.mk (((Fr.refl None_ w).alloc (.cells #[.int .u8 0, .int .u32 0, .int .u32 0, .int .u16 0, .int .u16 0, .int .u32 0, .int .u32 0, .slice none 0 0] 117)).after hf4 (fun _ _ h => h))
  have HPA := As.mk (hf4.heap HPG.out (fun h => h))
  rw [size_new _ rfl] at hrow4
  obtain ⟨gd, capd, ed, hrat⟩ := Row.at_ hrow4 (by simp)
  have hbl := hrow4.blk gd (by rw [ed]; rfl)
  have HGD := As.mk (show w.heap.size < gd from by have h1 := hbl.1; omega)
  rw [show (List.replicate 256 (0 : Int)).length = 256 by simp] at ed hrat
  subst ed
  rw [← pdatTo_zero n c] at hrat
  have HRT := As.mk hrat
  clear hrow4 hf4 hrat hbl
  go_wp2_with fail
  go_loopw [6] (fun v6 w' => ∃ k : Int, v6 = .int .i64 k ∧ 0 ≤ k ∧ k ≤ 256 ∧ As (RowAt 5 .u8 w' (w.heap.size + 1) gd 256 capd (pdatTo n c k.toNat)) ∧ As (Fr (fun b => b = gd) w4 w')) (fun v6 _ => (256 - intOf v6).toNat)
  case atStart => exact ⟨0, rfl, by omega, by omega, ⟨HRT.out⟩, ⟨Fr.refl _ _⟩⟩
  case round =>
    obtain ⟨k, rfl, hk0, hk, HY, HG⟩ := hrel
    by_cases hlk : k < 256
    · have hcell := HY.out.cell k hk0 hlk
      obtain ⟨c1, f1⟩ := hcell
      have HST1 := As.mk (show RowAt 5 .u8 (wr.setCell ⟨gd, k.toNat, none⟩ (.int .u8 (pbyte n c k))) (w.heap.size + 1) gd 256 capd (pdatTo n c (k + 1).toNat) from by
        have h := HY.out.store k (pbyte n c k)
        rw [show pbyte n c k = pbyte n c (k.toNat : Int) by rw [show (k.toNat : Int) = k by omega], pdatTo_set n c (by omega)] at h
        rw [show (k + 1).toNat = k.toNat + 1 by omega, show pbyte n c k = pbyte n c (k.toNat : Int) by rw [show (k.toNat : Int) = k by omega]]
        exact h)
      have HG1 := As.mk (HG.out.setCell (p := ⟨gd, k.toNat, none⟩) (fun _ => rfl) (.int .u8 (pbyte n c k)))
      unfold pbyte at HST1 HG1
      go_wp2_with fail
      exact ⟨⟨k + 1, rfl, by omega, by omega, HST1, HG1⟩, by simp [intOf]; omega⟩
    · have HKE : As (k = 256) := ⟨by omega⟩
      have hpa := HG.out.heap HPA.out (by have := HGD.out; omega)
      have x0 := cell_is (i := 0) hpa rfl
      have x1 := cell_is (i := 1) hpa rfl
      have x2 := cell_is (i := 2) hpa rfl
      have x3 := cell_is (i := 3) hpa rfl
      have x4 := cell_is (i := 4) hpa rfl
      have x5 := cell_is (i := 5) hpa rfl
      have x6 := cell_is (i := 6) hpa rfl
      have x7 := cell_is (i := 7) hpa rfl
      have y0 := free_of (i := 0) hpa
      have y1 := free_of (i := 1) hpa
      have y2 := free_of (i := 2) hpa
      have y3 := free_of (i := 3) hpa
      have y4 := free_of (i := 4) hpa
      have y5 := free_of (i := 5) hpa
      have y6 := free_of (i := 6) hpa
      have y7 := free_of (i := 7) hpa
      have HPB := As.mk hpa
      have l0 : w.heap.size < wr.heap.size := (Array.getElem?_eq_some_iff.1 hpa).1
      have HFN := As.mk (show Fr None_ w wr from HF4.out.after HG.out (fun b hb e => absurd hb (by have := HGD.out; omega)))
      clear hpa
      have hn32 : IntKind.u32.wrap n = n := by rw [IntKind.wrap_u32]; omega
      have hc32 : IntKind.u32.wrap c = c := by rw [IntKind.wrap_u32]; omega
      go_wp2_with fail
      refine bodyPost_ret (v := .agg #[.int .u8 4, .int .u32 c, .int .u32 0, .int .u16 0, .int .u16 0, .int .u32 n, .int .u32 0, .slice (some ⟨gd, 0, none⟩) 256 capd]) (by simp [results, Tryz.results46, go_sem, x0, x1, x2, x3, x4, x5, x6, x7]) rfl ⟨_, rfl, ?_, ?_⟩
      · have h1 := HY.out.2
        rw [show k.toNat = 256 by have := HKE.out; omega, pdatTo_all] at h1
        refine Row.fr (S := fun b => b = w.heap.size) (h1.lower (Nat.le_succ _)) ?_ (fun b hbo e => Row.ne h1 HPB.out (by decide) (e ▸ hbo))
        exact fr_set8 (b := w.heap.size) (Fr.refl (fun b => b = w.heap.size) wr) (fun _ => rfl) _ _ _ _ _ _ _ _
      · exact fr_set8 (b := w.heap.size) HFN.out (fun hl => absurd hl (Nat.lt_irrefl _)) _ _ _ _ _ _ _ _
set_option maxHeartbeats 1000000 in
set_option maxRecDepth 100000 in
/-- The same page, twice. -/
theorem same_calls (h : Head) (A B : Option Addr) (n c m d : Nat) (xs : List Int) (w : World) (hA : Rd .u8 w A n xs) (hB : Rd .u8 w B m xs) (hx : InR 256 xs) :
    Calls Tryz.prog 51 #[.agg (pcells h (.slice A n c)), .agg (pcells h (.slice B m d))] w fun e w' => e = .returned (.bool true) ∧ Fr None_ w w' := by
  have HS := As.mk (fun (w' : World) (hf : Fr None_ w w') => Same_calls A B n c m d xs xs w' (hA.none_ hf) (hB.none_ hf) hx hx)
  simp only [decide_true] at HS
  unfold pcells
  clear hA hB hx
  go_enter Tryz.func51, Tryz.ntmps51
  go_wp2_with fail
  ((with_reducible refine (HS.out _ (((Fr.refl None_ w).alloc _).alloc _)).mono ?_); rintro e w1 ⟨rfl, rfl⟩)
  go_wp2_with fail
  go_ret
  exact ⟨rfl, ((Fr.refl None_ w).alloc _).alloc _⟩
end Go.Proofs.YteofgpaceeibpaaGreat.LawA
namespace Go.Proofs.YteofgpaceeibpaaGreat.PlB
open Go.RowKit Gab Geom Ref Fields Seal Nand NandA NandB NandC NandD NandE NandF NandH RemapA VolA VolB VolD VolE VolF VolG MemA MemB MemC ArrA ArrC ArrD ArrE ArrF ArrG ArrI AOrd AOrdB AWrA AWrB PlA AGet LawA
open Go.Proofs.YteofgpaceeibpaaGreat.Open (openOf okB rightB numAt zeroHead)
open Wr (InR)
set_option linter.unusedVariables false
set_option linter.unusedSimpArgs false

/-! ### an array of fresh chips -/
def V1 (g : Geo) : View := (Vf g g.c.toNat).saved g.c.toNat 3 (spage g 1)
theorem afmt_new {g : Geo} (hg : g.Ok) : ∃ σ, (St.new g).afmt = (σ, 0) ∧ Whole σ g (V1 g) 1 := by
  obtain ⟨s1, h1, e1⟩ := sees_afN (sees_new g) g.c.toNat
  have e1' : (St.new g).afN (St.new g).g.c.toNat = (s1, 0) := e1
  have hw : Whole (St.new g).ar0 g (Vf g g.c.toNat) 0 := by
    refine ⟨?_, rfl, fun c => rfl, rfl⟩
    show Sees ((St.new g).afN g.c.toNat).1 g _
    rw [e1]
    exact h1
  obtain ⟨s2, h2, e2⟩ := hw.save hg (by decide) (fun _ _ => rfl)
  refine ⟨_, ?_, h2⟩
  unfold St.afmt
  rw [e1']
  exact e2
theorem afmt_safe {s : St} (hg : s.g.Ok) {m : Nat} (h : s.Safe (m + 1200)) : s.afmt.1.s.Safe m := by
  have hc := hg.c
  have h1 : (s.afN s.g.c.toNat).1.Safe (m + 34) := safe_afN hg s.g.c.toNat (m + 34) (h.le (by omega))
  unfold St.afmt
  split
  · unfold Ar.save
    refine safe_saveN _ _ _ _ _ ?_
    have hn : s.ar0.s.n ≤ 17 := by
      show ((s.afN s.g.c.toNat).1.g.c + 1).toNat ≤ 17
      rw [(afN_g s s.g.c.toNat).1]
      omega
    exact h1.le (by omega)
  · exact h1.le (by omega)
theorem new_safe (g : Geo) {n : Nat} (hn : n ≤ 4000000000000000000) : (St.new g).Safe n := ⟨fun e he => (by cases he), fun _ _ => rfl, ⟨Int.le_refl _, by show (0 : Int) + n ≤ _; omega⟩, fun _ _ => ⟨Int.le_refl _, by show (0 : Int) + n ≤ _; omega⟩⟩
theorem safe_kill {s : St} {n : Nat} (h : s.Safe n) (k : Nat) : (s.kill k).Safe n := ⟨h.calm, h.good, h.ops, h.er⟩
theorem V1_nx {g : Geo} (c : Nat) {b : Nat} (hb : 3 < b) : (V1 g).nx c b = 0 := by
  show (if c < g.c.toNat ∧ b = 3 then (1 : Int) else if c < g.c.toNat ∧ b = 1 then 1 else 0) = 0
  rw [if_neg (fun h => by omega), if_neg (fun h => by omega)]
theorem V1_pg {g : Geo} (c : Nat) {b : Nat} (hb : 3 < b) (q : Nat) : (V1 g).pg c b q = none := by
  show (if c < g.c.toNat ∧ b = 3 then _ else if c < g.c.toNat ∧ b = 1 then _ else none) = none
  rw [if_neg (fun h => by omega), if_neg (fun h => by omega)]

/-! ### a row of pages is programmed -/
def _root_.Go.Proofs.YteofgpaceeibpaaGreat.PlA.View.row (V : View) (b q : Nat) (pg : Int → List Int × List Int) (ms : List Int) : View := ⟨V.dead, fun c b' k => if (c : Int) ∈ ms ∧ b' = b ∧ k = q then some (pg c) else V.pg c b' k, fun c b' => if (c : Int) ∈ ms ∧ b' = b then (q : Int) + 1 else V.nx c b'⟩
theorem whole_progs {g : Geo} {q : Int} (hg : g.Ok) {seg row : Int} (ha : g.At seg row) (pg : Int → List Int × List Int) : ∀ (ms : List Int) (σ : Ar) (V : View) (k : Int), Whole σ g V q → ms.Nodup → (∀ m ∈ ms, 0 ≤ m ∧ m < g.c ∧ V.dead m.toNat = false ∧ V.nx m.toNat (seg.toNat + 2) = row) →
    ∃ s', Sees s' g (V.row (seg.toNat + 2) row.toNat pg ms) ∧ ms.foldl (pstep seg row pg) (σ, k, 0) = ({ σ with s := s' }, k, 0) ∧ ∀ n, σ.s.Safe (n + ms.length) → s'.Safe n
  | [], σ, V, k, h, _, _ => ⟨σ.s, h.sees.as (fun _ => rfl) (fun c b j => by simp [View.row]) (fun c b => by simp [View.row]), rfl, fun n h => h⟩
  | m :: ms, σ, V, k, h, hnd, hm => by
    obtain ⟨m0, m1, md, mn⟩ := hm m List.mem_cons_self
    have hseg := ha.seg
    have hrow := ha.row
    have em : (m.toNat : Int) = m := by omega
    obtain ⟨s1, h1, e1, f1⟩ := h.prog (m := m.toNat) (b := seg.toNat) (k := row.toNat) hg (pg m).1 (pg m).2 (by omega) (by omega) md (by rw [mn]; omega)
    have hst : pstep seg row pg (σ, k, 0) m = ({ σ with s := s1 }, k, 0) := by
      unfold pstep
      dsimp only
      rw [if_pos rfl, e1]
      rfl
    rw [List.nodup_cons] at hnd
    obtain ⟨s2, h2, e2, f2⟩ := whole_progs hg ha pg ms { σ with s := s1 } _ k (h.turn h1) hnd.2 (fun x hx => by
      obtain ⟨x0, x1, xd, xn⟩ := hm x (List.mem_cons_of_mem _ hx)
      refine ⟨x0, x1, xd, ?_⟩
      show (if x.toNat = m.toNat ∧ _ then _ else V.nx x.toNat (seg.toNat + 2)) = row
      rw [if_neg (fun hh => hnd.1 (by rw [show m = x by omega]; exact hx))]
      exact xn)
    refine ⟨s2, h2.as (fun _ => rfl) (fun c b j => ?_) (fun c b => ?_), ?_⟩
    · show (if (c : Int) ∈ ms ∧ b = seg.toNat + 2 ∧ j = row.toNat then some (pg c) else if c = m.toNat ∧ b = seg.toNat + 2 ∧ j = row.toNat then some ((pg m).1, (pg m).2) else V.pg c b j) = if (c : Int) ∈ m :: ms ∧ b = seg.toNat + 2 ∧ j = row.toNat then some (pg c) else V.pg c b j
      by_cases hb : b = seg.toNat + 2 ∧ j = row.toNat
      · by_cases hc : (c : Int) ∈ ms
        · rw [if_pos ⟨hc, hb⟩, if_pos ⟨List.mem_cons_of_mem _ hc, hb⟩]
        · rw [if_neg (fun h => hc h.1)]
          by_cases he : c = m.toNat
          · rw [if_pos ⟨he, hb⟩, if_pos ⟨by rw [he, em]; exact List.mem_cons_self, hb⟩, he, em]
          · rw [if_neg (fun h => he h.1), if_neg (fun h => by
              rcases List.mem_cons.1 h.1 with h2 | h2
              · exact he (by omega)
              · exact hc h2)]
      · rw [if_neg (fun h => hb h.2), if_neg (fun h => hb h.2), if_neg (fun h => hb h.2)]
    · show (if (c : Int) ∈ ms ∧ b = seg.toNat + 2 then (row.toNat : Int) + 1 else if c = m.toNat ∧ b = seg.toNat + 2 then (row.toNat : Int) + 1 else V.nx c b) = if (c : Int) ∈ m :: ms ∧ b = seg.toNat + 2 then (row.toNat : Int) + 1 else V.nx c b
      by_cases hb : b = seg.toNat + 2
      · by_cases hc : (c : Int) ∈ ms
        · rw [if_pos ⟨hc, hb⟩, if_pos ⟨List.mem_cons_of_mem _ hc, hb⟩]
        · rw [if_neg (fun h => hc h.1)]
          by_cases he : c = m.toNat
          · rw [if_pos ⟨he, hb⟩, if_pos ⟨by rw [he, em]; exact List.mem_cons_self, hb⟩]
          · rw [if_neg (fun h => he h.1), if_neg (fun h => by
              rcases List.mem_cons.1 h.1 with h2 | h2
              · exact he (by omega)
              · exact hc h2)]
      · rw [if_neg (fun h => hb h.2), if_neg (fun h => hb h.2), if_neg (fun h => hb h.2)]
    · rw [List.foldl_cons, hst]
      exact ⟨e2, fun n hs => f2 n (f1 (n + ms.length) (by rw [show n + ms.length + 1 = n + (m :: ms).length by rw [List.length_cons]; omega]; exact hs))⟩
theorem ahead_none {σ : Ar} {g : Geo} {V : View} {q : Int} (h : Whole σ g V q) : σ.ahead = -1 := by
  unfold Ar.ahead
  rw [h.set]
  rfl

/-! ### pages as they are read -/
theorem blank_not (g : Geo) : (openOf (List.replicate g.s.toNat 255) (List.replicate 64 255)).2 = false := by
  have h1 : (numAt (List.replicate 64 255) 0 2 == 22356) = false := by decide +kernel
  have h2 : okB (List.replicate g.s.toNat 255) (List.replicate 64 255) = false := by
    unfold okB rightB
    rw [h1]
    simp
  unfold openOf
  rw [h2]
  rfl
theorem open_sealed {h : Head} (hh : h.Ok) (h1 : 1 ≤ h.kind) (h6 : h.kind ≤ 6) (d : List Int) : openOf d (sealOf h d []) = (h, true) := Go.Proofs.YteofgpaceeibpaaGreat.OS.open_seal hh h1 h6 (fun x hx => by cases hx)
theorem open_page {n c : Int} (h0 : 0 ≤ n) (h1 : n < 4294967296) (h2 : 0 ≤ c) (h3 : c < 256) : openOf (pdat n c) (sealOf (phead n c) (pdat n c) []) = (phead n c, true) := open_sealed (phead_ok h0 h1 h2 h3) (by show (1 : Int) ≤ 4; decide) (by show (4 : Int) ≤ 6; decide) _
end Go.Proofs.YteofgpaceeibpaaGreat.PlB
namespace Go.Proofs.YteofgpaceeibpaaGreat.OpRow
open Go.ChangeShapes Go.WideShapes Go.Deep Go.RowKit Gab
set_option linter.unusedVariables false
theorem own : ownKnob Tryz.prog.godebug = none := by kernel_rfl
theorem laidOut : laidOutB Tryz.prog = true := by kernel_rfl
section
variable {H : Type} {enc : TypeId × Value → H} {P : Program} {w : World} {base : Nat} {spare : Nat → Bool} {held : Bool}
theorem open_slice_fields {t e : TypeId} {fs : Array Field} {fuel : Nat} {cs : List Value} {x : DataW H × List MemPlace} (ht : P.underlying t = some (.slice e)) (he : P.underlying e = some (.struct fs))
    (hone : oneCellFields P fs = true) (hC : P.cellsOf e = fs.size) (h : DataW.trod enc P w base spare held fuel t cs = some x) :
    (cs = [.slice none 0 0]) ∨
    ∃ (a : Addr) (len cap : Nat), cs = [.slice (some a) len cap] ∧ len ≤ cap ∧ cap ≤ maxLen ∧
      ∀ i, i < len → ∃ n, ∀ (j : Nat) (f : Field), fs[j]? = some f → ∃ (v : Value) (y : DataW H × List MemPlace), w.cell? (a.add (i * fs.size + j)) = some v ∧ DataW.trod enc P w base spare held n f.type [v] = some y := by
  rcases open_slice ht h with h0 | ⟨a, len, cap, m, n, D, Pl, hcs, hb, hl, hm, hmm, hx, hi⟩
  · exact .inl h0.1
  · have hlm : len ≤ m := by rw [hmm]; split <;> omega
    refine .inr ⟨a, len, cap, hcs, hl, hm, fun i him => ?_⟩
    obtain ⟨cs', hc, ht'⟩ := hi i (by omega)
    rw [hC] at hc
    obtain ⟨ys, n', hn', hy, hlen, hyl, hf⟩ := DataW.trod_struct he ht'
    obtain ⟨_, hcl, hat⟩ := World.cells?_some hc
    refine ⟨n', fun j f hj => ?_⟩
    obtain ⟨ho, hk⟩ := hone_of hone j f hj
    have hjl : j < fs.size := (Array.getElem?_eq_some_iff.1 hj).1
    have hcell := hat j hjl
    have hv : cs'[j]? = some (cs'[j]'(by omega)) := List.getElem?_eq_getElem (by omega)
    have h1 := hf j f hj
    rw [ho, hk] at h1
    have hone' : (cs'.drop j).take 1 = [cs'[j]'(by omega)] := by
      rw [List.drop_eq_getElem_cons (by omega)]
      rfl
    rw [hone'] at h1
    have hys : ys[j]? = some (ys[j]'(by omega)) := List.getElem?_eq_getElem (by omega)
    refine ⟨_, _, ?_, h1.trans hys⟩
    rw [← Go.Deep.add_add, hcell, hv]
theorem open_struct_fields {t : TypeId} {fs : Array Field} {fuel : Nat} {cs : List Value} {x : DataW H × List MemPlace} (ht : P.underlying t = some (.struct fs))
    (hone : oneCellFields P fs = true) (hC : P.cellsOf t = fs.size) (h : DataW.trod enc P w base spare held fuel t cs = some x) :
    cs.length = fs.size ∧ ∃ n, ∀ (j : Nat) (f : Field), fs[j]? = some f → ∃ (v : Value) (y : DataW H × List MemPlace), cs[j]? = some v ∧ DataW.trod enc P w base spare held n f.type [v] = some y := by
  obtain ⟨ys, n', hn', hy, hlen, hyl, hf⟩ := DataW.trod_struct ht h
  rw [hC] at hlen
  refine ⟨hlen, n', fun j f hj => ?_⟩
  obtain ⟨ho, hk⟩ := hone_of hone j f hj
  have hjl : j < fs.size := (Array.getElem?_eq_some_iff.1 hj).1
  have hv : cs[j]? = some (cs[j]'(by omega)) := List.getElem?_eq_getElem (by omega)
  have h1 := hf j f hj
  rw [ho, hk] at h1
  have hone' : (cs.drop j).take 1 = [cs[j]'(by omega)] := by
    rw [List.drop_eq_getElem_cons (by omega)]
    rfl
  rw [hone'] at h1
  have hys : ys[j]? = some (ys[j]'(by omega)) := List.getElem?_eq_getElem (by omega)
  exact ⟨_, _, hv, h1.trans hys⟩
end

/-- Operations that a slice holds. -/
structure OpsAt (W : World) (A : Option Addr) (n : Nat) (l : List (Int × Int × Int)) : Prop where
  len : l.length = n
  few : n ≤ 9223372036854775807
  rng : ∀ z ∈ l, 0 ≤ z.2.2 ∧ z.2.2 < 256
  at_ : 0 < n → ∃ ad, A = some ad ∧ ∀ j, j < n → W.cell? (ad.add (j * 3)) = some (.int .i64 (l.getD j (0, 0, 0)).1) ∧ W.cell? (ad.add (j * 3 + 1)) = some (.int .i64 (l.getD j (0, 0, 0)).2.1) ∧ W.cell? (ad.add (j * 3 + 2)) = some (.int .u8 (l.getD j (0, 0, 0)).2.2)
theorem OpsAt.none_ {w w' : World} {A : Option Addr} {n : Nat} {l : List (Int × Int × Int)} (h : OpsAt w A n l) (hf : Fr None_ w w') : OpsAt w' A n l :=
  ⟨h.len, h.few, h.rng, fun hn => by
    obtain ⟨ad, e, hc⟩ := h.at_ hn
    exact ⟨ad, e, fun j hj => ⟨hf.cell (hc j hj).1 (fun h => h), hf.cell (hc j hj).2.1 (fun h => h), hf.cell (hc j hj).2.2 (fun h => h)⟩⟩⟩
theorem OpsAt.one {w : World} {A : Option Addr} {n : Nat} {l : List (Int × Int × Int)} (h : OpsAt w A n l) {i : Int} (h0 : 0 ≤ i) (h1 : i < n) : ∃ ad ax kd sg c, A = some ad ∧ ad.add (i.toNat * 3) = ax ∧ w.cell? ax = some (.int .i64 kd) ∧ w.cell? ⟨ax.block, ax.off + 1, none⟩ = some (.int .i64 sg) ∧ w.cell? ⟨ax.block, ax.off + 2, none⟩ = some (.int .u8 c) ∧ 0 ≤ c ∧ c < 256 := by
  obtain ⟨ad, e, hc⟩ := h.at_ (by omega)
  obtain ⟨c0, c1, c2⟩ := hc i.toNat (by omega)
  rw [Str.add_next _ _ _ (by decide)] at c1 c2
  have hr : 0 ≤ (l.getD i.toNat (0, 0, 0)).2.2 ∧ (l.getD i.toNat (0, 0, 0)).2.2 < 256 := by
    have hl : i.toNat < l.length := by rw [h.len]; omega
    rw [List.getD_eq_getElem?_getD, List.getElem?_eq_getElem hl]
    exact h.rng _ (List.getElem_mem hl)
  exact ⟨ad, _, _, _, _, e, rfl, c0, c1, c2, hr.1, hr.2⟩
section
variable {H : Type} {enc : TypeId × Value → H} {W : World} {base : Nat} {spare : Nat → Bool} {held : Bool} {fuel : Nat} {y : DataW H × List MemPlace}
theorem open_ops {v : Value} (h : DataW.trod enc Tryz.prog W base spare held fuel 43 [v] = some y) :
    ∃ A n c l, v = .slice A n c ∧ n ≤ c ∧ OpsAt W A n l := by
  rcases open_slice_fields Tryz.underlying43 Tryz.underlying58 (by kernel_rfl) (by kernel_rfl) h with h1 | ⟨a, len, cap, hcs, hl, hm, hi⟩
  · simp at h1
    subst h1
    exact ⟨none, 0, 0, [], rfl, Nat.le_refl _, rfl, by omega, fun x hx => (by cases hx), fun h => absurd h (by decide)⟩
  · simp at hcs
    subst hcs
    have hall : ∀ i, i < len → ∃ z : Int × Int × Int, (0 ≤ z.2.2 ∧ z.2.2 < 256) ∧ W.cell? (a.add (i * 3)) = some (.int .i64 z.1) ∧ W.cell? (a.add (i * 3 + 1)) = some (.int .i64 z.2.1) ∧ W.cell? (a.add (i * 3 + 2)) = some (.int .u8 z.2.2) := by
      intro i hil
      obtain ⟨n, hf⟩ := hi i hil
      obtain ⟨v0, y0, c0, t0⟩ := hf 0 _ rfl
      obtain ⟨v1, y1, c1, t1⟩ := hf 1 _ rfl
      obtain ⟨v2, y2, c2, t2⟩ := hf 2 _ rfl
      obtain ⟨n0, e0, _, w0⟩ := DataW.trod_int (k := .i64) (by kernel_rfl) t0
      obtain ⟨n1, e1, _, w1⟩ := DataW.trod_int (k := .i64) (by kernel_rfl) t1
      obtain ⟨n2, e2, _, w2⟩ := DataW.trod_int (k := .u8) (by kernel_rfl) t2
      simp at e0 e1 e2
      subst e0 e1 e2
      simp [Lit.wf, IntKind.min, IntKind.max, IntKind.bits, IntKind.signed] at w2
      exact ⟨(n0, n1, n2), ⟨by show 0 ≤ n2; omega, by show n2 < 256; omega⟩, c0, c1, c2⟩
    refine ⟨_, _, _, (List.range len).map fun i => if h : i < len then (hall i h).choose else (0, 0, 0), rfl, hl, by simp, by unfold maxLen at hm; omega, ?_, fun _ => ⟨a, rfl, fun j hj => ?_⟩⟩
    · intro z hz
      obtain ⟨i, hi', rfl⟩ := List.mem_map.1 hz
      have hi' : i < len := by simpa using hi'
      rw [dif_pos hi']
      exact (hall i hi').choose_spec.1
    · simp only [List.getD_eq_getElem?_getD, List.getElem?_map, List.getElem?_range hj, Option.map_some, Option.getD_some, dif_pos hj]
      exact (hall j hj).choose_spec.2
theorem open_ticks {v : Value} (h : DataW.trod enc Tryz.prog W base spare held fuel 64 v.cells.toList = some y) :
    ∃ chips dead A n c again l, v = .agg #[.int .i64 chips, .int .i64 dead, .slice A n c, .bool again] ∧ n ≤ c ∧ OpsAt W A n l := by
  obtain ⟨hlen, n, hf⟩ := open_struct_fields Tryz.underlying64 (by kernel_rfl) (by kernel_rfl) h
  have hlen : v.cells.toList.length = 4 := hlen
  obtain ⟨v0, y0, c0, t0⟩ := hf 0 _ rfl
  obtain ⟨v1, y1, c1, t1⟩ := hf 1 _ rfl
  obtain ⟨v2, y2, c2, t2⟩ := hf 2 _ rfl
  obtain ⟨v3, y3, c3, t3⟩ := hf 3 _ rfl
  obtain ⟨n0, e0, _, w0⟩ := DataW.trod_int (k := .i64) (by kernel_rfl) t0
  obtain ⟨n1, e1, _, w1⟩ := DataW.trod_int (k := .i64) (by kernel_rfl) t1
  obtain ⟨A, na, ca, l, e2, hnc, hops⟩ := open_ops t2
  obtain ⟨b3, e3, _⟩ := DataW.trod_bool (by kernel_rfl) t3
  simp at e0 e1 e3
  subst e0 e1 e2 e3
  refine ⟨n0, n1, A, na, ca, b3, l, ?_, hnc, hops⟩
  cases v with
  | agg a =>
    simp only [Value.cells] at hlen c0 c1 c2 c3
    refine congrArg Value.agg ?_
    apply Array.ext'
    apply List.ext_getElem?
    intro i
    match i with
    | 0 => exact c0
    | 1 => exact c1
    | 2 => exact c2
    | 3 => exact c3
    | i + 4 =>
      rw [List.getElem?_eq_none (by omega), List.getElem?_eq_none]
      show 4 ≤ _
      omega
  | _ => exact absurd hlen (by simp [Value.cells])
end
end Go.Proofs.YteofgpaceeibpaaGreat.OpRow
namespace Go.Proofs.YteofgpaceeibpaaGreat.Shape
open Go.RowKit Gab Geom LawA
/-- The three shapes. -/
def Shp (g : Geo) : Prop := g = ⟨3, 16, 4, 256⟩ ∨ g = ⟨4, 16, 4, 256⟩ ∨ g = ⟨5, 16, 4, 256⟩
theorem shape_of (n : Int) : Shp (geoOf n) := by
  have h : u64of n % 3 = 0 ∨ u64of n % 3 = 1 ∨ u64of n % 3 = 2 := by omega
  unfold geoOf
  rcases h with h | h | h
  · rw [h]; exact .inl rfl
  · rw [h]; exact .inr (.inl rfl)
  · rw [h]; exact .inr (.inr rfl)
theorem Shp.ok {g : Geo} (h : Shp g) : g.Ok := by
  rcases h with rfl | rfl | rfl <;> exact ⟨by decide, by decide, by decide, by decide, by decide⟩
end Go.Proofs.YteofgpaceeibpaaGreat.Shape

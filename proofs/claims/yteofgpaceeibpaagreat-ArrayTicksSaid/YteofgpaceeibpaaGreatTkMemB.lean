/- member: Page of good sets. -/
import Derived.Test.YteofgpaceeibpaaGreatTkMemA
import Derived.Test.YteofgpaceeibpaaGreatTkRemapD
import Derived.Test.YteofgpaceeibpaaGreatTkSeal
import Derived.Deep.RegionHeld3
namespace Go.Proofs.YteofgpaceeibpaaGreat.MemB
open Go.RowKit Gab Wr Geom Ref Heap MemA
open RemapC (wr_sep)
set_option linter.unusedVariables false
set_option linter.unusedSimpArgs false

/-- A set's bytes. -/
def _root_.Go.Proofs.YteofgpaceeibpaaGreat.MemA.MS.enc (m : MS) (g : Geo) : List Int := les 4 [m.seq] ++ les 1 ((m.chips.length : Int) :: m.chips) ++ les 1 [m.spare, m.dead, m.done] ++ les 2 [g.b, g.p, g.s]
def _root_.Go.Proofs.YteofgpaceeibpaaGreat.MemA.MS.page (m : MS) (g : Geo) : List Int := padTo (m.enc g) g.s.toNat
def _root_.Go.Proofs.YteofgpaceeibpaaGreat.MemA.MS.hd (m : MS) : Fields.Head := ⟨2, m.seq, 0, 0, 1, 0, 0⟩
def _root_.Go.Proofs.YteofgpaceeibpaaGreat.MemA.MS.oob (m : MS) (g : Geo) : List Int := Seal.sealOf m.hd (m.page g) []
theorem enc_length {m : MS} {g : Geo} (hg : g.Ok) (h : m.Ok g) : 1 ≤ (m.enc g).length ∧ (m.enc g).length ≤ 256 := by
  have h1 := h.len
  have h2 := hg.c
  unfold MS.enc
  simp only [List.length_append, les_length, List.length_cons, List.length_nil]
  omega
def PagePost (m : MS) (g : Geo) (w : World) (e : Ending) (w' : World) : Prop := ∃ vd vo, e = .returned (.tuple #[vd, vo, .int .i64 0]) ∧ Row 5 .u8 w' w.heap.size vd (m.page g) ∧ Row 5 .u8 w' w.heap.size vo (m.oob g) ∧ Fr None_ w w'
/-- A set that is written: its writer, and what it reads. -/
structure Mw (w w' : World) (m : MS) (g : Geo) (A1 : Option Addr) (n1 c1 p : Nat) (xs : List Int) : Prop where
  fr : Fr None_ w w'
  wr : Wr w' p p xs
  set : w'.heap[w.heap.size]? = some (.cells #[.int .u32 m.seq, .slice A1 n1 c1, .int .i64 m.spare, .int .i64 m.dead, .int .i64 m.done] 40 (0, 0))
  geo : w'.heap[w.heap.size + 1]? = some (.cells #[.int .i64 g.c, .int .i64 g.b, .int .i64 g.p, .int .i64 g.s] 24 (0, 0))
  lo : w.heap.size + 1 < p
theorem Mw.step {w wa wb : World} {m : MS} {g : Geo} {A1 : Option Addr} {n1 c1 p : Nat} {xs ys : List Int} (h : Mw w wa m g A1 n1 c1 p xs) (hw : Wr wb p p ys) (hs : Step p wa wb) : Mw w wb m g A1 n1 c1 p ys := by
  have hlo := h.lo
  exact ⟨h.fr.after hs.fr (fun b hb e => absurd e (wr_sep h.wr (by omega))), hw, hs.fr.heap h.set (wr_sep h.wr (by omega)), hs.fr.heap h.geo (wr_sep h.wr hlo), hlo⟩
theorem Mw.none_ {w wa wb : World} {m : MS} {g : Geo} {A1 : Option Addr} {n1 c1 p : Nat} {xs : List Int} (h : Mw w wa m g A1 n1 c1 p xs) (hf : Fr None_ wa wb) : Mw w wb m g A1 n1 c1 p xs :=
  ⟨h.fr.after hf (fun _ _ h => h), h.wr.none_ hf, hf.heap h.set (fun h => h), hf.heap h.geo (fun h => h), h.lo⟩

theorem Mw.u32 {w W : World} {m : MS} {g : Geo} {A1 : Option Addr} {n1 c1 p : Nat} {xs : List Int} (h : Mw w W m g A1 n1 c1 p xs) {b n : Nat} {l : List Int} (hb : Fields.Bx W p (.slice (some ⟨b, 0, none⟩) n n) 37 .u32 l) (hn : l.length = n) (hr : InR 4294967296 l) (hl : xs.length ≤ 1000) (hn2 : n ≤ 100) :
    Calls Tryz.prog 96 #[.pointer (some ⟨p, 0, none⟩), .slice (some ⟨b, 0, none⟩) n n] W fun e w' => e = .returned (.pointer (some ⟨p, 0, none⟩)) ∧ Mw w w' m g A1 n1 c1 p (xs ++ les 4 l) ∧ Step p W w' := by
  obtain ⟨A, eA, hR, hS⟩ := hb.rd (by omega)
  injection eA with e1 e2 e3
  subst e1
  rw [hn] at hR hS
  exact (U32_calls p p xs l _ n n W h.wr (Nat.le_of_lt h.wr.lt) hR hr hS (by omega)).mono (fun e w' k => ⟨k.1, h.step k.2.1 k.2.2, k.2.2⟩)
theorem Mw.u8 {w W : World} {m : MS} {g : Geo} {A1 : Option Addr} {n1 c1 p : Nat} {xs : List Int} (h : Mw w W m g A1 n1 c1 p xs) {b n : Nat} {l : List Int} (hb : Fields.Bx W p (.slice (some ⟨b, 0, none⟩) n n) 5 .u8 l) (hn : l.length = n) (hr : InR 256 l) (hl : xs.length ≤ 1000) (hn2 : n ≤ 100) :
    Calls Tryz.prog 97 #[.pointer (some ⟨p, 0, none⟩), .slice (some ⟨b, 0, none⟩) n n] W fun e w' => e = .returned (.pointer (some ⟨p, 0, none⟩)) ∧ Mw w w' m g A1 n1 c1 p (xs ++ les 1 l) ∧ Step p W w' := by
  obtain ⟨A, eA, hR, hS⟩ := hb.rd (by omega)
  injection eA with e1 e2 e3
  subst e1
  rw [hn] at hR hS
  exact (U8_calls p p xs l _ n n W h.wr (Nat.le_of_lt h.wr.lt) hR hr hS (by omega)).mono (fun e w' k => ⟨k.1, h.step k.2.1 k.2.2, k.2.2⟩)
theorem Mw.u16 {w W : World} {m : MS} {g : Geo} {A1 : Option Addr} {n1 c1 p : Nat} {xs : List Int} (h : Mw w W m g A1 n1 c1 p xs) {b n : Nat} {l : List Int} (hb : Fields.Bx W p (.slice (some ⟨b, 0, none⟩) n n) 110 .u16 l) (hn : l.length = n) (hr : InR 65536 l) (hl : xs.length ≤ 1000) (hn2 : n ≤ 100) :
    Calls Tryz.prog 98 #[.pointer (some ⟨p, 0, none⟩), .slice (some ⟨b, 0, none⟩) n n] W fun e w' => e = .returned (.pointer (some ⟨p, 0, none⟩)) ∧ Mw w w' m g A1 n1 c1 p (xs ++ les 2 l) ∧ Step p W w' := by
  obtain ⟨A, eA, hR, hS⟩ := hb.rd (by omega)
  injection eA with e1 e2 e3
  subst e1
  rw [hn] at hR hS
  exact (U16_calls p p xs l _ n n W h.wr (Nat.le_of_lt h.wr.lt) hR hr hS (by omega)).mono (fun e w' k => ⟨k.1, h.step k.2.1 k.2.2, k.2.2⟩)
/-- A slice that is made ahead of a writer's call. -/
theorem Mw.made {w W : World} {m : MS} {g : Geo} {A1 : Option Addr} {n1 c1 p : Nat} {xs : List Int} (h : Mw w W m g A1 n1 c1 p xs) (e : TypeId) (k : IntKind) (l : List Int) : Fields.Bx (W.alloc (.cells (nums k l).toArray e)) p (.slice (some ⟨W.heap.size, 0, none⟩) l.length l.length) e k l := Fields.Bx.made e k l h.wr.lt h.wr.row_lt
theorem Bx.drew {w : World} {p : Nat} {v : Value} {e : TypeId} {k : IntKind} {l : List Int} (h : Fields.Bx w p v e k l) : Fields.Bx w.drew p v e k l := h

set_option maxHeartbeats 4000000 in
set_option maxRecDepth 100000 in
theorem Page_calls (m : MS) (g : Geo) (v : Value) (w : World) (hg : g.Ok) (ht : m.Ok g) (hv : MSV w v m) : Calls Tryz.prog 60 #[v, g.val] w (PagePost m g w) := by
  have HCK := As.mk (fun (w' : World) (hf : Fr None_ w w') => MemA.Check_calls m g v w' hg ht (hv.none_ hf))
  obtain ⟨A1, n1, c1, rfl, h1, hR1⟩ := hv
  have HR1 := As.mk hR1
  have HG := As.mk hg
  have HM := As.mk ht
  have hF1 := ((Fr.refl None_ w).alloc (.cells #[.int .u32 m.seq, .slice A1 n1 c1, .int .i64 m.spare, .int .i64 m.dead, .int .i64 m.done] 40))
  have hB1 := (heap_alloc_new w (.cells #[.int .u32 m.seq, .slice A1 n1 c1, .int .i64 m.spare, .int .i64 m.dead, .int .i64 m.done] 40))
  have HF2 := As.mk (hF1.alloc (.cells #[.int .i64 g.c, .int .i64 g.b, .int .i64 g.p, .int .i64 g.s] 24))
  have HB2 := As.mk (at_old (.cells #[.int .i64 g.c, .int .i64 g.b, .int .i64 g.p, .int .i64 g.s] 24) hB1)
  have HG2 := As.mk (at_new (.cells #[.int .i64 g.c, .int .i64 g.b, .int .i64 g.p, .int .i64 g.s] 24) (size_new (.cells #[.int .u32 m.seq, .slice A1 n1 c1, .int .i64 m.spare, .int .i64 m.dead, .int .i64 m.done] 40) (rfl : w.heap.size = w.heap.size)))
  have hc3 := hg.c
  have hlen := ht.len
  have hq := ht.seq
  have hn1 : (n1 : Int) = g.c := by have := hR1.1; omega
  have hn16 : n1 ≤ 16 := by omega
  have HN1 := As.mk hn1
  clear hF1 hB1 hR1 hg ht hn1 hlen
  unfold Geo.val at HCK ⊢
  go_enter Tryz.func60, Tryz.ntmps60
  go_upto_region 5 with (go_at_call 72; (with_reducible refine (HCK.out _ HF2.out).mono ?_); rintro e w3 ⟨rfl, hf3⟩; have HN3 := As.mk (show Mw w (w3.alloc (.cells #[.slice none 0 0] 182)) m g A1 n1 c1 w3.heap.size [] from ⟨(HF2.out.after hf3 (fun _ _ h => h)).alloc _, Wr.new (heap_alloc_new w3 _) _ (Nat.le_refl _), at_old _ (hf3.heap HB2.out (fun h => h)), at_old _ (hf3.heap HG2.out (fun h => h)), (Array.getElem?_eq_some_iff.1 (hf3.heap HG2.out (fun h => h))).1⟩); clear hf3)
  generalize w3.alloc (.cells #[.slice none 0 0] 182) = w4 at *
  generalize w3.heap.size = p at *
  go_cut [] (fun wx => As (Mw w wx m g A1 n1 c1 p ([] ++ les 4 [m.seq] ++ les 1 [(n1 : Int)])))
  case first =>
    have hz4 := HN3.out.wr.lt
    have MA0 := HN3.out.none_ ((Fr.refl None_ w4).alloc (.cells #[.int .u32 m.seq] 37))
    have MB0 := HN3.out.none_ ((Fr.refl None_ w4).alloc (.cells #[.int .u8 (n1 : Int)] 5))
    have MA := As.mk (MA0.none_ (Fr.refl None_ _).drew)
    have MB := As.mk (MB0.none_ (Fr.refl None_ _).drew)
    have MAB := As.mk ((MA0.none_ ((Fr.refl None_ _).alloc (.cells #[.int .u8 (n1 : Int)] 5))).none_ (Fr.refl None_ _).drew)
    have MBA := As.mk ((MB0.none_ ((Fr.refl None_ _).alloc (.cells #[.int .u32 m.seq] 37))).none_ (Fr.refl None_ _).drew)
    have XA := As.mk (Bx.drew (HN3.out.made 37 .u32 [m.seq]))
    have XAB := As.mk (Bx.drew ((HN3.out.made 37 .u32 [m.seq]).alloc MA0.wr.lt (.cells #[.int .u8 (n1 : Int)] 5)))
    have XBA := As.mk (Bx.drew (MB0.made 37 .u32 [m.seq]))
    have YAB := As.mk (Bx.drew (MA0.made 5 .u8 [(n1 : Int)]))
    have YBA := As.mk (Bx.drew ((HN3.out.made 5 .u8 [(n1 : Int)]).alloc MB0.wr.lt (.cells #[.int .u32 m.seq] 37)))
    have hsa : (w4.alloc (.cells #[.int .u32 m.seq] 37)).heap.size = w4.heap.size + 1 := size_new _ rfl
    have hsb : (w4.alloc (.cells #[.int .u8 (n1 : Int)] 5)).heap.size = w4.heap.size + 1 := size_new _ rfl
    rw [hsa] at YAB
    rw [hsb] at XBA
    clear MA0 MB0 hsa hsb
    have s0 := cell_is (v := .int .u32 m.seq) (i := 0) HN3.out.set rfl
    have s1 := cell_is (v := .slice A1 n1 c1) (i := 1) HN3.out.set rfl
    have hw8 : IntKind.u8.wrap (n1 : Int) = n1 := by rw [IntKind.wrap_u8]; omega
    have CA := As.mk (MA.out.u32 (b := w4.heap.size) (n := 1) (l := [m.seq]) XA.out rfl (by intro x hx; simp at hx; omega) (by simp) (by decide))
    have CAB := As.mk (MAB.out.u32 (b := w4.heap.size) (n := 1) (l := [m.seq]) XAB.out rfl (by intro x hx; simp at hx; omega) (by simp) (by decide))
    have CBA := As.mk (MBA.out.u32 (b := w4.heap.size + 1) (n := 1) (l := [m.seq]) XBA.out rfl (by intro x hx; simp at hx; omega) (by simp) (by decide))
    have HU8 := As.mk (fun (W : World) (b : Nat) (hM : Mw w W m g A1 n1 c1 p ([] ++ les 4 [m.seq])) (hY : Fields.Bx W p (.slice (some ⟨b, 0, none⟩) 1 1) 5 .u8 [(n1 : Int)]) => hM.u8 (b := b) (n := 1) (l := [(n1 : Int)]) hY rfl (by intro x hx; simp at hx; omega) (by simp [les_length]) (by decide))
    go_region_held3 (fun w' => w'.cell? ⟨w.heap.size, 0, none⟩ = some (.int .u32 m.seq) ∧ w'.cell? ⟨w.heap.size, 1, none⟩ = some (.slice A1 n1 c1)) (first | go_keep | exact ⟨s0, s1⟩ | exact ⟨cell_is MA.out.set rfl, cell_is MA.out.set rfl⟩ | exact ⟨cell_is MB.out.set rfl, cell_is MB.out.set rfl⟩ | exact ⟨cell_is MAB.out.set rfl, cell_is MAB.out.set rfl⟩ | exact ⟨cell_is MBA.out.set rfl, cell_is MBA.out.set rfl⟩ | exact ⟨cell_is HM6.out.set rfl, cell_is HM6.out.set rfl⟩ | exact ⟨cell_is (HM6.out.none_ ((Fr.refl None_ _).alloc _)).set rfl, cell_is (HM6.out.none_ ((Fr.refl None_ _).alloc _)).set rfl⟩ | exact ⟨cell_is HM7.out.set rfl, cell_is HM7.out.set rfl⟩) (first
      | (go_at_call 96; (with_reducible refine (CA.out).mono ?_); rintro e w6 ⟨rfl, hm6, hs6⟩; have HM6 := As.mk hm6; clear hm6 hs6)
      | (go_at_call 96; (with_reducible refine (CAB.out).mono ?_); rintro e w6 ⟨rfl, hm6, hs6⟩; have HM6 := As.mk hm6; have HY6 := As.mk (show Fields.Bx w6 p (.slice (some ⟨w4.heap.size + 1, 0, none⟩) 1 1) 5 .u8 [(n1 : Int)] from YAB.out.step hs6); clear hm6 hs6)
      | (go_at_call 96; (with_reducible refine (CBA.out).mono ?_); rintro e w6 ⟨rfl, hm6, hs6⟩; have HM6 := As.mk hm6; have HY6 := As.mk (show Fields.Bx w6 p (.slice (some ⟨w4.heap.size, 0, none⟩) 1 1) 5 .u8 [(n1 : Int)] from YBA.out.step hs6); clear hm6 hs6)
      | (go_at_call 97; (with_reducible refine (HU8.out w6 _ HM6.out HY6.out).mono ?_); rintro e w7 ⟨rfl, hm7, _⟩; have HM7 := As.mk hm7; clear hm7)
      | (go_at_call 97; have HY7 := (show Fields.Bx (w6.alloc (.cells #[.int .u8 (n1 : Int)] 5)) p (.slice (some ⟨w6.heap.size, 0, none⟩) 1 1) 5 .u8 [(n1 : Int)] from HM6.out.made 5 .u8 [(n1 : Int)]); (with_reducible refine (HU8.out _ w6.heap.size (HM6.out.none_ ((Fr.refl None_ _).alloc _)) HY7).mono ?_); rintro e w7 ⟨rfl, hm7, _⟩; have HM7 := As.mk hm7; clear hm7)
      | fail)
    all_goals
      go_wp2_with fail
      go_meet
      case rel => exact HM7
  case rest =>
    have HM8 := hcut
    clear hcut HN3
    rename World => w8
    have s1 := cell_is (v := .slice A1 n1 c1) (i := 1) HM8.out.set rfl
    have HM8' := As.mk (show Mw w w8 m g A1 n1 c1 p ([] ++ les 4 [m.seq] ++ les 1 [(n1 : Int)] ++ les 1 (m.chips.take 0)) from by simpa [les] using HM8.out)
    have HCR := As.mk (show ∀ x ∈ m.chips, 0 ≤ x ∧ x < 256 from fun x hx => by have h1 := HM.out.inr x (by simp [MS.all, hx]); have h2 := HG.out.c; omega)
    have HLN := As.mk (show m.chips.length = n1 from HR1.out.1)
    go_wp2_with fail
    clear s1
    go_loopw [10, 33] (fun v10 v33 w' => ∃ i : Nat, v33 = .int .i64 (i : Int) ∧ i ≤ n1 ∧ As (Mw w w' m g A1 n1 c1 p ([] ++ les 4 [m.seq] ++ les 1 [(n1 : Int)] ++ les 1 (m.chips.take i)))) (fun _ v33 _ => n1 - (intOf v33).toNat)
    case atStart => exact ⟨0, rfl, Nat.zero_le _, HM8'⟩
    case round =>
      obtain ⟨i, rfl, hi, HX⟩ := hrel
      by_cases hlt : i < n1
      · have hltI : (i : Int) < (n1 : Int) := by omega
        have hRi := HR1.out.none_ HX.out.fr
        obtain ⟨ad, rfl, hc⟩ := hRi.at_ i (by omega) hltI
        have hxm : 0 ≤ m.chips.getD i 0 ∧ m.chips.getD i 0 < 256 := by
          rw [List.getD_eq_getElem?_getD, List.getElem?_eq_getElem (by have := HLN.out; omega)]
          exact HCR.out _ (List.getElem_mem _)
        have HTK := As.mk (show les 1 (m.chips.take (i + 1)) = les 1 (m.chips.take i) ++ les 1 [m.chips.getD i 0] from by
          rw [les_snoc 1 (by have := HLN.out; omega)]
          congr 1)
        have HKL := As.mk (show (m.chips.take i).length ≤ 16 from by rw [List.length_take]; omega)
        simp only [Int.toNat_natCast] at hc
        generalize m.chips.getD i 0 = x at *
        have hwx : IntKind.u8.wrap x = x := by rw [IntKind.wrap_u8]; omega
        have HMa := As.mk (HX.out.none_ ((Fr.refl None_ wr).alloc (.cells #[.int .u8 x] 5)))
        have HYa := As.mk (show Fields.Bx (wr.alloc (.cells #[.int .u8 x] 5)) p (.slice (some ⟨wr.heap.size, 0, none⟩) 1 1) 5 .u8 [x] from HX.out.made 5 .u8 [x])
        have HCa := As.mk (HMa.out.u8 (b := wr.heap.size) (n := 1) (l := [x]) HYa.out rfl (by intro y hy; simp at hy; omega) (by have := HKL.out; simp [les_length]; omega) (by decide))
        clear hRi
        go_wp2_with fail
        ((with_reducible refine (HCa.out).mono ?_); rintro e w9 ⟨rfl, hm9, _⟩)
        have HM9 := As.mk hm9
        clear hm9
        go_wp2_with fail
        refine ⟨⟨i + 1, rfl, by omega, ⟨?_⟩⟩, by simp [intOf]; omega⟩
        rw [HTK.out, ← List.append_assoc]
        exact HM9.out
      · have hltI : ¬ (i : Int) < (n1 : Int) := by omega
        have HMc := As.mk (show Mw w wr m g A1 n1 c1 p ([] ++ les 4 [m.seq] ++ les 1 [(n1 : Int)] ++ les 1 m.chips) from by have h := HX.out; rw [List.take_of_length_le (by have := HLN.out; omega)] at h; exact h)
        go_upto_region 11 with fail
        have hgb := HG.out.b
        have hgp := HG.out.p
        have hgs := HG.out.s
        have hgc := HG.out.c
        have hdd := HM.out.dead
        have hdn := HM.out.done
        have hsp : 0 ≤ m.spare ∧ m.spare < 256 := by
          by_cases e : m.spare = 255
          · omega
          · have h1 := HM.out.inr m.spare (by unfold MS.all; rw [if_neg e]; simp); omega
        have hde : 0 ≤ m.dead ∧ m.dead < 256 := by omega
        have hw1 : IntKind.u8.wrap m.spare = m.spare := by rw [IntKind.wrap_u8]; omega
        have hw2 : IntKind.u8.wrap m.dead = m.dead := by rw [IntKind.wrap_u8]; omega
        have hw3 : IntKind.u8.wrap m.done = m.done := by rw [IntKind.wrap_u8]; omega
        have hw4 : IntKind.u16.wrap g.b = g.b := by rw [IntKind.wrap_u16]; omega
        have hw5 : IntKind.u16.wrap g.p = g.p := by rw [IntKind.wrap_u16]; omega
        have hw6 : IntKind.u16.wrap g.s = g.s := by rw [IntKind.wrap_u16]; omega
        have HRG := As.mk (And.intro hsp (And.intro hde (And.intro hdn (And.intro hgb (And.intro hgp hgs)))))
        clear hdd hdn hsp hde hgb hgp hgs hgc HX hltI hlt hi
        go_cut [] (fun wx => As (Mw w wx m g A1 n1 c1 p (([] ++ les 4 [m.seq] ++ les 1 [(n1 : Int)] ++ les 1 m.chips) ++ les 1 [m.spare, m.dead, m.done] ++ les 2 [g.b, g.p, g.s])))
        case first =>
          have HL0 : As ((([] ++ les 4 [m.seq] ++ les 1 [(n1 : Int)] ++ les 1 m.chips)).length ≤ 100) := ⟨by have := HLN.out; simp [les_length]; omega⟩
          have HL1 : As ((([] ++ les 4 [m.seq] ++ les 1 [(n1 : Int)] ++ les 1 m.chips) ++ les 1 [m.spare, m.dead, m.done]).length ≤ 200) := ⟨by have := HLN.out; simp [les_length]; omega⟩
          generalize ([] ++ les 4 [m.seq] ++ les 1 [(n1 : Int)] ++ les 1 m.chips) = xs at *
          have MA0 := HMc.out.none_ ((Fr.refl None_ wr).alloc (.cells #[.int .u8 m.spare, .int .u8 m.dead, .int .u8 m.done] 5))
          have MB0 := HMc.out.none_ ((Fr.refl None_ wr).alloc (.cells #[.int .u16 g.b, .int .u16 g.p, .int .u16 g.s] 110))
          have MA := As.mk (MA0.none_ (Fr.refl None_ _).drew)
          have MB := As.mk (MB0.none_ (Fr.refl None_ _).drew)
          have MAB := As.mk ((MA0.none_ ((Fr.refl None_ _).alloc (.cells #[.int .u16 g.b, .int .u16 g.p, .int .u16 g.s] 110))).none_ (Fr.refl None_ _).drew)
          have MBA := As.mk ((MB0.none_ ((Fr.refl None_ _).alloc (.cells #[.int .u8 m.spare, .int .u8 m.dead, .int .u8 m.done] 5))).none_ (Fr.refl None_ _).drew)
          have XA := As.mk (Bx.drew (HMc.out.made 5 .u8 [m.spare, m.dead, m.done]))
          have XAB := As.mk (Bx.drew ((HMc.out.made 5 .u8 [m.spare, m.dead, m.done]).alloc MA0.wr.lt (.cells #[.int .u16 g.b, .int .u16 g.p, .int .u16 g.s] 110)))
          have XBA := As.mk (Bx.drew (MB0.made 5 .u8 [m.spare, m.dead, m.done]))
          have YAB := As.mk (Bx.drew (MA0.made 110 .u16 [g.b, g.p, g.s]))
          have YBA := As.mk (Bx.drew ((HMc.out.made 110 .u16 [g.b, g.p, g.s]).alloc MB0.wr.lt (.cells #[.int .u8 m.spare, .int .u8 m.dead, .int .u8 m.done] 5)))
          have hsa : (wr.alloc (.cells #[.int .u8 m.spare, .int .u8 m.dead, .int .u8 m.done] 5)).heap.size = wr.heap.size + 1 := size_new _ rfl
          have hsb : (wr.alloc (.cells #[.int .u16 g.b, .int .u16 g.p, .int .u16 g.s] 110)).heap.size = wr.heap.size + 1 := size_new _ rfl
          rw [hsa] at YAB
          rw [hsb] at XBA
          clear MA0 MB0 hsa hsb
          have CA := As.mk (MA.out.u8 (b := wr.heap.size) (n := 3) (l := [m.spare, m.dead, m.done]) XA.out rfl (by have h := HRG.out; intro x hx; simp at hx; rcases hx with rfl | rfl | rfl <;> omega) (by have := HL0.out; omega) (by decide))
          have CAB := As.mk (MAB.out.u8 (b := wr.heap.size) (n := 3) (l := [m.spare, m.dead, m.done]) XAB.out rfl (by have h := HRG.out; intro x hx; simp at hx; rcases hx with rfl | rfl | rfl <;> omega) (by have := HL0.out; omega) (by decide))
          have CBA := As.mk (MBA.out.u8 (b := wr.heap.size + 1) (n := 3) (l := [m.spare, m.dead, m.done]) XBA.out rfl (by have h := HRG.out; intro x hx; simp at hx; rcases hx with rfl | rfl | rfl <;> omega) (by have := HL0.out; omega) (by decide))
          have HU8 := As.mk (fun (W : World) (b : Nat) (hM : Mw w W m g A1 n1 c1 p (xs ++ les 1 [m.spare, m.dead, m.done])) (hY : Fields.Bx W p (.slice (some ⟨b, 0, none⟩) 3 3) 110 .u16 [g.b, g.p, g.s]) => hM.u16 (b := b) (n := 3) (l := [g.b, g.p, g.s]) hY rfl (by have h := HRG.out; intro x hx; simp at hx; rcases hx with rfl | rfl | rfl <;> omega) (by have := HL1.out; omega) (by decide))
          have z0 := cell_is (v := .int .i64 m.spare) (i := 2) HMc.out.set rfl
          have z1 := cell_is (v := .int .i64 m.dead) (i := 3) HMc.out.set rfl
          have z2 := cell_is (v := .int .i64 m.done) (i := 4) HMc.out.set rfl
          have z3 := cell_is (v := .int .i64 g.b) (i := 1) HMc.out.geo rfl
          have z4 := cell_is (v := .int .i64 g.p) (i := 2) HMc.out.geo rfl
          have z5 := cell_is (v := .int .i64 g.s) (i := 3) HMc.out.geo rfl
          go_region_held3 (fun w' => w'.cell? ⟨w.heap.size, 2, none⟩ = some (.int .i64 m.spare) ∧ w'.cell? ⟨w.heap.size, 3, none⟩ = some (.int .i64 m.dead) ∧ w'.cell? ⟨w.heap.size, 4, none⟩ = some (.int .i64 m.done) ∧ w'.cell? ⟨w.heap.size + 1, 1, none⟩ = some (.int .i64 g.b) ∧ w'.cell? ⟨w.heap.size + 1, 2, none⟩ = some (.int .i64 g.p) ∧ w'.cell? ⟨w.heap.size + 1, 3, none⟩ = some (.int .i64 g.s)) (first | go_keep | exact ⟨z0, z1, z2, z3, z4, z5⟩ | exact ⟨cell_is MA.out.set rfl, cell_is MA.out.set rfl, cell_is MA.out.set rfl, cell_is MA.out.geo rfl, cell_is MA.out.geo rfl, cell_is MA.out.geo rfl⟩ | exact ⟨cell_is MB.out.set rfl, cell_is MB.out.set rfl, cell_is MB.out.set rfl, cell_is MB.out.geo rfl, cell_is MB.out.geo rfl, cell_is MB.out.geo rfl⟩ | exact ⟨cell_is MAB.out.set rfl, cell_is MAB.out.set rfl, cell_is MAB.out.set rfl, cell_is MAB.out.geo rfl, cell_is MAB.out.geo rfl, cell_is MAB.out.geo rfl⟩ | exact ⟨cell_is MBA.out.set rfl, cell_is MBA.out.set rfl, cell_is MBA.out.set rfl, cell_is MBA.out.geo rfl, cell_is MBA.out.geo rfl, cell_is MBA.out.geo rfl⟩ | exact ⟨cell_is HM6.out.set rfl, cell_is HM6.out.set rfl, cell_is HM6.out.set rfl, cell_is HM6.out.geo rfl, cell_is HM6.out.geo rfl, cell_is HM6.out.geo rfl⟩ | exact ⟨cell_is (HM6.out.none_ ((Fr.refl None_ _).alloc _)).set rfl, cell_is (HM6.out.none_ ((Fr.refl None_ _).alloc _)).set rfl, cell_is (HM6.out.none_ ((Fr.refl None_ _).alloc _)).set rfl, cell_is (HM6.out.none_ ((Fr.refl None_ _).alloc _)).geo rfl, cell_is (HM6.out.none_ ((Fr.refl None_ _).alloc _)).geo rfl, cell_is (HM6.out.none_ ((Fr.refl None_ _).alloc _)).geo rfl⟩ | exact ⟨cell_is HM7.out.set rfl, cell_is HM7.out.set rfl, cell_is HM7.out.set rfl, cell_is HM7.out.geo rfl, cell_is HM7.out.geo rfl, cell_is HM7.out.geo rfl⟩) (first
            | (go_at_call 97; (with_reducible refine (CA.out).mono ?_); rintro e w6 ⟨rfl, hm6, hs6⟩; have HM6 := As.mk hm6; clear hm6 hs6)
            | (go_at_call 97; (with_reducible refine (CAB.out).mono ?_); rintro e w6 ⟨rfl, hm6, hs6⟩; have HM6 := As.mk hm6; have HY6 := As.mk (show Fields.Bx w6 p (.slice (some ⟨wr.heap.size + 1, 0, none⟩) 3 3) 110 .u16 [g.b, g.p, g.s] from YAB.out.step hs6); clear hm6 hs6)
            | (go_at_call 97; (with_reducible refine (CBA.out).mono ?_); rintro e w6 ⟨rfl, hm6, hs6⟩; have HM6 := As.mk hm6; have HY6 := As.mk (show Fields.Bx w6 p (.slice (some ⟨wr.heap.size, 0, none⟩) 3 3) 110 .u16 [g.b, g.p, g.s] from YBA.out.step hs6); clear hm6 hs6)
            | (go_at_call 98; (with_reducible refine (HU8.out w6 _ HM6.out HY6.out).mono ?_); rintro e w7 ⟨rfl, hm7, _⟩; have HM7 := As.mk hm7; clear hm7)
            | (go_at_call 98; have HY7 := (show Fields.Bx (w6.alloc (.cells #[.int .u16 g.b, .int .u16 g.p, .int .u16 g.s] 110)) p (.slice (some ⟨w6.heap.size, 0, none⟩) 3 3) 110 .u16 [g.b, g.p, g.s] from HM6.out.made 110 .u16 [g.b, g.p, g.s]); (with_reducible refine (HU8.out _ w6.heap.size (HM6.out.none_ ((Fr.refl None_ _).alloc _)) HY7).mono ?_); rintro e w7 ⟨rfl, hm7, _⟩; have HM7 := As.mk hm7; clear hm7)
            | fail)
          all_goals
            go_wp2_with fail
            go_meet
            case rel => exact HM7
        case rest =>
          have HMe := As.mk (show Mw w _ m g A1 n1 c1 p (m.enc g) from by
            have h := hcut.out
            have e : m.enc g = ([] ++ les 4 [m.seq] ++ les 1 [(n1 : Int)] ++ les 1 m.chips) ++ les 1 [m.spare, m.dead, m.done] ++ les 2 [g.b, g.p, g.s] := by
              unfold MS.enc
              rw [HLN.out]
              simp [les]
            rw [e]
            exact h)
          clear hcut HMc
          rename World => w8
          have HLE := As.mk (enc_length HG.out HM.out)
          have HPR := As.mk (show InR 256 (m.page g) from Seal.pad_range (by
            unfold MS.enc
            exact Seal.inR_append (Seal.inR_append (Seal.inR_append (Seal.les_range _ _) (Seal.les_range _ _)) (Seal.les_range _ _)) (Seal.les_range _ _)) _)
          have HPL := As.mk (show (m.page g).length ≤ 1024 from by unfold MS.page; rw [padTo_length]; have h1 := HLE.out; have h2 := HRG.out; omega)
          have g3 := cell_is (v := .int .i64 g.s) (i := 3) HMe.out.geo rfl
          have HPD := As.mk (Pad_calls p p (m.enc g) g.s w8 HMe.out.wr (Nat.le_of_lt HMe.out.wr.lt) (by have h2 := HRG.out; omega) (by have h1 := HLE.out; omega))
          go_wp2_with fail
          ((with_reducible refine (HPD.out).mono ?_); rintro e w9 ⟨rfl, hw9, hs9⟩)
          have HM9 := As.mk (HMe.out.step hw9 hs9)
          have HBY := As.mk (Bytes_calls p p (m.page g) w9 hw9 (by have := HPL.out; omega))
          clear hw9 hs9 g3 HPD
          go_wp2_with fail
          ((with_reducible refine (HBY.out).mono ?_); rintro e w10 ⟨v10, rfl, hr10, hf10⟩)
          have HM10 := As.mk (HM9.out.none_ hf10)
          have HR10 := As.mk (hr10.lower (show w.heap.size ≤ w9.heap.size from HM9.out.fr.size))
          obtain ⟨A10, n10, c10, e10, hm10, hd10, _⟩ := hr10.rd
          subst e10
          have s0 := cell_is (v := .int .u32 m.seq) (i := 0) HM10.out.set rfl
          have HSE := As.mk (show Calls Tryz.prog 86 #[.agg #[.int .u8 2, .int .u32 m.seq, .int .u32 0, .int .u16 0, .int .u16 1, .int .u32 0, .int .u32 0], .slice A10 n10 c10, .slice none 0 0] w10 _ from Seal.Seal_calls m.hd (m.page g) [] A10 none n10 0 c10 0 w10 ⟨by simp [MS.hd], ⟨hq.1, hq.2⟩, by simp [MS.hd], by simp [MS.hd], by simp [MS.hd], by simp [MS.hd], by simp [MS.hd]⟩ hd10.out (Rd.nil _ _ _) hm10.out (Nat.le_refl _) HPR.out (fun x hx => by cases hx))
          clear hr10 hf10 hd10 hm10 HBY
          go_wp2_with fail
          ((with_reducible refine (HSE.out).mono ?_); rintro e w11 ⟨v11, rfl, hr11, hf11⟩)
          have HR11 := As.mk (hr11.lower (show w.heap.size ≤ w10.heap.size from HM10.out.fr.size))
          have HRD := As.mk (HR10.out.none_ hf11)
          have HFF := As.mk (HM10.out.fr.after hf11 (fun _ _ h => h))
          obtain ⟨A11, n11, c11, e11, _, _, _⟩ := hr11.rd
          subst e11
          clear hr11 hf11
          go_wp2_with fail
          go_ret3
          exact ⟨_, _, rfl, HRD.out, HR11.out, HFF.out⟩
end Go.Proofs.YteofgpaceeibpaaGreat.MemB

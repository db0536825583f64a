/- A case's shape, place, member, pages (gabionlaw10). -/
import Derived.Test.YtlhgbamajabnfaaStripe
import Derived.StillTailTactics
namespace Go.Proofs.Ytlhgbamajabnfaa.Case
open Go.RowKit Go.Proofs.Ytlhgbamajabnfaa.Gab Go.Proofs.Ytlhgbamajabnfaa.Geom Go.Proofs.Ytlhgbamajabnfaa.Ram Go.Proofs.Ytlhgbamajabnfaa.Par Go.Proofs.Ytlhgbamajabnfaa.Fields Go.Proofs.Ytlhgbamajabnfaa.Ord Go.Proofs.Ytlhgbamajabnfaa.Write Go.Proofs.Ytlhgbamajabnfaa.Stripe Go.Proofs.Ytlhgbamajabnfaa.Ref
open Go.Proofs.Ytlhgbamajabnfaa.Wr (InR)
open Go.Proofs.Ytlhgbamajabnfaa.Str (pcells take_snoc add_next)
set_option linter.unusedVariables false
set_option linter.unusedSimpArgs false

/-- A case as it stands: numbers, and three slices. -/
structure Cs where
  chips : Int
  seg : Int
  row : Int
  dead : Int
  spoilt : Int
  HA : Option Addr
  hn : Nat
  hc : Nat
  FA : Option Addr
  fn : Nat
  fc : Nat
  BA : Option Addr
  bn : Nat
  bc : Nat
def Cs.cells (x : Cs) : Array Value := #[.int .i64 x.chips, .int .i64 x.seg, .int .i64 x.row, .slice x.HA x.hn x.hc, .slice x.FA x.fn x.fc, .int .i64 x.dead, .int .i64 x.spoilt, .slice x.BA x.bn x.bc]
def i64r (n : Int) : Prop := -9223372036854775808 ≤ n ∧ n < 9223372036854775808
def u64of (n : Int) : Int := n % 18446744073709551616
def Cs.geo (x : Cs) : Geo := ⟨3 + u64of x.chips % 5, 20, 6, 256⟩
theorem Cs.geo_ok (x : Cs) : x.geo.Ok := ⟨by show 3 ≤ 3 + u64of x.chips % 5 ∧ 3 + u64of x.chips % 5 ≤ 16; omega, by show (16 : Int) ≤ 20 ∧ (20 : Int) ≤ 64; decide, by show (4 : Int) ≤ 6 ∧ (6 : Int) ≤ 32; decide, by show (256 : Int) ≤ 256 ∧ (256 : Int) ≤ 1024; decide, by show (256 : Int) % 64 = 0; decide⟩

set_option maxHeartbeats 1000000 in
set_option maxRecDepth 100000 in
theorem shape_calls (x : Cs) (w : World) : Calls Try.prog 13 #[.agg x.cells] w fun e w' => e = .returned x.geo.val ∧ Fr None_ w w' := by
  have h0 : IntKind.u64.wrap x.chips = u64of x.chips := IntKind.wrap_u64 _
  have h1 : 0 ≤ u64of x.chips := by unfold u64of; omega
  have h2 : u64of x.chips < 18446744073709551616 := by unfold u64of; omega
  have h4 : 0 ≤ u64of x.chips % 5 := by omega
  have h5 : u64of x.chips % 5 < 5 := by omega
  have h6 : IntKind.u64.wrap (Int.tmod (u64of x.chips) 5) = u64of x.chips % 5 := by rw [Int.tmod_eq_emod_of_nonneg h1, IntKind.wrap_u64]; omega
  unfold Cs.cells Geo.val Cs.geo
  generalize u64of x.chips = u at *
  go_enter Try.func13, Try.ntmps13
  go_wp2
  exact bodyPost_ret (v := .agg #[.int .i64 (3 + u % 5), .int .i64 20, .int .i64 6, .int .i64 256]) (by simp [results, Try.results13, go_sem]) rfl ⟨rfl, ((((((Fr.refl None_ w).alloc _).alloc _))))⟩

set_option maxHeartbeats 1000000 in
set_option maxRecDepth 100000 in
theorem place_calls (x : Cs) (w : World) : Calls Try.prog 15 #[.agg x.cells] w fun e w' => e = .returned (.tuple #[.int .i64 (u64of x.seg % 15), .int .i64 (u64of x.row % 6)]) ∧ Fr None_ w w' := by
  have h0 : IntKind.u64.wrap x.seg = u64of x.seg := IntKind.wrap_u64 _
  have h0' : IntKind.u64.wrap x.row = u64of x.row := IntKind.wrap_u64 _
  have h1 : 0 ≤ u64of x.seg := by unfold u64of; omega
  have h2 : u64of x.seg < 18446744073709551616 := by unfold u64of; omega
  have h1' : 0 ≤ u64of x.row := by unfold u64of; omega
  have h2' : u64of x.row < 18446744073709551616 := by unfold u64of; omega
  unfold Cs.cells
  generalize u64of x.seg = u at *
  generalize u64of x.row = v at *
  have h4 : 0 ≤ u % 15 := by omega
  have h5 : u % 15 < 15 := by omega
  have h4' : 0 ≤ v % 6 := by omega
  have h5' : v % 6 < 6 := by omega
  have k1 : IntKind.u64.wrap (Int.tmod u 15) = u % 15 := by rw [Int.tmod_eq_emod_of_nonneg h1, IntKind.wrap_u64]; omega
  have k2 : IntKind.u64.wrap (Int.tmod v 6) = v % 6 := by rw [Int.tmod_eq_emod_of_nonneg h1', IntKind.wrap_u64]; omega
  have k3 : IntKind.i64.wrap (u % 15) = u % 15 := i64_in _ (by omega) (by omega)
  have k4 : IntKind.i64.wrap (v % 6) = v % 6 := i64_in _ (by omega) (by omega)
  go_enter Try.func15, Try.ntmps15
  go_wp2_with fail
  go_quiet (fail)
  go_wp2_with fail
  go_ret2
  exact ⟨rfl, ((Fr.refl None_ w).alloc _).drewN _⟩

theorem field_geo (a b c d : Int) (w : World) : (Instr.field 28 (.agg #[.int .i64 a, .int .i64 b, .int .i64 c, .int .i64 d]) 0).run Try.prog w = .ok (.int .i64 a) w := by kernel_rfl
def Cs.member (x : Cs) (n : Int) : Int := if n < 0 then -1 else n % x.geo.c
theorem Cs.member_range (x : Cs) (n : Int) : -1 ≤ x.member n ∧ x.member n < x.geo.c := by
  have h := x.geo_ok.c
  unfold Cs.member
  split
  · omega
  · exact ⟨Int.le_trans (by decide) (Int.emod_nonneg _ (by omega)), Int.emod_lt_of_pos _ (by omega)⟩
set_option maxHeartbeats 1000000 in
set_option maxRecDepth 100000 in
theorem member_calls (x : Cs) (n : Int) (w : World) : Calls Try.prog 17 #[.agg x.cells, .int .i64 n] w fun e w' => e = .returned (.int .i64 (x.member n)) ∧ Fr None_ w w' := by
  have HS := As.mk (fun w => shape_calls x w)
  have hc := x.geo_ok.c
  have HM : As (x.member n = if n < 0 then -1 else n % x.geo.c) := ⟨rfl⟩
  unfold Cs.cells Geo.val at *
  generalize x.member n = mm at *
  have hcz : ¬ x.geo.c = 0 := by omega
  by_cases hn : n < 0
  · have HM2 : As (mm = -1) := ⟨by rw [HM.out, if_pos hn]⟩
    go_enter Try.func17, Try.ntmps17
    go_wp2_with fail
    go_ret
    exact ⟨by rw [HM2.out]; rfl, (Fr.refl None_ w).alloc _⟩
  · have HM2 : As (mm = n % x.geo.c) := ⟨by rw [HM.out, if_neg hn]⟩
    have hn0 : 0 ≤ n := by omega
    have hfd := field_geo
    go_enter Try.func17, Try.ntmps17
    go_wp2_with ((with_reducible refine (HS.out _).mono ?_); rintro e w1 ⟨rfl, hf1⟩; have HF1 := As.mk (((Fr.refl None_ w).alloc _).after hf1 (fun _ _ h => h)); clear hf1)
    go_ret
    exact ⟨by rw [HM2.out]; rfl, HF1.out⟩

/-- Headers in memory. -/
def Heads (w : World) (A : Option Addr) (n : Nat) (l : List Head) : Prop := l.length = n ∧ (∀ h ∈ l, h.Ok) ∧ (0 < n → ∃ ad, A = some ad ∧ ∀ j, j < n → ∀ i, i < 7 → w.cell? (ad.add (j * 7 + i)) = some ((l.getD j ⟨0, 0, 0, 0, 0, 0, 0⟩).vals.getD i undef))
theorem Heads.none_ {w w' : World} {A : Option Addr} {n : Nat} {l : List Head} (h : Heads w A n l) (hf : Fr None_ w w') : Heads w' A n l := ⟨h.1, h.2.1, fun hn => by
  obtain ⟨ad, e, hc⟩ := h.2.2 hn
  exact ⟨ad, e, fun j hj i hi => hf.cell (hc j hj i hi) (fun h => h)⟩⟩
theorem Heads.at_ {w : World} {A : Option Addr} {n : Nat} {l : List Head} (h : Heads w A n l) (i : Int) (h0 : 0 ≤ i) (h1 : i < n) :
    ∃ ad ax hd, A = some ad ∧ ad.add (i.toNat * 7) = ax ∧ Head.Ok hd ∧ w.cell? ax = some (.int .u8 hd.kind) ∧ w.cell? ⟨ax.block, ax.off + 1, none⟩ = some (.int .u32 hd.epoch) ∧ w.cell? ⟨ax.block, ax.off + 2, none⟩ = some (.int .u32 hd.batch) ∧ w.cell? ⟨ax.block, ax.off + 3, none⟩ = some (.int .u16 hd.index) ∧ w.cell? ⟨ax.block, ax.off + 4, none⟩ = some (.int .u16 hd.count) ∧ w.cell? ⟨ax.block, ax.off + 5, none⟩ = some (.int .u32 hd.block) ∧ w.cell? ⟨ax.block, ax.off + 6, none⟩ = some (.int .u32 hd.more) := by
  obtain ⟨ad, e, hc⟩ := h.2.2 (by omega)
  have hl := h.1
  have hcl := hc i.toNat (by omega)
  have hx : ∀ j, 0 < j → j < 7 → w.cell? ⟨(ad.add (i.toNat * 7)).block, (ad.add (i.toNat * 7)).off + j, none⟩ = some ((l.getD i.toNat ⟨0, 0, 0, 0, 0, 0, 0⟩).vals.getD j undef) := fun j h0 hj => by rw [← add_next _ _ _ h0]; exact hcl j hj
  exact ⟨ad, _, l.getD i.toNat ⟨0, 0, 0, 0, 0, 0, 0⟩, e, rfl, h.2.1 _ (getD_mem (by omega) _), hcl 0 (by decide), hx 1 (by decide) (by decide), hx 2 (by decide) (by decide), hx 3 (by decide) (by decide), hx 4 (by decide) (by decide), hx 5 (by decide) (by decide), hx 6 (by decide) (by decide)⟩
theorem SPs.fr {S : Nat → Prop} {w w' : World} {p : Nat} {vs : List Value} {l : List (Head × List Int)} (h : SPs w p vs l) (hf : Fr S w w') (hS : ∀ b cs, w.heap[b]? = some (.cells cs 5 (0, 0)) → ¬ S b) (hp : w'.heap[p]? = w.heap[p]?) : SPs w' p vs l :=
  ⟨h.1, fun j hj d => ⟨(h.2 j hj d).1, (h.2 j hj d).2.1.fr hf hS hp, (h.2 j hj d).2.2⟩⟩
theorem Row.at_ {e : TypeId} {k : IntKind} {w : World} {base : Nat} {v : Value} {xs : List Int} (h : Row e k w base v xs) (hx : 0 < xs.length) : ∃ g cap, v = .slice (some ⟨g, 0, none⟩) xs.length cap ∧ RowAt e k w base g xs.length cap xs := by
  have h0 := h
  rcases h.2 with ⟨rfl, hn⟩ | ⟨g, cap, cur, rfl, _⟩
  · omega
  · exact ⟨g, cap, rfl, rfl, h0⟩
theorem inR_get' {m : Int} {l : List Int} (h : InR m l) {i : Nat} (hi : i < l.length) : 0 ≤ l.getD i 0 ∧ l.getD i 0 < m := h _ (getD_mem hi 0)
theorem infoSP : (Try.prog.info? 56).map (fun i => (i.zero, i.size, i.bytes)) = some (some (.agg #[.int .u8 0, .int .u32 0, .int .u32 0, .int .u16 0, .int .u16 0, .int .u32 0, .int .u32 0, .slice none 0 0]), 8, 48) := by kernel_rfl
theorem set_range {xs : List Int} (h : InR 256 xs) (i : Nat) {z : Int} (h0 : 0 ≤ z) (h1 : z < 256) : InR 256 (xs.set i z) := fun x hx => by
  rcases List.mem_or_eq_of_mem_set hx with h2 | h2
  · exact h x h2
  · subst h2; exact ⟨h0, h1⟩
theorem fr_set7 {S : Nat → Prop} {w w' : World} (h : Fr S w w') {b : Nat} (hb : b < w.heap.size → S b) (v0 v1 v2 v3 v4 v5 v6 : Value) : Fr S w (((((((w'.setCell ⟨b, 0, none⟩ v0).setCell ⟨b, 1, none⟩ v1).setCell ⟨b, 2, none⟩ v2).setCell ⟨b, 3, none⟩ v3).setCell ⟨b, 4, none⟩ v4).setCell ⟨b, 5, none⟩ v5).setCell ⟨b, 6, none⟩ v6) :=
  ((((((h.setCell (p := ⟨b, 0, none⟩) hb v0).setCell (p := ⟨b, 1, none⟩) hb v1).setCell (p := ⟨b, 2, none⟩) hb v2).setCell (p := ⟨b, 3, none⟩) hb v3).setCell (p := ⟨b, 4, none⟩) hb v4).setCell (p := ⟨b, 5, none⟩) hb v5).setCell (p := ⟨b, 6, none⟩) hb v6
theorem heap_set {w : World} {b : Nat} {cs : Array Value} {T : TypeId} {fr : Nat × Nat} (h : w.heap[b]? = some (.cells cs T fr)) (i : Nat) (v : Value) : (w.setCell ⟨b, i, none⟩ v).heap[b]? = some (.cells (cs.setIfInBounds i v) T fr) := by
  simp [World.setCell, Array.getElem?_modify, h]

theorem heap_set7 {w : World} {b : Nat} {T : TypeId} {fr : Nat × Nat} {a0 a1 a2 a3 a4 a5 a6 : Value} (h : w.heap[b]? = some (.cells #[a0, a1, a2, a3, a4, a5, a6] T fr)) (v0 v1 v2 v3 v4 v5 v6 : Value) :
    (((((((w.setCell ⟨b, 0, none⟩ v0).setCell ⟨b, 1, none⟩ v1).setCell ⟨b, 2, none⟩ v2).setCell ⟨b, 3, none⟩ v3).setCell ⟨b, 4, none⟩ v4).setCell ⟨b, 5, none⟩ v5).setCell ⟨b, 6, none⟩ v6).heap[b]? = some (.cells #[v0, v1, v2, v3, v4, v5, v6] T fr) := by
  have h0 := heap_set h 0 v0
  have h1 := heap_set h0 1 v1
  have h2 := heap_set h1 2 v2
  have h3 := heap_set h2 3 v3
  have h4 := heap_set h3 4 v4
  have h5 := heap_set h4 5 v5
  have h6 := heap_set h5 6 v6
  rw [h6]
  simp

/-- What pages answers. -/
def PagesPost (g : Geo) (p : Nat) (w : World) (e : Ending) (w' : World) : Prop := ∃ A c n vs l, e = .returned (.slice A n c) ∧ (n : Int) = g.c - 1 ∧ RdCO w' p A (n * 8) vs ∧ SPs w' p vs l ∧ LOk g l ∧ Fr None_ w w'
set_option maxHeartbeats 8000000 in
set_option maxRecDepth 100000 in
theorem pages_calls (x : Cs) (p : Nat) (s : Ram.St) (heads : List Head) (first : List Int) (w : World) (hR : RamE w p s) (hH : Heads w x.HA x.hn heads) (hhn : x.hn ≤ 10) (hF : Rd .u8 w x.FA x.fn first) (hFr : InR 256 first) :
    Calls Try.prog 16 #[.agg x.cells] w (PagesPost x.geo p w) := by
  have HR := As.mk hR
  have HH := As.mk hH
  have HF := As.mk hF
  have HFR := As.mk hFr
  have hfn := hF.2.1
  have HFL := As.mk hF.1
  have HSH := As.mk (fun w => shape_calls x w)
  have hc1 := x.geo_ok.c
  have hc2 : x.geo.c ≤ 7 := by show 3 + u64of x.chips % 5 ≤ 7; omega
  have hp := hR.lt
  unfold Geo.val at HSH
  generalize hgeo : x.geo = g at *
  have HGE := As.mk hgeo
  have HZ := As.mk (fun (w : World) => show Calls Try.prog 32 #[.int .i64 256] w fun e w' => ∃ v, e = .returned v ∧ Row 5 .u8 w' w.heap.size v (List.replicate 256 0) ∧ Fr None_ w w' from Zeros_calls 256 w (by decide))
  clear hgeo
  unfold Cs.cells at *
  have hbx0 := heap_alloc_new w (.cells #[.int .i64 x.chips, .int .i64 x.seg, .int .i64 x.row, .slice x.HA x.hn x.hc, .slice x.FA x.fn x.fc, .int .i64 x.dead, .int .i64 x.spoilt, .slice x.BA x.bn x.bc] 25)
  have HBX0 := As.mk hbx0
  clear hR hH hF hFr hbx0
  go_enter Try.func16, Try.ntmps16
  go_wp2_with fail
  ((with_reducible refine (HSH.out _).mono ?_); rintro e w1 ⟨rfl, hf1⟩)
  have HBX1 := As.mk (hf1.heap HBX0.out (fun h => h))
  have HF1 := As.mk (((Fr.refl None_ w).alloc _).after hf1 (fun _ _ h => h))
  have HGN := As.mk (heap_alloc_new w1 (.cells #[.int .i64 g.c, .int .i64 g.b, .int .i64 g.p, .int .i64 g.s] 28))
  have HST := As.mk (show Fr None_ w (w1.alloc (.cells #[.int .i64 g.c, .int .i64 g.b, .int .i64 g.p, .int .i64 g.s] 28)) ∧ _ from ⟨HF1.out.alloc _, at_old (.cells #[.int .i64 g.c, .int .i64 g.b, .int .i64 g.p, .int .i64 g.s] 28) HBX1.out⟩)
  clear hf1
  go_wp2_with fail
  generalize w1.alloc (.cells #[.int .i64 g.c, .int .i64 g.b, .int .i64 g.p, .int .i64 g.s] 28) = w2 at *
  generalize hgg : w1.heap.size = gg at *
  clear hgg HF1 HBX1
  go_loopw [4, 5, 6, 7, 8] (fun v4 v5 v6 v7 v8 w' => ∃ i : Int, ∃ (vs : List Value) (l : List (Head × List Int)), v5 = .int .i64 i ∧ 0 ≤ i ∧ i ≤ g.c - 1 ∧ As (RowV 56 8 w' w.heap.size v4 i.toNat vs) ∧ As (SPs w' p vs l) ∧ As ((l.length : Int) = i ∧ (∀ q ∈ l, q.1.Ok ∧ 1 ≤ q.1.kind ∧ q.1.kind ≤ 6) ∧ ∀ q ∈ l, (q.2.length : Int) = g.s ∧ InR 256 q.2) ∧ As (Fr None_ w w' ∧ w'.heap[w.heap.size]? = some (.cells #[.int .i64 x.chips, .int .i64 x.seg, .int .i64 x.row, .slice x.HA x.hn x.hc, .slice x.FA x.fn x.fc, .int .i64 x.dead, .int .i64 x.spoilt, .slice x.BA x.bn x.bc] 25 (0, 0)) ∧ w'.heap[gg]? = some (.cells #[.int .i64 g.c, .int .i64 g.b, .int .i64 g.p, .int .i64 g.s] 28 (0, 0)))) (fun _ v5 _ _ _ _ => (g.c - 1 - intOf v5).toNat)
  case atStart => exact ⟨0, [], [], rfl, by omega, by omega, ⟨RowV.nil _ _ _ _⟩, ⟨SPs.nil _ _⟩, ⟨rfl, fun q hq => (by cases hq), fun q hq => (by cases hq)⟩, ⟨HST.out.1, HST.out.2, HGN.out⟩⟩
  case round =>
    obtain ⟨i, vs, l, rfl, hi0, hi, HX, HSP, HL, HFr⟩ := hrel
    obtain ⟨A1, cap1, e1, _, _, _⟩ := HX.out.rd
    subst e1
    have g0 := cell_is (i := 0) HFr.out.2.2 rfl
    by_cases hlt : i < g.c - 1
    · have b3 := cell_is (i := 3) HFr.out.2.1 rfl
      have lb : w.heap.size < wr.heap.size := (Array.getElem?_eq_some_iff.1 HFr.out.2.1).1
      have hw32 : IntKind.u32.wrap i = i := by rw [IntKind.wrap_u32]; omega
      go_upto_if 25 with fail
      have hnew := heap_alloc_new wr (.cells #[.int .u8 4, .int .u32 0, .int .u32 0, .int .u16 0, .int .u16 0, .int .u32 i, .int .u32 0] 54)
      have hf0 : Fr None_ wr (wr.alloc (.cells #[.int .u8 4, .int .u32 0, .int .u32 0, .int .u16 0, .int .u16 0, .int .u32 i, .int .u32 0] 54)) := (Fr.refl _ wr).alloc _
      clear g0 b3 lb hw32
      generalize wr.alloc (.cells #[.int .u8 4, .int .u32 0, .int .u32 0, .int .u16 0, .int .u16 0, .int .u32 i, .int .u32 0] 54) = wa at *
      have hgr : wr.heap.size ≤ wr.heap.size := Nat.le_refl _
      generalize hgh : wr.heap.size = gh at hnew hgr ⊢
      have HGH := As.mk hgh
      clear hgh
      have HF0 := As.mk hf0
      have HNEW := As.mk hnew
      clear hnew hf0
      go_cut [] (fun wc => ∃ hd : Head, As (wc.heap[gh]? = some (.cells hd.vals 54 (0, 0)) ∧ hd.Ok ∧ 1 ≤ hd.kind ∧ hd.kind ≤ 6) ∧ As (Fr None_ wr wc))
      case first =>
        by_cases hin : i < (x.hn : Int)
        · obtain ⟨ad, ax, hd, eA, hax, HOK, k0, k1, k2, k3, k4, k5, k6⟩ := Heads.at_ (HH.out.none_ (HFr.out.1.after HF0.out (fun _ _ h => h))) i hi0 hin
          have HO := As.mk HOK
          have hbx := HF0.out.heap HFr.out.2.1 (fun h => h)
          have b3 := cell_is (i := 3) hbx rfl
          have n0 := cell_is (i := 0) HNEW.out rfl
          have n1 := cell_is (i := 1) HNEW.out rfl
          have n2 := cell_is (i := 2) HNEW.out rfl
          have n3 := cell_is (i := 3) HNEW.out rfl
          have n4 := cell_is (i := 4) HNEW.out rfl
          have n5 := cell_is (i := 5) HNEW.out rfl
          have n6 := cell_is (i := 6) HNEW.out rfl
          have f0 := free_of (i := 0) HNEW.out
          have f1 := free_of (i := 1) HNEW.out
          have f2 := free_of (i := 2) HNEW.out
          have f3 := free_of (i := 3) HNEW.out
          have f4 := free_of (i := 4) HNEW.out
          have f5 := free_of (i := 5) HNEW.out
          have f6 := free_of (i := 6) HNEW.out
          clear HOK hbx
          rw [eA] at b3
          clear eA
          go_wp2_with fail
          go_meet
          case rel =>
            have hk := HO.out.kind
            have ht : Int.tmod hd.kind 6 = hd.kind % 6 := Int.tmod_eq_emod_of_nonneg hk.1
            have hK : 1 ≤ (1 + Int.tmod hd.kind 6) % 256 ∧ (1 + Int.tmod hd.kind 6) % 256 ≤ 6 := by rw [ht]; omega
            have h1 := heap_set (heap_set7 HNEW.out (.int .u8 hd.kind) (.int .u32 hd.epoch) (.int .u32 hd.batch) (.int .u16 hd.index) (.int .u16 hd.count) (.int .u32 hd.block) (.int .u32 hd.more)) 0 (.int .u8 ((1 + Int.tmod hd.kind 6) % 256))
            have h2 := (fr_set7 (b := gh) HF0.out (fun hl => absurd hl (by rw [HGH.out]; exact Nat.lt_irrefl _)) (.int .u8 hd.kind) (.int .u32 hd.epoch) (.int .u32 hd.batch) (.int .u16 hd.index) (.int .u16 hd.count) (.int .u32 hd.block) (.int .u32 hd.more)).setCell (p := ⟨gh, 0, none⟩) (fun hl => absurd hl (by rw [HGH.out]; exact Nat.lt_irrefl _)) (.int .u8 ((1 + Int.tmod hd.kind 6) % 256))
            generalize (1 + Int.tmod hd.kind 6) % 256 = kd at *
            refine ⟨⟨kd, hd.epoch, hd.batch, hd.index, hd.count, hd.block, hd.more⟩, ⟨?_, ⟨by show 0 ≤ kd ∧ kd < 256; omega, HO.out.epoch, HO.out.batch, HO.out.index, HO.out.count, HO.out.block, HO.out.more⟩, hK.1, hK.2⟩, ⟨h2⟩⟩
            rw [h1]
            simp [Head.vals]
        · go_wp2_with fail
          go_meet
          case rel =>
            exact ⟨⟨4, 0, 0, 0, 0, i, 0⟩, ⟨HNEW.out, ⟨by show (0 : Int) ≤ 4 ∧ (4 : Int) < 256; decide, by show (0 : Int) ≤ 0 ∧ (0 : Int) < 4294967296; decide, by show (0 : Int) ≤ 0 ∧ (0 : Int) < 4294967296; decide, by show (0 : Int) ≤ 0 ∧ (0 : Int) < 65536; decide, by show (0 : Int) ≤ 0 ∧ (0 : Int) < 65536; decide, by show 0 ≤ i ∧ i < 4294967296; omega, by show (0 : Int) ≤ 0 ∧ (0 : Int) < 4294967296; decide⟩, by show (1 : Int) ≤ 4; decide, by show (4 : Int) ≤ 6; decide⟩, HF0⟩
      case rest =>
        obtain ⟨hd, HHD, HFC⟩ := hcut
        have hfw := HFr.out.1.after HFC.out (fun _ _ h => h)
        have HFW := As.mk hfw
        have HBXc := As.mk (HFC.out.heap HFr.out.2.1 (fun h => h))
        have HGGc := As.mk (HFC.out.heap HFr.out.2.2 (fun h => h))
        go_wp2_with fail
        ((with_reducible refine (HZ.out _).mono ?_); rintro e w4 ⟨v4, rfl, hrow4, hf4⟩)
        have HF4 := As.mk (HFC.out.after hf4 (fun _ _ h => h))
        have HHB := As.mk (hf4.heap HHD.out.1 (fun h => h))
        have HZB := As.mk (show wr.heap.size ≤ wc.heap.size from HFC.out.size)
        obtain ⟨gd, capd, ed, hrat⟩ := Row.at_ hrow4 (by simp)
        have hbl := hrow4.blk gd (by rw [ed]; rfl)
        have HGD := As.mk (show wr.heap.size ≤ gd from Nat.le_trans HZB.out hbl.1)
        have HGT := As.mk hbl.2.2
        clear hbl
        rw [show (List.replicate 256 (0 : Int)).length = 256 by simp] at ed hrat
        subst ed
        have HRT := As.mk hrat
        clear hrow4 hf4 hrat
        go_wp2_with fail
        go_loopw [8] (fun v8 w' => ∃ k : Int, ∃ xs : List Int, v8 = .int .i64 k ∧ 0 ≤ k ∧ k ≤ 256 ∧ As (RowAt 5 .u8 w' wc.heap.size gd 256 capd xs ∧ InR 256 xs) ∧ As (Fr (fun b => b = gd) w4 w')) (fun v8 _ => (256 - intOf v8).toNat)
        case atStart => exact ⟨0, _, rfl, by omega, by omega, ⟨HRT.out, fun y hy => by obtain ⟨_, rfl⟩ := List.mem_replicate.1 hy; decide⟩, ⟨Fr.refl _ _⟩⟩
        case round =>
          obtain ⟨k, xs, rfl, hk0, hk, HY, HG⟩ := hrel
          rename World => wq
          have HGW := As.mk (show Fr None_ wr wq from HF4.out.after HG.out (fun b hb e => absurd hb (by have := HGD.out; omega)))
          have hgd4 : w4.heap[gd]? = none ∨ True := .inr trivial
          clear hgd4
          by_cases hlk : k < 256
          · have hm0 : 0 ≤ k * (i + 1) := Int.mul_nonneg hk0 (by omega)
            have hm1 : k * (i + 1) ≤ 4096 := by
              have : k * (i + 1) ≤ 256 * 16 := Int.mul_le_mul (by omega) (by omega) (by omega) (by omega)
              omega
            obtain ⟨z, hz⟩ : ∃ z, IntKind.u8.wrap (k * (i + 1)) = z := ⟨_, rfl⟩
            have HZR : As (0 ≤ z ∧ z < 256) := ⟨by rw [← hz, IntKind.wrap_u8]; omega⟩
            have hcell := HY.out.1.cell k hk0 hlk
            obtain ⟨c1, f1⟩ := hcell
            have hlb := HGW.out.heap HFr.out.2.1 (fun h => h)
            have HLB := As.mk hlb
            have hne : w.heap.size ≠ gd := by have h1 := (Array.getElem?_eq_some_iff.1 HFr.out.2.1).1; have := HGD.out; omega
            have b4 := cell_is (i := 4) hlb rfl
            clear hlb
            have HST1 := As.mk (HY.out.1.store k z)
            have HRN := As.mk (set_range HY.out.2 k.toNat HZR.out.1 HZR.out.2)
            have HG1 := As.mk (HG.out.setCell (p := ⟨gd, k.toNat, none⟩) (fun _ => rfl) (.int .u8 z))
            by_cases hif : i < (x.fn : Int)
            · obtain ⟨af, eF, hcF⟩ := (HF.out.none_ (HFr.out.1.after HGW.out (fun _ _ h => h))).at_ i hi0 hif
              have hfr := inR_get' HFR.out (i := i.toNat) (by have := HFL.out; omega)
              have hafb : af.block ≠ gd := by
                have h1 := (HF.out.lt) af eF (by omega)
                have h2 := HGD.out
                have h3 := HFr.out.1.size
                omega
              rw [eF] at b4
              generalize first.getD i.toNat 0 = fv at *
              obtain ⟨fv0, fv1⟩ := hfr
              clear eF
              go_upto_if 53 with fail
              have c1z : (wq.setCell ⟨gd, k.toNat, none⟩ (.int .u8 z)).cell? ⟨gd, k.toNat, none⟩ = some (.int .u8 z) := World.cell?_setCell_same' wq _ _ (by simp [c1])
              have c2z : (wq.setCell ⟨gd, k.toNat, none⟩ (.int .u8 z)).cell? (af.add i.toNat) = some (.int .u8 fv) := by
                refine ((Fr.refl (fun b => b = gd) wq).setCell (p := ⟨gd, k.toNat, none⟩) (fun _ => rfl) _).cell hcF ?_
                rw [add_block]
                exact hafb
              have f1z : (wq.setCell ⟨gd, k.toNat, none⟩ (.int .u8 z)).frozen? ⟨gd, k.toNat, none⟩ = false := (HST1.out.cell k hk0 hlk).2
              have b4z : (wq.setCell ⟨gd, k.toNat, none⟩ (.int .u8 z)).cell? ⟨w.heap.size, 4, none⟩ = some (.slice (some af) x.fn x.fc) := ((Fr.refl (fun b => b = gd) wq).setCell (p := ⟨gd, k.toNat, none⟩) (fun _ => rfl) _).cell b4 hne
              clear c1 f1 b4 hcF hafb
              generalize wq.setCell ⟨gd, k.toNat, none⟩ (.int .u8 z) = wz at *
              have HZ2 : As (0 ≤ (z + fv) % 256 ∧ (z + fv) % 256 < 256) := ⟨by omega⟩
              have HST2 := As.mk (HST1.out.store k ((z + fv) % 256))
              have HRN2 := As.mk (set_range HRN.out k.toNat HZ2.out.1 HZ2.out.2)
              have HG2 := As.mk (HG1.out.setCell (p := ⟨gd, k.toNat, none⟩) (fun _ => rfl) (.int .u8 ((z + fv) % 256)))
              clear hz
              go_upto_region 16 with fail
              go_still_tail 13, (by kernel_rfl)
              change wpList _ _ _ _ _ wz.drew
              go_wp2_with fail
              exact ⟨⟨k + 1, _, rfl, by omega, by omega, ⟨HST2.out, HRN2.out⟩, ⟨HG2.out.drew⟩⟩, by simp [intOf]; omega⟩
            · go_wp2_with fail
              exact ⟨⟨k + 1, _, rfl, by omega, by omega, ⟨HST1.out, HRN.out⟩, HG1⟩, by simp [intOf]; omega⟩
          · have hhb := HG.out.heap HHB.out (fun e => by obtain ⟨cs, h1⟩ := HGT.out; rw [← e, HHB.out] at h1; injection h1 with h1; injection h1 with _ h1; cases h1)
            have HHQ := As.mk hhb
            have h0 := cell_is (i := 0) hhb rfl
            have h1 := cell_is (i := 1) hhb rfl
            have h2 := cell_is (i := 2) hhb rfl
            have h3 := cell_is (i := 3) hhb rfl
            have h4 := cell_is (i := 4) hhb rfl
            have h5 := cell_is (i := 5) hhb rfl
            have h6 := cell_is (i := 6) hhb rfl
            change wq.cell? ⟨gh, 0, none⟩ = some (.int .u8 hd.kind) at h0
            change wq.cell? ⟨gh, 1, none⟩ = some (.int .u32 hd.epoch) at h1
            change wq.cell? ⟨gh, 2, none⟩ = some (.int .u32 hd.batch) at h2
            change wq.cell? ⟨gh, 3, none⟩ = some (.int .u16 hd.index) at h3
            change wq.cell? ⟨gh, 4, none⟩ = some (.int .u16 hd.count) at h4
            change wq.cell? ⟨gh, 5, none⟩ = some (.int .u32 hd.block) at h5
            change wq.cell? ⟨gh, 6, none⟩ = some (.int .u32 hd.more) at h6
            clear hhb
            go_wp2_with (at_builtin; (with_reducible refine appendV w.heap.size rfl _ _ 34 56 (.agg #[.int .u8 0, .int .u32 0, .int .u32 0, .int .u16 0, .int .u16 0, .int .u32 0, .int .u32 0, .slice none 0 0]) 8 48 rfl Try.underlying34 infoSP rfl (by decide) (by decide) (.slice A1 i.toNat cap1) i.toNat vs #[.int .u8 hd.kind, .int .u32 hd.epoch, .int .u32 hd.batch, .int .u16 hd.index, .int .u16 hd.count, .int .u32 hd.block, .int .u32 hd.more, .slice (some ⟨gd, 0, none⟩) 256 capd] _ rfl rfl rfl rfl ?o0 (HX.out.none_ HGW.out) ?o2 ?o3 ?_); (case o0 => intro u hu; simp at hu; rcases hu with rfl | rfl | rfl | rfl | rfl | rfl | rfl | rfl <;> rfl); (case o2 => have := HFr.out.1.size; have := HGW.out.size; omega); (case o3 => omega); intro v6 w6 hrow6 hfr6 hat6; have HR6 := As.mk hrow6; have HF6 := As.mk hfr6; clear hrow6 hfr6 hat6; obtain ⟨A6, c6, e6, _, _, _⟩ := HR6.out.rd; subst e6)
            have hn1 : (i + 1).toNat = i.toNat + 1 := by omega
            have hwp : p < wr.heap.size := Nat.lt_of_lt_of_le hp HFr.out.1.size
            have hsd : SlO wq p (.slice (some ⟨gd, 0, none⟩) 256 capd) xs := SlO.of_row (HR.out.none_ HFr.out.1) HGW.out HY.out.1.2 HZB.out
            have hXq := HX.out.none_ HGW.out
            have hFq : Fr None_ w wq := HFr.out.1.after HGW.out (fun _ _ h => h)
            have hF6 : Fr None_ w w6 := RowV.grow hXq hFq HF6.out
            have hp6 : w6.heap[p]? = wq.heap[p]? := (hF6.block p hp (fun h => h)).trans (hFq.block p hp (fun h => h)).symm
            have huS : ∀ b cs, wq.heap[b]? = some (.cells cs 5 (0, 0)) → ¬ (Value.slice A1 i.toNat cap1).ownBlock = some b := fun b cs hb => Go.Proofs.Ytlhgbamajabnfaa.Str.RowV.ne hXq hb (by decide)
            have hlb := HGW.out.heap HFr.out.2.1 (fun h => h)
            have hgb := HGW.out.heap HFr.out.2.2 (fun h => h)
            have hgs : g.s = 256 := by rw [← HGE.out]; rfl
            refine ⟨⟨i + 1, vs ++ (pcells hd (.slice (some ⟨gd, 0, none⟩) 256 capd)).toList, l ++ [(hd, xs)], rfl, by omega, by omega, ⟨?_⟩, ⟨?_⟩, ⟨?_, fun q hq => ?_, fun q hq => ?_⟩, ⟨hF6, ?_, ?_⟩⟩, by simp [intOf]; omega⟩
            · rw [hn1]
              exact HR6.out
            · exact SPs.fr ((HSP.out.none_ hwp HGW.out).snoc hsd HHD.out.2.1) HF6.out huS hp6
            · have := HL.out.1
              rw [List.length_append]
              simp
              omega
            · rcases List.mem_append.1 hq with h1 | h1
              · exact HL.out.2.1 q h1
              · obtain rfl := List.mem_singleton.1 h1
                exact HHD.out.2
            · rcases List.mem_append.1 hq with h1 | h1
              · exact HL.out.2.2 q h1
              · obtain rfl := List.mem_singleton.1 h1
                exact ⟨by show (xs.length : Int) = g.s; rw [hgs, HY.out.1.1]; rfl, HY.out.2⟩
            · exact HF6.out.heap hlb (Go.Proofs.Ytlhgbamajabnfaa.Str.RowV.ne hXq hlb (by decide))
            · exact HF6.out.heap hgb (Go.Proofs.Ytlhgbamajabnfaa.Str.RowV.ne hXq hgb (by decide))
    · have HIE : As (i = g.c - 1) := ⟨by omega⟩
      go_wp2_with fail
      go_ret
      refine ⟨A1, cap1, i.toNat, vs, l, rfl, by have := HIE.out; omega, RdCO.of_rowV HR.out HFr.out.1 HX.out (Nat.le_refl _), HSP.out, ?_, HFr.out.1⟩
      exact ⟨by have := HL.out.1; have := HIE.out; omega, HL.out.2.1, HL.out.2.2⟩
end Go.Proofs.Ytlhgbamajabnfaa.Case

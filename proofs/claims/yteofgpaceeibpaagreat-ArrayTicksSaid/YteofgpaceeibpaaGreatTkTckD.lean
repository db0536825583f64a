/- array.block: a block of the dead member is made anew. -/
import Derived.Test.YteofgpaceeibpaaGreatTkTckC
import Derived.Test.YteofgpaceeibpaaGreatTkAIter
import Derived.Maps.OwnIn
import Derived.Sort.CutIn
import Derived.RegionIn
import Derived.BigRegionIn
import Derived.Stop.RegionWithIn
namespace Go.Proofs.YteofgpaceeibpaaGreat.TckD
open Go.RowKit Gab Geom Go.Proofs.YteofgpaceeibpaaGreat.Sum Ref Par Fields Seal Nand NandA NandD NandH RemapA VolA ArrA ArrD AOrd AWrA StgA ARead AGet AAgn HeldA TckA TckB AIter
open NandC (n_same)
open Wr (InR)
open Heap (cell_is heap_set)
attribute [local go_sem] Oper.semAt_some
set_option linter.unusedVariables false
set_option linter.unusedSimpArgs false

/-- Rows of a block are made anew: what the array is like ahead of a row, and behind its page. -/
structure Steps (σ : Ar) (K : ALay) (b c : Nat) (t : Tab) (N : Nat) (Like Mid : Nat → Ar → Prop) (pgd : Nat → List Int × List Int) : Prop where
  zero : Like 0 σ
  few : N ≤ σ.s.g.p.toNat
  likeg : ∀ r τ, Like r τ → τ.s.g = σ.s.g
  midg : ∀ r τ, Mid r τ → τ.s.g = σ.s.g
  page : ∀ r q τ, Like r τ → r < σ.s.g.p.toNat → q < σ.s.g.p.toNat → ∀ w, ArAt w τ K → Calls Tryz.prog 114 #[.pointer (some ⟨K.x, 0, none⟩), .int .i64 (b : Int), .int .i64 (q : Int)] w fun e w' => ∃ τ', Mid r τ' ∧ PgS τ τ' K (pgd q) (decide (q < N)) w e w'
  vol : ∀ r τ, Mid r τ → τ.vol c = some t
  ok : ∀ q, q < N → ((pgd q).1.length : Int) = σ.s.g.s ∧ (pgd q).2.length = 64 ∧ InR 256 (pgd q).1 ∧ InR 256 (pgd q).2
  safe : ∀ r τ, Mid r τ → ∃ n, τ.s.Safe (n + 1)
  prog : ∀ r q τ, Mid r τ → q < N → (τ.s.prog c (t.at b) q (pgd q).1 (pgd q).2).2 = 0 → Like (r + 1) { τ with s := (τ.s.prog c (t.at b) q (pgd q).1 (pgd q).2).1 }
  prog0 : ∀ r τ, Mid r τ → r < N → (τ.s.prog c (t.at b) r (pgd r).1 (pgd r).2).2 = 0
def BlkPost (σ : Ar) (K : ALay) (N : Nat) (Like Mid : Nat → Ar → Prop) (w : World) (e : Ending) (w' : World) : Prop :=
  e = .returned (.int .i64 0) ∧ ∃ τ, ((N < σ.s.g.p.toNat ∧ Mid N τ) ∨ (N = σ.s.g.p.toNat ∧ Like N τ)) ∧ ArAt w' τ K ∧ Fr (AF K σ) w w'

theorem af_lt {w : World} {σ : Ar} {K : ALay} (h : ArAt w σ K) {b : Nat} (hb : AF K σ b) : b < w.heap.size ∧ ∃ cs T f, w.heap[b]? = some (.cells cs T f) := by
  rcases hb with h1 | h1 | h1
  · obtain ⟨cs, T, e, _⟩ := h.nand.ty h1
    exact ⟨(Array.getElem?_eq_some_iff.1 e).1, _, _, _, e⟩
  · subst h1
    exact ⟨(Array.getElem?_eq_some_iff.1 h.main).1, _, _, _, h.main⟩
  · subst h1
    obtain ⟨cs, e, _⟩ := h.vols
    exact ⟨(Array.getElem?_eq_some_iff.1 e).1, _, _, _, e⟩
/-- Blocks that are no cells turn: an array keeps. -/
theorem arKept {w w' : World} {σ : Ar} {K : ALay} (h : ArAt w σ K) {S : Nat → Prop} (hf : Fr S w w') (hS : ∀ b cs T f, w.heap[b]? = some (.cells cs T f) → ¬ S b) : ArAt w' σ K := by
  refine ⟨h.nand.typed hf (fun b cs T f hs hb => absurd hs (hS _ _ _ _ hb)), hf.heap h.main (hS _ _ _ _ h.main), h.ccn, ?_, fun c t hc e => ⟨(h.vol c t hc e).1.ty hf (fun b cs T f hb hT => hS _ _ _ _ hb), (h.vol c t hc e).2⟩, ?_, h.ok⟩
  · obtain ⟨ds, e, hds⟩ := h.vols
    exact ⟨ds, hf.heap e (hS _ _ _ _ e), hds⟩
  · obtain ⟨ds, e, hds⟩ := h.chips
    exact ⟨ds, hf.heap e (hS _ _ _ _ e), hds⟩
/-- What a round must leave, in memory. -/
structure Mem (w W : World) (τ σ : Ar) (K : ALay) (V : Value) (b : Int) : Prop where
  a : ArAt W τ K
  g : τ.s.g = σ.s.g
  fr : Fr (AF K σ) w W
  c0 : W.heap[w.heap.size]? = some (.cells #[.pointer (some ⟨K.x, 0, none⟩)] 30 (0, 0))
  c1 : W.heap[w.heap.size + 1]? = some (.cells #[V] 95 (0, 0))
  c2 : W.heap[w.heap.size + 1 + 1]? = some (.cells #[.int .i64 b] 3 (0, 0))
  c3 : W.heap[w.heap.size + 1 + 1 + 1]? = some (.cells #[.int .i64 0] 27 (0, 0))
theorem Mem.kept {w W W' : World} {τ σ : Ar} {K : ALay} {V : Value} {b : Int} {row : Option Nat} (h : Mem w W τ σ K V b) (hg : W.grownBy W' row) (hr : ∀ r, row = some r → w.heap.size ≤ r ∧ ∃ o : Obj, W.heap[r]? = some o ∧ o.isCells = false) : Mem w W' τ σ K V b := by
  have hf : Fr (fun b => row = some b) W W' := ⟨hg.os, hg.tape, hg.output, hg.size, fun b hb hs => hg.block b hb (fun e => hs e.symm)⟩
  have hS : ∀ b cs T f, W.heap[b]? = some (.cells cs T f) → ¬ row = some b := fun b cs T f hb e => by
    obtain ⟨_, o, ho, hc⟩ := hr b e
    rw [hb] at ho
    injection ho with ho
    subst ho
    cases hc
  exact ⟨arKept h.a hf hS, h.g, h.fr.after hf (fun b hb e => by have := (hr b e).1; omega), hf.heap h.c0 (hS _ _ _ _ h.c0), hf.heap h.c1 (hS _ _ _ _ h.c1), hf.heap h.c2 (hS _ _ _ _ h.c2), hf.heap h.c3 (hS _ _ _ _ h.c3)⟩
/-- The array has turned. -/
theorem Mem.step {w W W' : World} {τ τ' σ : Ar} {K : ALay} {V : Value} {b : Int} (h : Mem w W τ σ K V b) (h0 : ∀ i, AF K σ i → i < w.heap.size) (hf : Fr (AF K σ) W W') (hA : ArAt W' τ' K) (hg : τ'.s.g = σ.s.g) : Mem w W' τ' σ K V b :=
  ⟨hA, hg, h.fr.after hf (fun b hb e => e), hf.heap h.c0 (fun e => absurd (h0 _ e) (by omega)), hf.heap h.c1 (fun e => absurd (h0 _ e) (by omega)), hf.heap h.c2 (fun e => absurd (h0 _ e) (by omega)), hf.heap h.c3 (fun e => absurd (h0 _ e) (by omega))⟩
structure Kept (B gb : Nat) (W W' : World) : Prop where
  from_ : KeepsFrom B W W'
  caught : Caught gb (gb + 1) W W'
theorem Kept.of {B gb : Nat} {W W' : World} {F : Nat → Prop} (hf : Fr F W W') (hF : ∀ i, F i → i < gb ∧ ∃ cs T f, W.heap[i]? = some (.cells cs T f)) (h1 : gb + 1 < W.heap.size) : Kept B gb W W' :=
  ⟨⟨hf.size, fun k o _ hk ho => hf.heap hk (fun e => by
    obtain ⟨_, cs, T, f, h2⟩ := hF k e
    rw [hk] at h2
    injection h2 with h2
    subst h2
    cases ho)⟩, hf.block gb (by omega) (fun e => by have := (hF _ e).1; omega), hf.block _ h1 (fun e => by have := (hF _ e).1; omega)⟩
/-- What a round has left when it leaves the loop. -/
def Out (w W : World) (σ : Ar) (K : ALay) (V : Value) (b N : Nat) (Mid : Nat → Ar → Prop) (pre : List Nat) : Prop :=
  pre = List.range pre.length → N < σ.s.g.p.toNat ∧ ∃ τ, Mid N τ ∧ Mem w W τ σ K V b

theorem Kept.trans {B gb : Nat} {W W1 W2 : World} (h : Kept B gb W W1) (k : Kept B gb W1 W2) : Kept B gb W W2 := ⟨h.from_.trans k.from_, k.caught.1.trans h.caught.1, k.caught.2.trans h.caught.2⟩
/-- The answer is 0 once more. -/
theorem Mem.res {w W W' : World} {τ σ : Ar} {K : ALay} {V : Value} {b : Int} (h : Mem w W τ σ K V b) (h0 : ∀ i, AF K σ i → i < w.heap.size) (hf : Fr (fun i => i = w.heap.size + 1 + 1 + 1) W W') (hc : W'.heap[w.heap.size + 1 + 1 + 1]? = some (.cells #[.int .i64 0] 27 (0, 0))) : Mem w W' τ σ K V b := by
  have hS : ∀ i cs T f, i = w.heap.size + 1 + 1 + 1 → W.heap[i]? = some (.cells cs T f) → T = 27 := fun i cs T f e hi => by
    subst e
    have h1 := h.c3
    rw [hi] at h1
    injection h1 with h1
    injection h1
  have hn : ∀ {i cs T f}, W.heap[i]? = some (.cells cs T f) → T ≠ 27 → ¬ i = w.heap.size + 1 + 1 + 1 := fun hi hT e => hT (hS _ _ _ _ e hi)
  refine ⟨⟨h.a.nand.typed hf (fun b cs T f hs hb => by rw [hS _ _ _ _ hs hb]; exact ⟨⟨by decide, by decide, by decide, by decide, by decide⟩, by decide, by decide⟩), hf.heap h.a.main (hn h.a.main (by decide)), h.a.ccn, ?_, fun c t hc e => ⟨(h.a.vol c t hc e).1.ty hf (fun b cs T f hb hT => hn hb (by rcases hT with rfl | rfl <;> decide)), (h.a.vol c t hc e).2⟩, ?_, h.a.ok⟩, h.g, h.fr.after hf (fun b hb e => absurd hb (by omega)), hf.heap h.c0 (by omega), hf.heap h.c1 (by omega), hf.heap h.c2 (by omega), hc⟩
  · obtain ⟨ds, e, hds⟩ := h.a.vols
    exact ⟨ds, hf.heap e (hn e (by decide)), hds⟩
  · obtain ⟨ds, e, hds⟩ := h.a.chips
    exact ⟨ds, hf.heap e (hn e (by decide)), hds⟩
theorem snoc_valid {n : Nat} {pre : List (Fin n)} {x : Fin n} (h : (pre ++ [x]).map Fin.val = List.range ((pre ++ [x]).map Fin.val).length) : x.val = pre.length ∧ pre.map Fin.val = List.range pre.length := by
  rw [List.length_map, List.length_append, List.map_append, List.length_singleton, List.range_succ] at h
  have h2 := List.append_inj' h rfl
  exact ⟨by have := h2.2; simpa using this, h2.1⟩
theorem upto {n N : Nat} {pre : List (Fin n)} (h : pre.map Fin.val = List.range pre.length) (hN : ∀ x ∈ pre, x.val < N) : pre.length ≤ N := by
  by_cases h1 : N < pre.length
  · have h2 : N ∈ pre.map Fin.val := by rw [h]; exact List.mem_range.2 h1
    obtain ⟨y, hy, e⟩ := List.mem_map.1 h2
    have := hN y hy
    omega
  · omega
theorem sloRdn {w : World} {p : Nat} {s : St} {L : Lay} (hN : Nand w p s L) {A : Option Addr} {n c : Nat} {xs : List Int} (h : SlO None_ w (.slice A n c) xs) : RdN w (NF p L s.n s.nb) A n xs ∧ xs.length = n := by
  obtain ⟨⟨A', n', c', e, h1, h2⟩, h3⟩ := h
  injection e with e1 e2 e3
  subst e1 e2 e3
  exact ⟨⟨h2, fun ad e _ => hN.u8 (by obtain ⟨_, cs, hc⟩ := h3 ad.block (by subst e; rfl); exact ⟨cs, hc⟩)⟩, h2.1⟩
def InK (W : World) (σ : Ar) (K : ALay) (gb : Nat) : Prop := ∀ i, AF K σ i → i < gb ∧ ∃ cs T f, W.heap[i]? = some (.cells cs T f)

set_option maxHeartbeats 16000000 in
set_option maxRecDepth 100000 in
theorem block_calls (σ : Ar) (K : ALay) (b c : Nat) (t : Tab) (N : Nat) (Like Mid : Nat → Ar → Prop) (pgd : Nat → List Int × List Int) (w : World) (hR : ArAt w σ K) (hb : (b : Int) < σ.s.g.b - 5) (hc : c < σ.s.n) (hS : Steps σ K b c t N Like Mid pgd) :
    Calls Tryz.prog 89 #[.pointer (some ⟨K.x, 0, none⟩), .pointer (some ⟨(K.v c).vb, 0, none⟩), .int .i64 (b : Int)] w (BlkPost σ K N Like Mid w) := by
  have hok : σ.s.g.Ok := hR.nand.ok
  have HR := As.mk hR
  have HRW := As.mk (fun w => Rows_calls σ.s.g b w)
  unfold Geo.val at HRW
  have HAF := As.mk (fun i (hi : AF K σ i) => (af_lt hR hi).1)
  obtain ⟨w6, h6⟩ : ∃ w6, w6 = (((w.alloc (.cells #[.pointer (some ⟨K.x, 0, none⟩)] 30)).alloc (.cells #[.pointer (some ⟨(K.v c).vb, 0, none⟩)] 95)).alloc (.cells #[.int .i64 (b : Int)] 3)).alloc (.cells #[.int .i64 0] 27) := ⟨_, rfl⟩
  have HF6 : As (Fr None_ w w6) := ⟨by rw [h6]; exact ((((Fr.refl None_ w).alloc _).alloc _).alloc _).alloc _⟩
  have HM6 : As (Mem w w6 σ σ K (.pointer (some ⟨(K.v c).vb, 0, none⟩)) b) := ⟨hR.none_ HF6.out, rfl, HF6.out.mono (fun _ _ h => h.elim), by rw [h6]; exact at_old _ (at_old _ (at_old _ (heap_alloc_new w _))), by rw [h6]; exact at_old _ (at_old _ (at_new _ (size_new _ rfl))), by rw [h6]; exact at_old _ (at_new _ (size_new _ (size_new _ rfl))), by rw [h6]; exact at_new _ (size_new _ (size_new _ (size_new _ rfl)))⟩
  obtain ⟨_, g1, g2, g3, g4, _⟩ := HM6.out.a.cs
  have b0 := cell_of HM6.out.c0
  have b1 := cell_of HM6.out.c1
  have b2 := cell_of HM6.out.c2
  have hlx : K.x < w.heap.size := (Array.getElem?_eq_some_iff.1 hR.main).1
  have hz6 : w.heap.size ≤ w6.heap.size := HF6.out.size
  obtain ⟨Q, hQ⟩ : ∃ Q : Ending → World → Prop, BlkPost σ K N Like Mid w = Q := ⟨_, rfl⟩
  have HQ := As.mk hQ
  rw [hQ]
  have HS := As.mk hS
  clear hR hS hQ
  refine (callsIn_wide (n := 3)).1 ?_
  refine callsIn_of_wp_marks Tryz.func89 rfl trivial ?_ rfl
  simp only [Tryz.ntmps89, List.size_toArray, List.length_cons, List.length_nil, Nat.reduceAdd, Nat.reduceSub, Array.replicate_succ, Array.replicate_zero, List.push_toArray, List.append_toArray, List.nil_append, List.cons_append]
  gi_wp2
  rw [← h6]
  have hl6 : K.x < w6.heap.size := Nat.lt_of_lt_of_le hlx HF6.out.size
  have hl7 : K.x < w6.drew.heap.size := hl6
  clear h6
  gi_cut [12, 13, 14, 15, 16, 17] from 44 (fun v12 v13 v14 v15 v16 v17 wx => ∃ gb : Nat, v17 = .func (.func 120) #[] #[.pointer (some ⟨gb, 0, none⟩), .pointer (some ⟨gb + 1, 0, none⟩)] ∧ As (Fr None_ w6 wx ∧ w6.heap.size ≤ gb ∧ gb + 1 < wx.heap.size ∧ wx.heap[gb]? = some (.cells #[.int .i64 σ.s.g.c, .int .i64 σ.s.g.b, .int .i64 σ.s.g.p, .int .i64 σ.s.g.s] 24 (0, 0)) ∧ wx.heap[gb + 1]? = some (.cells #[.int .i64 (b : Int)] 3 (0, 0))))
  case first =>
    first | gi_region_with (refine ⟨trivial, (callsIn_wide.2 (HRW.out _)).mono ?_⟩; rintro e w9 ⟨rfl, hf9, hz9, hgb, hsb⟩; have HX := As.mk (show Fr None_ w6 w9 ∧ w6.heap.size ≤ w6.heap.size ∧ w6.heap.size + 1 < w9.heap.size ∧ w9.heap[w6.heap.size]? = some (.cells #[.int .i64 σ.s.g.c, .int .i64 σ.s.g.b, .int .i64 σ.s.g.p, .int .i64 σ.s.g.s] 24 (0, 0)) ∧ w9.heap[w6.heap.size + 1]? = some (.cells #[.int .i64 (b : Int)] 3 (0, 0)) from ⟨⟨hf9.os, hf9.tape, hf9.output, hf9.size, hf9.block⟩, Nat.le_refl _, by rw [hz9]; show w6.heap.size + 1 < w6.heap.size + 2; omega, hgb, hsb⟩); clear hf9 hz9 hgb hsb) | fail
    all_goals
      gi_wp2
      gi_meet
      case rel => exact ⟨w6.heap.size, rfl, HX⟩
  case rest =>
    obtain ⟨gb, rfl, HX⟩ := hcut
    rename World => w9
    have HM9 := As.mk (HM6.out.step HAF.out (HX.out.1.mono (fun _ _ h => h.elim)) (HM6.out.a.none_ HX.out.1) rfl)
    obtain ⟨_, hgz, hgb1, hgb, hsb⟩ := HX.out
    have HZ63 := As.mk ((Array.getElem?_eq_some_iff.1 HM6.out.c3).1)
    clear b0 b1 b2 g1 g2 g3 g4 HM6 HX HF6 hl6 hl7
    gi_wp2
    refine wpIn_rangeFunc_ownG rfl (by omega) (gf := 120) (lb := #[.pointer (some ⟨gb, 0, none⟩), .pointer (some ⟨gb + 1, 0, none⟩)]) rfl trivial (fun _ _ => rfl) (encs := encs σ.s.g b) (Kp := Caught gb (gb + 1)) (S := fun xs => xs.map Fin.val = List.range σ.s.g.p.toNat) (Sp := fun pre => ∃ j, j < σ.s.g.p.toNat ∧ pre.map Fin.val = List.range (j + 1)) (N := σ.s.g.p.toNat)
      (fun l J Jx W hW hJ hJx hY h0 => rows_in (3 - 1) (by decide) σ.s.g hok b (by have := hok.b; omega) gb (gb + 1) l J Jx W hJ hY ((hW.block _ (by omega)).trans hgb) ((hW.block _ hgb1).trans hsb) h0)
      (fun h k => ⟨k.1.trans h.1, k.2.trans h.2⟩)
      (fun W l o o' hl ho hc hw => ⟨World.putObj_heap_other (by omega), World.putObj_heap_other (by omega)⟩)
      (Below.refl _ _) (fun _ => rfl)
      (fun pre W => (∃ τ, Like pre.length τ ∧ Mem w W τ σ K (.pointer (some ⟨(K.v c).vb, 0, none⟩)) b) ∧ (∀ x ∈ pre, x.val < N) ∧ gb + 1 < W.heap.size)
      (fun c' pre W => c' = .ret ∧ Out w W σ K (.pointer (some ⟨(K.v c).vb, 0, none⟩)) b N Mid (pre.map Fin.val))
      (fun pre W W' row hs hg hr => by
        obtain ⟨⟨τ, h1, h2⟩, h3, h4⟩ := hs
        exact ⟨⟨τ, h1, h2.kept hg (fun r e => ⟨by have := (hr r e).1; omega, (hr r e).2⟩)⟩, h3, Nat.lt_of_lt_of_le h4 hg.size⟩)
      (fun c' pre W W' row hs hg hr => by
        refine ⟨hs.1, fun hp => ?_⟩
        obtain ⟨hN, τ, h1, h2⟩ := hs.2 hp
        exact ⟨hN, τ, h1, h2.kept hg (fun r e => ⟨by have := (hr r e).1; omega, (hr r e).2⟩)⟩)
      ⟨⟨σ, HS.out.zero, HM9.out⟩, (fun x hx => by cases hx), hgb1⟩ ?a1 ?assign ?body ?done ?stop
    case assign =>
      intro l x W K hK
      simp [encs]
      gi_wp2
      exact hK
    case body =>
      rintro l pre x W ⟨⟨τ, hL, hm⟩, hall, hgW⟩ hlen
      have HM := As.mk hm
      have HAL := As.mk hall
      have kd := cell_of hm.c0
      have kb := cell_of hm.c2
      have HPG := As.mk (HS.out.page pre.length x.val τ hL hlen x.isLt W hm.a)
      have HL := As.mk hL
      clear hm hall hL
      gi_wp2
      refine ⟨trivial, (CallsIn.inRound l (callsIn_wide.2 (HPG.out))).mono ?_⟩
      rintro e w2 ⟨τ', hmid, ⟨A1, n1, c1, A2, n2, c2, rfl, hSl⟩, hA2, hf2⟩
      have hg2 := HS.out.midg _ _ hmid
      have HLP : As (InK W σ K gb) := ⟨fun i hi => ⟨by have := HAF.out i hi; omega, (af_lt HM.out.a ((AF.eq HM.out.g i).2 hi)).2⟩⟩
      have HF2 : As (Fr (AF K σ) W w2) := ⟨hf2.mono (fun i _ hi => (AF.eq HM.out.g i).1 hi)⟩
      have HM2 := As.mk (HM.out.step HAF.out HF2.out hA2 hg2)
      have hz2 : W.heap.size ≤ w2.heap.size := hf2.size
      have HMID := As.mk hmid
      have hzW : w.heap.size ≤ W.heap.size := HM.out.fr.size
      clear hf2 hA2 kd kb HPG hmid
      obtain ⟨w3, h3⟩ : ∃ w3, w3 = w2.alloc (.cells #[.slice A1 n1 c1, .slice A2 n2 c2] 157) := ⟨_, rfl⟩
      have HF3 : As (Fr None_ w2 w3) := ⟨by rw [h3]; exact (Fr.refl None_ w2).alloc _⟩
      have HP3 : As (w3.heap[w2.heap.size]? = some (.cells #[.slice A1 n1 c1, .slice A2 n2 c2] 157 (0, 0))) := ⟨by rw [h3]; exact heap_alloc_new w2 _⟩
      have HM3 := As.mk (HM2.out.step HAF.out (HF3.out.mono (fun _ _ h => h.elim)) (HM2.out.a.none_ HF3.out) HM2.out.g)
      have HF13 := As.mk (HF2.out.after HF3.out (fun _ _ h => h.elim))
      have hz3 : w2.heap.size ≤ w3.heap.size := HF3.out.size
      have p0 := cell_is (i := 0) HP3.out rfl
      have p1 := cell_is (i := 1) HP3.out rfl
      have HGB3 : As (w.heap.size + 1 + 1 + 1 < gb) := ⟨by have := HZ63.out; omega⟩
      have v1 := cell_of HM3.out.c1
      have v2 := cell_of HM3.out.c2
      have v3 := cell_of HM3.out.c3
      have f3 := free_of (i := 0) HM3.out.c3
      by_cases hq : x.val < N
      · have hdq : decide (x.val < N) = true := decide_eq_true hq
        rw [hdq] at hSl ⊢
        obtain ⟨hs1, hs2⟩ := hSl rfl
        obtain ⟨hd1, hd2, hd3, hd4⟩ := HS.out.ok x.val hq
        obtain ⟨nn, hsafe⟩ := HS.out.safe _ _ HMID.out
        have hvol := HS.out.vol _ _ HMID.out
        have hcn : c < τ'.s.n := by rw [show τ'.s.n = σ.s.n from (n_same hg2).1]; exact hc
        have hvv := HM3.out.a.vol c t hcn hvol
        have htok := HM3.out.a.ok.more c t hcn hvol
        have hlt : b < t.place.length := by rw [htok.len, hg2]; omega
        have HPR := As.mk (VolA.Prog_calls K.p c τ'.s K.L t (K.v c) b x.val A1 A2 n1 c1 n2 c2 (pgd x.val).1 (pgd x.val).2 w3 HM3.out.a.nand hvv.1 htok hcn hlt (by unfold St.np; rw [hg2]; exact x.isLt) nn hsafe (sloRdn HM3.out.a.nand (hs1.none_ HF3.out)).1 (sloRdn HM3.out.a.nand (hs2.none_ HF3.out)).1 (by rw [hg2, ← hd1, (sloRdn HM3.out.a.nand (hs1.none_ HF3.out)).2]) (by rw [← hd2, (sloRdn HM3.out.a.nand (hs2.none_ HF3.out)).2]) hd3 hd4)
        have HK0 := As.mk (fun (h : x.val = pre.length) => (show (τ'.s.prog c (t.at b) x.val (pgd x.val).1 (pgd x.val).2).2 = 0 from by rw [h]; exact HS.out.prog0 _ _ HMID.out (by omega)))
        have HK1 := As.mk (HS.out.prog _ _ _ HMID.out hq)
        have hg5 := (prog_g τ'.s c (t.at b) x.val (pgd x.val).1 (pgd x.val).2).1
        unfold PPost at HPR
        generalize τ'.s.prog c (t.at b) x.val (pgd x.val).1 (pgd x.val).2 = rr at *
        gi_upto_if 29 with fail
        rw [← h3]
        clear h3 hs1 hs2 hd1 hd2 hd3 hd4 hSl hdq hsafe hvol hvv htok hlt
        gi_wp2
        refine ⟨trivial, (CallsIn.inRound l (callsIn_wide.2 (HPR.out))).mono ?_⟩
        rintro e w4 ⟨rfl, hN4, hf4⟩
        have hA4 := HM3.out.a.turn hN4 hg5 hf4
        have hf4a : Fr (AF K σ) w3 w4 := hf4.mono (fun i _ hi => (AF.eq hg2 i).1 (.inl hi))
        have HM4 := As.mk (HM3.out.step HAF.out hf4a hA4 (hg5.trans hg2))
        have HF4 := As.mk ((HF2.out.after HF3.out (fun _ _ h => h.elim)).after hf4a (fun _ _ h => h))
        have q3 := cell_of HM4.out.c3
        have r3 := free_of (i := 0) HM4.out.c3
        clear hf4 hN4 hA4 hf4a p0 p1 v1 v2 v3 f3
        by_cases hr0 : rr.2 = 0
        · have hb0 : (rr.2 != 0) = false := by simp [hr0]
          have HR0 := As.mk hr0
          clear hr0
          gi_wp2
          have hk := Kept.of HF4.out (gb := gb) (B := w9.heap.size) HLP.out (by omega)
          exact ⟨hk.from_, hk.caught, ⟨_, by rw [List.length_append]; exact HK1.out HR0.out, HM4.out⟩, fun y hy => by
            rcases List.mem_append.1 hy with h | h
            · exact HAL.out y h
            · rw [List.mem_singleton.1 h]; exact hq, by have := HF4.out.size; omega⟩
        · have hb0 : (rr.2 != 0) = true := by simp [hr0]
          have HR0 := As.mk hr0
          have HST := As.mk ((Fr.refl (fun i => i = w.heap.size + 1 + 1 + 1) w4).setCell (p := ⟨w.heap.size + 1 + 1 + 1, 0, none⟩) (fun _ => rfl) (.int .i64 rr.2))
          clear hr0
          gi_wp2
          have hk := (Kept.of HF4.out (gb := gb) (B := w9.heap.size) HLP.out (by omega)).trans (Kept.of HST.out (fun i hi => by subst hi; exact ⟨HGB3.out, _, _, _, HM4.out.c3⟩) (by have := HF4.out.size; omega))
          refine ⟨hk.from_, rfl, fun hp => ?_⟩
          obtain ⟨hv1, hv2⟩ := snoc_valid hp
          exact absurd (HK0.out hv1) HR0.out
      · have hdq : decide (x.val < N) = false := decide_eq_false hq
        rw [hdq] at hSl ⊢
        have HST := As.mk ((Fr.refl (fun i => i = w.heap.size + 1 + 1 + 1) w3).setCell (p := ⟨w.heap.size + 1 + 1 + 1, 0, none⟩) (fun _ => rfl) (.int .i64 0))
        clear hSl hdq
        gi_upto_if 29 with fail
        rw [← h3]
        clear h3
        gi_wp2
        have hk := (Kept.of HF13.out (gb := gb) (B := w9.heap.size) HLP.out (by omega)).trans (Kept.of HST.out (fun i hi => by subst hi; exact ⟨HGB3.out, _, _, _, HM3.out.c3⟩) (by have := HF13.out.size; omega))
        refine ⟨hk.from_, rfl, fun hp => ?_⟩
        obtain ⟨hv1, hv2⟩ := snoc_valid hp
        have hv3 := upto hv2 HAL.out
        have hN : pre.length = N := by omega
        exact ⟨by have := x.isLt; omega, _, by rw [← hN]; exact HMID.out, HM3.out.res HAF.out HST.out (heap_set HM3.out.c3 0 _)⟩
    case done =>
      rintro D xs W hD hxs ⟨⟨τ, hL, hm⟩, hall, hgW⟩ hK
      have hln : xs.length = σ.s.g.p.toNat := by rw [← List.length_map (f := Fin.val), hxs, List.length_range]
      have hNP : N = σ.s.g.p.toNat := by
        have h1 := HS.out.few
        have h2 := upto (by rw [hxs, hln]) hall
        omega
      have HM := As.mk hm
      have k3 := cell_of hm.c3
      have f3 := free_of (i := 0) hm.c3
      rw [hln] at hL
      have HE := As.mk (show (N < σ.s.g.p.toNat ∧ Mid N τ) ∨ (N = σ.s.g.p.toNat ∧ Like N τ) from .inr ⟨hNP, by rw [hNP]; exact hL⟩)
      have HST := As.mk ((Fr.refl (fun i => i = w.heap.size + 1 + 1 + 1) W).setCell (p := ⟨w.heap.size + 1 + 1 + 1, 0, none⟩) (fun _ => rfl) (.int .i64 0))
      have HMf := As.mk (hm.res HAF.out HST.out (heap_set hm.c3 0 _))
      have hKf := As.mk (HST.out.heap hK (fun e => by have h1 := hm.c3; rw [← e, hK] at h1; cases h1))
      clear hm hall hL hxs hNP
      gi_wp2
      generalize hwf : W.setCell ⟨w.heap.size + 1 + 1 + 1, 0, none⟩ (.int .i64 0) = wf at *
      refine ⟨by simp, .inl ⟨_, _, rfl, run_takeDeferred hKf.out, ?_⟩⟩
      have hT := HMf.out.kept (grownBy_putObj' wf D (.deferred none)) (fun r e => by cases e; exact ⟨by omega, _, hKf.out, rfl⟩)
      have y0 := cell_of hT.c3
      refine ⟨.int .i64 0, by simp [results, Tryz.results89, go_sem, y0], ?_⟩
      rw [← HQ.out]
      exact ⟨rfl, τ, HE.out, hT.a, hT.fr⟩
    case stop =>
      rintro D c' pre W hD ⟨j, hj, hjr⟩ ⟨rfl, ho⟩ hK
      obtain ⟨hN, τ, hM, hm⟩ := ho (by rw [hjr]; simp)
      have k3 := cell_of hm.c3
      have f3 := free_of (i := 0) hm.c3
      have HM := As.mk hm
      have HE := As.mk (show (N < σ.s.g.p.toNat ∧ Mid N τ) ∨ (N = σ.s.g.p.toNat ∧ Like N τ) from .inl ⟨hN, hM⟩)
      have HMf := As.mk hm
      have hKf := As.mk hK
      generalize hwf : W = wf at *
      clear hm ho
      gi_wp2
      refine ⟨by simp, .inl ⟨_, _, rfl, run_takeDeferred hKf.out, ?_⟩⟩
      have hT := HMf.out.kept (grownBy_putObj' wf D (.deferred none)) (fun r e => by cases e; exact ⟨by omega, _, hKf.out, rfl⟩)
      have y0 := cell_of hT.c3
      refine ⟨.int .i64 0, by simp [results, Tryz.results89, go_sem, y0], ?_⟩
      rw [← HQ.out]
      exact ⟨rfl, τ, HE.out, hT.a, hT.fr⟩
end Go.Proofs.YteofgpaceeibpaaGreat.TckD

/- vol: Open. -/
import Derived.Test.YteofgpaceeibpaaGreatTkVolF
namespace Go.Proofs.YteofgpaceeibpaaGreat.VolG
open Go.RowKit Gab Wr Geom Ref Nand NandA NandB NandC NandD NandE NandH RemapA RemapB RemapC RemapD RemapE RemapF RemapG VolA VolB VolC VolD VolE VolF
open Heap (cell_is heap_set heap_set7 fr_set7 fr_set1)
set_option linter.unusedVariables false
set_option linter.unusedSimpArgs false

/-- The newer of two tables. -/
def newer (a b : Option Tab) : Option Tab := match b with
  | none => a
  | some t => match a with
    | none => some t
    | some u => if u.seq < t.seq then some t else some u
/-- The first blocks of a chip are looked at; f: what their first pages are. The chips, the error, the newest table so far. -/
def _root_.Go.Proofs.YteofgpaceeibpaaGreat.Nand.St.seek (s : St) (c : Nat) (f : Nat → Option Tab) : Nat → St × Int × Option Tab
  | 0 => (s, 0, none)
  | n + 1 => if (s.seek c f n).2.1 = 0 then (((s.seek c f n).1.find c (f n)).1, ((s.seek c f n).1.find c (f n)).2, newer (s.seek c f n).2.2 (isOk ((s.seek c f n).1.find c (f n)).2 (f n))) else s.seek c f n
theorem find_g (s : St) (c : Nat) (x : Option Tab) : (s.find c x).1.g = s.g ∧ (s.find c x).1.blk = s.blk ∧ (s.find c x).1.evs = s.evs := rdN_g _ _ _
theorem seek_g (s : St) (c : Nat) (f : Nat → Option Tab) : ∀ n, (s.seek c f n).1.g = s.g ∧ (s.seek c f n).1.blk = s.blk ∧ (s.seek c f n).1.evs = s.evs
  | 0 => ⟨rfl, rfl, rfl⟩
  | n + 1 => by
    have h := seek_g s c f n
    unfold St.seek
    split
    · have h2 := find_g (s.seek c f n).1 c (f n)
      exact ⟨h2.1.trans h.1, h2.2.1.trans h.2.1, h2.2.2.trans h.2.2⟩
    · exact h
theorem safe_find {s : St} (c : Nat) (x : Option Tab) (m : Nat) (h : s.Safe (m + 4)) : (s.find c x).1.Safe m := by
  unfold St.find
  split
  · exact safe_rdN c 1 m (h.le (by omega))
  · exact safe_rdN c 4 m h
theorem safe_seek {s : St} (c : Nat) (f : Nat → Option Tab) : ∀ n m, s.Safe (m + 4 * n) → (s.seek c f n).1.Safe m
  | 0, m, h => h
  | n + 1, m, h => by
    have h2 := safe_seek c f n (m + 4) (by rw [show m + 4 + 4 * n = m + 4 * (n + 1) by omega]; exact h)
    unfold St.seek
    split
    · exact safe_find c (f n) m h2
    · exact h2.le (by omega)
theorem seek_stuck (s : St) (c : Nat) (f : Nat → Option Tab) : ∀ n m, n ≤ m → (s.seek c f n).2.1 ≠ 0 → s.seek c f m = s.seek c f n
  | n, 0, h, _ => by
    obtain rfl : n = 0 := by omega
    rfl
  | n, m + 1, h, hk => by
    by_cases e : n = m + 1
    · rw [e]
    · have ih := seek_stuck s c f n m (by omega) hk
      show (if (s.seek c f m).2.1 = 0 then _ else s.seek c f m) = _
      rw [ih, if_neg hk]
/-- A chip is opened. -/
def _root_.Go.Proofs.YteofgpaceeibpaaGreat.Nand.St.vopen (s : St) (c : Nat) (f : Nat → Option Tab) : St × Int × Option Tab := s.seek c f s.nb
/-- What Open answers. -/
def OpenPost (p : Nat) (s : St) (L : Lay) (c : Nat) (f : Nat → Option Tab) (w : World) (e : Ending) (w' : World) : Prop :=
  Nand w' p (s.vopen c f).1 L ∧ Fr (NF p L s.n s.nb) w w' ∧ (((s.vopen c f).2.1 ≠ 0 ∧ e = .returned (.tuple #[.pointer none, .int .i64 (s.vopen c f).2.1])) ∨
    ((s.vopen c f).2.1 = 0 ∧ (s.vopen c f).2.2 = none ∧ e = .returned (.tuple #[.pointer none, .int .i64 62])) ∨
    ((s.vopen c f).2.1 = 0 ∧ ∃ t v, (s.vopen c f).2.2 = some t ∧ e = .returned (.tuple #[.pointer (some ⟨v.vb, 0, none⟩), .int .i64 0]) ∧ VolAt w' p c s.g t v ∧ VNew w.heap.size v))
def vz (p c : Nat) (g : Geo) : Array Value := #[.pointer (some ⟨p, 0, none⟩), .int .i64 (c : Int), .int .i64 g.c, .int .i64 g.b, .int .i64 g.p, .int .i64 g.s, .int .u32 0, .slice none 0 0, .slice none 0 0, .int .i64 0, .int .i64 0]
/-- The volume that comes. -/
def OB (w : World) (N p c : Nat) (g : Geo) (vb : Nat) : Option Tab → Prop
  | none => w.heap[vb]? = some (.cells (vz p c g) 137 (0, 0))
  | some t => ∃ A1 n1 c1 A2 n2 c2, VolAt w p c g t ⟨vb, A1, n1, c1, A2, n2, c2⟩ ∧ VNew N ⟨vb, A1, n1, c1, A2, n2, c2⟩
theorem OB.vg {w : World} {N p c : Nat} {g : Geo} {vb : Nat} {x : Option Tab} (h : OB w N p c g vb x) : VG w p c g vb := by
  rcases x with _ | t
  · exact ⟨⟨_, _, _, _, _, h⟩⟩
  · obtain ⟨A1, n1, c1, A2, n2, c2, hv, _⟩ := h
    exact ⟨⟨_, _, _, _, _, hv.main⟩⟩
theorem OB.ty {S : Nat → Prop} {w w' : World} {N p c : Nat} {g : Geo} {vb : Nat} {x : Option Tab} (h : OB w N p c g vb x) (hf : Fr S w w') (hS : ∀ b cs T f, w.heap[b]? = some (.cells cs T f) → T = 137 ∨ T = 3 → ¬ S b) : OB w' N p c g vb x := by
  rcases x with _ | t
  · exact hf.heap h (hS _ _ _ _ h (.inl rfl))
  · obtain ⟨A1, n1, c1, A2, n2, c2, hv, hn⟩ := h
    exact ⟨A1, n1, c1, A2, n2, c2, hv.ty hf hS, hn⟩
theorem OB.nf {w w' : World} {N p c p2 : Nat} {g : Geo} {vb : Nat} {x : Option Tab} {s : St} {L : Lay} (h : OB w N p2 c g vb x) (hN : Nand w p s L) (hf : Fr (NF p L s.n s.nb) w w') : OB w' N p2 c g vb x :=
  h.ty hf (fun b cs T f hb hT => hN.ne hb (by rcases hT with rfl | rfl <;> exact ⟨by decide, by decide, by decide, by decide, by decide⟩))
theorem OB.none_ {w w' : World} {N p c : Nat} {g : Geo} {vb : Nat} {x : Option Tab} (h : OB w N p c g vb x) (hf : Fr None_ w w') : OB w' N p c g vb x := h.ty hf (fun _ _ _ _ _ _ h => h)
/-- A table is put into it. -/
theorem OB.put {w : World} {N p c : Nat} {g : Geo} {vb : Nat} {x : Option Tab} (h : OB w N p c g vb x) {base : Nat} {t : Tab} {A1 A2 : Option Addr} {n1 c1 n2 c2 : Nat} (ht : TabR w base (.agg #[.int .u32 t.seq, .slice A1 n1 c1, .slice A2 n2 c2, .int .i64 t.t0, .int .i64 t.t1]) t) (hb : N ≤ base) (hv : N ≤ vb) {w' : World}
    (hw : w' = ((((w.setCell ⟨vb, 6, none⟩ (.int .u32 t.seq)).setCell ⟨vb, 7, none⟩ (.slice A1 n1 c1)).setCell ⟨vb, 8, none⟩ (.slice A2 n2 c2)).setCell ⟨vb, 9, none⟩ (.int .i64 t.t0)).setCell ⟨vb, 10, none⟩ (.int .i64 t.t1)) :
    OB w' N p c g vb (some t) ∧ Fr (fun i => i = vb) w w' := by
  obtain ⟨u6, u7, u8, u9, u10, hm⟩ := h.vg.main
  obtain ⟨h1, h2⟩ := set_tab hm (.int .u32 t.seq) (.slice A1 n1 c1) (.slice A2 n2 c2) (.int .i64 t.t0) (.int .i64 t.t1)
  rw [← hw] at h1 h2
  obtain ⟨v1, v2, e, r1, r2⟩ := ht
  injection e with e
  simp only [Array.mk.injEq, List.cons.injEq, true_and, and_true] at e
  obtain ⟨rfl, rfl⟩ := e
  have i1 : ∀ {A : Option Addr} {n k : Nat} {xs : List Int}, Row 3 .i64 w base (.slice A n k) xs → ∀ ad, A = some ad → base ≤ ad.block ∧ ∃ cs, w.heap[ad.block]? = some (.cells cs 3 (0, 0)) := fun r ad ea => by
    subst ea
    obtain ⟨b1, _, cs, b3⟩ := r.blk _ own_some
    exact ⟨b1, cs, b3⟩
  have ne : ∀ {A : Option Addr} {n k : Nat} {xs : List Int}, Row 3 .i64 w base (.slice A n k) xs → ∀ ad, A = some ad → ¬ ad.block = vb := fun r ad ea hh => by
    obtain ⟨_, cs, hc⟩ := i1 r ad ea
    rw [hh] at hc
    exact blk_ne hm hc (by decide) rfl
  obtain ⟨B1, m1, d1, e1, l1, q1, _⟩ := r1.rd
  injection e1 with ea eb ec
  subst ea eb ec
  obtain ⟨B2, m2, d2, e2, l2, q2, _⟩ := r2.rd
  injection e2 with ea eb ec
  subst ea eb ec
  refine ⟨⟨A1, n1, c1, A2, n2, c2, ⟨h1, l1.out, q1.out.fr h2 (fun ad ea _ => ne r1 ad ea), l2.out, q2.out.fr h2 (fun ad ea _ => ne r2 ad ea), fun ad ea _ => ?_, fun ad ea _ => ?_⟩, hv, fun ad ea => Nat.le_trans hb (i1 r1 ad ea).1, fun ad ea => Nat.le_trans hb (i1 r2 ad ea).1⟩, h2⟩
  · obtain ⟨_, cs, hc⟩ := i1 r1 ad ea
    exact ⟨cs, h2.heap hc (ne r1 ad ea)⟩
  · obtain ⟨_, cs, hc⟩ := i1 r2 ad ea
    exact ⟨cs, h2.heap hc (ne r2 ad ea)⟩
/-- The number of the table so far. -/
theorem OB.seq {w : World} {N p c : Nat} {g : Geo} {vb : Nat} {u : Tab} (h : OB w N p c g vb (some u)) : w.cell? ⟨vb, 6, none⟩ = some (.int .u32 u.seq) := by
  obtain ⟨A1, n1, c1, A2, n2, c2, hv, _⟩ := h
  exact cell_is hv.main rfl
theorem OB.cells {w : World} {N p c : Nat} {g : Geo} {vb : Nat} {x : Option Tab} (h : OB w N p c g vb x) : ∃ u6 u7 u8 u9 u10, w.heap[vb]? = some (.cells #[.pointer (some ⟨p, 0, none⟩), .int .i64 (c : Int), .int .i64 g.c, .int .i64 g.b, .int .i64 g.p, .int .i64 g.s, u6, u7, u8, u9, u10] 137 (0, 0)) := h.vg.main

set_option maxHeartbeats 8000000 in
set_option maxRecDepth 100000 in
theorem Open_calls (p c : Nat) (s : St) (L : Lay) (f : Nat → Option Tab) (w : World) (hN : Nand w p s L) (hc : c < s.n) (n : Nat) (hs : s.Safe (n + 256)) (hx : ∀ b, b < s.nb → TabIs s.g (s.bytes c b 0).1 (s.bytes c b 0).2 (f b)) :
    Calls Tryz.prog 35 #[.pointer (some ⟨p, 0, none⟩), .int .i64 (c : Int)] w (OpenPost p s L c f w) := by
  have hgb := hN.ok.b
  obtain ⟨nb, hnb⟩ := Int.eq_ofNat_of_zero_le (show 0 ≤ s.g.b by omega)
  have hsn : s.nb = nb := by unfold St.nb; omega
  have HGE := As.mk (Geo_calls p s L w hN)
  have HN := As.mk hN
  have HNB := As.mk hnb
  have HSN := As.mk hsn
  have HFI := As.mk (fun (i vb : Nat) (w' : World) (hi : i < nb) (hN' : Nand w' p (s.seek c f i).1 L) (hV : VG w' p c s.g vb) => find_calls p c i vb (s.seek c f i).1 L (f i) w' hN' (by rw [(seek_g s c f i).1]; exact hV) (by unfold St.n; rw [(seek_g s c f i).1]; exact hc) (by unfold St.nb; rw [(seek_g s c f i).1]; omega) 0 (safe_seek c f i (0 + 4) (hs.le (by omega))) (by rw [(seek_g s c f i).1]; unfold St.bytes; rw [(seek_g s c f i).1, (seek_g s c f i).2.1]; exact hx i (by omega)))
  have HBD := As.mk (show ∀ (e : Ending) (w' : World) (i : Nat) (k : Int), i ≤ nb → (s.seek c f i).2.1 = k → k ≠ 0 → e = .returned (.tuple #[.pointer none, .int .i64 k]) → Nand w' p (s.seek c f i).1 L → Fr (NF p L s.n s.nb) w w' → OpenPost p s L c f w e w' from by
    rintro e w' i k hi rfl hk h1 h2 h3
    have h4 : s.vopen c f = s.seek c f i := seek_stuck s c f i s.nb (by omega) hk
    refine ⟨by rw [h4]; exact h2, h3, .inl ⟨by rw [h4]; exact hk, by rw [h4]; exact h1⟩⟩)
  have HOE := As.mk (show s.vopen c f = s.seek c f nb from by unfold St.vopen; rw [hsn])
  have hn64 : nb ≤ 64 := by omega
  unfold Geo.val at HGE
  clear hN hc hs hx hgb hsn hnb
  go_enter Tryz.func35, Tryz.ntmps35
  go_wp2_with fail
  ((with_reducible refine (HGE.out).mono ?_); rintro e w1 ⟨rfl, hf1⟩)
  have hfa : Fr None_ w1 (w1.alloc (.cells #[.pointer (some ⟨p, 0, none⟩), .int .i64 (c : Int), .int .i64 s.g.c, .int .i64 s.g.b, .int .i64 s.g.p, .int .i64 s.g.s, .int .u32 0, .slice none 0 0, .slice none 0 0, .int .i64 0, .int .i64 0] 137)) := (Fr.refl None_ w1).alloc _
  have HB2 := As.mk (heap_alloc_new w1 (.cells #[.pointer (some ⟨p, 0, none⟩), .int .i64 (c : Int), .int .i64 s.g.c, .int .i64 s.g.b, .int .i64 s.g.p, .int .i64 s.g.s, .int .u32 0, .slice none 0 0, .slice none 0 0, .int .i64 0, .int .i64 0] 137))
  have hs2 : (w1.alloc (.cells #[.pointer (some ⟨p, 0, none⟩), .int .i64 (c : Int), .int .i64 s.g.c, .int .i64 s.g.b, .int .i64 s.g.p, .int .i64 s.g.s, .int .u32 0, .slice none 0 0, .slice none 0 0, .int .i64 0, .int .i64 0] 137)).heap.size = w1.heap.size + 1 := size_new _ rfl
  have hz1 := hf1.size
  have HN2 := As.mk ((HN.out.none_ hf1).none_ hfa)
  have HF2 := As.mk ((hf1.after hfa (fun _ _ h => h)).mono (T := NF p L s.n s.nb) (fun _ _ h => h.elim))
  clear hf1 hfa HGE
  go_upto_region 5 with fail
  generalize w1.alloc (.cells #[.pointer (some ⟨p, 0, none⟩), .int .i64 (c : Int), .int .i64 s.g.c, .int .i64 s.g.b, .int .i64 s.g.p, .int .i64 s.g.s, .int .u32 0, .slice none 0 0, .slice none 0 0, .int .i64 0, .int .i64 0] 137) = w2 at *
  generalize w1.heap.size = vb at *
  have c3 := cell_is (v := .int .i64 s.g.b) (i := 3) HB2.out rfl
  go_wp2_with fail
  go_loopw [7, 25] (fun v7 v25 w' => ∃ i : Nat, v25 = .int .i64 (i : Int) ∧ i ≤ nb ∧ v7 = .bool (s.seek c f i).2.2.isSome ∧ As ((s.seek c f i).2.1 = 0) ∧ As (Nand w' p (s.seek c f i).1 L) ∧ As (Fr (NF p L s.n s.nb) w w') ∧ As (OB w' w.heap.size p c s.g vb (s.seek c f i).2.2)) (fun _ v25 _ => nb - (intOf v25).toNat)
  case atStart => exact ⟨0, rfl, Nat.zero_le _, rfl, ⟨rfl⟩, HN2, HF2, HB2⟩
  case round =>
    obtain ⟨i, rfl, hi, rfl, HK, HNi, HFi, HBi⟩ := hrel
    by_cases hlt : i < nb
    · have hltI : (i : Int) < s.g.b := by have := HNB.out; omega
      have HS1 := As.mk (show s.seek c f (i + 1) = (((s.seek c f i).1.find c (f i)).1, ((s.seek c f i).1.find c (f i)).2, newer (s.seek c f i).2.2 (isOk ((s.seek c f i).1.find c (f i)).2 (f i))) from by show (if (s.seek c f i).2.1 = 0 then _ else s.seek c f i) = _; rw [if_pos HK.out])
      have HFi2 := As.mk (HFI.out i vb wr hlt HNi.out HBi.out.vg)
      unfold FindPost at HFi2
      have HNF : As (∀ b, NF p L (s.seek c f i).1.n (s.seek c f i).1.nb b ↔ NF p L s.n s.nb b) := ⟨fun b => by unfold St.n St.nb; rw [(seek_g s c f i).1]⟩
      have h11 : (s.seek c f (i + 1)).1 = ((s.seek c f i).1.find c (f i)).1 := by rw [HS1.out]
      have h12 : (s.seek c f (i + 1)).2.1 = ((s.seek c f i).1.find c (f i)).2 := by rw [HS1.out]
      have h13 : (s.seek c f (i + 1)).2.2 = newer (s.seek c f i).2.2 (isOk ((s.seek c f i).1.find c (f i)).2 (f i)) := by rw [HS1.out]
      rw [← h11, ← h12] at HFi2
      rw [← h12] at h13
      have H13 := As.mk h13
      clear h11 h12 h13
      go_wp2_with fail
      ((with_reducible refine (HFi2.out).mono ?_); rintro e w3 ⟨v, rfl, hn3, hf3, hm⟩)
      have HN3 := As.mk hn3
      have hf3' := hf3.mono (T := NF p L s.n s.nb) (fun b _ h => (HNF.out b).1 h)
      have HF3 := As.mk (HFi.out.after hf3' (fun _ _ h => h))
      have HB3 := As.mk (HBi.out.nf HNi.out hf3)
      have hz3 := HFi.out.size
      clear hn3 hf3 hf3' HFi2
      generalize hx3 : isOk (s.seek c f (i + 1)).2.1 (f i) = x3 at *
      by_cases hk : (s.seek c f (i + 1)).2.1 = 0
      · have HK3 := As.mk hk
        rcases x3 with _ | t
        · simp only at hm
          subst hm
          have H14 := As.mk (show (s.seek c f (i + 1)).2.2 = (s.seek c f i).2.2 from by rw [H13.out]; rfl)
          have hfa : Fr None_ w3 (w3.alloc (.cells zt TT)) := (Fr.refl None_ w3).alloc _
          have HN4 := As.mk (HN3.out.none_ hfa)
          have HF4 := As.mk (HF3.out.after hfa (fun _ _ h => h.elim))
          have HB4 := As.mk (HB3.out.none_ hfa)
          rw [hk]
          clear hk hfa
          go_upto_region 11 with fail
          generalize w3.alloc (.cells zt TT) = w4 at *
          go_quiet (fail)
          have HFQ := As.mk (show Fr None_ w4 (w4.drewN nq) from (Fr.refl None_ w4).drewN nq)
          generalize w4.drewN nq = w5 at *
          go_wp2_with fail
          exact ⟨⟨i + 1, rfl, by omega, by rw [H14.out], HK3, ⟨HN4.out.none_ HFQ.out⟩, ⟨HF4.out.after HFQ.out (fun _ _ h => h.elim)⟩, ⟨by rw [H14.out]; exact HB4.out.none_ HFQ.out⟩⟩, by simp [intOf]; omega⟩
        · have HT3 := As.mk (show TabR w3 w.heap.size v t from hm.lower hz3)
          obtain ⟨v1, v2, rfl, hr1, hr2⟩ := hm
          obtain ⟨A5, n5, c5, e5, _, _, _⟩ := hr1.rd
          subst e5
          obtain ⟨A6, n6, c6, e6, _, _, _⟩ := hr2.rd
          subst e6
          have hfa : Fr None_ w3 (w3.alloc (.cells #[.int .u32 t.seq, .slice A5 n5 c5, .slice A6 n6 c6, .int .i64 t.t0, .int .i64 t.t1] TT)) := (Fr.refl None_ w3).alloc _
          have HA4 := As.mk (heap_alloc_new w3 (.cells #[.int .u32 t.seq, .slice A5 n5 c5, .slice A6 n6 c6, .int .i64 t.t0, .int .i64 t.t1] TT))
          have HN4 := As.mk (HN3.out.none_ hfa)
          have HF4 := As.mk (HF3.out.after hfa (fun _ _ h => h.elim))
          have HB4 := As.mk (HB3.out.none_ hfa)
          have HT4 := As.mk (HT3.out.none_ hfa)
          rw [hk]
          clear hk hfa hr1 hr2
          go_upto_region 11 with fail
          generalize w3.alloc (.cells #[.int .u32 t.seq, .slice A5 n5 c5, .slice A6 n6 c6, .int .i64 t.t0, .int .i64 t.t1] TT) = w4 at *
          generalize w3.heap.size = tb at *
          have q0 := cell_is (v := .int .u32 t.seq) (i := 0) HA4.out rfl
          rcases hq : (s.seek c f i).2.2 with _ | u
          · have H14 := As.mk (show (s.seek c f (i + 1)).2.2 = some t from by rw [H13.out, hq]; rfl)
            rw [hq] at HB4
            clear hq
            go_quiet (fail)
            have HFX := As.mk (show Fr None_ w4 (w4.drewN nq) from (Fr.refl None_ w4).drewN nq)
            generalize w4.drewN nq = w5 at *
            have HNQ := As.mk (HN4.out.none_ HFX.out)
            have HFQ := As.mk (HF4.out.after HFX.out (fun _ _ h => h.elim))
            have HBQ := As.mk (HB4.out.none_ HFX.out)
            have HTQ := As.mk (HT4.out.none_ HFX.out)
            have hA5 := HFX.out.heap HA4.out (fun h => h)
            clear q0
            have q0 := cell_is (v := .int .u32 t.seq) (i := 0) hA5 rfl
            have q1 := cell_is (v := .slice A5 n5 c5) (i := 1) hA5 rfl
            have q2 := cell_is (v := .slice A6 n6 c6) (i := 2) hA5 rfl
            have q3 := cell_is (v := .int .i64 t.t0) (i := 3) hA5 rfl
            have q4 := cell_is (v := .int .i64 t.t1) (i := 4) hA5 rfl
            clear hA5
            go_upto_region 12 with fail
            obtain ⟨u6, u7, u8, u9, u10, hm5⟩ := HBQ.out.cells
            have p6 := cell_is (v := u6) (i := 6) hm5 rfl
            have p7 := cell_is (v := u7) (i := 7) hm5 rfl
            have p8 := cell_is (v := u8) (i := 8) hm5 rfl
            have p9 := cell_is (v := u9) (i := 9) hm5 rfl
            have p10 := cell_is (v := u10) (i := 10) hm5 rfl
            have f6 := free_of (i := 6) hm5
            have f7 := free_of (i := 7) hm5
            have f8 := free_of (i := 8) hm5
            have f9 := free_of (i := 9) hm5
            have f10 := free_of (i := 10) hm5
            obtain ⟨hob, hfo⟩ := HBQ.out.put HTQ.out (Nat.le_refl _) hz1 rfl
            have hN9 := HNQ.out.one hm5 hfo ⟨⟨by decide, by decide, by decide, by decide, by decide⟩, by decide, by decide⟩
            have hF9 := HFQ.out.after hfo (fun b hb e => by omega)
            clear hm5
            go_wp2_with fail
            exact ⟨⟨i + 1, rfl, by omega, by rw [H14.out] <;> rfl, HK3, ⟨hN9⟩, ⟨hF9⟩, ⟨by rw [H14.out]; exact hob⟩⟩, by simp [intOf]; omega⟩
          · rw [hq] at HB4
            have s6 := HB4.out.seq
            by_cases hus : u.seq < t.seq
            · have d9 : decide (u.seq < t.seq) = true := decide_eq_true hus
              have H14 := As.mk (show (s.seek c f (i + 1)).2.2 = some t from by rw [H13.out, hq]; show (if u.seq < t.seq then some t else some u) = _; rw [if_pos hus])
              clear hq hus
              go_quiet (fail)
              have HFX := As.mk (show Fr None_ w4 (w4.drewN nq) from (Fr.refl None_ w4).drewN nq)
              generalize w4.drewN nq = w5 at *
              have HNQ := As.mk (HN4.out.none_ HFX.out)
              have HFQ := As.mk (HF4.out.after HFX.out (fun _ _ h => h.elim))
              have HBQ := As.mk (HB4.out.none_ HFX.out)
              have HTQ := As.mk (HT4.out.none_ HFX.out)
              have hA5 := HFX.out.heap HA4.out (fun h => h)
              clear q0 s6
              have q0 := cell_is (v := .int .u32 t.seq) (i := 0) hA5 rfl
              have q1 := cell_is (v := .slice A5 n5 c5) (i := 1) hA5 rfl
              have q2 := cell_is (v := .slice A6 n6 c6) (i := 2) hA5 rfl
              have q3 := cell_is (v := .int .i64 t.t0) (i := 3) hA5 rfl
              have q4 := cell_is (v := .int .i64 t.t1) (i := 4) hA5 rfl
              clear hA5
              go_upto_region 12 with fail
              obtain ⟨u6, u7, u8, u9, u10, hm5⟩ := HBQ.out.cells
              have p6 := cell_is (v := u6) (i := 6) hm5 rfl
              have p7 := cell_is (v := u7) (i := 7) hm5 rfl
              have p8 := cell_is (v := u8) (i := 8) hm5 rfl
              have p9 := cell_is (v := u9) (i := 9) hm5 rfl
              have p10 := cell_is (v := u10) (i := 10) hm5 rfl
              have f6 := free_of (i := 6) hm5
              have f7 := free_of (i := 7) hm5
              have f8 := free_of (i := 8) hm5
              have f9 := free_of (i := 9) hm5
              have f10 := free_of (i := 10) hm5
              obtain ⟨hob, hfo⟩ := HBQ.out.put HTQ.out (Nat.le_refl _) hz1 rfl
              have hN9 := HNQ.out.one hm5 hfo ⟨⟨by decide, by decide, by decide, by decide, by decide⟩, by decide, by decide⟩
              have hF9 := HFQ.out.after hfo (fun b hb e => by omega)
              clear hm5
              go_wp2_with fail
              exact ⟨⟨i + 1, rfl, by omega, by rw [H14.out] <;> rfl, HK3, ⟨hN9⟩, ⟨hF9⟩, ⟨by rw [H14.out]; exact hob⟩⟩, by simp [intOf]; omega⟩
            · have d9 : decide (u.seq < t.seq) = false := decide_eq_false hus
              have H14 := As.mk (show (s.seek c f (i + 1)).2.2 = some u from by rw [H13.out, hq]; show (if u.seq < t.seq then some t else some u) = _; rw [if_neg hus])
              clear hq hus
              go_quiet (fail)
              have HFX := As.mk (show Fr None_ w4 (w4.drewN nq) from (Fr.refl None_ w4).drewN nq)
              generalize w4.drewN nq = w5 at *
              go_wp2_with fail
              exact ⟨⟨i + 1, rfl, by omega, by rw [H14.out] <;> rfl, HK3, ⟨HN4.out.none_ HFX.out⟩, ⟨HF4.out.after HFX.out (fun _ _ h => h.elim)⟩, ⟨by rw [H14.out]; exact HB4.out.none_ HFX.out⟩⟩, by simp [intOf]; omega⟩
      · have hx0 : x3 = none := by rw [← hx3]; unfold isOk; rw [if_neg hk]
        subst hx0
        simp only at hm
        subst hm
        have HBE := As.mk (fun e w' h1 h2 h3 => HBD.out e w' (i + 1) _ (by omega) rfl hk h1 h2 h3)
        have dk : ((s.seek c f (i + 1)).2.1 != 0) = true := by rw [bne_iff_ne]; exact hk
        have hfa : Fr None_ w3 (w3.alloc (.cells zt TT)) := (Fr.refl None_ w3).alloc _
        have HN4 := As.mk (HN3.out.none_ hfa)
        have HF4 := As.mk (HF3.out.after hfa (fun _ _ h => h.elim))
        generalize (s.seek c f (i + 1)).2.1 = k at *
        clear hk hfa
        go_wp2_with fail
        go_ret2
        exact HBE.out _ _ rfl HN4.out HF4.out
    · obtain rfl : i = nb := by omega
      have hltI : ¬ (i : Int) < s.g.b := by have := HNB.out; omega
      clear HFI HBD
      rcases hx : (s.seek c f i).2.2 with _ | t
      · have HPost := As.mk (show ∀ (e : Ending) (w' : World), e = .returned (.tuple #[.pointer none, .int .i64 62]) → Nand w' p (s.seek c f i).1 L → Fr (NF p L s.n s.nb) w w' → OpenPost p s L c f w e w' from fun e w' h1 h2 h3 => ⟨by rw [HOE.out]; exact h2, h3, .inr (.inl ⟨by rw [HOE.out]; exact HK.out, by rw [HOE.out]; exact hx, h1⟩)⟩)
        clear hx
        go_wp2_with fail
        go_ret2
        exact HPost.out _ _ rfl HNi.out HFi.out
      · rw [hx] at HBi
        obtain ⟨A1, n1, c1, A2, n2, c2, hv, hnw⟩ := HBi.out
        have HV := As.mk hv
        have HPost := As.mk (show ∀ (e : Ending) (w' : World) (v : VLay), e = .returned (.tuple #[.pointer (some ⟨v.vb, 0, none⟩), .int .i64 0]) → Nand w' p (s.seek c f i).1 L → Fr (NF p L s.n s.nb) w w' → VolAt w' p c s.g t v → VNew w.heap.size v → OpenPost p s L c f w e w' from fun e w' v h1 h2 h3 h4 h5 => ⟨by rw [HOE.out]; exact h2, h3, .inr (.inr ⟨by rw [HOE.out]; exact HK.out, t, v, by rw [HOE.out]; exact hx, h1, h4, h5⟩)⟩)
        have HNW := As.mk hnw
        clear hx hv hnw
        go_wp2_with fail
        go_ret2
        exact HPost.out _ _ ⟨vb, A1, n1, c1, A2, n2, c2⟩ rfl HNi.out HFi.out HV.out HNW.out
end Go.Proofs.YteofgpaceeibpaaGreat.VolG

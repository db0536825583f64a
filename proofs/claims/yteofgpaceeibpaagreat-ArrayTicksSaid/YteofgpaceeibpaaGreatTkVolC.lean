/- vol: find, the walk. -/
import Derived.Test.YteofgpaceeibpaaGreatTkVolB
namespace Go.Proofs.YteofgpaceeibpaaGreat.VolC
open Go.RowKit Gab Wr Geom Ref Nand NandA NandB NandC NandD NandE NandH RemapA RemapB RemapE RemapF RemapG VolA VolB
open Heap (cell_is heap_set heap_set7 fr_set7)
open RemapD (infoRP)
set_option linter.unusedVariables false
set_option linter.unusedSimpArgs false

/-- A new volume's cells, or an elder one's, that find asks for. -/
structure VG (w : World) (p c : Nat) (g : Geo) (vb : Nat) : Prop where
  main : ∃ u6 u7 u8 u9 u10, w.heap[vb]? = some (.cells #[.pointer (some ⟨p, 0, none⟩), .int .i64 (c : Int), .int .i64 g.c, .int .i64 g.b, .int .i64 g.p, .int .i64 g.s, u6, u7, u8, u9, u10] 137 (0, 0))
theorem VG.fr {S : Nat → Prop} {w w' : World} {p c : Nat} {g : Geo} {vb : Nat} (h : VG w p c g vb) (hf : Fr S w w') (hS : ¬ S vb) : VG w' p c g vb := by
  obtain ⟨u6, u7, u8, u9, u10, h⟩ := h.main
  exact ⟨⟨u6, u7, u8, u9, u10, hf.heap h hS⟩⟩
theorem VG.nf {w w' : World} {p c p2 : Nat} {g : Geo} {vb : Nat} {s : St} {L : Lay} (h : VG w p2 c g vb) (hN : Nand w p s L) (hf : Fr (NF p L s.n s.nb) w w') : VG w' p2 c g vb := by
  obtain ⟨u6, u7, u8, u9, u10, hm⟩ := h.main
  exact h.fr hf (hN.ne hm ⟨by decide, by decide, by decide, by decide, by decide⟩)
theorem VG.cells {w : World} {p c : Nat} {g : Geo} {vb : Nat} (h : VG w p c g vb) : w.cell? ⟨vb, 0, none⟩ = some (.pointer (some ⟨p, 0, none⟩)) ∧ w.cell? ⟨vb, 1, none⟩ = some (.int .i64 (c : Int)) ∧ w.cell? ⟨vb, 2, none⟩ = some (.int .i64 g.c) ∧ w.cell? ⟨vb, 3, none⟩ = some (.int .i64 g.b) ∧ w.cell? ⟨vb, 4, none⟩ = some (.int .i64 g.p) ∧ w.cell? ⟨vb, 5, none⟩ = some (.int .i64 g.s) := by
  obtain ⟨u6, u7, u8, u9, u10, hm⟩ := h.main
  exact ⟨cell_is hm rfl, cell_is hm rfl, cell_is hm rfl, cell_is hm rfl, cell_is hm rfl, cell_is hm rfl⟩

theorem set5b {w' : World} {b : Nat} {T : TypeId} {a0 a1 a2 a3 a4 : Value} (h : w'.heap[b]? = some (.cells #[a0, a1, a2, a3, a4] T (0, 0))) (v0 v1 v2 v3 v4 : Value) :
    (((((w'.setCell ⟨b, 0, none⟩ v0).setCell ⟨b, 1, none⟩ v1).setCell ⟨b, 2, none⟩ v2).setCell ⟨b, 3, none⟩ v3).setCell ⟨b, 4, none⟩ v4).heap[b]? = some (.cells #[v0, v1, v2, v3, v4] T (0, 0)) ∧
    Fr (fun i => i = b) w' (((((w'.setCell ⟨b, 0, none⟩ v0).setCell ⟨b, 1, none⟩ v1).setCell ⟨b, 2, none⟩ v2).setCell ⟨b, 3, none⟩ v3).setCell ⟨b, 4, none⟩ v4) := by
  have h0 := heap_set h 0 v0
  have h1 := heap_set h0 1 v1
  have h2 := heap_set h1 2 v2
  have h3 := heap_set h2 3 v3
  have h4 := heap_set h3 4 v4
  refine ⟨by rw [h4]; simp, (((((Fr.refl (fun i => i = b) w').setCell (p := ⟨b, 0, none⟩) (fun _ => rfl) v0).setCell (p := ⟨b, 1, none⟩) (fun _ => rfl) v1).setCell (p := ⟨b, 2, none⟩) (fun _ => rfl) v2).setCell (p := ⟨b, 3, none⟩) (fun _ => rfl) v3).setCell (p := ⟨b, 4, none⟩) (fun _ => rfl) v4⟩
/-- A new block that is none of the chips' is written. -/
theorem finT {w w6 wf : World} {p b : Nat} {s s2 : St} {L : Lay} {cs : Array Value} {T : TypeId} {f : Nat × Nat} (h0 : Nand w p s L) (hb0 : w.heap.size ≤ b) (hf : Fr (NF p L s.n s.nb) w w6) (h : Nand w6 p s2 L) (hg : s2.g = s.g) (he : s2.evs = s.evs) (hb : w6.heap[b]? = some (.cells cs T f))
    (hT : (T ≠ 85 ∧ T ≠ 86 ∧ T ≠ 4 ∧ T ≠ 89 ∧ T ≠ 176) ∧ T ≠ 5) (hs : Fr (fun i => i = b) w6 wf) :
    Nand wf p s2 L ∧ Fr (NF p L s.n s.nb) w wf := by
  have hn := n_same hg
  have hfw : Fr (NF p L s.n s.nb) w wf := hf.after hs (fun i hi e => by subst e; omega)
  refine ⟨h.fr hs (fun i _ hh => h.ne hb hT.1 (by rw [← hh.1]; exact hh.2)) (fun i hu e => by subst e; obtain ⟨c2, e2⟩ := hu; exact blk_ne hb e2 hT.2 rfl) ?_, hfw⟩
  rw [hn.1, hn.2.1, he]
  exact h0.evs.fr hfw (fun _ _ h => h)
/-- New blocks that are none of the chips' are written. -/
theorem finS {S : Nat → Prop} {w w6 wf : World} {p : Nat} {s s2 : St} {L : Lay} (h0 : Nand w p s L) (hf : Fr (NF p L s.n s.nb) w w6) (h : Nand w6 p s2 L) (hg : s2.g = s.g) (he : s2.evs = s.evs)
    (hS : ∀ b, S b → w.heap.size ≤ b ∧ ∃ cs T f, w6.heap[b]? = some (.cells cs T f) ∧ (T ≠ 85 ∧ T ≠ 86 ∧ T ≠ 4 ∧ T ≠ 89 ∧ T ≠ 176) ∧ T ≠ 5) (hs : Fr S w6 wf) :
    Nand wf p s2 L ∧ Fr (NF p L s.n s.nb) w wf := by
  have hn := n_same hg
  have hfw : Fr (NF p L s.n s.nb) w wf := hf.after hs (fun i hi e => by have := (hS i e).1; omega)
  refine ⟨h.fr hs (fun i _ hh => by obtain ⟨_, cs, T, f, hb, hT⟩ := hS i hh.1; exact h.ne hb hT.1 hh.2) (fun i hu e => by obtain ⟨_, cs, T, f, hb, hT⟩ := hS i e; obtain ⟨c2, e2⟩ := hu; exact blk_ne hb e2 hT.2 rfl) ?_, hfw⟩
  rw [hn.1, hn.2.1, he]
  exact h0.evs.fr hfw (fun _ _ h => h)
theorem VG.own {w w' : World} {p c : Nat} {g : Geo} {vb : Nat} {base i : Nat} {v : Value} {vs : List Value} (h : VG w p c g vb) (hr : Par.RowV 189 2 w base v i vs) (hf : Fr (fun b => v.ownBlock = some b) w w') : VG w' p c g vb := by
  obtain ⟨u6, u7, u8, u9, u10, hm⟩ := h.main
  exact h.fr hf (Str.RowV.ne hr hm (by decide))
theorem own_new {w : World} {base i : Nat} {v : Value} {vs : List Value} (hr : Par.RowV 189 2 w base v i vs) : ∀ b, v.ownBlock = some b → base ≤ b ∧ ∃ cs T f, w.heap[b]? = some (.cells cs T f) ∧ (T ≠ 85 ∧ T ≠ 86 ∧ T ≠ 4 ∧ T ≠ 89 ∧ T ≠ 176) ∧ T ≠ 5 := fun b hb => by
  obtain ⟨h1, _, cs, h2⟩ := hr.blk b hb
  exact ⟨h1, cs, _, _, h2, ⟨by decide, by decide, by decide, by decide, by decide⟩, by decide⟩
theorem rdN_stuck (s : St) (c : Nat) : ∀ n m, n ≤ m → (s.rdN c n).2 ≠ 0 → s.rdN c m = s.rdN c n
  | n, 0, h, _ => by
    obtain rfl : n = 0 := by omega
    rfl
  | n, m + 1, h, hk => by
    by_cases e : n = m + 1
    · rw [e]
    · have ih := rdN_stuck s c n m (by omega) hk
      show (if (s.rdN c m).2 = 0 then _ else s.rdN c m) = _
      rw [ih, if_neg hk]

set_option maxHeartbeats 8000000 in
set_option maxRecDepth 100000 in
theorem find_calls (p c b vb : Nat) (s : St) (L : Lay) (x : Option Tab) (w : World) (hN : Nand w p s L) (hV : VG w p c s.g vb) (hc : c < s.n) (hb : b < s.nb) (n : Nat) (hs : s.Safe (n + 4)) (hx : TabIs s.g (s.bytes c b 0).1 (s.bytes c b 0).2 x) :
    Calls Tryz.prog 63 #[.pointer (some ⟨vb, 0, none⟩), .int .i64 (b : Int)] w (FindPost p s L c x w) := by
  have hp4 := hN.ok.p
  have hnp : 4 ≤ s.np := by unfold St.np; omega
  have HQ := As.mk (bytes_ok hN hc hb (show 0 < s.np by omega))
  have HG := As.mk hN.ok
  have HN0 := As.mk hN
  have hfa := (Fr.refl None_ w).alloc (.cells zt TT)
  have HBA := As.mk (heap_alloc_new w (.cells zt TT))
  have HN1 := As.mk (hN.none_ hfa)
  have HV1 := As.mk (hV.fr hfa (fun h => h))
  have HF1 := As.mk (hfa.mono (T := NF p L s.n s.nb) (fun _ _ h => h.elim))
  have HZ1 := As.mk (show w.heap.size ≤ (w.alloc (.cells zt TT)).heap.size from hfa.size)
  have HRD := As.mk (fun (i : Nat) (w' : World) (hi : i < 4) (hN' : Nand w' p (s.rdN c i).1 L) => Rd_calls p (s.rdN c i).1 L c b i w' hN' (by unfold St.n; rw [(rdN_g s c i).1]; exact hc) (by unfold St.nb; rw [(rdN_g s c i).1]; exact hb) (by unfold St.np; rw [(rdN_g s c i).1]; exact Nat.lt_of_lt_of_le hi hnp) 0 (safe_rdN c i 1 (hs.le (by omega))))
  have HXI := As.mk hx
  have HC := As.mk (And.intro hc hb)
  have HPost := As.mk (show ∀ (i : Nat) (e : Ending) (w' : World), Fr (NF p L s.n s.nb) w w' → (∃ v, (s.find c x = s.rdN c i) ∧ e = .returned (.tuple #[v, .bool (isOk (s.rdN c i).2 x).isSome, .int .i64 (s.rdN c i).2]) ∧ Nand w' p (s.rdN c i).1 L ∧ match isOk (s.rdN c i).2 x with
    | none => v = .agg zt
    | some t => TabR w' w.heap.size v t) → FindPost p s L c x w e w' from by
    rintro i e w' hf ⟨v, h0, h1, h2, h3⟩
    unfold FindPost
    rw [h0]
    exact ⟨v, h1, h2, hf, h3⟩)
  clear hfa hN hV hc hb hs hx
  go_enter Tryz.func63, Tryz.ntmps63
  go_upto_region 2 with fail
  generalize w.alloc (.cells zt TT) = w1 at *
  obtain ⟨c0, c1, c2, c3, c4, c5⟩ := HV1.out.cells
  go_wp2_with fail
  go_loopw [7, 19] (fun v7 v19 w' => ∃ i : Nat, v19 = .int .i64 (i : Int) ∧ i < 4 ∧ As ((s.rdN c i).2 = 0) ∧ As (Nand w' p (s.rdN c i).1 L) ∧ As (Fr (NF p L s.n s.nb) w w') ∧ As (w'.heap[w.heap.size]? = some (.cells zt TT (0, 0))) ∧ As (VG w' p c s.g vb) ∧ As (Pgs w' w.heap.size v7 i (s.bytes c b 0).1 (s.bytes c b 0).2) ∧ As (0 < i → x = none)) (fun _ v19 _ => 4 - (intOf v19).toNat)
  case atStart => exact ⟨0, rfl, by decide, ⟨rfl⟩, HN1, HF1, HBA, HV1, ⟨Pgs.nil _ _ _ _⟩, ⟨fun h => absurd h (Nat.lt_irrefl _)⟩⟩
  case round =>
    obtain ⟨i, rfl, hi, HK, HN, HF, HB, HV, HP, HXN⟩ := hrel
    obtain ⟨c0, c1, c2, c3, c4, c5⟩ := HV.out.cells
    have hip : (i : Int) < s.g.p := by omega
    have HR := As.mk (HRD.out i wr.drew hi (HN.out.none_ (Fr.refl None_ wr).drew))
    have HS1 := As.mk (show s.rdN c (i + 1) = (s.rdN c i).1.read c from by show (if (s.rdN c i).2 = 0 then (s.rdN c i).1.read c else s.rdN c i) = _; rw [if_pos HK.out])
    have HNF : As (∀ b, NF p L (s.rdN c i).1.n (s.rdN c i).1.nb b ↔ NF p L s.n s.nb b) := ⟨fun b => by unfold St.n St.nb; rw [(rdN_g s c i).1]⟩
    have HBY : As ((s.rdN c i).1.bytes c b i = s.bytes c b i) := ⟨by unfold St.bytes; rw [(rdN_g s c i).1, (rdN_g s c i).2.1]⟩
    unfold ReadPost at HR
    rw [← HS1.out, HBY.out] at HR
    go_upto_region 5 with fail
    go_region_held3 (fun w' => w'.cell? ⟨vb, 0, none⟩ = some (.pointer (some ⟨p, 0, none⟩)) ∧ w'.cell? ⟨vb, 1, none⟩ = some (.int .i64 (c : Int))) (first | go_keep | exact ⟨c0, c1⟩ | exact ⟨HV2.out.cells.1, HV2.out.cells.2.1⟩) (first
      | (go_at_call 65; (with_reducible refine (HR.out).mono ?_); rintro e w2 ⟨A2, n2, k2, B2, m2, j2, rfl, hn2, hf2, hok, hbad⟩; have HF2 := As.mk (show Fr (NF p L s.n s.nb) wr w2 from (hf2.undrew).mono (fun b _ h => (HNF.out b).1 h)); have HN2 := As.mk hn2; have HV2 := As.mk (HV.out.nf HN.out hf2.undrew); have HP2 := As.mk (HP.out.nf HN.out hf2.undrew); have HB2 := As.mk (hf2.undrew.heap HB.out (HN.out.ne HB.out ⟨by decide, by decide, by decide, by decide, by decide⟩)); have HOK := As.mk hok; have HBAD := As.mk hbad; have HFF := As.mk (HF.out.after HF2.out (fun _ _ h => h)); clear hn2 hf2 hok hbad)
      | fail)
    rcases Decidable.em ((s.rdN c (i + 1)).2 = 0) with hk | hk
    · have HSZ := As.mk (show w.heap.size ≤ wr.heap.size from HF.out.size)
      obtain ⟨hrA, hrB⟩ := HOK.out hk
      have HRA := As.mk (show Row 5 .u8 w2 w.heap.size (.slice A2 n2 k2) (s.bytes c b i).1 from hrA.lower HSZ.out)
      have HRB := As.mk (show Row 5 .u8 w2 w.heap.size (.slice B2 m2 j2) (s.bytes c b i).2 from hrB.lower HSZ.out)
      have HK1 := As.mk hk
      have HGE := As.mk (And.intro (rdN_g s c (i + 1)).1 (rdN_g s c (i + 1)).2.2)
      have hz2 := HFF.out.size
      obtain ⟨vs, hrow, hpg⟩ := HP2.out.row
      have HROW := As.mk hrow
      have HPG := As.mk hpg
      obtain ⟨A1, c1', e1, _, _, _⟩ := hrow.rd
      subst e1
      rw [hk]
      clear hrA hrB hrow hpg hk HBAD HOK c0 c1 c2 c3 c4 c5
      go_wp2_with (at_builtin; (with_reducible refine Par.appendV w.heap.size rfl _ _ 188 189 (.agg #[.slice none 0 0, .slice none 0 0]) 2 48 rfl Tryz.underlying188 infoRP rfl (by decide) (by decide) (.slice A1 i c1') i vs #[.slice A2 n2 k2, .slice B2 m2 j2] _ rfl rfl rfl rfl ?o0 HROW.out ?o2 ?o3 ?_); (case o0 => intro u hu; simp at hu; rcases hu with rfl | rfl <;> rfl); (case o2 => exact hz2); (case o3 => omega); intro v3 w3 hrow3 hfr3 hat3; have HF3 := As.mk hfr3; have HV3 := As.mk (HV2.out.own HROW.out hfr3); have HB3 := As.mk (hfr3.heap HB2.out (Str.RowV.ne HROW.out HB2.out (by decide))); obtain ⟨hn3, hff3⟩ := finS HN0.out HFF.out HN2.out HGE.out.1 HGE.out.2 (own_new HROW.out) hfr3; have HN3 := As.mk hn3; have HFF3 := As.mk hff3; have HP3 := As.mk (Pgs.snoc HROW.out HPG.out (fun h => by subst h; exact ⟨rfl, rfl⟩) HRA.out HRB.out hrow3 hfr3); have HJ := As.mk (HP3.out.join (Nat.succ_pos i) x s.g HG.out HQ.out.1 HQ.out.2.1 HQ.out.2.2.1 HXI.out); obtain ⟨A3, cap3, e3, _, _, _⟩ := hrow3.rd; subst e3; obtain ⟨c0, c1, c2, c3, c4, c5⟩ := HV3.out.cells; clear hn3 hff3 hrow3 hfr3 hat3)
      unfold Geo.val at HJ
      go_wp2_with fail
      ((with_reducible refine (HJ.out).mono ?_); rintro e w4 ⟨hf4, hmt⟩)
      have HN4 := As.mk (HN3.out.none_ hf4)
      have HFF4 := As.mk (HFF3.out.after hf4 (fun _ _ h => h.elim))
      have HB4 := As.mk (hf4.heap HB3.out (fun h => h))
      have HV4 := As.mk (HV3.out.fr hf4 (fun h => h))
      have HP4 := As.mk (HP3.out.none_ hf4)
      clear hf4 HJ c0 c1 c2 c3 c4 c5
      rcases x with _ | t
      · simp only at hmt
        subst hmt
        have hfa : Fr None_ w4 (w4.alloc (.cells zt TT)) := (Fr.refl None_ w4).alloc _
        have HN5 := As.mk (HN4.out.none_ hfa)
        have HFF5 := As.mk (HFF4.out.after hfa (fun _ _ h => h.elim))
        have HB5 := As.mk (hfa.heap HB4.out (fun h => h))
        have HV5 := As.mk (HV4.out.fr hfa (fun h => h))
        have HP5 := As.mk (HP4.out.none_ hfa)
        clear hfa
        by_cases h3 : 2 < i
        · obtain rfl : i = 3 := by omega
          go_upto_if 57 with fail
          generalize w4.alloc (.cells zt TT) = w5 at *
          have r0 := cell_is (i := 0) HB5.out rfl
          have r1 := cell_is (i := 1) HB5.out rfl
          have r2 := cell_is (i := 2) HB5.out rfl
          have r3 := cell_is (i := 3) HB5.out rfl
          have r4 := cell_is (i := 4) HB5.out rfl
          have f0 := free_of (i := 0) HB5.out
          have f1 := free_of (i := 1) HB5.out
          have f2 := free_of (i := 2) HB5.out
          have f3 := free_of (i := 3) HB5.out
          have f4 := free_of (i := 4) HB5.out
          go_wp2_with fail
          obtain ⟨s2, s3⟩ := set5b HB5.out (.int .u32 0) (.slice none 0 0) (.slice none 0 0) (.int .i64 0) (.int .i64 0)
          obtain ⟨hnn, hff⟩ := finT HN0.out (Nat.le_refl _) HFF5.out HN5.out HGE.out.1 HGE.out.2 HB5.out ⟨⟨by decide, by decide, by decide, by decide, by decide⟩, by decide⟩ s3
          clear r0 r1 r2 r3 r4 f0 f1 f2 f3 f4
          generalize ((((w5.setCell ⟨w.heap.size, 0, none⟩ (.int .u32 0)).setCell ⟨w.heap.size, 1, none⟩ (.slice none 0 0)).setCell ⟨w.heap.size, 2, none⟩ (.slice none 0 0)).setCell ⟨w.heap.size, 3, none⟩ (.int .i64 0)).setCell ⟨w.heap.size, 4, none⟩ (.int .i64 0) = wf at *
          have r0 := cell_is (i := 0) s2 rfl
          have r1 := cell_is (i := 1) s2 rfl
          have r2 := cell_is (i := 2) s2 rfl
          have r3 := cell_is (i := 3) s2 rfl
          have r4 := cell_is (i := 4) s2 rfl
          exact bodyPost_ret (v := .tuple #[.agg zt, .bool false, .int .i64 0]) (by simp [results, Tryz.results63, go_sem, r0, r1, r2, r3, r4]) rfl (HPost.out 4 _ _ hff ⟨.agg zt, rfl, by rw [HK1.out]; rfl, hnn, by rw [HK1.out]; rfl⟩)
        · have d3 : decide (2 < (i : Int)) = false := decide_eq_false (by omega)
          go_upto_if 57 with fail
          generalize w4.alloc (.cells zt TT) = w5 at *
          go_wp2_with fail
          exact ⟨⟨i + 1, rfl, by omega, HK1, HN5, HFF5, HB5, HV5, HP5, ⟨fun _ => by first | rfl | trivial⟩⟩, by simp [intOf]; omega⟩
      · obtain ⟨v, rfl, ht4⟩ := hmt
        have HT4 := As.mk (show TabR w4 w.heap.size v t from ht4.lower HFF3.out.size)
        obtain ⟨v1, v2, rfl, hr1, hr2⟩ := ht4
        obtain ⟨A5, n5, c5, e5, _, _, _⟩ := hr1.rd
        subst e5
        obtain ⟨A6, n6, c6, e6, _, _, _⟩ := hr2.rd
        subst e6
        have h0 : i = 0 := by
          rcases Nat.eq_zero_or_pos i with h | h
          · exact h
          · have := HXN.out h; cases this
        subst h0
        have hfa : Fr None_ w4 (w4.alloc (.cells #[.int .u32 t.seq, .slice A5 n5 c5, .slice A6 n6 c6, .int .i64 t.t0, .int .i64 t.t1] TT)) := (Fr.refl None_ w4).alloc _
        have HA5 := As.mk (heap_alloc_new w4 (.cells #[.int .u32 t.seq, .slice A5 n5 c5, .slice A6 n6 c6, .int .i64 t.t0, .int .i64 t.t1] TT))
        have HN5 := As.mk (HN4.out.none_ hfa)
        have HFF5 := As.mk (HFF4.out.after hfa (fun _ _ h => h.elim))
        have HB5 := As.mk (hfa.heap HB4.out (fun h => h))
        have HT5 := As.mk (HT4.out.none_ hfa)
        clear hfa hr1 hr2
        go_upto_if 57 with fail
        generalize w4.alloc (.cells #[.int .u32 t.seq, .slice A5 n5 c5, .slice A6 n6 c6, .int .i64 t.t0, .int .i64 t.t1] TT) = w5 at *
        generalize w4.heap.size = tb at *
        have q0 := cell_is (i := 0) HA5.out rfl
        have q1 := cell_is (i := 1) HA5.out rfl
        have q2 := cell_is (i := 2) HA5.out rfl
        have q3 := cell_is (i := 3) HA5.out rfl
        have q4 := cell_is (i := 4) HA5.out rfl
        have r0 := cell_is (i := 0) HB5.out rfl
        have r1 := cell_is (i := 1) HB5.out rfl
        have r2 := cell_is (i := 2) HB5.out rfl
        have r3 := cell_is (i := 3) HB5.out rfl
        have r4 := cell_is (i := 4) HB5.out rfl
        have f0 := free_of (i := 0) HB5.out
        have f1 := free_of (i := 1) HB5.out
        have f2 := free_of (i := 2) HB5.out
        have f3 := free_of (i := 3) HB5.out
        have f4 := free_of (i := 4) HB5.out
        go_wp2_with fail
        obtain ⟨s2, s3⟩ := set5b HB5.out (.int .u32 t.seq) (.slice A5 n5 c5) (.slice A6 n6 c6) (.int .i64 t.t0) (.int .i64 t.t1)
        obtain ⟨hnn, hff⟩ := finT HN0.out (Nat.le_refl _) HFF5.out HN5.out HGE.out.1 HGE.out.2 HB5.out ⟨⟨by decide, by decide, by decide, by decide, by decide⟩, by decide⟩ s3
        have ht6 : TabR (((((w5.setCell ⟨w.heap.size, 0, none⟩ (.int .u32 t.seq)).setCell ⟨w.heap.size, 1, none⟩ (.slice A5 n5 c5)).setCell ⟨w.heap.size, 2, none⟩ (.slice A6 n6 c6)).setCell ⟨w.heap.size, 3, none⟩ (.int .i64 t.t0)).setCell ⟨w.heap.size, 4, none⟩ (.int .i64 t.t1)) w.heap.size (.agg #[.int .u32 t.seq, .slice A5 n5 c5, .slice A6 n6 c6, .int .i64 t.t0, .int .i64 t.t1]) t := by
          obtain ⟨v1, v2, e, z1, z2⟩ := HT5.out
          exact ⟨v1, v2, e, z1.fr s3 (fun b hb e => by subst e; exact Row.ne z1 HB5.out (by decide) hb), z2.fr s3 (fun b hb e => by subst e; exact Row.ne z2 HB5.out (by decide) hb)⟩
        clear r0 r1 r2 r3 r4 f0 f1 f2 f3 f4 q0 q1 q2 q3 q4
        generalize ((((w5.setCell ⟨w.heap.size, 0, none⟩ (.int .u32 t.seq)).setCell ⟨w.heap.size, 1, none⟩ (.slice A5 n5 c5)).setCell ⟨w.heap.size, 2, none⟩ (.slice A6 n6 c6)).setCell ⟨w.heap.size, 3, none⟩ (.int .i64 t.t0)).setCell ⟨w.heap.size, 4, none⟩ (.int .i64 t.t1) = wf at *
        have r0 := cell_is (i := 0) s2 rfl
        have r1 := cell_is (i := 1) s2 rfl
        have r2 := cell_is (i := 2) s2 rfl
        have r3 := cell_is (i := 3) s2 rfl
        have r4 := cell_is (i := 4) s2 rfl
        exact bodyPost_ret (v := .tuple #[.agg #[.int .u32 t.seq, .slice A5 n5 c5, .slice A6 n6 c6, .int .i64 t.t0, .int .i64 t.t1], .bool true, .int .i64 0]) (by simp [results, Tryz.results63, go_sem, r0, r1, r2, r3, r4]) rfl (HPost.out 1 _ _ hff ⟨_, rfl, by rw [HK1.out]; rfl, hnn, by rw [HK1.out]; exact ht6⟩)
    · have hb0 := HBAD.out hk
      obtain ⟨ea, eb⟩ := hb0
      injection ea with ea1 ea2 ea3
      injection eb with eb1 eb2 eb3
      subst ea1 ea2 ea3 eb1 eb2 eb3
      have HST := As.mk (show s.find c x = s.rdN c (i + 1) from by
        unfold St.find
        rcases hx : x with _ | t
        · exact rdN_stuck s c (i + 1) 4 (by omega) hk
        · rcases Nat.eq_zero_or_pos i with h0 | h0
          · subst h0; rfl
          · have := HXN.out h0; rw [hx] at this; cases this)
      have HKN := As.mk hk
      have dk : ((s.rdN c (i + 1)).2 != 0) = true := by rw [bne_iff_ne]; exact hk
      clear hk HOK HBAD c0 c1 c2 c3 c4 c5
      generalize hkk : (s.rdN c (i + 1)).2 = kk at *
      have HKK := As.mk hkk
      clear hkk
      have r0 := cell_is (i := 0) HB2.out rfl
      have r1 := cell_is (i := 1) HB2.out rfl
      have r2 := cell_is (i := 2) HB2.out rfl
      have r3 := cell_is (i := 3) HB2.out rfl
      have r4 := cell_is (i := 4) HB2.out rfl
      have f0 := free_of (i := 0) HB2.out
      have f1 := free_of (i := 1) HB2.out
      have f2 := free_of (i := 2) HB2.out
      have f3 := free_of (i := 3) HB2.out
      have f4 := free_of (i := 4) HB2.out
      go_wp2_with fail
      obtain ⟨s2, s3⟩ := set5b HB2.out (.int .u32 0) (.slice none 0 0) (.slice none 0 0) (.int .i64 0) (.int .i64 0)
      obtain ⟨hnn, hff⟩ := finT HN0.out (Nat.le_refl _) HFF.out HN2.out (rdN_g s c (i + 1)).1 (rdN_g s c (i + 1)).2.2 HB2.out ⟨⟨by decide, by decide, by decide, by decide, by decide⟩, by decide⟩ s3
      clear r0 r1 r2 r3 r4 f0 f1 f2 f3 f4
      generalize ((((w2.setCell ⟨w.heap.size, 0, none⟩ (.int .u32 0)).setCell ⟨w.heap.size, 1, none⟩ (.slice none 0 0)).setCell ⟨w.heap.size, 2, none⟩ (.slice none 0 0)).setCell ⟨w.heap.size, 3, none⟩ (.int .i64 0)).setCell ⟨w.heap.size, 4, none⟩ (.int .i64 0) = wf at *
      have r0 := cell_is (i := 0) s2 rfl
      have r1 := cell_is (i := 1) s2 rfl
      have r2 := cell_is (i := 2) s2 rfl
      have r3 := cell_is (i := 3) s2 rfl
      have r4 := cell_is (i := 4) s2 rfl
      exact bodyPost_ret (v := .tuple #[.agg zt, .bool false, .int .i64 kk]) (by simp [results, Tryz.results63, go_sem, r0, r1, r2, r3, r4]) rfl (HPost.out (i + 1) _ _ hff ⟨.agg zt, HST.out, by rw [HKK.out]; simp [isOk, HKN.out], hnn, by rw [HKK.out]; simp [isOk, HKN.out]⟩)
end Go.Proofs.YteofgpaceeibpaaGreat.VolC

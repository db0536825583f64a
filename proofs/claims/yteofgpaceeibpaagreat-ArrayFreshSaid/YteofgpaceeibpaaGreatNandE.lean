/- nand: Erase, where nothing fails and the power stays; Kill, Dead. -/
import Derived.Test.YteofgpaceeibpaaGreatNandD
import Derived.Lib.SliceRun
namespace Go.Proofs.YteofgpaceeibpaaGreat.NandE
open Go.RowKit Go.Proofs.YteofgpaceeibpaaGreat.Gab Go.Proofs.YteofgpaceeibpaaGreat.Wr Go.Proofs.YteofgpaceeibpaaGreat.Geom Go.Proofs.YteofgpaceeibpaaGreat.Ref Go.Proofs.YteofgpaceeibpaaGreat.Heap Go.Proofs.YteofgpaceeibpaaGreat.Nand Go.Proofs.YteofgpaceeibpaaGreat.NandA Go.Proofs.YteofgpaceeibpaaGreat.NandB Go.Proofs.YteofgpaceeibpaaGreat.NandC Go.Proofs.YteofgpaceeibpaaGreat.NandD
set_option linter.unusedVariables false
set_option linter.unusedSimpArgs false

theorem fr_setCells (b : Nat) : ∀ (l : List Value) (o : Nat) (w : World), Fr (fun j => j = b) w (w.setCells b o l)
  | [], _, w => Fr.refl _ w
  | v :: l, o, w => (fr_set1 (w' := w) (b := b) (i := o) v).after (fr_setCells b l (o + 1) _) (fun _ _ h => h)
theorem heap_setCells (b : Nat) {T : TypeId} {f : Nat × Nat} : ∀ (l : List Value) (o : Nat) (w : World) (cs : Array Value), w.heap[b]? = some (.cells cs T f) →
    ∃ cs', (w.setCells b o l).heap[b]? = some (.cells cs' T f) ∧ cs'.size = cs.size ∧ (∀ j, j < l.length → o + j < cs.size → cs'[o + j]? = l[j]?) ∧ ∀ j, j < o → cs'[j]? = cs[j]?
  | [], o, w, cs, h => ⟨cs, h, rfl, fun j hj => absurd hj (Nat.not_lt_zero _), fun _ _ => rfl⟩
  | v :: l, o, w, cs, h => by
    obtain ⟨cs', h1, h2, h3, h4⟩ := heap_setCells b l (o + 1) _ _ (heap_set h o v)
    refine ⟨cs', h1, by simpa using h2, fun j hj hs => ?_, fun j hj => ?_⟩
    · cases j with
      | zero =>
        rw [Nat.add_zero, h4 o (by omega), Array.getElem?_setIfInBounds_self_of_lt (by omega)]
        rfl
      | succ j =>
        have := h3 j (by simpa using hj) (by simp; omega)
        rw [show o + (j + 1) = o + 1 + j by omega, this]
        rfl
    · rw [h4 j (by omega), Array.getElem?_setIfInBounds_ne (by omega)]
theorem zero_page (w : World) : (zeroValue 176).run Tryz.prog w = .ok (.agg #[.slice none 0 0, .slice none 0 0]) w := by kernel_rfl
theorem run_clear_pages (w : World) (ty : TypeId) (b n c : Nat) (hn : 0 < n) (hc : ∀ j, j < n * 2 → (w.cell? ⟨b, j, none⟩).isSome = true) (hf : ∀ j, j < n * 2 → w.frozen? ⟨b, j, none⟩ = false) :
    (Builtin.clear_ #[87] ty #[.slice (some ⟨b, 0, none⟩) n c]).run Tryz.prog w = .ok (.tuple #[]) (w.setCells b 0 (List.replicate (n * 2) (.slice none 0 0))) := by
  have hzc : (Builtin.zeroCells #[Value.slice none 0 0, Value.slice none 0 0] n).toList = List.replicate (n * 2) (.slice none 0 0) := by
    apply List.ext_getElem
    · simp [Builtin.zeroCells]
    · intro i h1 h2
      simp only [Builtin.zeroCells, Array.toList_map, List.getElem_map, Array.toList_range, List.getElem_range, List.getElem_replicate]
      have : i % 2 = 0 ∨ i % 2 = 1 := by omega
      rcases this with e | e <;> simp [e]
  have hst := run_storeCells_cells (P := Tryz.prog) b 0 (List.replicate (n * 2) (.slice none 0 0)) 0 w (by simpa using hc) (by simpa using hf) (by intro v hv'; rw [List.eq_of_mem_replicate hv']; rfl)
  simp only [Nat.add_zero] at hst
  obtain ⟨m, rfl⟩ : ∃ m, n = m + 1 := ⟨n - 1, by omega⟩
  simp [Builtin.clear_, run_underlying Tryz.underlying87, zero_page, Value.cells, hzc, hst]
/-- A block is erased (good, nothing fails): the chips behind it, and the error. -/
def _root_.Go.Proofs.YteofgpaceeibpaaGreat.Nand.St.erase (s : St) (c b : Nat) : St × Int :=
  if (s.start c).2 = 0 then ((s.start c).1.setB c b ⟨fun _ => none, 0, (s.blk c b).er + 1, (s.blk c b).bad⟩, 0) else s.start c
def ErasePost (p : Nat) (s : St) (L : Lay) (c b : Nat) (w : World) (e : Ending) (w' : World) : Prop :=
  e = .returned (.int .i64 (s.erase c b).2) ∧ Nand w' p (s.erase c b).1 L ∧ Fr (NF p L s.n s.nb) w w'
theorem clearPages {w : World} {p : Nat} {s : St} {L : Lay} (h : Nand w p s L) (c k : Nat) (hc : c < s.n) (hk : k < s.nb) :
    Nand (w.setCells (L.P c k) 0 (List.replicate (s.np * 2) (.slice none 0 0))) p (s.setB c k { s.blk c k with pg := fun _ => none }) L := by
  obtain ⟨ps, hp, hz, _⟩ := h.pgs c k hc hk
  obtain ⟨cs', h1, h2, h3, _⟩ := heap_setCells (L.P c k) (List.replicate (s.np * 2) (.slice none 0 0)) 0 w ps hp
  refine h.setPs c k hc hk _ (fr_setCells _ _ _ _) ⟨cs', h1, by omega, fun q hq => ⟨.slice none 0 0, .slice none 0 0, ?_, ?_, rfl, rfl⟩⟩
  · have := h3 (q * 2) (by simp; omega) (by omega)
    rw [Nat.zero_add] at this
    rw [this, List.getElem?_replicate, if_pos (by omega)]
  · have := h3 (q * 2 + 1) (by simp; omega) (by omega)
    rw [Nat.zero_add] at this
    rw [this, List.getElem?_replicate, if_pos (by omega)]

set_option maxHeartbeats 8000000 in
set_option maxRecDepth 100000 in
theorem Erase_not (p : Nat) (s : St) (L : Lay) (c b : Nat) (w : World) (h : Nand w p s L) (hc : c < s.n) (hb : b < s.nb) (hops : 0 ≤ s.ops ∧ s.ops < 4611686018427387904) (hk : (s.start c).2 ≠ 0) :
    Calls Tryz.prog 58 #[.pointer (some ⟨p, 0, none⟩), .int .i64 (c : Int), .int .i64 (b : Int)] w (ErasePost p s L c b w) := by
  have HB := As.mk (begin_calls p s L c b w h hc hb hops)
  have hr : s.erase c b = s.start c := by unfold St.erase; rw [if_neg hk]
  have HPost := As.mk (show ∀ (e : Ending) (w' : World), e = .returned (.int .i64 (s.start c).2) → Nand w' p (s.start c).1 L → Fr (NF p L s.n s.nb) w w' → ErasePost p s L c b w e w' from fun e w' h1 h2 h3 => ⟨by rw [hr]; exact h1, by rw [hr]; exact h2, h3⟩)
  have HK := As.mk hk
  have dk : ((s.start c).2 != 0) = true := by rw [bne_iff_ne]; exact hk
  unfold BeginPost at HB
  generalize (s.start c).2 = k at *
  clear h hops hk hr hc hb
  go_enter Tryz.func58, Tryz.ntmps58
  go_wp2_with fail
  ((with_reducible refine (HB.out).mono ?_); rintro e w1 ⟨ptr, v, rfl, hn1, hf1, _, hbad⟩)
  obtain ⟨rfl, rfl⟩ := hbad HK.out
  have HN2 := As.mk (hn1.none_ ((Fr.refl None_ w1).alloc (.cells #[.int .i64 0, .int .i64 0, .int .i64 0, .slice none 0 0] 50)))
  have HF2 := As.mk (hf1.alloc (.cells #[.int .i64 0, .int .i64 0, .int .i64 0, .slice none 0 0] 50))
  clear hn1 hf1 hbad
  go_wp2_with fail
  go_ret
  exact HPost.out _ _ rfl HN2.out HF2.out

set_option maxHeartbeats 8000000 in
set_option maxRecDepth 100000 in
theorem Erase_ok (p : Nat) (s : St) (L : Lay) (c b : Nat) (w : World) (h : Nand w p s L) (hc : c < s.n) (hb : b < s.nb) (hops : 0 ≤ s.ops ∧ s.ops < 4611686018427387904) (hk : (s.start c).2 = 0)
    (hcalm : s.Calm) (hgood : (s.blk c b).bad = false) (her : 0 ≤ (s.blk c b).er ∧ (s.blk c b).er < 4611686018427387904) :
    Calls Tryz.prog 58 #[.pointer (some ⟨p, 0, none⟩), .int .i64 (c : Int), .int .i64 (b : Int)] w (ErasePost p s L c b w) := by
  have HB := As.mk (begin_calls p s L c b w h hc hb hops)
  have hsg := start_g s c
  have hnn := n_same hsg.1
  have HSG := As.mk (And.intro hsg hnn)
  have hka := calm_now hcalm
  have HOk := As.mk (show ∀ (e : Ending) (w' : World), e = .returned (.int .i64 0) → Nand w' p ((s.start c).1.setB c b ⟨fun _ => none, 0, (s.blk c b).er + 1, (s.blk c b).bad⟩) L → Fr (NF p L s.n s.nb) w w' → ErasePost p s L c b w e w' from fun e w' h1 h2 h3 => by
    have hr : s.erase c b = ((s.start c).1.setB c b ⟨fun _ => none, 0, (s.blk c b).er + 1, (s.blk c b).bad⟩, 0) := by unfold St.erase; rw [if_pos hk]
    exact ⟨by rw [hr]; exact h1, by rw [hr]; exact h2, h3⟩)
  unfold BeginPost at HB
  rw [hk] at HB
  have HQ := As.mk (And.intro hc hb)
  have HGD := As.mk hgood
  have HER := As.mk her
  have hnp : 0 < s.np := by have := h.ok.p; unfold St.np; omega
  have dK2 : ((s.more.ev.getD noEv).kind == 2) = false := beq_eq_false_iff_ne.2 hka.2
  have dK1 : ((s.more.ev.getD noEv).kind == 1) = false := beq_eq_false_iff_ne.2 hka.1
  have HNP := As.mk hnp
  clear hops hk hsg hnn h hc hb hka hcalm hgood her hnp
  go_enter Tryz.func58, Tryz.ntmps58
  go_wp2_with fail
  ((with_reducible refine (HB.out).mono ?_); rintro e w1 ⟨ptr, v, rfl, hn1, hf1, hok, _⟩)
  obtain ⟨rfl, LA, ln, lc, rfl, _⟩ := hok (by first | rfl | trivial)
  generalize (s.start c).1 = s1 at *
  generalize (s.more.ev.getD noEv).op = O_ at *
  generalize (s.more.ev.getD noEv).kind = K at *
  generalize (s.more.ev.getD noEv).chip = H at *
  have hfx := (Fr.refl None_ w1).alloc (.cells #[.int .i64 O_, .int .i64 K, .int .i64 H, .slice LA ln lc] 50)
  have HE2 := As.mk (heap_alloc_new w1 (.cells #[.int .i64 O_, .int .i64 K, .int .i64 H, .slice LA ln lc] 50))
  have HN2 := As.mk (hn1.none_ hfx)
  have HF2 := As.mk (hf1.after hfx (fun _ _ h => h.elim))
  clear hn1 hf1 hok HB hfx
  go_upto_if 19 with fail
  generalize w1.alloc (.cells #[.int .i64 O_, .int .i64 K, .int .i64 H, .slice LA ln lc] 50) = w2 at *
  generalize w1.heap.size = eb at *
  have e1 := cell_is (i := 1) HE2.out rfl
  try dsimp only at e1
  have h1c : c < s1.n := by rw [HSG.out.2.1]; exact HQ.out.1
  have h1b : b < s1.nb := by rw [HSG.out.2.2.1]; exact HQ.out.2
  have H1 := As.mk (And.intro h1c h1b)
  obtain ⟨bs, hbs, hbb⟩ := HN2.out.chp c h1c
  have hb4 := hbb b h1b
  rw [HSG.out.1.2.1] at hb4
  have kp := cell_is hbs hb4.1
  have kb := cell_is hbs hb4.2.2.2
  rw [HSG.out.2.2.2] at kp
  rw [HGD.out] at kb
  obtain ⟨ps, hps, hpz, _⟩ := HN2.out.pgs c b h1c h1b
  have hcl := fun ty => run_clear_pages w2 ty (L.P c b) s.np s.np HNP.out (fun j hj => by rw [cell_is (v := ps[j]'(by rw [hpz, HSG.out.2.2.2]; omega)) hps (Array.getElem?_eq_getElem _)]; rfl) (fun j hj => free_of hps)
  have hcp := clearPages HN2.out c b h1c h1b
  rw [HSG.out.2.2.2] at hcp
  have HCP := As.mk hcp
  have HFC := As.mk (HF2.out.after (fr_setCells (L.P c b) (List.replicate (s.np * 2) (.slice none 0 0)) 0 w2) (fun _ _ e => .inr (.inr (.inr (.inr ⟨c, b, HQ.out.1, HQ.out.2, e⟩)))))
  clear hbs hbb hb4 hps hpz hcp h1c h1b
  go_upto_region 20 with fail
  generalize w2.setCells (L.P c b) 0 (List.replicate (s.np * 2) (.slice none 0 0)) = w3 at *
  obtain ⟨bs2, hb2, hbb2⟩ := HCP.out.chp c H1.out.1
  have hb5 := hbb2 b H1.out.2
  rw [setB_at] at hb5
  have kn := cell_is hb2 hb5.2.1
  have ke := cell_is hb2 hb5.2.2.1
  have kf := free_of (i := b * 4 + 1) hb2
  have kf2 := free_of (i := b * 4 + 2) hb2
  change w3.cell? ⟨L.B c, b * 4 + 2, none⟩ = some (.int .i64 (s1.blk c b).er) at ke
  rw [HSG.out.1.2.1] at ke
  have her := HER.out
  clear hb2 hbb2 hb5 kp kb e1 hcl
  go_wp2_with fail
  go_ret
  have t1 := setNext HCP.out c b H1.out.1 H1.out.2 0
  rw [setB_twice, setB_at] at t1
  have t2 := setEr t1 c b H1.out.1 H1.out.2 ((s.blk c b).er + 1)
  rw [setB_twice, setB_at] at t2
  have hfn := (HFC.out.after (fr_set1 (w' := w3) (b := L.B c) (i := b * 4 + 1) (.int .i64 0)) (fun _ _ e => .inr (.inr (.inr (.inl ⟨c, HQ.out.1, e⟩))))).after (fr_set1 (b := L.B c) (i := b * 4 + 2) (.int .i64 ((s.blk c b).er + 1))) (fun _ _ e => .inr (.inr (.inr (.inl ⟨c, HQ.out.1, e⟩))))
  refine HOk.out _ _ rfl ?_ hfn
  rw [HSG.out.1.2.1] at t2
  exact t2
theorem Erase_calls (p : Nat) (s : St) (L : Lay) (c b : Nat) (w : World) (h : Nand w p s L) (hc : c < s.n) (hb : b < s.nb) (hops : 0 ≤ s.ops ∧ s.ops < 4611686018427387904)
    (hcalm : s.Calm) (hgood : (s.blk c b).bad = false) (her : 0 ≤ (s.blk c b).er ∧ (s.blk c b).er < 4611686018427387904) :
    Calls Tryz.prog 58 #[.pointer (some ⟨p, 0, none⟩), .int .i64 (c : Int), .int .i64 (b : Int)] w (ErasePost p s L c b w) := by
  by_cases hk : (s.start c).2 = 0
  · exact Erase_ok p s L c b w h hc hb hops hk hcalm hgood her
  · exact Erase_not p s L c b w h hc hb hops hk

set_option maxHeartbeats 2000000 in
set_option maxRecDepth 100000 in
theorem Kill_calls (p : Nat) (s : St) (L : Lay) (k : Nat) (w : World) (h : Nand w p s L) (hk : k < s.n) :
    Calls Tryz.prog 20 #[.pointer (some ⟨p, 0, none⟩), .int .i64 (k : Int)] w fun e w' => e = .returned (.tuple #[]) ∧ Nand w' p (s.kill k) L ∧ Fr (NF p L s.n s.nb) w w' := by
  have HN := As.mk h
  have m5 := cell_is (i := 5) h.main rfl
  try dsimp only at m5
  obtain ⟨ds, hd, hds⟩ := h.ded
  have dk := cell_is hd (hds k hk)
  have fk := free_of (i := k) hd
  have hkt : Int.toNat (k : Int) = k := by omega
  have hkI : (k : Int) < (s.n : Int) := by omega
  have d0 : decide (0 ≤ (k : Int)) = true := decide_eq_true (by omega)
  have d1 : decide ((k : Int) < (s.n : Int)) = true := decide_eq_true (by omega)
  have HK := As.mk hk
  clear hd hds h hk
  go_enter Tryz.func20, Tryz.ntmps20
  go_wp2_with fail
  have hsf := fr_set1 (w' := w) (b := L.D) (i := k) (.bool true)
  have hfin := HN.out.setDead k true HK.out hsf (fun cs h => heap_set h k _)
  go_end0
  exact ⟨rfl, hfin, (Fr.refl (NF p L s.n s.nb) w).after hsf (fun _ _ e => .inr (.inr (.inl e)))⟩
set_option maxHeartbeats 2000000 in
set_option maxRecDepth 100000 in
theorem Dead_calls (p : Nat) (s : St) (L : Lay) (k : Nat) (w : World) (h : Nand w p s L) (hk : k < s.n) :
    Calls Tryz.prog 74 #[.pointer (some ⟨p, 0, none⟩), .int .i64 (k : Int)] w fun e w' => e = .returned (.bool (s.dead k)) ∧ Fr None_ w w' := by
  have m5 := cell_is (i := 5) h.main rfl
  try dsimp only at m5
  obtain ⟨ds, hd, hds⟩ := h.ded
  have dk := cell_is hd (hds k hk)
  have hkt : Int.toNat (k : Int) = k := by omega
  have hkI : (k : Int) < (s.n : Int) := by omega
  have d0 : decide ((k : Int) < 0) = false := decide_eq_false (by omega)
  have d1 : decide ((s.n : Int) ≤ (k : Int)) = false := decide_eq_false (by omega)
  have d2 : decide (s.n ≤ k) = false := decide_eq_false (by omega)
  generalize s.dead k = v at *
  clear hd hds h hk
  go_enter Tryz.func74, Tryz.ntmps74
  go_wp2_with fail
  go_ret
  exact ⟨by simp, Fr.refl _ _⟩
end Go.Proofs.YteofgpaceeibpaaGreat.NandE

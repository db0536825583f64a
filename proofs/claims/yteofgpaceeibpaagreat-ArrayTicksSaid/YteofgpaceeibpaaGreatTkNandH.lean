/- nand: Erase, where nothing fails and the power stays; Kill, Dead. | nand: Program, in order or not; how much is left to do. -/
import Derived.Test.YteofgpaceeibpaaGreatTkNandD
import Derived.Lib.SliceRun
namespace Go.Proofs.YteofgpaceeibpaaGreat.NandE
open Go.RowKit Gab Wr Geom Ref Heap Nand NandA NandB NandC NandD
set_option linter.unusedVariables false
set_option linter.unusedSimpArgs false

theorem fr_setCells (b : Nat) : ∀ (l : List Value) (o : Nat) (w : World), Fr (fun j => j = b) w (w.setCells b o l)
  | [], _, w => Fr.refl _ w
  | v :: l, o, w => (fr_set1 (w' := w) (b := b) (i := o) v).after (fr_setCells b l (o + 1) _) (fun _ _ h => h)
theorem heap_setCells (b : Nat) {T : TypeId} {f : Nat × Nat} : ∀ (l : List Value) (o : Nat) (w : World) (cs : Array Value), w.heap[b]? = some (.cells cs T f) →
    ∃ cs', (w.setCells b o l).heap[b]? = some (.cells cs' T f) ∧ cs'.size = cs.size ∧ (∀ j, j < l.length → o + j < cs.size → cs'[o + j]? = l[j]?) ∧ ∀ j, j < o → cs'[j]? = cs[j]?
  | [], o, w, cs, h => ⟨cs, h, rfl, fun j hj => absurd hj (Nat.not_lt_zero _), fun _ _ => rfl⟩
  | v :: l, o, w, cs, h => by
    obtain ⟨cs', h1, h2, h3, h4⟩ := heap_setCells b l (o + 1) _ _ (heap_set h o v)
    refine ⟨cs', h1, by simpa using h2, fun j hj hs => ?_, fun j hj => ?_⟩
    · cases j with
      | zero =>
        rw [Nat.add_zero, h4 o (by omega), Array.getElem?_setIfInBounds_self_of_lt (by omega)]
        rfl
      | succ j =>
        have := h3 j (by simpa using hj) (by simp; omega)
        rw [show o + (j + 1) = o + 1 + j by omega, this]
        rfl
    · rw [h4 j (by omega), Array.getElem?_setIfInBounds_ne (by omega)]
theorem zero_page (w : World) : (zeroValue 176).run Tryz.prog w = .ok (.agg #[.slice none 0 0, .slice none 0 0]) w := by kernel_rfl
theorem run_clear_pages (w : World) (ty : TypeId) (b n c : Nat) (hn : 0 < n) (hc : ∀ j, j < n * 2 → (w.cell? ⟨b, j, none⟩).isSome = true) (hf : ∀ j, j < n * 2 → w.frozen? ⟨b, j, none⟩ = false) :
    (Builtin.clear_ #[87] ty #[.slice (some ⟨b, 0, none⟩) n c]).run Tryz.prog w = .ok (.tuple #[]) (w.setCells b 0 (List.replicate (n * 2) (.slice none 0 0))) := by
  have hzc : (Builtin.zeroCells #[Value.slice none 0 0, Value.slice none 0 0] n).toList = List.replicate (n * 2) (.slice none 0 0) := by
    apply List.ext_getElem
    · simp [Builtin.zeroCells]
    · intro i h1 h2
      simp only [Builtin.zeroCells, Array.toList_map, List.getElem_map, Array.toList_range, List.getElem_range, List.getElem_replicate]
      have : i % 2 = 0 ∨ i % 2 = 1 := by omega
      rcases this with e | e <;> simp [e]
  have hst := run_storeCells_cells (P := Tryz.prog) b 0 (List.replicate (n * 2) (.slice none 0 0)) 0 w (by simpa using hc) (by simpa using hf) (by intro v hv'; rw [List.eq_of_mem_replicate hv']; rfl)
  simp only [Nat.add_zero] at hst
  obtain ⟨m, rfl⟩ : ∃ m, n = m + 1 := ⟨n - 1, by omega⟩
  simp [Builtin.clear_, run_underlying Tryz.underlying87, zero_page, Value.cells, hzc, hst]
/-- A block is erased (good, nothing fails): the chips behind it, and the error. -/
def _root_.Go.Proofs.YteofgpaceeibpaaGreat.Nand.St.erase (s : St) (c b : Nat) : St × Int :=
  if (s.start c).2 = 0 then ((s.start c).1.setB c b ⟨fun _ => none, 0, (s.blk c b).er + 1, (s.blk c b).bad⟩, 0) else s.start c
def ErasePost (p : Nat) (s : St) (L : Lay) (c b : Nat) (w : World) (e : Ending) (w' : World) : Prop :=
  e = .returned (.int .i64 (s.erase c b).2) ∧ Nand w' p (s.erase c b).1 L ∧ Fr (NF p L s.n s.nb) w w'
theorem clearPages {w : World} {p : Nat} {s : St} {L : Lay} (h : Nand w p s L) (c k : Nat) (hc : c < s.n) (hk : k < s.nb) :
    Nand (w.setCells (L.P c k) 0 (List.replicate (s.np * 2) (.slice none 0 0))) p (s.setB c k { s.blk c k with pg := fun _ => none }) L := by
  obtain ⟨ps, hp, hz, _⟩ := h.pgs c k hc hk
  obtain ⟨cs', h1, h2, h3, _⟩ := heap_setCells (L.P c k) (List.replicate (s.np * 2) (.slice none 0 0)) 0 w ps hp
  refine h.setPs c k hc hk _ (fr_setCells _ _ _ _) ⟨cs', h1, by omega, fun q hq => ⟨.slice none 0 0, .slice none 0 0, ?_, ?_, rfl, rfl⟩⟩
  · have := h3 (q * 2) (by simp; omega) (by omega)
    rw [Nat.zero_add] at this
    rw [this, List.getElem?_replicate, if_pos (by omega)]
  · have := h3 (q * 2 + 1) (by simp; omega) (by omega)
    rw [Nat.zero_add] at this
    rw [this, List.getElem?_replicate, if_pos (by omega)]

set_option maxHeartbeats 8000000 in
set_option maxRecDepth 100000 in
theorem Erase_not (p : Nat) (s : St) (L : Lay) (c b : Nat) (w : World) (h : Nand w p s L) (hc : c < s.n) (hb : b < s.nb) (hops : 0 ≤ s.ops ∧ s.ops < 4611686018427387904) (hk : (s.start c).2 ≠ 0) :
    Calls Tryz.prog 58 #[.pointer (some ⟨p, 0, none⟩), .int .i64 (c : Int), .int .i64 (b : Int)] w (ErasePost p s L c b w) := by
  have HB := As.mk (begin_calls p s L c b w h hc hb hops)
  have hr : s.erase c b = s.start c := by unfold St.erase; rw [if_neg hk]
  have HPost := As.mk (show ∀ (e : Ending) (w' : World), e = .returned (.int .i64 (s.start c).2) → Nand w' p (s.start c).1 L → Fr (NF p L s.n s.nb) w w' → ErasePost p s L c b w e w' from fun e w' h1 h2 h3 => ⟨by rw [hr]; exact h1, by rw [hr]; exact h2, h3⟩)
  have HK := As.mk hk
  have dk : ((s.start c).2 != 0) = true := by rw [bne_iff_ne]; exact hk
  unfold BeginPost at HB
  generalize (s.start c).2 = k at *
  clear h hops hk hr hc hb
  go_enter Tryz.func58, Tryz.ntmps58
  go_wp2_with fail
  ((with_reducible refine (HB.out).mono ?_); rintro e w1 ⟨ptr, v, rfl, hn1, hf1, _, hbad⟩)
  obtain ⟨rfl, rfl⟩ := hbad HK.out
  have HN2 := As.mk (hn1.none_ ((Fr.refl None_ w1).alloc (.cells #[.int .i64 0, .int .i64 0, .int .i64 0, .slice none 0 0] 50)))
  have HF2 := As.mk (hf1.alloc (.cells #[.int .i64 0, .int .i64 0, .int .i64 0, .slice none 0 0] 50))
  clear hn1 hf1 hbad
  go_wp2_with fail
  go_ret
  exact HPost.out _ _ rfl HN2.out HF2.out

set_option maxHeartbeats 8000000 in
set_option maxRecDepth 100000 in
theorem Erase_ok (p : Nat) (s : St) (L : Lay) (c b : Nat) (w : World) (h : Nand w p s L) (hc : c < s.n) (hb : b < s.nb) (hops : 0 ≤ s.ops ∧ s.ops < 4611686018427387904) (hk : (s.start c).2 = 0)
    (hcalm : s.Calm) (hgood : (s.blk c b).bad = false) (her : 0 ≤ (s.blk c b).er ∧ (s.blk c b).er < 4611686018427387904) :
    Calls Tryz.prog 58 #[.pointer (some ⟨p, 0, none⟩), .int .i64 (c : Int), .int .i64 (b : Int)] w (ErasePost p s L c b w) := by
  have HB := As.mk (begin_calls p s L c b w h hc hb hops)
  have hsg := start_g s c
  have hnn := n_same hsg.1
  have HSG := As.mk (And.intro hsg hnn)
  have hka := calm_now hcalm
  have HOk := As.mk (show ∀ (e : Ending) (w' : World), e = .returned (.int .i64 0) → Nand w' p ((s.start c).1.setB c b ⟨fun _ => none, 0, (s.blk c b).er + 1, (s.blk c b).bad⟩) L → Fr (NF p L s.n s.nb) w w' → ErasePost p s L c b w e w' from fun e w' h1 h2 h3 => by
    have hr : s.erase c b = ((s.start c).1.setB c b ⟨fun _ => none, 0, (s.blk c b).er + 1, (s.blk c b).bad⟩, 0) := by unfold St.erase; rw [if_pos hk]
    exact ⟨by rw [hr]; exact h1, by rw [hr]; exact h2, h3⟩)
  unfold BeginPost at HB
  rw [hk] at HB
  have HQ := As.mk (And.intro hc hb)
  have HGD := As.mk hgood
  have HER := As.mk her
  have hnp : 0 < s.np := by have := h.ok.p; unfold St.np; omega
  have dK2 : ((s.more.ev.getD noEv).kind == 2) = false := beq_eq_false_iff_ne.2 hka.2
  have dK1 : ((s.more.ev.getD noEv).kind == 1) = false := beq_eq_false_iff_ne.2 hka.1
  have HNP := As.mk hnp
  clear hops hk hsg hnn h hc hb hka hcalm hgood her hnp
  go_enter Tryz.func58, Tryz.ntmps58
  go_wp2_with fail
  ((with_reducible refine (HB.out).mono ?_); rintro e w1 ⟨ptr, v, rfl, hn1, hf1, hok, _⟩)
  obtain ⟨rfl, LA, ln, lc, rfl, _⟩ := hok (by first | rfl | trivial)
  generalize (s.start c).1 = s1 at *
  generalize (s.more.ev.getD noEv).op = O_ at *
  generalize (s.more.ev.getD noEv).kind = K at *
  generalize (s.more.ev.getD noEv).chip = H at *
  have hfx := (Fr.refl None_ w1).alloc (.cells #[.int .i64 O_, .int .i64 K, .int .i64 H, .slice LA ln lc] 50)
  have HE2 := As.mk (heap_alloc_new w1 (.cells #[.int .i64 O_, .int .i64 K, .int .i64 H, .slice LA ln lc] 50))
  have HN2 := As.mk (hn1.none_ hfx)
  have HF2 := As.mk (hf1.after hfx (fun _ _ h => h.elim))
  clear hn1 hf1 hok HB hfx
  go_upto_if 19 with fail
  generalize w1.alloc (.cells #[.int .i64 O_, .int .i64 K, .int .i64 H, .slice LA ln lc] 50) = w2 at *
  generalize w1.heap.size = eb at *
  have e1 := cell_is (i := 1) HE2.out rfl
  try dsimp only at e1
  have h1c : c < s1.n := by rw [HSG.out.2.1]; exact HQ.out.1
  have h1b : b < s1.nb := by rw [HSG.out.2.2.1]; exact HQ.out.2
  have H1 := As.mk (And.intro h1c h1b)
  obtain ⟨bs, hbs, hbb⟩ := HN2.out.chp c h1c
  have hb4 := hbb b h1b
  rw [HSG.out.1.2.1] at hb4
  have kp := cell_is hbs hb4.1
  have kb := cell_is hbs hb4.2.2.2
  rw [HSG.out.2.2.2] at kp
  rw [HGD.out] at kb
  obtain ⟨ps, hps, hpz, _⟩ := HN2.out.pgs c b h1c h1b
  have hcl := fun ty => run_clear_pages w2 ty (L.P c b) s.np s.np HNP.out (fun j hj => by rw [cell_is (v := ps[j]'(by rw [hpz, HSG.out.2.2.2]; omega)) hps (Array.getElem?_eq_getElem _)]; rfl) (fun j hj => free_of hps)
  have hcp := clearPages HN2.out c b h1c h1b
  rw [HSG.out.2.2.2] at hcp
  have HCP := As.mk hcp
  have HFC := As.mk (HF2.out.after (fr_setCells (L.P c b) (List.replicate (s.np * 2) (.slice none 0 0)) 0 w2) (fun _ _ e => .inr (.inr (.inr (.inr ⟨c, b, HQ.out.1, HQ.out.2, e⟩)))))
  clear hbs hbb hb4 hps hpz hcp h1c h1b
  go_upto_region 20 with fail
  generalize w2.setCells (L.P c b) 0 (List.replicate (s.np * 2) (.slice none 0 0)) = w3 at *
  obtain ⟨bs2, hb2, hbb2⟩ := HCP.out.chp c H1.out.1
  have hb5 := hbb2 b H1.out.2
  rw [setB_at] at hb5
  have kn := cell_is hb2 hb5.2.1
  have ke := cell_is hb2 hb5.2.2.1
  have kf := free_of (i := b * 4 + 1) hb2
  have kf2 := free_of (i := b * 4 + 2) hb2
  change w3.cell? ⟨L.B c, b * 4 + 2, none⟩ = some (.int .i64 (s1.blk c b).er) at ke
  rw [HSG.out.1.2.1] at ke
  have her := HER.out
  clear hb2 hbb2 hb5 kp kb e1 hcl
  go_wp2_with fail
  go_ret
  have t1 := setNext HCP.out c b H1.out.1 H1.out.2 0
  rw [setB_twice, setB_at] at t1
  have t2 := setEr t1 c b H1.out.1 H1.out.2 ((s.blk c b).er + 1)
  rw [setB_twice, setB_at] at t2
  have hfn := (HFC.out.after (fr_set1 (w' := w3) (b := L.B c) (i := b * 4 + 1) (.int .i64 0)) (fun _ _ e => .inr (.inr (.inr (.inl ⟨c, HQ.out.1, e⟩))))).after (fr_set1 (b := L.B c) (i := b * 4 + 2) (.int .i64 ((s.blk c b).er + 1))) (fun _ _ e => .inr (.inr (.inr (.inl ⟨c, HQ.out.1, e⟩))))
  refine HOk.out _ _ rfl ?_ hfn
  rw [HSG.out.1.2.1] at t2
  exact t2
theorem Erase_calls (p : Nat) (s : St) (L : Lay) (c b : Nat) (w : World) (h : Nand w p s L) (hc : c < s.n) (hb : b < s.nb) (hops : 0 ≤ s.ops ∧ s.ops < 4611686018427387904)
    (hcalm : s.Calm) (hgood : (s.blk c b).bad = false) (her : 0 ≤ (s.blk c b).er ∧ (s.blk c b).er < 4611686018427387904) :
    Calls Tryz.prog 58 #[.pointer (some ⟨p, 0, none⟩), .int .i64 (c : Int), .int .i64 (b : Int)] w (ErasePost p s L c b w) := by
  by_cases hk : (s.start c).2 = 0
  · exact Erase_ok p s L c b w h hc hb hops hk hcalm hgood her
  · exact Erase_not p s L c b w h hc hb hops hk

set_option maxHeartbeats 2000000 in
set_option maxRecDepth 100000 in
theorem Kill_calls (p : Nat) (s : St) (L : Lay) (k : Nat) (w : World) (h : Nand w p s L) (hk : k < s.n) :
    Calls Tryz.prog 20 #[.pointer (some ⟨p, 0, none⟩), .int .i64 (k : Int)] w fun e w' => e = .returned (.tuple #[]) ∧ Nand w' p (s.kill k) L ∧ Fr (NF p L s.n s.nb) w w' := by
  have HN := As.mk h
  have m5 := cell_is (i := 5) h.main rfl
  try dsimp only at m5
  obtain ⟨ds, hd, hds⟩ := h.ded
  have dk := cell_is hd (hds k hk)
  have fk := free_of (i := k) hd
  have hkt : Int.toNat (k : Int) = k := by omega
  have hkI : (k : Int) < (s.n : Int) := by omega
  have d0 : decide (0 ≤ (k : Int)) = true := decide_eq_true (by omega)
  have d1 : decide ((k : Int) < (s.n : Int)) = true := decide_eq_true (by omega)
  have HK := As.mk hk
  clear hd hds h hk
  go_enter Tryz.func20, Tryz.ntmps20
  go_wp2_with fail
  have hsf := fr_set1 (w' := w) (b := L.D) (i := k) (.bool true)
  have hfin := HN.out.setDead k true HK.out hsf (fun cs h => heap_set h k _)
  go_end0
  exact ⟨rfl, hfin, (Fr.refl (NF p L s.n s.nb) w).after hsf (fun _ _ e => .inr (.inr (.inl e)))⟩
end Go.Proofs.YteofgpaceeibpaaGreat.NandE
namespace Go.Proofs.YteofgpaceeibpaaGreat.NandH
open Go.RowKit Gab Wr Geom Ref Heap Nand NandA NandB NandC NandD NandE
set_option linter.unusedVariables false
set_option linter.unusedSimpArgs false

def OrdPost (p : Nat) (s : St) (L : Lay) (c : Nat) (w : World) (e : Ending) (w' : World) : Prop := e = .returned (.int .i64 73) ∧ Nand w' p (s.start c).1 L ∧ Fr (NF p L s.n s.nb) w w'

set_option maxHeartbeats 8000000 in
set_option maxRecDepth 100000 in
theorem Program_order (p : Nat) (s : St) (L : Lay) (c b q : Nat) (D O : Option Addr) (nd cd no co : Nat) (d o : List Int) (w : World) (h : Nand w p s L) (hc : c < s.n) (hb : b < s.nb) (hq : q < s.np) (hops : 0 ≤ s.ops ∧ s.ops < 4611686018427387904) (hk : (s.start c).2 = 0)
    (hcalm : s.Calm) (hgood : (s.blk c b).bad = false) (hnext : (s.blk c b).next ≠ (q : Int)) (hD : RdN w (NF p L s.n s.nb) D nd d) (hO : RdN w (NF p L s.n s.nb) O no o) (hnd : (nd : Int) = s.g.s) (hno : no = 64) (hrd : InR 256 d) (hro : InR 256 o) :
    Calls Tryz.prog 101 #[.pointer (some ⟨p, 0, none⟩), .int .i64 (c : Int), .int .i64 (b : Int), .int .i64 (q : Int), .slice D nd cd, .slice O no co] w (OrdPost p s L c w) := by
  have HB := As.mk (begin_calls p s L c b w h hc hb hops)
  have H0 := As.mk h
  have hsg := start_g s c
  have hnn := n_same hsg.1
  have HSG := As.mk (And.intro hsg hnn)
  have hka := calm_now hcalm
  have HOk := As.mk (show ∀ (e : Ending) (w' : World), e = .returned (.int .i64 73) → Nand w' p (s.start c).1 L → Fr (NF p L s.n s.nb) w w' → OrdPost p s L c w e w' from fun e w' h1 h2 h3 => ⟨h1, h2, h3⟩)
  unfold BeginPost at HB
  rw [hk] at HB
  have HQ := As.mk (And.intro hc (And.intro hb hq))
  have HDO := As.mk (show nd ≤ 1000000 ∧ no = 64 ∧ d.length = nd ∧ o.length = no ∧ 0 < nd from ⟨by have := h.ok.s; omega, hno, hD.1.1, hO.1.1, by have := h.ok.s; omega⟩)
  have HD := As.mk hD
  have HO := As.mk hO
  have HRR := As.mk (And.intro hrd hro)
  have HGN := As.mk hgood
  have dnx : ((q : Int) != (s.blk c b).next) = true := by rw [bne_iff_ne]; exact fun e => hnext e.symm
  have hgs := h.ok.s
  have dK2 : ((s.more.ev.getD noEv).kind == 2) = false := beq_eq_false_iff_ne.2 hka.2
  have dK1 : ((s.more.ev.getD noEv).kind == 1) = false := beq_eq_false_iff_ne.2 hka.1
  have hqp : (q : Int) < s.g.p := by have := h.ok.p; have h2 := hq; unfold St.np at h2; omega
  have hpp : s.g.p ≤ 32 := h.ok.p.2
  have dq0 : decide ((q : Int) < 0) = false := decide_eq_false (by omega)
  have dq1 : decide (s.g.p ≤ (q : Int)) = false := decide_eq_false (by omega)
  have dn1 : ((nd : Int) != s.g.s) = false := by rw [hnd]; simp
  have dn2 : ((no : Int) != 64) = false := by rw [hno]; rfl
  clear hops hk hsg hnn h hc hb hka hcalm hgood hnext hD hO hnd hno hrd hro hgs
  go_enter Tryz.func101, Tryz.ntmps101
  go_wp2_with fail
  ((with_reducible refine (HB.out).mono ?_); rintro e w1 ⟨ptr, v, rfl, hn1, hf1, hok, _⟩)
  obtain ⟨rfl, LA, ln, lc, rfl, _⟩ := hok (by first | rfl | trivial)
  generalize (s.start c).1 = s1 at *
  generalize (s.more.ev.getD noEv).op = O_ at *
  generalize (s.more.ev.getD noEv).kind = K at *
  generalize (s.more.ev.getD noEv).chip = H at *
  have hfx := (Fr.refl None_ w1).alloc (.cells #[.int .i64 O_, .int .i64 K, .int .i64 H, .slice LA ln lc] 50)
  have HE2 := As.mk (heap_alloc_new w1 (.cells #[.int .i64 O_, .int .i64 K, .int .i64 H, .slice LA ln lc] 50))
  have HN2 := As.mk (hn1.none_ hfx)
  have HF2 := As.mk (hf1.after hfx (fun _ _ h => h.elim))
  clear hn1 hf1 hok HB hfx
  go_upto_if 24 with fail
  generalize w1.alloc (.cells #[.int .i64 O_, .int .i64 K, .int .i64 H, .slice LA ln lc] 50) = w2 at *
  generalize w1.heap.size = eb at *
  have e1 := cell_is (i := 1) HE2.out rfl
  try dsimp only at e1
  have m2 := cell_is (i := 2) HN2.out.main rfl
  have m3 := cell_is (i := 3) HN2.out.main rfl
  try dsimp only at m2 m3
  change w2.cell? ⟨p, 2, none⟩ = some (.int .i64 s1.g.p) at m2
  change w2.cell? ⟨p, 3, none⟩ = some (.int .i64 s1.g.s) at m3
  rw [HSG.out.1.1] at m2 m3
  obtain ⟨bs, hbs, hbb⟩ := HN2.out.chp c (by rw [HSG.out.2.1]; exact HQ.out.1)
  have hb4 := hbb b (by rw [HSG.out.2.2.1]; exact HQ.out.2.1)
  rw [HSG.out.1.2.1] at hb4
  have kp := cell_is hbs hb4.1
  have kn := cell_is hbs hb4.2.1
  have kb := cell_is hbs hb4.2.2.2
  rw [HSG.out.2.2.2] at kp
  rw [HGN.out] at kb
  have hqt : Int.toNat (q : Int) = q := by omega
  have hqn : (q : Int) < (s.np : Int) := by omega
  clear hbs hbb hb4
  go_wp2_with fail
  go_ret
  exact HOk.out _ _ rfl HN2.out HF2.out

/-- A page is programmed (in a good block, nothing fails): the chips behind it, and the error. -/
def _root_.Go.Proofs.YteofgpaceeibpaaGreat.Nand.St.prog (s : St) (c b q : Nat) (d o : List Int) : St × Int :=
  if (s.start c).2 = 0 then (if (s.blk c b).next = (q : Int) then s.program c b q d o else ((s.start c).1, 73)) else s.start c
/-- Nothing fails or takes the power, no block is bad, and n operations more may come. -/
structure _root_.Go.Proofs.YteofgpaceeibpaaGreat.Nand.St.Safe (s : St) (n : Nat) : Prop where
  calm : s.Calm
  good : ∀ c b, (s.blk c b).bad = false
  ops : 0 ≤ s.ops ∧ s.ops + n ≤ 4611686018427387904
  er : ∀ c b, 0 ≤ (s.blk c b).er ∧ (s.blk c b).er + n ≤ 4611686018427387904
theorem _root_.Go.Proofs.YteofgpaceeibpaaGreat.Nand.St.Safe.le {s : St} {n m : Nat} (h : s.Safe n) (hm : m ≤ n) : s.Safe m := ⟨h.calm, h.good, ⟨h.ops.1, by have := h.ops.2; omega⟩, fun c b => ⟨(h.er c b).1, by have := (h.er c b).2; omega⟩⟩
def PPost (p : Nat) (s : St) (L : Lay) (c b q : Nat) (d o : List Int) (w : World) (e : Ending) (w' : World) : Prop :=
  e = .returned (.int .i64 (s.prog c b q d o).2) ∧ Nand w' p (s.prog c b q d o).1 L ∧ Fr (NF p L s.n s.nb) w w'
theorem Prog_calls (p : Nat) (s : St) (L : Lay) (c b q : Nat) (D O : Option Addr) (nd cd no co : Nat) (d o : List Int) (w : World) (h : Nand w p s L) (hc : c < s.n) (hb : b < s.nb) (hq : q < s.np) (n : Nat) (hs : s.Safe (n + 1))
    (hD : RdN w (NF p L s.n s.nb) D nd d) (hO : RdN w (NF p L s.n s.nb) O no o) (hnd : (nd : Int) = s.g.s) (hno : no = 64) (hrd : InR 256 d) (hro : InR 256 o) :
    Calls Tryz.prog 101 #[.pointer (some ⟨p, 0, none⟩), .int .i64 (c : Int), .int .i64 (b : Int), .int .i64 (q : Int), .slice D nd cd, .slice O no co] w (PPost p s L c b q d o w) := by
  have hops : 0 ≤ s.ops ∧ s.ops < 4611686018427387904 := ⟨hs.ops.1, by have := hs.ops.2; omega⟩
  by_cases hk : (s.start c).2 = 0
  · by_cases hx : (s.blk c b).next = (q : Int)
    · have hr : s.prog c b q d o = s.program c b q d o := by unfold St.prog; rw [if_pos hk, if_pos hx]
      unfold PPost
      rw [hr]
      exact Program_calls p s L c b q D O nd cd no co d o w h hc hb hq hops hs.calm (hs.good c b) hx hD hO hnd hno hrd hro
    · have hr : s.prog c b q d o = ((s.start c).1, 73) := by unfold St.prog; rw [if_pos hk, if_neg hx]
      unfold PPost
      rw [hr]
      exact Program_order p s L c b q D O nd cd no co d o w h hc hb hq hops hk hs.calm (hs.good c b) hx hD hO hnd hno hrd hro
  · have hr : s.prog c b q d o = s.program c b q d o := by unfold St.prog St.program; rw [if_neg hk, if_neg hk]
    unfold PPost
    rw [hr]
    exact Program_not p s L c b q D O nd cd no co d o w h hc hb hops hk
theorem Eras_calls (p : Nat) (s : St) (L : Lay) (c b : Nat) (w : World) (h : Nand w p s L) (hc : c < s.n) (hb : b < s.nb) (n : Nat) (hs : s.Safe (n + 1)) :
    Calls Tryz.prog 58 #[.pointer (some ⟨p, 0, none⟩), .int .i64 (c : Int), .int .i64 (b : Int)] w (ErasePost p s L c b w) :=
  Erase_calls p s L c b w h hc hb ⟨hs.ops.1, by have := hs.ops.2; omega⟩ hs.calm (hs.good c b) ⟨(hs.er c b).1, by have := (hs.er c b).2; omega⟩
theorem Rd_calls (p : Nat) (s : St) (L : Lay) (c b q : Nat) (w : World) (h : Nand w p s L) (hc : c < s.n) (hb : b < s.nb) (hq : q < s.np) (n : Nat) (hs : s.Safe (n + 1)) :
    Calls Tryz.prog 65 #[.pointer (some ⟨p, 0, none⟩), .int .i64 (c : Int), .int .i64 (b : Int), .int .i64 (q : Int)] w (ReadPost p s L c b q w) :=
  Read_calls p s L c b q w h hc hb hq ⟨hs.ops.1, by have := hs.ops.2; omega⟩
/-! ### what an operation leaves -/
/-- The same shape and events; and blocks whose numbers are hardly more. -/
theorem start_ops (s : St) (c : Nat) : s.ops ≤ (s.start c).1.ops ∧ (s.start c).1.ops ≤ s.ops + 1 := by
  have h := hit_g s.more s.more.ev
  have h2 : s.more.ops = s.ops + 1 := rfl
  unfold St.start
  split
  · exact ⟨Int.le_refl _, by show s.ops ≤ s.ops + 1; omega⟩
  · split
    · split
      · show s.ops ≤ (s.more.hit s.more.ev).ops ∧ (s.more.hit s.more.ev).ops ≤ _
        rw [h.2.2.2.1, h2]; omega
      · show s.ops ≤ (s.more.hit s.more.ev).ops ∧ (s.more.hit s.more.ev).ops ≤ _
        rw [h.2.2.2.1, h2]; omega
    · show s.ops ≤ (s.more.hit s.more.ev).ops ∧ (s.more.hit s.more.ev).ops ≤ _
      rw [h.2.2.2.1, h2]; omega
theorem _root_.Go.Proofs.YteofgpaceeibpaaGreat.Nand.St.Safe.start {s : St} {n : Nat} (h : s.Safe (n + 1)) (c : Nat) : (s.start c).1.Safe n := by
  have h1 := start_g s c
  have h2 := start_ops s c
  refine ⟨?_, ?_, ⟨by have := h.ops.1; omega, by have := h.ops.2; omega⟩, ?_⟩
  · unfold St.Calm; rw [h1.2.2]; exact h.calm
  · rw [h1.2.1]; exact h.good
  · rw [h1.2.1]; exact (h.le (Nat.le_succ n)).er
theorem _root_.Go.Proofs.YteofgpaceeibpaaGreat.Nand.St.Safe.setB {s : St} {n : Nat} (h : s.Safe n) (c b : Nat) (x : Blk) (h1 : x.bad = false) (h2 : 0 ≤ x.er ∧ x.er + n ≤ 4611686018427387904) : (s.setB c b x).Safe n := by
  refine ⟨h.calm, fun c' b' => ?_, h.ops, fun c' b' => ?_⟩
  · show (if c' = c ∧ b' = b then x else s.blk c' b').bad = false
    split
    · exact h1
    · exact h.good c' b'
  · show 0 ≤ (if c' = c ∧ b' = b then x else s.blk c' b').er ∧ (if c' = c ∧ b' = b then x else s.blk c' b').er + (n : Int) ≤ 4611686018427387904
    split
    · exact h2
    · exact h.er c' b'
theorem read_calm {s : St} (h : s.Calm) (c : Nat) : s.read c = s.start c := by
  unfold St.read
  have hb : s.bang = false := by unfold St.bang; exact decide_eq_false (calm_now h).2
  split
  · rw [hb, if_neg (by decide)]
  · rfl
theorem _root_.Go.Proofs.YteofgpaceeibpaaGreat.Nand.St.Safe.read {s : St} {n : Nat} (h : s.Safe (n + 1)) (c : Nat) : (s.read c).1.Safe n := by
  rw [read_calm h.calm]; exact h.start c
theorem _root_.Go.Proofs.YteofgpaceeibpaaGreat.Nand.St.Safe.prog {s : St} {n : Nat} (h : s.Safe (n + 1)) (c b q : Nat) (d o : List Int) : (s.prog c b q d o).1.Safe n := by
  unfold St.prog St.program
  split
  · split
    · exact (h.start c).setB c b _ (h.good c b) ⟨(h.er c b).1, by have := (h.er c b).2; show (s.blk c b).er + n ≤ _; omega⟩
    · exact h.start c
  · exact h.start c
theorem _root_.Go.Proofs.YteofgpaceeibpaaGreat.Nand.St.Safe.erase {s : St} {n : Nat} (h : s.Safe (n + 1)) (c b : Nat) : (s.erase c b).1.Safe n := by
  unfold St.erase
  split
  · exact (h.start c).setB c b _ (h.good c b) ⟨by have := (h.er c b).1; show 0 ≤ (s.blk c b).er + 1; omega, by have := (h.er c b).2; show (s.blk c b).er + 1 + n ≤ _; omega⟩
  · exact h.start c
theorem read_g (s : St) (c : Nat) : (s.read c).1.g = s.g ∧ (s.read c).1.blk = s.blk ∧ (s.read c).1.evs = s.evs := by
  unfold St.read
  split
  · split
    · exact start_g s c
    · exact start_g s c
  · exact start_g s c
theorem prog_g (s : St) (c b q : Nat) (d o : List Int) : (s.prog c b q d o).1.g = s.g ∧ (s.prog c b q d o).1.evs = s.evs := by
  have h := start_g s c
  unfold St.prog St.program
  split
  · split
    · exact ⟨h.1, h.2.2⟩
    · exact ⟨h.1, h.2.2⟩
  · exact ⟨h.1, h.2.2⟩
theorem erase_g (s : St) (c b : Nat) : (s.erase c b).1.g = s.g ∧ (s.erase c b).1.evs = s.evs := by
  have h := start_g s c
  unfold St.erase
  split
  · exact ⟨h.1, h.2.2⟩
  · exact ⟨h.1, h.2.2⟩
end Go.Proofs.YteofgpaceeibpaaGreat.NandH

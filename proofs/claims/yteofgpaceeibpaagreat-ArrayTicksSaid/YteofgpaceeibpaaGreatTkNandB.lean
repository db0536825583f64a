/- nand: begin. -/
import Derived.Test.YteofgpaceeibpaaGreatTkNandA
namespace Go.Proofs.YteofgpaceeibpaaGreat.NandB
open Go.RowKit Gab Wr Geom Ref Heap Nand NandA
set_option linter.unusedVariables false
set_option linter.unusedSimpArgs false

/-! ### what an operation begins with -/
/-- One operation more. -/
def _root_.Go.Proofs.YteofgpaceeibpaaGreat.Nand.St.more (s : St) : St := { s with ops := s.ops + 1, off := s.off }
/-- Does a chip die now? -/
def hits (n : Nat) (x : Option Ev) : Bool := x.isSome && (decide ((x.getD noEv).kind = 3) && (decide (0 ≤ (x.getD noEv).chip) && decide ((x.getD noEv).chip < (n : Int))))
def _root_.Go.Proofs.YteofgpaceeibpaaGreat.Nand.St.kill (s : St) (k : Nat) : St := { s with dead := fun c => if c = k then true else s.dead c }
def _root_.Go.Proofs.YteofgpaceeibpaaGreat.Nand.St.hit (s : St) (x : Option Ev) : St := if hits s.n x then s.kill (x.getD noEv).chip.toNat else s
def _root_.Go.Proofs.YteofgpaceeibpaaGreat.Nand.St.gone (s : St) : St := { s with ops := s.ops, off := true }
/-- Does the power go now? -/
def crash (x : Option Ev) : Bool := x.isSome && decide ((x.getD noEv).kind = 2)
/-- An operation on a chip begins: the chips behind it, and the error; 0: it goes on, with an event. -/
def _root_.Go.Proofs.YteofgpaceeibpaaGreat.Nand.St.start (s : St) (c : Nat) : St × Int :=
  if s.off then (s, 72) else
    if (s.more.hit s.more.ev).dead c then (if crash s.more.ev then ((s.more.hit s.more.ev).gone, 72) else (s.more.hit s.more.ev, 71))
    else (s.more.hit s.more.ev, 0)
theorem hit_g (s : St) (x : Option Ev) : (s.hit x).g = s.g ∧ (s.hit x).blk = s.blk ∧ (s.hit x).evs = s.evs ∧ (s.hit x).ops = s.ops ∧ (s.hit x).off = s.off := by
  unfold St.hit
  split <;> exact ⟨rfl, rfl, rfl, rfl, rfl⟩
theorem start_g (s : St) (c : Nat) : (s.start c).1.g = s.g ∧ (s.start c).1.blk = s.blk ∧ (s.start c).1.evs = s.evs := by
  have h := hit_g s.more s.more.ev
  unfold St.start
  split
  · exact ⟨rfl, rfl, rfl⟩
  · split
    · split
      · exact ⟨h.1, h.2.1, h.2.2.1⟩
      · exact ⟨h.1, h.2.1, h.2.2.1⟩
    · exact ⟨h.1, h.2.1, h.2.2.1⟩
theorem EvV.frame {w w' : World} {F : Nat → Prop} {v : Value} {x : Ev} (h : EvV w F v x) (hf : Fr F w w') : EvV w' F v x := by
  obtain ⟨LA, ln, lc, h1, h2, h3, h4, h5⟩ := h
  exact ⟨LA, ln, lc, h1, h2, h3.fr hf h5, h4, h5⟩
theorem rd_ne {w : World} {ad : Addr} {n b : Nat} {xs : List Int} {cs : Array Value} {T : TypeId} {f : Nat × Nat} (h : Rd .u8 w (some ad) n xs) (hn : 0 < n) (hb : w.heap[b]? = some (.cells cs T f)) (hu : ∀ (i : Nat) (z : Int), cs[i]? ≠ some (Value.int .u8 z)) : ad.block ≠ b := fun e => by
  obtain ⟨ad', ea, hc⟩ := h.2.2 hn
  injection ea with ea
  subst ea
  have hc0 := hc 0 hn
  unfold World.cell? at hc0
  rw [add_block, e, hb] at hc0
  simp only at hc0
  split at hc0
  · cases hc0
  · exact hu _ _ hc0
theorem ev_nou8 {a b c : Int} {A : Option Addr} {n k : Nat} (i : Nat) (z : Int) : (#[.int .i64 a, .int .i64 b, .int .i64 c, .slice A n k] : Array Value)[i]? ≠ some (Value.int .u8 z) := by
  match i with
  | 0 => simp
  | 1 => simp
  | 2 => simp
  | 3 => simp
  | i + 4 => simp
theorem EvV.set {w w' : World} {F : Nat → Prop} {v : Value} {x : Ev} {b : Nat} {cs : Array Value} {T : TypeId} {f : Nat × Nat} (h : EvV w F v x) (hb : w.heap[b]? = some (.cells cs T f)) (hu : ∀ (i : Nat) (z : Int), cs[i]? ≠ some (Value.int .u8 z)) (hf : Fr (fun j => j = b) w w') : EvV w' F v x := by
  obtain ⟨LA, ln, lc, h1, h2, h3, h4, h5⟩ := h
  exact ⟨LA, ln, lc, h1, h2, h3.fr hf (fun ad e hn => by subst e; exact rd_ne h3 hn hb hu), h4, h5⟩
theorem set4b {w' : World} {b : Nat} {T : TypeId} {a0 a1 a2 a3 : Value} (h : w'.heap[b]? = some (.cells #[a0, a1, a2, a3] T (0, 0))) (v0 v1 v2 v3 : Value) :
    ((((w'.setCell ⟨b, 0, none⟩ v0).setCell ⟨b, 1, none⟩ v1).setCell ⟨b, 2, none⟩ v2).setCell ⟨b, 3, none⟩ v3).heap[b]? = some (.cells #[v0, v1, v2, v3] T (0, 0)) ∧
    Fr (fun i => i = b) w' ((((w'.setCell ⟨b, 0, none⟩ v0).setCell ⟨b, 1, none⟩ v1).setCell ⟨b, 2, none⟩ v2).setCell ⟨b, 3, none⟩ v3) := by
  have h0 := heap_set h 0 v0
  have h1 := heap_set h0 1 v1
  have h2 := heap_set h1 2 v2
  have h3 := heap_set h2 3 v3
  refine ⟨?_, ((((Fr.refl (fun i => i = b) w').setCell (p := ⟨b, 0, none⟩) (fun _ => rfl) v0).setCell (p := ⟨b, 1, none⟩) (fun _ => rfl) v1).setCell (p := ⟨b, 2, none⟩) (fun _ => rfl) v2).setCell (p := ⟨b, 3, none⟩) (fun _ => rfl) v3⟩
  rw [h3]
  simp
/-- The result's block is written. -/
theorem fin {w w6 wf : World} {p b : Nat} {s s2 : St} {L : Lay} {cs : Array Value} (h0 : Nand w p s L) (hb0 : w.heap.size ≤ b) (hf : Fr (NF p L s.n s.nb) w w6) (h : Nand w6 p s2 L) (hn : s2.n = s.n ∧ s2.nb = s.nb) (he : s2.evs = s.evs) (hb : w6.heap[b]? = some (.cells cs 50 (0, 0))) (hs : Fr (fun i => i = b) w6 wf) :
    Nand wf p s2 L ∧ Fr (NF p L s.n s.nb) w wf := by
  have hfw : Fr (NF p L s.n s.nb) w wf := hf.after hs (fun i hi e => by subst e; omega)
  refine ⟨h.fr hs (fun i _ hh => h.ne hb ⟨by decide, by decide, by decide, by decide, by decide⟩ (by rw [← hh.1]; exact hh.2)) (fun i hu e => by subst e; obtain ⟨c2, e2⟩ := hu; exact blk_ne hb e2 (by decide) rfl) ?_, hfw⟩
  rw [hn.1, hn.2, he]
  exact h0.evs.fr hfw (fun _ _ h => h)
/-- What begin answers. -/
def BeginPost (p : Nat) (s : St) (L : Lay) (c b : Nat) (w : World) (e : Ending) (w' : World) : Prop :=
  ∃ ptr v, e = .returned (.tuple #[ptr, v, .int .i64 (s.start c).2]) ∧ Nand w' p (s.start c).1 L ∧ Fr (NF p L s.n s.nb) w w' ∧
    ((s.start c).2 = 0 → ptr = .pointer (some ⟨L.B c, b * 4, none⟩) ∧ EvV w' (NF p L s.n s.nb) v (s.more.ev.getD noEv)) ∧ ((s.start c).2 ≠ 0 → ptr = .pointer none ∧ v = .agg #[.int .i64 0, .int .i64 0, .int .i64 0, .slice none 0 0])

set_option maxHeartbeats 4000000 in
set_option maxRecDepth 100000 in
theorem begin_off (p : Nat) (s : St) (L : Lay) (c b : Nat) (w : World) (h : Nand w p s L) (ho : s.off = true) : Calls Tryz.prog 92 #[.pointer (some ⟨p, 0, none⟩), .int .i64 (c : Int), .int .i64 (b : Int)] w (BeginPost p s L c b w) := by
  have HN := As.mk h
  have HS := As.mk (show s.start c = (s, 72) from by unfold St.start; rw [if_pos ho])
  have HF1 := As.mk ((Fr.refl None_ w).alloc (.cells #[.int .i64 0, .int .i64 0, .int .i64 0, .slice none 0 0] 50))
  have HB1 := As.mk (heap_alloc_new w (.cells #[.int .i64 0, .int .i64 0, .int .i64 0, .slice none 0 0] 50))
  have m8 := cell_is (i := 8) (HF1.out.heap h.main (fun h => h)) rfl
  try dsimp only at m8
  rw [ho] at m8
  clear h ho
  go_enter Tryz.func92, Tryz.ntmps92
  go_wp2_with fail
  generalize w.alloc (.cells #[.int .i64 0, .int .i64 0, .int .i64 0, .slice none 0 0] 50) = w1 at *
  have r0 := cell_is (i := 0) HB1.out rfl
  have r1 := cell_is (i := 1) HB1.out rfl
  have r2 := cell_is (i := 2) HB1.out rfl
  have r3 := cell_is (i := 3) HB1.out rfl
  refine bodyPost_ret (v := .tuple #[.pointer none, .agg #[.int .i64 0, .int .i64 0, .int .i64 0, .slice none 0 0], .int .i64 72]) (by simp [results, Tryz.results92, go_sem, r0, r1, r2, r3]) rfl ?_
  refine ⟨_, _, by rw [HS.out], by rw [HS.out]; exact HN.out.none_ HF1.out, HF1.out.mono (fun _ _ h => h.elim), fun h => ?_, fun _ => ⟨rfl, rfl⟩⟩
  rw [HS.out] at h
  cases h

set_option maxHeartbeats 8000000 in
set_option maxRecDepth 100000 in
theorem begin_on (p : Nat) (s : St) (L : Lay) (c b : Nat) (w : World) (h : Nand w p s L) (ho : s.off = false) (hc : c < s.n) (hb : b < s.nb) (hops : 0 ≤ s.ops ∧ s.ops < 4611686018427387904) : Calls Tryz.prog 92 #[.pointer (some ⟨p, 0, none⟩), .int .i64 (c : Int), .int .i64 (b : Int)] w (BeginPost p s L c b w) := by
  have HN0 := As.mk h
  have HPost := As.mk (show ∀ (e : Ending) (w' : World) (s2 : St) (x : Option Ev), s2 = s.more.hit s.more.ev → x = s.more.ev →
      (∃ ptr v, (∃ k : Int, e = .returned (.tuple #[ptr, v, .int .i64 k]) ∧ ((s2.dead c = false ∧ k = 0 ∧ Nand w' p s2 L ∧ ptr = .pointer (some ⟨L.B c, b * 4, none⟩) ∧ EvV w' (NF p L s.n s.nb) v (x.getD noEv)) ∨ (s2.dead c = true ∧ crash x = true ∧ k = 72 ∧ Nand w' p s2.gone L ∧ ptr = .pointer none ∧ v = .agg #[.int .i64 0, .int .i64 0, .int .i64 0, .slice none 0 0]) ∨ (s2.dead c = true ∧ crash x = false ∧ k = 71 ∧ Nand w' p s2 L ∧ ptr = .pointer none ∧ v = .agg #[.int .i64 0, .int .i64 0, .int .i64 0, .slice none 0 0]))) ∧ Fr (NF p L s.n s.nb) w w') → BeginPost p s L c b w e w' from by
    rintro e w' s2 x rfl rfl ⟨ptr, v, ⟨k, he, hk⟩, hf⟩
    rcases hk with ⟨h1, rfl, h2, h3, h4⟩ | ⟨h1, h2, rfl, h3, h4, h5⟩ | ⟨h1, h2, rfl, h3, h4, h5⟩
    · have hs : s.start c = (s.more.hit s.more.ev, 0) := by unfold St.start; rw [ho, if_neg (by decide), h1, if_neg (by decide)]
      refine ⟨ptr, v, by rw [hs]; exact he, by rw [hs]; exact h2, hf, fun _ => ⟨h3, h4⟩, fun hh => ?_⟩
      rw [hs] at hh
      exact absurd rfl hh
    · have hs : s.start c = ((s.more.hit s.more.ev).gone, 72) := by unfold St.start; rw [ho, if_neg (by decide), h1, if_pos rfl, h2, if_pos rfl]
      refine ⟨ptr, v, by rw [hs]; exact he, by rw [hs]; exact h3, hf, fun hh => ?_, fun _ => ⟨h4, h5⟩⟩
      rw [hs] at hh
      cases hh
    · have hs : s.start c = (s.more.hit s.more.ev, 71) := by unfold St.start; rw [ho, if_neg (by decide), h1, if_pos rfl, h2, if_neg (by decide)]
      refine ⟨ptr, v, by rw [hs]; exact he, by rw [hs]; exact h3, hf, fun hh => ?_, fun _ => ⟨h4, h5⟩⟩
      rw [hs] at hh
      cases hh)
  have HF1 := As.mk ((Fr.refl None_ w).alloc (.cells #[.int .i64 0, .int .i64 0, .int .i64 0, .slice none 0 0] 50))
  have HB1 := As.mk (heap_alloc_new w (.cells #[.int .i64 0, .int .i64 0, .int .i64 0, .slice none 0 0] 50))
  have hnc : ((s.n : Nat) : Int) = s.g.c + 1 := by unfold St.n; have := h.ok.c; omega
  have hnb : ((s.nb : Nat) : Int) = s.g.b := by unfold St.nb; have := h.ok.b; omega
  have hgc := h.ok.c
  have hgb := h.ok.b
  have hcI : (c : Int) < (s.n : Int) := by omega
  have hbI : (b : Int) < s.g.b := by omega
  have dc0 : decide ((c : Int) < 0) = false := decide_eq_false (by omega)
  have dc1 : decide ((s.n : Int) ≤ (c : Int)) = false := decide_eq_false (by omega)
  have dn : decide (s.n ≤ c) = false := decide_eq_false (by omega)
  have db0 : decide ((b : Int) < 0) = false := decide_eq_false (by omega)
  have db1 : decide (s.g.b ≤ (b : Int)) = false := decide_eq_false (by omega)
  have HN1 := As.mk (h.none_ HF1.out)
  have hm1 := HN1.out.main
  rw [ho] at hm1
  have HM1 := As.mk hm1
  have m1 := cell_is (i := 1) hm1 rfl
  have m4 := cell_is (i := 4) hm1 rfl
  have m7 := cell_is (i := 7) hm1 rfl
  have m8 := cell_is (i := 8) hm1 rfl
  have f7 := free_of (i := 7) hm1
  try dsimp only at m1 m4 m7 m8
  clear h hm1 hnc hnb hgc hgb
  go_enter Tryz.func92, Tryz.ntmps92
  go_upto_region 8 with fail
  generalize w.alloc (.cells #[.int .i64 0, .int .i64 0, .int .i64 0, .slice none 0 0] 50) = w1 at *
  have hsf := fr_set1 (w' := w1) (b := p) (i := 7) (.int .i64 (s.ops + 1))
  have HN2 := As.mk (HN1.out.setMain (s.ops + 1) s.off hsf (by have h := heap_set HM1.out 7 (.int .i64 (s.ops + 1)); rw [ho]; simpa using h))
  change As (Nand _ p s.more L) at HN2
  have hfw : Fr (NF p L s.n s.nb) w (w1.setCell ⟨p, 7, none⟩ (.int .i64 (s.ops + 1))) := (HF1.out.mono (fun _ _ h => h.elim)).after hsf (fun _ _ e => .inl e)
  have HB2 := As.mk (show (w1.setCell ⟨p, 7, none⟩ (.int .i64 (s.ops + 1))).heap[w.heap.size]? = _ from hsf.heap HB1.out (fun e => by have := HN0.out.lt (.inl e); omega))
  have HF2 := As.mk hfw
  clear hfw hsf HN1 HM1 HF1 HB1 m1 m4 m7 m8 f7 dc0 dc1 db0 db1 dn ho
  generalize w1.setCell ⟨p, 7, none⟩ (.int .i64 (s.ops + 1)) = w2 at *
  have HAT := As.mk (at_calls p s.more L w2 HN2.out)
  unfold AtPost at HAT
  obtain ⟨x, hx⟩ : ∃ x, x = s.more.ev := ⟨_, rfl⟩
  rw [← hx] at HAT
  have HX := As.mk hx
  clear hx
  go_wp2_with fail
  ((with_reducible refine (HAT.out).mono ?_); rintro e w3 ⟨v3, rfl, ⟨LA, ln, lc, rfl, he1, he2, he3, he4⟩, hf3⟩)
  have HV3 := As.mk (show EvV w3 (NF p L s.n s.nb) (.agg #[.int .i64 (x.getD noEv).op, .int .i64 (x.getD noEv).kind, .int .i64 (x.getD noEv).chip, .slice LA ln lc]) (x.getD noEv) from ⟨LA, ln, lc, rfl, he1, he2, he3, he4⟩)
  have HN3 := As.mk (HN2.out.none_ hf3)
  have HB3 := As.mk (hf3.heap HB2.out (fun h => h))
  have HF3 := As.mk (HF2.out.after hf3 (fun _ _ h => h.elim))
  clear he1 he2 he3 he4 hf3 HN2 HB2 HF2 HAT
  have hfx := (Fr.refl None_ w3).alloc (.cells #[.int .i64 (x.getD noEv).op, .int .i64 (x.getD noEv).kind, .int .i64 (x.getD noEv).chip, .slice LA ln lc] 50)
  have HE4 := As.mk (heap_alloc_new w3 (.cells #[.int .i64 (x.getD noEv).op, .int .i64 (x.getD noEv).kind, .int .i64 (x.getD noEv).chip, .slice LA ln lc] 50))
  go_upto_region 9 with fail
  generalize w3.alloc (.cells #[.int .i64 (x.getD noEv).op, .int .i64 (x.getD noEv).kind, .int .i64 (x.getD noEv).chip, .slice LA ln lc] 50) = w4 at *
  have HN4 := As.mk (HN3.out.none_ hfx)
  have HB4 := As.mk (hfx.heap HB3.out (fun h => h))
  have HF4 := As.mk (HF3.out.after hfx (fun _ _ h => h.elim))
  have HV4 := As.mk (HV3.out.none_ hfx)
  have HEB := As.mk (show w.heap.size < w3.heap.size from (Array.getElem?_eq_some_iff.1 HB3.out).1)
  generalize w3.heap.size = eb at *
  have HIT := As.mk (show hits s.n x = (x.isSome && (decide ((x.getD noEv).kind = 3) && (decide (0 ≤ (x.getD noEv).chip) && decide ((x.getD noEv).chip < (s.n : Int))))) from rfl)
  have HCR := As.mk (show crash x = (x.isSome && decide ((x.getD noEv).kind = 2)) from rfl)
  have HHT := As.mk (show s.more.hit x = if hits s.n x then s.more.kill (x.getD noEv).chip.toNat else s.more from rfl)
  have m5 := cell_is (i := 5) HN4.out.main rfl
  have e0 := cell_is (i := 0) HE4.out rfl
  have e1 := cell_is (i := 1) HE4.out rfl
  have e2 := cell_is (i := 2) HE4.out rfl
  have e3 := cell_is (i := 3) HE4.out rfl
  try dsimp only at m5 e0 e1 e2 e3
  change w4.cell? ⟨p, 5, none⟩ = some (.slice (some ⟨L.D, 0, none⟩) s.n s.n) at m5
  clear HN3 HB3 HF3 HV3 hfx
  generalize x.isSome = xi at *
  generalize (x.getD noEv).kind = K at *
  generalize (x.getD noEv).chip = CH at *
  generalize hht : hits s.n x = ht at *
  clear hht
  go_cut [79] (fun v79 wx => v79 = .bool ht ∧ As (Fr None_ w4 wx))
  case first =>
    have hh : (xi = false) ∨ (xi = true ∧ (K == 3) = false) ∨ (xi = true ∧ (K == 3) = true ∧ decide (0 ≤ CH) = false) ∨ (xi = true ∧ (K == 3) = true ∧ decide (0 ≤ CH) = true ∧ decide (CH < (s.n : Int)) = false) ∨ (xi = true ∧ (K == 3) = true ∧ decide (0 ≤ CH) = true ∧ decide (CH < (s.n : Int)) = true) := by
      cases xi
      · exact .inl rfl
      · simp only [beq_iff_eq, beq_eq_false_iff_ne, decide_eq_true_eq, decide_eq_false_iff_not, true_and]
        omega
    have hk3 : decide (K = 3) = (K == 3) := by by_cases e : K = 3 <;> simp [e]
    have HIT2 := As.mk (show ht = (xi && ((K == 3) && (decide (0 ≤ CH) && decide (CH < (s.n : Int))))) from by rw [HIT.out, hk3])
    clear hk3
    rcases hh with rfl | ⟨rfl, d1⟩ | ⟨rfl, d1, d2⟩ | ⟨rfl, d1, d2, d3⟩ | ⟨rfl, d1, d2, d3⟩
    · have HT := As.mk (show ht = false from by rw [HIT2.out]; rfl)
      go_quiet (fail)
      go_wp2_with fail
      go_meet
      case rel => exact ⟨by rw [HT.out], ⟨(Fr.refl None_ w4).drewN nq⟩⟩
    · have HT := As.mk (show ht = false from by rw [HIT2.out, d1]; rfl)
      go_quiet (fail)
      go_wp2_with fail
      go_meet
      case rel => exact ⟨by rw [HT.out], ⟨(Fr.refl None_ w4).drewN nq⟩⟩
    · have HT := As.mk (show ht = false from by rw [HIT2.out, d1, d2]; rfl)
      go_quiet (fail)
      go_wp2_with fail
      go_meet
      case rel => exact ⟨by rw [HT.out], ⟨(Fr.refl None_ w4).drewN nq⟩⟩
    · have HT := As.mk (show ht = false from by rw [HIT2.out, d1, d2, d3]; rfl)
      go_quiet (fail)
      go_wp2_with fail
      go_meet
      case rel => exact ⟨by rw [HT.out], ⟨(Fr.refl None_ w4).drewN nq⟩⟩
    · have HT := As.mk (show ht = true from by rw [HIT2.out, d1, d2, d3]; rfl)
      go_quiet (fail)
      go_wp2_with fail
      go_meet
      case rel => exact ⟨by rw [HT.out], ⟨(Fr.refl None_ w4).drewN nq⟩⟩
  case rest =>
    obtain ⟨rfl, HFX⟩ := hcut
    rename World => w5
    have HN5 := As.mk (HN4.out.none_ HFX.out)
    have HE5 := As.mk (HFX.out.heap HE4.out (fun h => h))
    have HB5 := As.mk (HFX.out.heap HB4.out (fun h => h))
    have HF5 := As.mk (HF4.out.after HFX.out (fun _ _ h => h.elim))
    have HV5 := As.mk (HV4.out.none_ HFX.out)
    have HEN := As.mk (HN5.out.ne HE5.out ⟨by decide, by decide, by decide, by decide, by decide⟩)
    have HBN := As.mk (HN5.out.ne HB5.out ⟨by decide, by decide, by decide, by decide, by decide⟩)
    clear HN4 HE4 HB4 HF4 HV4 HFX m5 e0 e1 e2 e3
    have m5 := cell_is (i := 5) HN5.out.main rfl
    have e2 := cell_is (i := 2) HE5.out rfl
    try dsimp only at m5 e2
    change w5.cell? ⟨p, 5, none⟩ = some (.slice (some ⟨L.D, 0, none⟩) s.n s.n) at m5
    go_upto_if 79 with fail
    go_cut [] (fun wx => As (Nand wx p (s.more.hit x) L ∧ Fr (NF p L s.n s.nb) w5 wx))
    case first =>
      cases ht
      · have HHT2 := As.mk (show s.more.hit x = s.more from by rw [HHT.out]; rfl)
        go_wp2_with fail
        go_meet
        case rel => exact ⟨by rw [HHT2.out]; exact HN5.out, Fr.refl _ _⟩
      · have hr : (0 ≤ CH) ∧ CH < (s.n : Int) := by
          have h := HIT.out
          simp only [Bool.true_eq, Bool.and_eq_true, decide_eq_true_eq] at h
          omega
        obtain ⟨kn, rfl⟩ := Int.eq_ofNat_of_zero_le hr.1
        have hkn : kn < s.n := by omega
        have hr1 := hr.2
        have hr0 := hr.1
        have HHT2 := As.mk (show s.more.hit x = s.more.kill kn from by rw [HHT.out, if_pos rfl]; rfl)
        obtain ⟨ds, hd, hds⟩ := HN5.out.ded
        have dk := cell_is hd (hds kn hkn)
        have fk := free_of (i := kn) hd
        have hkt : Int.toNat (kn : Int) = kn := by omega
        clear hd hds hr
        go_upto_region 10 with fail
        go_region
        all_goals
          go_wp2_with fail
          go_meet
          case rel =>
            have hsf := fr_set1 (w' := w5) (b := L.D) (i := kn) (.bool true)
            refine ⟨?_, ((Fr.refl (NF p L s.n s.nb) w5).after hsf (fun _ _ e => .inr (.inr (.inl e)))).drew⟩
            rw [HHT2.out]
            exact (HN5.out.setDead kn true hkn hsf (fun cs h => heap_set h kn _)).none_ ((Fr.refl None_ _).drew)
    case rest =>
    obtain ⟨hn6, hf6⟩ := hcut
    have HN6 := As.mk hn6
    clear hn6
    rename World => w6
    have HE6 := As.mk (hf6.heap HE5.out HEN.out)
    have HB6 := As.mk (hf6.heap HB5.out HBN.out)
    have HF6 := As.mk (HF5.out.after hf6 (fun _ _ h => h))
    have HV6 := As.mk (EvV.frame HV5.out hf6)
    clear HN5 HE5 HB5 HF5 HV5 hf6 m5 e2
    have hs2 := hit_g s.more x
    have HS2 := As.mk (show (s.more.hit x).n = s.n ∧ (s.more.hit x).nb = s.nb from ⟨by unfold St.n; rw [hs2.1]; rfl, by unfold St.nb; rw [hs2.1]; rfl⟩)
    have HS2e := As.mk (show s.more.hit x = s.more.hit s.more.ev from by rw [← HX.out])
    have hoff2 : (s.more.hit x).off = s.off := hs2.2.2.2.2
    have HOFF := As.mk (And.intro hoff2 hs2.2.2.1)
    clear hs2 hoff2
    generalize s.more.hit x = s2 at *
    obtain ⟨ds, hd, hds⟩ := HN6.out.ded
    have dk := cell_is hd (hds c (by rw [HS2.out.1]; exact hc))
    obtain ⟨os, hO, hos⟩ := HN6.out.out
    have ok := cell_is hO (hos c (by rw [HS2.out.1]; exact hc))
    rw [HS2.out.2] at ok
    have m5 := cell_is (i := 5) HN6.out.main rfl
    have m4 := cell_is (i := 4) HN6.out.main rfl
    have m8 := cell_is (i := 8) HN6.out.main rfl
    have f8 := free_of (i := 8) HN6.out.main
    try dsimp only at m5 m4 m8
    rw [HS2.out.1] at m5 m4
    have e0 := cell_is (i := 0) HE6.out rfl
    have e1 := cell_is (i := 1) HE6.out rfl
    have e2 := cell_is (i := 2) HE6.out rfl
    have e3 := cell_is (i := 3) HE6.out rfl
    have r0 := cell_is (i := 0) HB6.out rfl
    have r1 := cell_is (i := 1) HB6.out rfl
    have r2 := cell_is (i := 2) HB6.out rfl
    have r3 := cell_is (i := 3) HB6.out rfl
    have q0 := free_of (i := 0) HB6.out
    have q1 := free_of (i := 1) HB6.out
    have q2 := free_of (i := 2) HB6.out
    have q3 := free_of (i := 3) HB6.out
    try dsimp only at e0 e1 e2 e3 r0 r1 r2 r3
    have hct : Int.toNat (c : Int) = c := by omega
    have hbt : Int.toNat (b : Int) = b := by omega
    have hbn : (b : Int) < (s.nb : Int) := by omega
    clear hd hds hO hos
    generalize hdc : s2.dead c = dc at *
    have HDC := As.mk hdc
    clear hdc
    go_upto_if 93 with fail
    cases dc
    · go_upto_region 16 with fail
      go_region
      all_goals
        go_wp2_with fail
        obtain ⟨s1, s3⟩ := set4b HB6.out (.int .i64 (x.getD noEv).op) (.int .i64 K) (.int .i64 CH) (.slice LA ln lc)
        obtain ⟨t1, t2⟩ := fin HN0.out (Nat.le_refl _) HF6.out HN6.out HS2.out HOFF.out.2 HB6.out s3
        have t3 := EvV.set HV6.out HB6.out (fun i z => ev_nou8 i z) s3
        clear e0 e1 e2 e3 r0 r1 r2 r3 q0 q1 q2 q3 s3
        generalize (((w6.setCell ⟨w.heap.size, 0, none⟩ (.int .i64 (x.getD noEv).op)).setCell ⟨w.heap.size, 1, none⟩ (.int .i64 K)).setCell ⟨w.heap.size, 2, none⟩ (.int .i64 CH)).setCell ⟨w.heap.size, 3, none⟩ (.slice LA ln lc) = wf at *
        have r0 : wf.drew.cell? ⟨w.heap.size, 0, none⟩ = _ := cell_is (i := 0) s1 rfl
        have r1 : wf.drew.cell? ⟨w.heap.size, 1, none⟩ = _ := cell_is (i := 1) s1 rfl
        have r2 : wf.drew.cell? ⟨w.heap.size, 2, none⟩ = _ := cell_is (i := 2) s1 rfl
        have r3 : wf.drew.cell? ⟨w.heap.size, 3, none⟩ = _ := cell_is (i := 3) s1 rfl
        exact bodyPost_ret (v := .tuple #[.pointer (some ⟨L.B c, b * 4, none⟩), .agg #[.int .i64 (x.getD noEv).op, .int .i64 K, .int .i64 CH, .slice LA ln lc], .int .i64 0]) (by simp [results, Tryz.results92, go_sem, r0, r1, r2, r3]) rfl (HPost.out _ _ s2 x HS2e.out HX.out ⟨_, _, ⟨0, rfl, .inl ⟨HDC.out, rfl, t1.none_ (Fr.refl None_ wf).drew, rfl, t3.none_ (Fr.refl None_ wf).drew⟩⟩, t2.drew⟩)
    · have hh : (xi = false) ∨ (xi = true ∧ (K == 2) = false) ∨ (xi = true ∧ (K == 2) = true) := by
        cases xi
        · exact .inl rfl
        · simp only [beq_iff_eq, beq_eq_false_iff_ne, true_and]
          omega
      rcases hh with rfl | ⟨rfl, d1⟩ | ⟨rfl, d1⟩
      · have HC := As.mk (show crash x = false from by rw [HCR.out]; rfl)
        go_wp2_with fail
        obtain ⟨s1, s3⟩ := set4b HB6.out (.int .i64 0) (.int .i64 0) (.int .i64 0) (.slice none 0 0)
        obtain ⟨t1, t2⟩ := fin HN0.out (Nat.le_refl _) HF6.out HN6.out HS2.out HOFF.out.2 HB6.out s3
        clear e0 e1 e2 e3 r0 r1 r2 r3 q0 q1 q2 q3 s3
        generalize (((w6.setCell ⟨w.heap.size, 0, none⟩ (.int .i64 0)).setCell ⟨w.heap.size, 1, none⟩ (.int .i64 0)).setCell ⟨w.heap.size, 2, none⟩ (.int .i64 0)).setCell ⟨w.heap.size, 3, none⟩ (.slice none 0 0) = wf at *
        have r0 := cell_is (i := 0) s1 rfl
        have r1 := cell_is (i := 1) s1 rfl
        have r2 := cell_is (i := 2) s1 rfl
        have r3 := cell_is (i := 3) s1 rfl
        exact bodyPost_ret (v := .tuple #[.pointer none, .agg #[.int .i64 0, .int .i64 0, .int .i64 0, .slice none 0 0], .int .i64 71]) (by simp [results, Tryz.results92, go_sem, r0, r1, r2, r3]) rfl (HPost.out _ _ s2 x HS2e.out HX.out ⟨_, _, ⟨71, rfl, .inr (.inr ⟨HDC.out, HC.out, rfl, t1, rfl, rfl⟩)⟩, t2⟩)
      · have HC := As.mk (show crash x = false from by rw [HCR.out, show decide (K = 2) = false from decide_eq_false (beq_eq_false_iff_ne.1 d1)]; rfl)
        go_wp2_with fail
        obtain ⟨s1, s3⟩ := set4b HB6.out (.int .i64 0) (.int .i64 0) (.int .i64 0) (.slice none 0 0)
        obtain ⟨t1, t2⟩ := fin HN0.out (Nat.le_refl _) HF6.out HN6.out HS2.out HOFF.out.2 HB6.out s3
        clear e0 e1 e2 e3 r0 r1 r2 r3 q0 q1 q2 q3 s3
        generalize (((w6.setCell ⟨w.heap.size, 0, none⟩ (.int .i64 0)).setCell ⟨w.heap.size, 1, none⟩ (.int .i64 0)).setCell ⟨w.heap.size, 2, none⟩ (.int .i64 0)).setCell ⟨w.heap.size, 3, none⟩ (.slice none 0 0) = wf at *
        have r0 := cell_is (i := 0) s1 rfl
        have r1 := cell_is (i := 1) s1 rfl
        have r2 := cell_is (i := 2) s1 rfl
        have r3 := cell_is (i := 3) s1 rfl
        exact bodyPost_ret (v := .tuple #[.pointer none, .agg #[.int .i64 0, .int .i64 0, .int .i64 0, .slice none 0 0], .int .i64 71]) (by simp [results, Tryz.results92, go_sem, r0, r1, r2, r3]) rfl (HPost.out _ _ s2 x HS2e.out HX.out ⟨_, _, ⟨71, rfl, .inr (.inr ⟨HDC.out, HC.out, rfl, t1, rfl, rfl⟩)⟩, t2⟩)
      · have HC := As.mk (show crash x = true from by rw [HCR.out, show decide (K = 2) = true from decide_eq_true (beq_iff_eq.1 d1)]; rfl)
        go_wp2_with fail
        have hsf := fr_set1 (w' := w6) (b := p) (i := 8) (.bool true)
        have hn7 := HN6.out.setMain s2.ops true hsf (by have h := heap_set HN6.out.main 8 (.bool true); simpa using h)
        change Nand _ p s2.gone L at hn7
        have hb7 := hsf.heap HB6.out (fun e => by have := HN0.out.lt (.inl e); omega)
        have hf7 := HF6.out.after hsf (fun _ _ e => .inl e)
        obtain ⟨s1, s3⟩ := set4b hb7 (.int .i64 0) (.int .i64 0) (.int .i64 0) (.slice none 0 0)
        obtain ⟨t1, t2⟩ := fin HN0.out (Nat.le_refl _) hf7 hn7 HS2.out HOFF.out.2 hb7 s3
        clear e0 e1 e2 e3 r0 r1 r2 r3 q0 q1 q2 q3 s3
        generalize ((((w6.setCell ⟨p, 8, none⟩ (.bool true)).setCell ⟨w.heap.size, 0, none⟩ (.int .i64 0)).setCell ⟨w.heap.size, 1, none⟩ (.int .i64 0)).setCell ⟨w.heap.size, 2, none⟩ (.int .i64 0)).setCell ⟨w.heap.size, 3, none⟩ (.slice none 0 0) = wf at *
        have r0 := cell_is (i := 0) s1 rfl
        have r1 := cell_is (i := 1) s1 rfl
        have r2 := cell_is (i := 2) s1 rfl
        have r3 := cell_is (i := 3) s1 rfl
        exact bodyPost_ret (v := .tuple #[.pointer none, .agg #[.int .i64 0, .int .i64 0, .int .i64 0, .slice none 0 0], .int .i64 72]) (by simp [results, Tryz.results92, go_sem, r0, r1, r2, r3]) rfl (HPost.out _ _ s2 x HS2e.out HX.out ⟨_, _, ⟨72, rfl, .inr (.inl ⟨HDC.out, HC.out, rfl, t1, rfl, rfl⟩)⟩, t2⟩)
theorem begin_calls (p : Nat) (s : St) (L : Lay) (c b : Nat) (w : World) (h : Nand w p s L) (hc : c < s.n) (hb : b < s.nb) (hops : 0 ≤ s.ops ∧ s.ops < 4611686018427387904) : Calls Tryz.prog 92 #[.pointer (some ⟨p, 0, none⟩), .int .i64 (c : Int), .int .i64 (b : Int)] w (BeginPost p s L c b w) := by
  rcases ho : s.off with _ | _
  · exact begin_on p s L c b w h ho hc hb hops
  · exact begin_off p s L c b w h ho
end Go.Proofs.YteofgpaceeibpaaGreat.NandB

/- point.Read: behind its range. -/
import Derived.Test.YtlhgbamajabnfaaPRead2
import Derived.RegionIn
import Derived.BigRegionIn
namespace Go.Proofs.Ytlhgbamajabnfaa.PRead3
open Go.RowKit Go.Proofs.Ytlhgbamajabnfaa.Gab Go.Proofs.Ytlhgbamajabnfaa.Wr Go.Proofs.Ytlhgbamajabnfaa.Geom Go.Proofs.Ytlhgbamajabnfaa.Fields Go.Proofs.Ytlhgbamajabnfaa.Ord Go.Proofs.Ytlhgbamajabnfaa.Iter Go.Proofs.Ytlhgbamajabnfaa.Write Go.Proofs.Ytlhgbamajabnfaa.Stripe Go.Proofs.Ytlhgbamajabnfaa.PRead1 Go.Proofs.Ytlhgbamajabnfaa.PRead2
open Go.Proofs.Ytlhgbamajabnfaa.Point1 (cell_is)
open Go.Proofs.Ytlhgbamajabnfaa.Ram (RamE Geo_calls)
attribute [local go_sem] Oper.semAt_some
set_option linter.unusedVariables false
set_option linter.unusedSimpArgs false

/-- The four results, stored. -/
def stored (W : World) (b2 b3 b4 b5 : Nat) (v0 v1 v2 v3 : Value) (k : Bool) (m e : Int) : World :=
  (((((((W.setCell ⟨b2, 0, none⟩ v0).setCell ⟨b2, 1, none⟩ v1).setCell ⟨b2, 2, none⟩ v2).setCell ⟨b2, 3, none⟩ v3).setCell ⟨b3, 0, none⟩ (.bool k)).setCell ⟨b4, 0, none⟩ (.int .u32 m)).setCell ⟨b5, 0, none⟩ (.int .i64 e)).drew
theorem stored_is {w W : World} {b2 b3 b4 b5 D : Nat} {a0 a1 a2 a3 x3 x4 x5 : Value} {o : Obj} (hf : Fr None_ w W) (h2 : W.heap[b2]? = some (.cells #[a0, a1, a2, a3] 73 (0, 0))) (h3 : W.heap[b3]? = some (.cells #[x3] 4 (0, 0))) (h4 : W.heap[b4]? = some (.cells #[x4] 51 (0, 0))) (h5 : W.heap[b5]? = some (.cells #[x5] 42 (0, 0)))
    (hD : W.heap[D]? = some o) (ho : o.isCells = false) (hn : w.heap.size ≤ b2 ∧ w.heap.size ≤ b3 ∧ w.heap.size ≤ b4 ∧ w.heap.size ≤ b5) (v0 v1 v2 v3 : Value) (k : Bool) (m e : Int) :
    Fr None_ w (stored W b2 b3 b4 b5 v0 v1 v2 v3 k m e) ∧ (stored W b2 b3 b4 b5 v0 v1 v2 v3 k m e).heap[b2]? = some (.cells #[v0, v1, v2, v3] 73 (0, 0)) ∧ (stored W b2 b3 b4 b5 v0 v1 v2 v3 k m e).heap[b3]? = some (.cells #[.bool k] 4 (0, 0)) ∧
    (stored W b2 b3 b4 b5 v0 v1 v2 v3 k m e).heap[b4]? = some (.cells #[.int .u32 m] 51 (0, 0)) ∧ (stored W b2 b3 b4 b5 v0 v1 v2 v3 k m e).heap[b5]? = some (.cells #[.int .i64 e] 42 (0, 0)) ∧ (stored W b2 b3 b4 b5 v0 v1 v2 v3 k m e).heap[D]? = some o ∧
    Fr (fun b => b = b2 ∨ b = b3 ∨ b = b4 ∨ b = b5) W (stored W b2 b3 b4 b5 v0 v1 v2 v3 k m e) := by
  have hDn : ∀ {b : Nat} {cs : Array Value} {T : TypeId} {f : Nat × Nat}, W.heap[b]? = some (.cells cs T f) → D ≠ b := fun hb e => by
    subst e
    rw [hb] at hD
    injection hD with hD
    subst hD
    cases ho
  have q0 := Case.heap_set h2 0 v0
  have q1 := Case.heap_set q0 1 v1
  have q2 := Case.heap_set q1 2 v2
  have q3 := Case.heap_set q2 3 v3
  have q4 : ((((W.setCell ⟨b2, 0, none⟩ v0).setCell ⟨b2, 1, none⟩ v1).setCell ⟨b2, 2, none⟩ v2).setCell ⟨b2, 3, none⟩ v3).heap[b2]? = some (.cells #[v0, v1, v2, v3] 73 (0, 0)) := by rw [q3]; simp
  have f4 : Fr (fun i => i = b2) W ((((W.setCell ⟨b2, 0, none⟩ v0).setCell ⟨b2, 1, none⟩ v1).setCell ⟨b2, 2, none⟩ v2).setCell ⟨b2, 3, none⟩ v3) := ((((Fr.refl (fun i => i = b2) W).setCell (p := ⟨b2, 0, none⟩) (fun _ => rfl) v0).setCell (p := ⟨b2, 1, none⟩) (fun _ => rfl) v1).setCell (p := ⟨b2, 2, none⟩) (fun _ => rfl) v2).setCell (p := ⟨b2, 3, none⟩) (fun _ => rfl) v3
  have n23 := tne h2 h3 (by decide)
  have n24 := tne h2 h4 (by decide)
  have n25 := tne h2 h5 (by decide)
  have n34 := tne h3 h4 (by decide)
  have n35 := tne h3 h5 (by decide)
  have n45 := tne h4 h5 (by decide)
  have g3 := f4.heap h3 (fun e => n23 e.symm)
  have g4 := f4.heap h4 (fun e => n24 e.symm)
  have g5 := f4.heap h5 (fun e => n25 e.symm)
  have gD := f4.heap hD (hDn h2)
  unfold stored
  generalize (((W.setCell ⟨b2, 0, none⟩ v0).setCell ⟨b2, 1, none⟩ v1).setCell ⟨b2, 2, none⟩ v2).setCell ⟨b2, 3, none⟩ v3 = W4 at *
  have f5 := Fr.set1 (w' := W4) (b := b3) (.bool k)
  have r2 := f5.heap q4 n23
  have r3 := set_of (u := .bool k) g3
  have r4 := f5.heap g4 (fun e => n34 e.symm)
  have r5 := f5.heap g5 (fun e => n35 e.symm)
  have rD := f5.heap gD (hDn h3)
  generalize W4.setCell ⟨b3, 0, none⟩ (.bool k) = W5 at *
  have f6 := Fr.set1 (w' := W5) (b := b4) (.int .u32 m)
  have t2 := f6.heap r2 n24
  have t3 := f6.heap r3 n34
  have t4 := set_of (u := .int .u32 m) r4
  have t5 := f6.heap r5 (fun e => n45 e.symm)
  have tD := f6.heap rD (hDn h4)
  generalize W5.setCell ⟨b4, 0, none⟩ (.int .u32 m) = W6 at *
  have f7 := Fr.set1 (w' := W6) (b := b5) (.int .i64 e)
  have hall : Fr (fun b => b = b2 ∨ b = b3 ∨ b = b4 ∨ b = b5) W (W6.setCell ⟨b5, 0, none⟩ (.int .i64 e)).drew := ((((f4.mono (fun i _ h => .inl h)).after f5 (fun i _ h => .inr (.inl h))).after f6 (fun i _ h => .inr (.inr (.inl h)))).after f7 (fun i _ h => .inr (.inr (.inr h)))).drew
  exact ⟨hf.after hall (fun i hi h => by rcases h with rfl | rfl | rfl | rfl <;> omega), f7.heap t2 n25, f7.heap t3 n35, f7.heap t4 n45, set_of t5, f7.heap tD (hDn h5), hall⟩
/-- The point, stored. -/
theorem put_pt {w W : World} {p : Nat} {which : Int} {g : Geo} {a : Bl} {st : RSt} {v : Value} {D : Nat} (h : Mem w W p which g a st v) (hpt : w.heap.size ≤ a.pt) (hD : W.heap[D]? = some (.deferred (some []))) (v0 v1 v2 v3 : Value) :
    As (Fr None_ w ((((W.setCell ⟨a.pt, 0, none⟩ v0).setCell ⟨a.pt, 1, none⟩ v1).setCell ⟨a.pt, 2, none⟩ v2).setCell ⟨a.pt, 3, none⟩ v3)) ∧
    As (((((W.setCell ⟨a.pt, 0, none⟩ v0).setCell ⟨a.pt, 1, none⟩ v1).setCell ⟨a.pt, 2, none⟩ v2).setCell ⟨a.pt, 3, none⟩ v3).heap[a.pt]? = some (.cells #[v0, v1, v2, v3] 73 (0, 0))) ∧
    As (((((W.setCell ⟨a.pt, 0, none⟩ v0).setCell ⟨a.pt, 1, none⟩ v1).setCell ⟨a.pt, 2, none⟩ v2).setCell ⟨a.pt, 3, none⟩ v3).heap[a.ok]? = some (.cells #[.bool false] 4 (0, 0))) ∧
    As (((((W.setCell ⟨a.pt, 0, none⟩ v0).setCell ⟨a.pt, 1, none⟩ v1).setCell ⟨a.pt, 2, none⟩ v2).setCell ⟨a.pt, 3, none⟩ v3).heap[a.mo]? = some (.cells #[.int .u32 st.most] 51 (0, 0))) ∧
    As (((((W.setCell ⟨a.pt, 0, none⟩ v0).setCell ⟨a.pt, 1, none⟩ v1).setCell ⟨a.pt, 2, none⟩ v2).setCell ⟨a.pt, 3, none⟩ v3).heap[a.er]? = some (.cells #[.int .i64 0] 42 (0, 0))) ∧
    As (((((W.setCell ⟨a.pt, 0, none⟩ v0).setCell ⟨a.pt, 1, none⟩ v1).setCell ⟨a.pt, 2, none⟩ v2).setCell ⟨a.pt, 3, none⟩ v3).heap[D]? = some (.deferred (some []))) ∧
    As (Fr (fun i => i = a.pt) W ((((W.setCell ⟨a.pt, 0, none⟩ v0).setCell ⟨a.pt, 1, none⟩ v1).setCell ⟨a.pt, 2, none⟩ v2).setCell ⟨a.pt, 3, none⟩ v3)) := by
  have hf := h.fr
  have f4 : Fr (fun i => i = a.pt) W ((((W.setCell ⟨a.pt, 0, none⟩ v0).setCell ⟨a.pt, 1, none⟩ v1).setCell ⟨a.pt, 2, none⟩ v2).setCell ⟨a.pt, 3, none⟩ v3) := ((((Fr.refl (fun i => i = a.pt) W).setCell (p := ⟨a.pt, 0, none⟩) (fun _ => rfl) v0).setCell (p := ⟨a.pt, 1, none⟩) (fun _ => rfl) v1).setCell (p := ⟨a.pt, 2, none⟩) (fun _ => rfl) v2).setCell (p := ⟨a.pt, 3, none⟩) (fun _ => rfl) v3
  have q0 := Case.heap_set h.pt 0 v0
  have q1 := Case.heap_set q0 1 v1
  have q2 := Case.heap_set q1 2 v2
  have q3 := Case.heap_set q2 3 v3
  exact ⟨⟨hf.after f4 (fun i hi e => by subst e; omega)⟩, ⟨by rw [q3]; simp⟩, ⟨f4.heap h.ok (tne h.ok h.pt (by decide))⟩, ⟨f4.heap h.mo (tne h.mo h.pt (by decide))⟩, ⟨f4.heap h.er (tne h.er h.pt (by decide))⟩, ⟨f4.heap hD (fun e => by rw [e, h.pt] at hD; injection hD with hD; cases hD)⟩, ⟨f4⟩⟩
/-- Behind the rounds' deferred calls. -/
theorem taken {w Wf : World} {D : Nat} (hf : Fr None_ w Wf) (hD : Wf.heap[D]? = some (.deferred (some []))) (hd : w.heap.size ≤ D) :
    Fr None_ w (Wf.putObj D (.deferred none)) ∧ (∀ {k : Nat} {cs : Array Value} {T : TypeId} {f : Nat × Nat}, Wf.heap[k]? = some (.cells cs T f) → (Wf.putObj D (.deferred none)).heap[k]? = some (.cells cs T f)) ∧ Fr (fun b => b = D) Wf (Wf.putObj D (.deferred none)) :=
  ⟨hf.grown (grownBy_putObj' Wf D _) (fun k e hk => by cases e; omega), fun hk => cells_kept hk (grownBy_putObj' Wf D _) (fun r e => by cases e; exact ⟨_, hD, rfl⟩), (Fr.refl (fun b => b = D) Wf).grown (grownBy_putObj' Wf D _) (fun k e _ => by cases e; rfl)⟩
set_option maxHeartbeats 8000000 in
set_option maxRecDepth 100000 in
theorem part2 : part1.1 := by
  unfold part1
  dsimp only
  unhygienic intros
  have hm := HM.out
  have hn := HSO.out.n
  have hlen := HSO.out.len
  have cww := cell_of hm.ww
  have nc := cell_of hm.nn
  have bc := cell_of hm.bb
  have oc := cell_of hm.mo
  have g3 := cell_is (i := 3) hm.ge rfl
  try dsimp only at cww nc bc oc g3
  rw [HSS.out] at g3
  obtain ⟨Ab, nb', cb, eb, hcb, hdb, _⟩ := hm.row.rd
  subst eb
  obtain rfl : st.b.length = nb' := hdb.out.1
  have hS1024 : 256 ≤ S ∧ S ≤ 1024 := by have h1 := HOK.out.s; have h2 := HSS.out; omega
  have hm0 : 0 ≤ st.n * (S : Int) := Int.mul_nonneg (by omega) (by omega)
  have hm1 : st.n * (S : Int) ≤ 65535 * 1024 := Int.mul_le_mul (by omega) (by omega) (by omega) (by omega)
  have hmw : IntKind.i64.wrap (st.n * (S : Int)) = st.n * (S : Int) := i64_in _ (by omega) (by omega)
  have hgood : PRead2.Good S st ↔ (st.whole = true ∧ 1 ≤ st.n ∧ (st.b.length : Int) = st.n * S) := Iff.rfl
  have HGD := As.mk hgood
  clear hgood hm
  obtain ⟨gb, hgb⟩ : ∃ gb : Bool, (gb = true ↔ PRead2.Good S st) := by
    rcases Classical.em (PRead2.Good S st) with h | h
    · exact ⟨true, fun _ => h, fun _ => rfl⟩
    · exact ⟨false, fun e => by (cases e), fun e => absurd e h⟩
  gi_cut [122] from 142 (fun v122 wx => v122 = .bool (!gb) ∧ wx = W)
  case first =>
    have HGB := As.mk hgb
    clear hgb
    obtain ⟨bw, hbw⟩ : ∃ bw, st.whole = bw := ⟨_, rfl⟩
    rw [hbw] at cww
    have HBW := As.mk hbw
    clear hbw
    rcases bw with _ | _
    · have hgf : gb = false := by
        rcases gb with _ | _
        · rfl
        · have := ((HGD.out.1 (HGB.out.1 rfl)).1).symm.trans HBW.out
          cases this
      gi_wp2
      gi_meet
      case rel => exact ⟨by rw [hgf]; rfl, rfl⟩
    · by_cases hn1 : st.n < 1
      · have hgf : gb = false := by
          rcases gb with _ | _
          · rfl
          · have := (HGD.out.1 (HGB.out.1 rfl)).2.1
            omega
        have dn : decide (st.n < 1) = true := decide_eq_true hn1
        gi_wp2
        gi_meet
        case rel => exact ⟨by rw [hgf]; rfl, rfl⟩
      · have dn : decide (st.n < 1) = false := decide_eq_false hn1
        by_cases hl : (st.b.length : Int) = st.n * S
        · have hgt : gb = true := HGB.out.2 ⟨HBW.out, by omega, hl⟩
          have db : ((st.b.length : Int) != st.n * S) = false := by simp [hl]
          have HL := As.mk hl
          clear hl
          gi_wp2
          gi_meet
          case rel => exact ⟨by rw [hgt]; rfl, rfl⟩
        · have hgf : gb = false := by
            rcases gb with _ | _
            · rfl
            · exact absurd (HGD.out.1 (HGB.out.1 rfl)).2.2 hl
          have db : ((st.b.length : Int) != st.n * S) = true := by simp [hl]
          gi_wp2
          gi_meet
          case rel => exact ⟨by rw [hgf]; rfl, rfl⟩
  case rest =>
    obtain ⟨rfl, rfl⟩ := hcut
    rcases gb with _ | _
    · have hnG : ¬ PRead2.Good S st := fun h => by have := hgb.2 h; cases this
      have HNG := As.mk hnG
      clear hnG hgb
      gi_upto_region 26 with fail
      have hm := HM.out
      have p0 := cell_is (i := 0) hm.pt rfl
      have p1 := cell_is (i := 1) hm.pt rfl
      have p2 := cell_is (i := 2) hm.pt rfl
      have p3 := cell_is (i := 3) hm.pt rfl
      have pf0 := free_of (i := 0) hm.pt
      have pf1 := free_of (i := 1) hm.pt
      have pf2 := free_of (i := 2) hm.pt
      have pf3 := free_of (i := 3) hm.pt
      have kc := cell_of hm.ok
      have kf := free_of (i := 0) hm.ok
      have of := free_of (i := 0) hm.mo
      have ec := cell_of hm.er
      have ef := free_of (i := 0) hm.er
      try dsimp only at p0 p1 p2 p3 pf0 pf1 pf2 pf3 kc kf of ec ef
      clear hm cww nc bc g3
      gi_region
      have hm := HM.out
      obtain ⟨z1, z2, z3, z4, z5, z6, z7⟩ := stored_is hm.fr hm.pt hm.ok hm.mo hm.er hK rfl (show w.heap.size ≤ w.heap.size + 1 + 1 ∧ w.heap.size ≤ w.heap.size + 1 + 1 + 1 ∧ w.heap.size ≤ w.heap.size + 1 + 1 + 1 + 1 ∧ w.heap.size ≤ w.heap.size + 1 + 1 + 1 + 1 + 1 from ⟨by omega, by omega, by omega, by omega⟩) (.int .u32 0) (.int .u32 0) (.slice none 0 0) (.slice none 0 0) false st.most 0
      unfold stored at z1 z2 z3 z4 z5 z6 z7
      try dsimp only at z1 z2 z3 z4 z5 z6 z7
      clear p0 p1 p2 p3 pf0 pf1 pf2 pf3 kc kf of ec ef oc hm
      generalize ((((((wc.setCell ⟨w.heap.size + 1 + 1, 0, none⟩ (.int .u32 0)).setCell ⟨w.heap.size + 1 + 1, 1, none⟩ (.int .u32 0)).setCell ⟨w.heap.size + 1 + 1, 2, none⟩ (.slice none 0 0)).setCell ⟨w.heap.size + 1 + 1, 3, none⟩ (.slice none 0 0)).setCell ⟨w.heap.size + 1 + 1 + 1, 0, none⟩ (.bool false)).setCell ⟨w.heap.size + 1 + 1 + 1 + 1, 0, none⟩ (.int .u32 st.most)).setCell ⟨w.heap.size + 1 + 1 + 1 + 1 + 1, 0, none⟩ (.int .i64 0) = wf at *
      gi_wp2
      refine ⟨by simp, .inl ⟨_, _, rfl, run_takeDeferred z6, ?_⟩⟩
      obtain ⟨t1, t2, t3⟩ := taken z1 z6 (Nat.le_trans hz09 hD)
      have y2 := t2 z2
      have y3 := t2 z3
      have y4 := t2 z4
      have y5 := t2 z5
      have y20 := cell_is (i := 0) y2 rfl
      have y21 := cell_is (i := 1) y2 rfl
      have y22 := cell_is (i := 2) y2 rfl
      have y23 := cell_is (i := 3) y2 rfl
      have y30 := cell_of y3
      have y40 := cell_of y4
      have y50 := cell_of y5
      obtain ⟨m, hm1, hm2, hm3, hm4⟩ := HRS.out
      exact ⟨.tuple #[.agg #[.int .u32 0, .int .u32 0, .slice none 0 0, .slice none 0 0], .bool false, .int .u32 st.most, .int .i64 0], by simp [results, Try.results41, go_sem, y20, y21, y22, y23, y30, y40, y50], m, st, hm1, hm2, hm3, hm4.symm, .inl ⟨fun h => HNG.out h.1, rfl, t1⟩⟩
    · have hG := hgb.1 rfl
      have HG := As.mk hG
      clear hG hgb
      gi_wp2
      refine ⟨trivial, (callsIn_wide.2 (Dec5.Decode_calls Ab st.b.length cb st.b wc hdb.out HSO.out.range hcb.out hlen)).mono ?_⟩
      rintro e w5 (⟨hpt, vM, vE, rfl, hM, hE, hf5⟩ | ⟨hpt, rfl, hf5⟩)
      · have HMn := As.mk (HM.out.none_ hf5)
        have HKn := As.mk (hf5.heap hK (fun e => e))
        have HPT := As.mk hpt
        obtain ⟨AM, nM, cM, eM, _, _, _⟩ := hM.rd
        subst eM
        obtain ⟨AE, nE, cE, eE, _, _, _⟩ := hE.rd
        subst eE
        have HRM := As.mk hM
        have HRE := As.mk hE
        have hwc : w.heap.size ≤ wc.heap.size := HM.out.fr.size
        obtain ⟨q0, hq0⟩ : ∃ q0, Dec3.nb st.b 0 = q0 := ⟨_, rfl⟩
        obtain ⟨q4, hq4⟩ : ∃ q4, Dec3.nb st.b 4 = q4 := ⟨_, rfl⟩
        rw [hq0, hq4]
        have HQ := As.mk (And.intro hq0 hq4)
        clear hf5 hpt cww nc bc oc g3 hM hE hq0 hq4
        have p0 := cell_is (i := 0) HMn.out.pt rfl
        have p1 := cell_is (i := 1) HMn.out.pt rfl
        have p2 := cell_is (i := 2) HMn.out.pt rfl
        have p3 := cell_is (i := 3) HMn.out.pt rfl
        have pf0 := free_of (i := 0) HMn.out.pt
        have pf1 := free_of (i := 1) HMn.out.pt
        have pf2 := free_of (i := 2) HMn.out.pt
        have pf3 := free_of (i := 3) HMn.out.pt
        try dsimp only at p0 p1 p2 p3 pf0 pf1 pf2 pf3
        obtain ⟨HFo, HPo, HKo, HOo, HEo, HDo, HSo⟩ := put_pt HMn.out (show w.heap.size ≤ w.heap.size + 1 + 1 by omega) HKn.out (.int .u32 q0) (.int .u32 q4) (.slice AM nM cM) (.slice AE nE cE)
        try dsimp only at HFo HPo HKo HOo HEo HDo HSo
        gi_upto_region 28 with fail
        clear p0 p1 p2 p3 pf0 pf1 pf2 pf3
        generalize (((w5.setCell ⟨w.heap.size + 1 + 1, 0, none⟩ (.int .u32 q0)).setCell ⟨w.heap.size + 1 + 1, 1, none⟩ (.int .u32 q4)).setCell ⟨w.heap.size + 1 + 1, 2, none⟩ (.slice AM nM cM)).setCell ⟨w.heap.size + 1 + 1, 3, none⟩ (.slice AE nE cE) = w5' at *
        have HRM5 := As.mk (HRM.out.fr HSo.out (fun b hb e => by subst e; exact Row.ne HRM.out HMn.out.pt (by decide) hb))
        have HRE5 := As.mk (HRE.out.fr HSo.out (fun b hb e => by subst e; exact Row.ne HRE.out HMn.out.pt (by decide) hb))
        have oc := cell_of HOo.out
        have p0 := cell_is (i := 0) HPo.out rfl
        try dsimp only at oc p0
        by_cases hqe : q0 = st.most
        · subst hqe
          have hbq : (st.most != st.most) = false := by simp
          have hl5 : w.heap.size + 1 + 1 + 1 + 1 + 1 < wc.heap.size := (Array.getElem?_eq_some_iff.1 HM.out.er).1
          gi_upto_region 30 with fail
          clear oc p0
          have p0 := cell_is (i := 0) HPo.out rfl
          have p1 := cell_is (i := 1) HPo.out rfl
          have p2 := cell_is (i := 2) HPo.out rfl
          have p3 := cell_is (i := 3) HPo.out rfl
          have pf0 := free_of (i := 0) HPo.out
          have pf1 := free_of (i := 1) HPo.out
          have pf2 := free_of (i := 2) HPo.out
          have pf3 := free_of (i := 3) HPo.out
          have kc := cell_of HKo.out
          have kf := free_of (i := 0) HKo.out
          have oc := cell_of HOo.out
          have of := free_of (i := 0) HOo.out
          have ec := cell_of HEo.out
          have ef := free_of (i := 0) HEo.out
          try dsimp only at p0 p1 p2 p3 pf0 pf1 pf2 pf3 kc kf oc of ec ef
          gi_region
          obtain ⟨z1, z2, z3, z4, z5, z6, z7⟩ := stored_is HFo.out HPo.out HKo.out HOo.out HEo.out HDo.out rfl (show w.heap.size ≤ w.heap.size + 1 + 1 ∧ w.heap.size ≤ w.heap.size + 1 + 1 + 1 ∧ w.heap.size ≤ w.heap.size + 1 + 1 + 1 + 1 ∧ w.heap.size ≤ w.heap.size + 1 + 1 + 1 + 1 + 1 from ⟨by omega, by omega, by omega, by omega⟩) (.int .u32 st.most) (.int .u32 q4) (.slice AM nM cM) (.slice AE nE cE) true st.most 0
          unfold stored at z1 z2 z3 z4 z5 z6 z7
          try dsimp only at z1 z2 z3 z4 z5 z6 z7
          have r1 := HRM5.out.fr z7 (fun b hb e => by have h1 := (HRM5.out.blk b hb).1; rcases e with e | e | e | e <;> omega)
          have r2 := HRE5.out.fr z7 (fun b hb e => by have h1 := (HRE5.out.blk b hb).1; rcases e with e | e | e | e <;> omega)
          clear p0 p1 p2 p3 pf0 pf1 pf2 pf3 kc kf oc of ec ef
          generalize ((((((w5'.setCell ⟨w.heap.size + 1 + 1, 0, none⟩ (.int .u32 st.most)).setCell ⟨w.heap.size + 1 + 1, 1, none⟩ (.int .u32 q4)).setCell ⟨w.heap.size + 1 + 1, 2, none⟩ (.slice AM nM cM)).setCell ⟨w.heap.size + 1 + 1, 3, none⟩ (.slice AE nE cE)).setCell ⟨w.heap.size + 1 + 1 + 1, 0, none⟩ (.bool true)).setCell ⟨w.heap.size + 1 + 1 + 1 + 1, 0, none⟩ (.int .u32 st.most)).setCell ⟨w.heap.size + 1 + 1 + 1 + 1 + 1, 0, none⟩ (.int .i64 0) = wf at *
          gi_wp2
          refine ⟨by simp, .inl ⟨_, _, rfl, run_takeDeferred z6, ?_⟩⟩
          obtain ⟨t1, t2, t3⟩ := taken z1 z6 (Nat.le_trans hz09 hD)
          have s1 := (r1.fr t3 (fun b hb e => by subst e; obtain ⟨_, _, cs, hc⟩ := r1.blk _ hb; rw [z6] at hc; cases hc)).lower hwc
          have s2 := (r2.fr t3 (fun b hb e => by subst e; obtain ⟨_, _, cs, hc⟩ := r2.blk _ hb; rw [z6] at hc; cases hc)).lower hwc
          have y2 := t2 z2
          have y3 := t2 z3
          have y4 := t2 z4
          have y5 := t2 z5
          have y20 := cell_is (i := 0) y2 rfl
          have y21 := cell_is (i := 1) y2 rfl
          have y22 := cell_is (i := 2) y2 rfl
          have y23 := cell_is (i := 3) y2 rfl
          have y30 := cell_of y3
          have y40 := cell_of y4
          have y50 := cell_of y5
          obtain ⟨m, hm1, hm2, hm3, hm4⟩ := HRS.out
          exact ⟨.tuple #[.agg #[.int .u32 st.most, .int .u32 q4, .slice AM nM cM, .slice AE nE cE], .bool true, .int .u32 st.most, .int .i64 0], by simp [results, Try.results41, go_sem, y20, y21, y22, y23, y30, y40, y50], m, st, hm1, hm2, hm3, hm4.symm, .inr ⟨⟨HG.out, HPT.out, HQ.out.1⟩, _, _, by rw [HQ.out.2], s1, s2, t1⟩⟩
        · have hbq : (q0 != st.most) = true := by simp [hqe]
          have HQE := As.mk hqe
          clear hqe
          gi_upto_region 29 with fail
          clear oc p0
          gi_upto_region 29 with fail
          have p0 := cell_is (i := 0) HPo.out rfl
          have p1 := cell_is (i := 1) HPo.out rfl
          have p2 := cell_is (i := 2) HPo.out rfl
          have p3 := cell_is (i := 3) HPo.out rfl
          have pf0 := free_of (i := 0) HPo.out
          have pf1 := free_of (i := 1) HPo.out
          have pf2 := free_of (i := 2) HPo.out
          have pf3 := free_of (i := 3) HPo.out
          have kc := cell_of HKo.out
          have kf := free_of (i := 0) HKo.out
          have oc := cell_of HOo.out
          have of := free_of (i := 0) HOo.out
          have ec := cell_of HEo.out
          have ef := free_of (i := 0) HEo.out
          try dsimp only at p0 p1 p2 p3 pf0 pf1 pf2 pf3 kc kf oc of ec ef
          gi_region
          obtain ⟨z1, z2, z3, z4, z5, z6, z7⟩ := stored_is HFo.out HPo.out HKo.out HOo.out HEo.out HDo.out rfl (show w.heap.size ≤ w.heap.size + 1 + 1 ∧ w.heap.size ≤ w.heap.size + 1 + 1 + 1 ∧ w.heap.size ≤ w.heap.size + 1 + 1 + 1 + 1 ∧ w.heap.size ≤ w.heap.size + 1 + 1 + 1 + 1 + 1 from ⟨by omega, by omega, by omega, by omega⟩) (.int .u32 0) (.int .u32 0) (.slice none 0 0) (.slice none 0 0) false st.most 0
          unfold stored at z1 z2 z3 z4 z5 z6 z7
          try dsimp only at z1 z2 z3 z4 z5 z6 z7
          clear p0 p1 p2 p3 pf0 pf1 pf2 pf3 kc kf oc of ec ef
          generalize ((((((w5'.setCell ⟨w.heap.size + 1 + 1, 0, none⟩ (.int .u32 0)).setCell ⟨w.heap.size + 1 + 1, 1, none⟩ (.int .u32 0)).setCell ⟨w.heap.size + 1 + 1, 2, none⟩ (.slice none 0 0)).setCell ⟨w.heap.size + 1 + 1, 3, none⟩ (.slice none 0 0)).setCell ⟨w.heap.size + 1 + 1 + 1, 0, none⟩ (.bool false)).setCell ⟨w.heap.size + 1 + 1 + 1 + 1, 0, none⟩ (.int .u32 st.most)).setCell ⟨w.heap.size + 1 + 1 + 1 + 1 + 1, 0, none⟩ (.int .i64 0) = wf at *
          gi_wp2
          refine ⟨by simp, .inl ⟨_, _, rfl, run_takeDeferred z6, ?_⟩⟩
          obtain ⟨t1, t2, t3⟩ := taken z1 z6 (Nat.le_trans hz09 hD)
          have y2 := t2 z2
          have y3 := t2 z3
          have y4 := t2 z4
          have y5 := t2 z5
          have y20 := cell_is (i := 0) y2 rfl
          have y21 := cell_is (i := 1) y2 rfl
          have y22 := cell_is (i := 2) y2 rfl
          have y23 := cell_is (i := 3) y2 rfl
          have y30 := cell_of y3
          have y40 := cell_of y4
          have y50 := cell_of y5
          obtain ⟨m, hm1, hm2, hm3, hm4⟩ := HRS.out
          exact ⟨.tuple #[.agg #[.int .u32 0, .int .u32 0, .slice none 0 0, .slice none 0 0], .bool false, .int .u32 st.most, .int .i64 0], by simp [results, Try.results41, go_sem, y20, y21, y22, y23, y30, y40, y50], m, st, hm1, hm2, hm3, hm4.symm, .inl ⟨fun h => HQE.out (HQ.out.1.symm.trans h.2.2), rfl, t1⟩⟩
      · have HMn := As.mk (HM.out.none_ hf5)
        have HKn := As.mk (hf5.heap hK (fun e => e))
        have HPT := As.mk hpt
        clear hf5 hpt cww nc bc oc g3
        have p0 := cell_is (i := 0) HMn.out.pt rfl
        have p1 := cell_is (i := 1) HMn.out.pt rfl
        have p2 := cell_is (i := 2) HMn.out.pt rfl
        have p3 := cell_is (i := 3) HMn.out.pt rfl
        have pf0 := free_of (i := 0) HMn.out.pt
        have pf1 := free_of (i := 1) HMn.out.pt
        have pf2 := free_of (i := 2) HMn.out.pt
        have pf3 := free_of (i := 3) HMn.out.pt
        try dsimp only at p0 p1 p2 p3 pf0 pf1 pf2 pf3
        obtain ⟨HFo, HPo, HKo, HOo, HEo, HDo, HSo⟩ := put_pt HMn.out (show w.heap.size ≤ w.heap.size + 1 + 1 by omega) HKn.out (.int .u32 0) (.int .u32 0) (.slice none 0 0) (.slice none 0 0)
        try dsimp only at HFo HPo HKo HOo HEo HDo HSo
        gi_upto_region 28 with fail
        clear p0 p1 p2 p3 pf0 pf1 pf2 pf3
        generalize (((w5.setCell ⟨w.heap.size + 1 + 1, 0, none⟩ (.int .u32 0)).setCell ⟨w.heap.size + 1 + 1, 1, none⟩ (.int .u32 0)).setCell ⟨w.heap.size + 1 + 1, 2, none⟩ (.slice none 0 0)).setCell ⟨w.heap.size + 1 + 1, 3, none⟩ (.slice none 0 0) = w5' at *
        gi_upto_region 29 with fail
        have p0 := cell_is (i := 0) HPo.out rfl
        have p1 := cell_is (i := 1) HPo.out rfl
        have p2 := cell_is (i := 2) HPo.out rfl
        have p3 := cell_is (i := 3) HPo.out rfl
        have pf0 := free_of (i := 0) HPo.out
        have pf1 := free_of (i := 1) HPo.out
        have pf2 := free_of (i := 2) HPo.out
        have pf3 := free_of (i := 3) HPo.out
        have kc := cell_of HKo.out
        have kf := free_of (i := 0) HKo.out
        have oc := cell_of HOo.out
        have of := free_of (i := 0) HOo.out
        have ec := cell_of HEo.out
        have ef := free_of (i := 0) HEo.out
        try dsimp only at p0 p1 p2 p3 pf0 pf1 pf2 pf3 kc kf oc of ec ef
        gi_region
        obtain ⟨z1, z2, z3, z4, z5, z6, z7⟩ := stored_is HFo.out HPo.out HKo.out HOo.out HEo.out HDo.out rfl (show w.heap.size ≤ w.heap.size + 1 + 1 ∧ w.heap.size ≤ w.heap.size + 1 + 1 + 1 ∧ w.heap.size ≤ w.heap.size + 1 + 1 + 1 + 1 ∧ w.heap.size ≤ w.heap.size + 1 + 1 + 1 + 1 + 1 from ⟨by omega, by omega, by omega, by omega⟩) (.int .u32 0) (.int .u32 0) (.slice none 0 0) (.slice none 0 0) false st.most 0
        unfold stored at z1 z2 z3 z4 z5 z6 z7
        try dsimp only at z1 z2 z3 z4 z5 z6 z7
        clear p0 p1 p2 p3 pf0 pf1 pf2 pf3 kc kf oc of ec ef
        generalize ((((((w5'.setCell ⟨w.heap.size + 1 + 1, 0, none⟩ (.int .u32 0)).setCell ⟨w.heap.size + 1 + 1, 1, none⟩ (.int .u32 0)).setCell ⟨w.heap.size + 1 + 1, 2, none⟩ (.slice none 0 0)).setCell ⟨w.heap.size + 1 + 1, 3, none⟩ (.slice none 0 0)).setCell ⟨w.heap.size + 1 + 1 + 1, 0, none⟩ (.bool false)).setCell ⟨w.heap.size + 1 + 1 + 1 + 1, 0, none⟩ (.int .u32 st.most)).setCell ⟨w.heap.size + 1 + 1 + 1 + 1 + 1, 0, none⟩ (.int .i64 0) = wf at *
        gi_wp2
        refine ⟨by simp, .inl ⟨_, _, rfl, run_takeDeferred z6, ?_⟩⟩
        obtain ⟨t1, t2, t3⟩ := taken z1 z6 (Nat.le_trans hz09 hD)
        have y2 := t2 z2
        have y3 := t2 z3
        have y4 := t2 z4
        have y5 := t2 z5
        have y20 := cell_is (i := 0) y2 rfl
        have y21 := cell_is (i := 1) y2 rfl
        have y22 := cell_is (i := 2) y2 rfl
        have y23 := cell_is (i := 3) y2 rfl
        have y30 := cell_of y3
        have y40 := cell_of y4
        have y50 := cell_of y5
        obtain ⟨m, hm1, hm2, hm3, hm4⟩ := HRS.out
        exact ⟨.tuple #[.agg #[.int .u32 0, .int .u32 0, .slice none 0 0, .slice none 0 0], .bool false, .int .u32 st.most, .int .i64 0], by simp [results, Try.results41, go_sem, y20, y21, y22, y23, y30, y40, y50], m, st, hm1, hm2, hm3, hm4.symm, .inl ⟨fun h => HPT.out h.2.1, rfl, t1⟩⟩
theorem Read_calls (p : Nat) (s : Ram.St) (which : Int) (S Wd : Nat) (w : World) (is : Nat → Bool) (L : Nat → List (Head × List Int)) (hR : RamE w p s) (hS : s.g.s = S) (hWd : (Wd : Int) = s.g.c - 1) (hw : which = 0 ∨ which = 1) (hA : RowsAre s p (2 + which) is L w) :
    Calls Try.prog 41 #[dev p, .int .i64 which] w (ReadPost Wd S s.g.p.toNat is L w) := part1.2 ⟨part2⟩ p s which S Wd w is L hR hS hWd hw hA
end Go.Proofs.Ytlhgbamajabnfaa.PRead3

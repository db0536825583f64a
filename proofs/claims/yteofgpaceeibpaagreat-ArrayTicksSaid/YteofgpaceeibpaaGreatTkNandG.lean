/- nand: New (no bad blocks, no events). | nand: New (no bad blocks, no events): the walk. -/
import Derived.Test.YteofgpaceeibpaaGreatTkNandH
import Derived.Test.YteofgpaceeibpaaGreatTkRef5
namespace Go.Proofs.YteofgpaceeibpaaGreat.NandF
open Go.RowKit Gab Wr Geom Ref Heap Nand NandA NandB NandC NandD NandE Par
set_option linter.unusedVariables false
set_option linter.unusedSimpArgs false

/-- New chips. -/
def _root_.Go.Proofs.YteofgpaceeibpaaGreat.Nand.St.new (g : Geo) : St := ⟨g, fun _ _ => ⟨fun _ => none, 0, 0, false⟩, fun _ => false, [], 0, false⟩
theorem infoBool : (Tryz.prog.info? 4).map (fun i => (i.zero, i.size, i.bytes)) = some (some (.bool false), 1, 1) := by kernel_rfl
theorem infoBlk : (Tryz.prog.info? 89).map (fun i => (i.zero, i.size, i.bytes)) = some (some (.agg #[.slice none 0 0, .int .i64 0, .int .i64 0, .bool false]), 4, 48) := by kernel_rfl
theorem infoPg : (Tryz.prog.info? 176).map (fun i => (i.zero, i.size, i.bytes)) = some (some (.agg #[.slice none 0 0, .slice none 0 0]), 2, 48) := by kernel_rfl
theorem infoSB : (Tryz.prog.info? 86).map (fun i => (i.zero, i.size, i.bytes)) = some (some (.slice none 0 0), 1, 24) := by kernel_rfl
/-- make([]T, n), whatever the cells. -/
theorem run_makeV {P : Program} (t e : TypeId) (z : Value) (size bytes : Nat) (ht : P.underlying t = some (.slice e)) (hinfo : (P.info? e).map (fun i => (i.zero, i.size, i.bytes)) = some (some z, size, bytes)) (m : Int) (h0 : 0 ≤ m) (hm : m ≤ 100000) (hb : bytes ≤ 1000) :
    ∀ W : World, (Instr.makeSlice t (.int .i64 m) (.int .i64 m)).run P W = .ok (.slice (some ⟨W.heap.size, 0, none⟩) m.toNat m.toNat) (W.alloc (.cells (madeCells z.cells (m.toNat * size)) e)) := by
  intro W
  obtain ⟨i0, hi, hzz⟩ := Option.map_eq_some_iff.1 hinfo
  simp only [Prod.mk.injEq] at hzz
  obtain ⟨hz0, hz1, hz2⟩ := hzz
  have hmul : (bytes : Int) * m ≤ 1000 * 100000 := Int.mul_le_mul (by omega) hm h0 (by omega)
  rw [← hz1]
  exact run_make W t e i0 z ht hi hz0 .i64 .i64 m m h0 (Int.le_refl _) (by rw [hz2]; omega) (by omega)
theorem made_get {z : Array Value} {n j : Nat} (h : j < n) : (madeCells z n)[j]? = some (z[j % z.size]!) := by
  unfold madeCells
  rw [Array.getElem?_map, Array.getElem?_range, if_pos h]
  rfl
/-- A chip's blocks, all erased. -/
structure ZChip (w : World) (nb np base B : Nat) (P : Nat → Nat) : Prop where
  blk : ∃ cs, w.heap[B]? = some (.cells cs 89 (0, 0)) ∧ ∀ b, b < nb → cs[b * 4]? = some (.slice (some ⟨P b, 0, none⟩) np np) ∧ cs[b * 4 + 1]? = some (.int .i64 0) ∧ cs[b * 4 + 2]? = some (.int .i64 0) ∧ cs[b * 4 + 3]? = some (.bool false)
  pgs : ∀ b, b < nb → ∃ ps, w.heap[P b]? = some (.cells ps 176 (0, 0)) ∧ ps.size = np * 2 ∧ ∀ j, j < np * 2 → ps[j]? = some (.slice none 0 0)
  lo : base ≤ B ∧ ∀ b, b < nb → base ≤ P b
  inj : ∀ b b', b < nb → b' < nb → P b = P b' → b = b'
theorem ZChip.none_ {w w' : World} {nb np base B : Nat} {P : Nat → Nat} (h : ZChip w nb np base B P) (hf : Fr None_ w w') : ZChip w' nb np base B P :=
  ⟨by obtain ⟨cs, e, h1⟩ := h.blk; exact ⟨cs, hf.heap e (fun h => h), h1⟩, fun b hb => by obtain ⟨ps, e, h1⟩ := h.pgs b hb; exact ⟨ps, hf.heap e (fun h => h), h1⟩, h.lo, h.inj⟩
/-- All chips so far. -/
structure ZAll (w : World) (i nb np base : Nat) (B : Nat → Nat) (P : Nat → Nat → Nat) : Prop where
  chip : ∀ c, c < i → ZChip w nb np base (B c) (P c)
  injB : ∀ c c', c < i → c' < i → B c = B c' → c = c'
  injP : ∀ c b c' b', c < i → b < nb → c' < i → b' < nb → P c b = P c' b' → c = c' ∧ b = b'
theorem ZAll.none_ {w w' : World} {i nb np base : Nat} {B : Nat → Nat} {P : Nat → Nat → Nat} (h : ZAll w i nb np base B P) (hf : Fr None_ w w') : ZAll w' i nb np base B P := ⟨fun c hc => (h.chip c hc).none_ hf, h.injB, h.injP⟩
theorem ZAll.snoc {w w' : World} {i nb np base : Nat} {B : Nat → Nat} {P : Nat → Nat → Nat} (h : ZAll w i nb np base B P) (hf : Fr None_ w w') (hb : base ≤ w.heap.size) {Bn : Nat} {Pn : Nat → Nat} (hn : ZChip w' nb np w.heap.size Bn Pn) :
    ZAll w' (i + 1) nb np base (fun c => if c = i then Bn else B c) (fun c => if c = i then Pn else P c) := by
  have hlB : ∀ c, c < i → B c < w.heap.size := fun c hc => by
    obtain ⟨cs, e, _⟩ := (h.chip c hc).blk
    exact (Array.getElem?_eq_some_iff.1 e).1
  have hlP : ∀ c b, c < i → b < nb → P c b < w.heap.size := fun c b hc hb => by
    obtain ⟨cs, e, _⟩ := (h.chip c hc).pgs b hb
    exact (Array.getElem?_eq_some_iff.1 e).1
  refine ⟨fun c hc => ?_, fun c c' hc hc' e => ?_, fun c b c' b' hc hb1 hc' hb2 e => ?_⟩
  · by_cases ec : c = i
    · rw [if_pos ec, if_pos ec]
      exact ⟨hn.blk, hn.pgs, ⟨Nat.le_trans hb hn.lo.1, fun b hbb => Nat.le_trans hb (hn.lo.2 b hbb)⟩, hn.inj⟩
    · rw [if_neg ec, if_neg ec]
      exact (h.chip c (by omega)).none_ hf
  · by_cases e1 : c = i
    · by_cases e2 : c' = i
      · omega
      · rw [if_pos e1, if_neg e2] at e
        have := hlB c' (by omega)
        have := hn.lo.1
        omega
    · by_cases e2 : c' = i
      · rw [if_neg e1, if_pos e2] at e
        have := hlB c (by omega)
        have := hn.lo.1
        omega
      · rw [if_neg e1, if_neg e2] at e
        exact h.injB c c' (by omega) (by omega) e
  · by_cases e1 : c = i
    · by_cases e2 : c' = i
      · rw [if_pos e1, if_pos e2] at e
        exact ⟨by omega, hn.inj b b' hb1 hb2 e⟩
      · rw [if_pos e1, if_neg e2] at e
        have := hlP c' b' (by omega) hb2
        have := hn.lo.2 b hb1
        omega
    · by_cases e2 : c' = i
      · rw [if_neg e1, if_pos e2] at e
        have := hlP c b (by omega) hb1
        have := hn.lo.2 b' hb2
        omega
      · rw [if_neg e1, if_neg e2] at e
        exact h.injP c b c' b' (by omega) hb1 (by omega) hb2 e
theorem ZChip.fr {S : Nat → Prop} {w w' : World} {nb np base B : Nat} {P : Nat → Nat} (h : ZChip w nb np base B P) (hf : Fr S w w') (hS : ∀ b cs T, w.heap[b]? = some (.cells cs T (0, 0)) → T = 89 ∨ T = 176 → ¬ S b) : ZChip w' nb np base B P :=
  ⟨by obtain ⟨cs, e, h1⟩ := h.blk; exact ⟨cs, hf.heap e (hS _ _ _ e (.inl rfl)), h1⟩, fun b hb => by obtain ⟨ps, e, h1⟩ := h.pgs b hb; exact ⟨ps, hf.heap e (hS _ _ _ e (.inr rfl)), h1⟩, h.lo, h.inj⟩
theorem ZAll.fr {S : Nat → Prop} {w w' : World} {i nb np base : Nat} {B : Nat → Nat} {P : Nat → Nat → Nat} (h : ZAll w i nb np base B P) (hf : Fr S w w') (hS : ∀ b cs T, w.heap[b]? = some (.cells cs T (0, 0)) → T = 89 ∨ T = 176 → ¬ S b) : ZAll w' i nb np base B P := ⟨fun c hc => (h.chip c hc).fr hf hS, h.injB, h.injP⟩
/-- A chip whose first blocks have their pages. -/
structure ZPart (w : World) (j nb np base B : Nat) (P : Nat → Nat) : Prop where
  blk : ∃ cs, w.heap[B]? = some (.cells cs 89 (0, 0)) ∧ cs.size = nb * 4 ∧ (∀ b, b < nb → cs[b * 4 + 1]? = some (.int .i64 0) ∧ cs[b * 4 + 2]? = some (.int .i64 0) ∧ cs[b * 4 + 3]? = some (.bool false)) ∧ ∀ b, b < j → cs[b * 4]? = some (.slice (some ⟨P b, 0, none⟩) np np)
  pgs : ∀ b, b < j → ∃ ps, w.heap[P b]? = some (.cells ps 176 (0, 0)) ∧ ps.size = np * 2 ∧ ∀ q, q < np * 2 → ps[q]? = some (.slice none 0 0)
  lo : base ≤ B ∧ ∀ b, b < j → B < P b
  inj : ∀ b b', b < j → b' < j → P b = P b' → b = b'
theorem ZPart.start (w : World) (nb np : Nat) : ZPart (w.alloc (.cells (madeCells #[.slice none 0 0, .int .i64 0, .int .i64 0, .bool false] (nb * 4)) 89)) 0 nb np w.heap.size w.heap.size (fun _ => 0) := by
  refine ⟨⟨_, heap_alloc_new w _, by simp [madeCells], fun b hb => ?_, fun b hb => absurd hb (Nat.not_lt_zero _)⟩, fun b hb => absurd hb (Nat.not_lt_zero _), ⟨Nat.le_refl _, fun b hb => absurd hb (Nat.not_lt_zero _)⟩, fun b _ hb => absurd hb (Nat.not_lt_zero _)⟩
  rw [made_get (by omega), made_get (by omega), made_get (by omega)]
  have e1 : (b * 4 + 1) % 4 = 1 := by omega
  have e2 : (b * 4 + 2) % 4 = 2 := by omega
  have e3 : (b * 4 + 3) % 4 = 3 := by omega
  simp [e1, e2, e3]
theorem ZPart.step {w : World} {j nb np base B : Nat} {P : Nat → Nat} (h : ZPart w j nb np base B P) (hj : j < nb) :
    ZPart ((w.alloc (.cells (madeCells #[.slice none 0 0, .slice none 0 0] (np * 2)) 176)).setCell ⟨B, j * 4, none⟩ (.slice (some ⟨w.heap.size, 0, none⟩) np np)) (j + 1) nb np base B (fun b => if b = j then w.heap.size else P b) := by
  obtain ⟨cs, hb, hz, hr, hs⟩ := h.blk
  have hlt : B < w.heap.size := (Array.getElem?_eq_some_iff.1 hb).1
  have hb1 : (w.alloc (.cells (madeCells #[.slice none 0 0, .slice none 0 0] (np * 2)) 176)).heap[B]? = some (.cells cs 89 (0, 0)) := at_old _ hb
  have hf := fr_set1 (w' := w.alloc (.cells (madeCells #[.slice none 0 0, .slice none 0 0] (np * 2)) 176)) (b := B) (i := j * 4) (.slice (some ⟨w.heap.size, 0, none⟩) np np)
  have hP : ∀ b, b < j → P b < w.heap.size := fun b hb => by
    obtain ⟨ps, e, _⟩ := h.pgs b hb
    exact (Array.getElem?_eq_some_iff.1 e).1
  refine ⟨⟨_, heap_set hb1 _ _, by simpa using hz, fun b hb => ?_, fun b hb => ?_⟩, fun b hb => ?_, ⟨h.lo.1, fun b hb => ?_⟩, fun b b' hb hb' e => ?_⟩
  · rw [Array.getElem?_setIfInBounds_ne (by omega), Array.getElem?_setIfInBounds_ne (by omega), Array.getElem?_setIfInBounds_ne (by omega)]
    exact hr b hb
  · by_cases e : b = j
    · subst e
      rw [if_pos rfl, Array.getElem?_setIfInBounds_self_of_lt (by omega)]
    · rw [if_neg e, Array.getElem?_setIfInBounds_ne (by omega)]
      exact hs b (by omega)
  · by_cases e : b = j
    · subst e
      rw [if_pos rfl]
      refine ⟨_, hf.heap (heap_alloc_new w _) (by omega), by simp [madeCells], fun q hq => ?_⟩
      rw [made_get hq]
      have : q % 2 = 0 ∨ q % 2 = 1 := by omega
      rcases this with e | e <;> simp [e]
    · rw [if_neg e]
      obtain ⟨ps, e1, h1⟩ := h.pgs b (by omega)
      exact ⟨ps, hf.heap (at_old _ e1) (by have := h.lo.2 b (by omega); omega), h1⟩
  · by_cases e : b = j
    · rw [if_pos e]; exact hlt
    · rw [if_neg e]; exact h.lo.2 b (by omega)
  · by_cases e1 : b = j
    · by_cases e2 : b' = j
      · omega
      · rw [if_pos e1, if_neg e2] at e
        have := hP b' (by omega)
        omega
    · by_cases e2 : b' = j
      · rw [if_neg e1, if_pos e2] at e
        have := hP b (by omega)
        omega
      · rw [if_neg e1, if_neg e2] at e
        exact h.inj b b' (by omega) (by omega) e
theorem ZPart.done {w : World} {nb np base B : Nat} {P : Nat → Nat} (h : ZPart w nb nb np base B P) : ZChip w nb np base B P := by
  obtain ⟨cs, hb, hz, hr, hs⟩ := h.blk
  exact ⟨⟨cs, hb, fun b hb => ⟨hs b hb, hr b hb⟩⟩, h.pgs, ⟨h.lo.1, fun b hb => Nat.le_of_lt (Nat.lt_of_le_of_lt h.lo.1 (h.lo.2 b hb))⟩, h.inj⟩
/-- Chips that come: what New holds, i chips made. -/
structure Grow (w w' : World) (g : Geo) (p D i base : Nat) (A : Option Addr) (cap : Nat) (vs : List Value) (B : Nat → Nat) (P : Nat → Nat → Nat) : Prop where
  fr : Fr None_ w w'
  geo : w'.heap[w.heap.size]? = some (.cells #[.int .i64 g.c, .int .i64 g.b, .int .i64 g.p, .int .i64 g.s] 24 (0, 0))
  main : w'.heap[p]? = some (.cells #[.int .i64 g.c, .int .i64 g.b, .int .i64 g.p, .int .i64 g.s, .slice A i cap, .slice (some ⟨D, 0, none⟩) (g.c + 1).toNat (g.c + 1).toNat, .slice none 0 0, .int .i64 0, .bool false] 85 (0, 0))
  ded : w'.heap[D]? = some (.cells (madeCells #[.bool false] (g.c + 1).toNat) 4 (0, 0))
  row : RowV 86 1 w' base (.slice A i cap) i vs
  all : ZAll w' i g.b.toNat g.p.toNat base B P
  at_ : ∀ c, c < i → vs[c]? = some (.slice (some ⟨B c, 0, none⟩) g.b.toNat g.b.toNat)
  lo : w.heap.size ≤ D ∧ w.heap.size < p ∧ p < base ∧ D < base ∧ base ≤ w'.heap.size
theorem infoEv : (Tryz.prog.info? 50).map (fun i => (i.zero, i.size, i.bytes)) = some (some (.agg #[.int .i64 0, .int .i64 0, .int .i64 0, .slice none 0 0]), 4, 48) := by kernel_rfl
theorem append_nil (ty : TypeId) : ∀ W : World, (Builtin.append_ #[80, 80] ty #[.slice none 0 0, .slice none 0 0]).run Tryz.prog W = .ok (.slice none 0 0) W := by
  intro W
  obtain ⟨i0, hi, hzz⟩ := Option.map_eq_some_iff.1 infoEv
  simp [Builtin.append_, run_underlying Tryz.underlying80, sizeOf, typeInfo, hi, Builtin.lenOf, Builtin.firstCells]
end Go.Proofs.YteofgpaceeibpaaGreat.NandF
namespace Go.Proofs.YteofgpaceeibpaaGreat.NandG
open Go.RowKit Gab Wr Geom Ref Heap Nand NandA NandB NandC NandD NandE Par NandF
set_option linter.unusedVariables false
set_option linter.unusedSimpArgs false

theorem _root_.Go.Proofs.YteofgpaceeibpaaGreat.NandF.Grow.start {w w2 : World} {g : Geo} (hf : Fr None_ w w2) (hb : w2.heap[w.heap.size]? = some (.cells #[.int .i64 g.c, .int .i64 g.b, .int .i64 g.p, .int .i64 g.s] 24 (0, 0))) :
    Grow w (((w2.alloc (.cells (madeCells #[.bool false] (g.c + 1).toNat) 4)).alloc (.cells #[.int .i64 g.c, .int .i64 g.b, .int .i64 g.p, .int .i64 g.s, .slice none 0 0, .slice (some ⟨w2.heap.size, 0, none⟩) (g.c + 1).toNat (g.c + 1).toNat, .slice none 0 0, .int .i64 0, .bool false] 85)).drew) g (w2.heap.size + 1) w2.heap.size 0 (w2.heap.size + 2) none 0 [] (fun _ => 0) (fun _ _ => 0) := by
  have hlt := (Array.getElem?_eq_some_iff.1 hb).1
  have hd : ∀ w' : World, ∀ b : Nat, w'.drew.heap[b]? = w'.heap[b]? := fun _ _ => rfl
  refine ⟨((hf.alloc _).alloc _).drew, ?_, ?_, ?_, RowV.nil _ _ _ _, ⟨fun c hc => absurd hc (Nat.not_lt_zero _), fun c _ hc => absurd hc (Nat.not_lt_zero _), fun c _ _ _ hc => absurd hc (Nat.not_lt_zero _)⟩, fun c hc => absurd hc (Nat.not_lt_zero _), ⟨hf.size, by omega, by omega, by omega, ?_⟩⟩
  · rw [hd]
    exact at_old _ (at_old _ hb)
  · rw [hd]
    exact at_new _ (size_new _ rfl)
  · rw [hd]
    exact at_old _ (at_new _ rfl)
  · show w2.heap.size + 2 ≤ (World.alloc _ _).heap.size
    rw [size_new _ (size_new _ rfl)]
    exact Nat.le_refl _
theorem _root_.Go.Proofs.YteofgpaceeibpaaGreat.NandF.Grow.snoc {w w1 w2 w3 : World} {g : Geo} {p D i base : Nat} {A A3 : Option Addr} {cap c3 : Nat} {vs : List Value} {B : Nat → Nat} {P : Nat → Nat → Nat} (h : Grow w w1 g p D i base A cap vs B P) (hf : Fr None_ w1 w2) {Bn : Nat} {Pn : Nat → Nat} (hz : ZChip w2 g.b.toNat g.p.toNat w1.heap.size Bn Pn)
    (hr : RowV 86 1 w3 base (.slice A3 (i + 1) c3) (i + 1) (vs ++ [.slice (some ⟨Bn, 0, none⟩) g.b.toNat g.b.toNat])) (hf3 : Fr (fun b => (Value.slice A i cap).ownBlock = some b) w2 w3) :
    Grow w (w3.setCell ⟨p, 4, none⟩ (.slice A3 (i + 1) c3)) g p D (i + 1) base A3 c3 (vs ++ [.slice (some ⟨Bn, 0, none⟩) g.b.toNat g.b.toNat]) (fun c => if c = i then Bn else B c) (fun c => if c = i then Pn else P c) := by
  have hlo := h.lo
  have hrow2 := h.row.none_ hf
  have hown : ∀ b, (Value.slice A i cap).ownBlock = some b → base ≤ b ∧ ∃ cs, w2.heap[b]? = some (.cells cs 86 (0, 0)) := fun b hb => ⟨(hrow2.blk b hb).1, (hrow2.blk b hb).2.2⟩
  have hsb := fr_set1 (w' := w3) (b := p) (i := 4) (.slice A3 (i + 1) c3)
  have hm3 := hf3.heap (hf.heap h.main (fun h => h)) (fun hb => by have := (hown _ hb).1; omega)
  have hg3 := hf3.heap (hf.heap h.geo (fun h => h)) (fun hb => by have := (hown _ hb).1; omega)
  have hd3 := hf3.heap (hf.heap h.ded (fun h => h)) (fun hb => by have := (hown _ hb).1; omega)
  have hDp : D ≠ p := fun e => by
    have h1 := h.ded
    have h2 := h.main
    rw [e, h2] at h1
    injection h1 with h1
    injection h1 with _ h1
    exact absurd h1 (by decide)
  have hza := h.all.snoc hf (by omega) hz
  have hza3 := hza.fr hf3 (fun b cs T e ht hb => by
    obtain ⟨_, cs', e'⟩ := hown b hb
    rw [e] at e'
    injection e' with e'
    injection e' with _ e'
    subst e'
    rcases ht with ht | ht <;> exact absurd ht (by decide))
  refine ⟨((h.fr.after hf (fun _ _ h => h)).after hf3 (fun b hb hb2 => absurd hb (by have := (hown _ hb2).1; omega))).after hsb (fun b hb hb2 => absurd hb (by omega)), hsb.heap hg3 (by omega), ?_, hsb.heap hd3 hDp, hr.fr hsb (fun b hb e => by have := (hr.blk b hb).1; omega), ?_, fun c hc => ?_, ⟨hlo.1, hlo.2.1, hlo.2.2.1, hlo.2.2.2.1, ?_⟩⟩
  · have := heap_set hm3 4 (.slice A3 (i + 1) c3)
    simpa using this
  · refine hza3.fr hsb (fun b cs T e ht hb => ?_)
    subst hb
    rw [hm3] at e
    injection e with e
    injection e with _ e
    subst e
    rcases ht with ht | ht <;> exact absurd ht (by decide)
  · have hl : vs.length = i := by have := h.row.2; omega
    by_cases e : c = i
    · subst e
      rw [if_pos rfl, List.getElem?_append_right (by omega), hl]
      simp
    · rw [if_neg e, List.getElem?_append_left (by omega)]
      exact h.at_ c (by omega)
  · have := hf.size
    have := hf3.size
    have := hsb.size
    omega
theorem _root_.Go.Proofs.YteofgpaceeibpaaGreat.NandF.Grow.nand {w w1 : World} {g : Geo} (hg : g.Ok) {p D base : Nat} {A : Option Addr} {cap : Nat} {vs : List Value} {B : Nat → Nat} {P : Nat → Nat → Nat} (h : Grow w w1 g p D (g.c + 1).toNat base A cap vs B P) :
    ∃ L, Nand w1 p (St.new g) L ∧ ∀ b, NF p L (St.new g).n (St.new g).nb b → w.heap.size ≤ b := by
  have hlo := h.lo
  have hc := hg.c.1
  have hr0 := h.row.1
  rcases h.row.1.2 with ⟨e, hn⟩ | ⟨C, cap', cur, e, hb, hC, hcap, _⟩
  · omega
  · injection e with e1 e2 e3
    subst e1 e3
    refine ⟨⟨C, D, B, P, none, 0, 0, cap⟩, ?_, fun b hb2 => ?_⟩
    · exact {
        ok := hg
        main := h.main
        capn := hcap
        out := ⟨cur, hC, fun c hc => by
          have h1 := World.ownsRow.cells hr0 rfl c _ (h.at_ c hc)
          have h0 : (⟨C, 0, none⟩ : Addr).add c = ⟨C, c, none⟩ := by unfold Addr.add; by_cases e : c = 0 <;> simp [e]
          rw [h0] at h1
          simp [World.cell?, hC] at h1
          exact h1⟩
        ded := ⟨_, h.ded, fun c hc => (made_get hc).trans (by simp [Nat.mod_one]; rfl)⟩
        chp := fun c hc => (h.all.chip c hc).blk
        pgs := fun c b hc hb => by
          obtain ⟨ps, e, hz, hq⟩ := (h.all.chip c hc).pgs b hb
          exact ⟨ps, e, hz, fun q hq' => ⟨_, _, hq (q * 2) (by show q * 2 < g.p.toNat * 2; have : q < g.p.toNat := hq'; omega), hq (q * 2 + 1) (by have : q < g.p.toNat := hq'; omega), rfl, rfl⟩⟩
        injB := h.all.injB
        injP := h.all.injP
        evs := ⟨rfl, Nat.le_refl _, Nat.zero_le _, fun i hi => absurd hi (Nat.not_lt_zero _), fun h => absurd h (Nat.lt_irrefl _), fun i hi => absurd hi (Nat.not_lt_zero _)⟩ }
    · rcases hb2 with rfl | rfl | rfl | ⟨c, hc, rfl⟩ | ⟨c, k, hc, hk, rfl⟩
      · omega
      · omega
      · exact hlo.1
      · have := (h.all.chip c hc).lo.1
        show w.heap.size ≤ B c
        omega
      · have := (h.all.chip c hc).lo.2 k hk
        show w.heap.size ≤ P c k
        omega
set_option maxHeartbeats 4000000 in
set_option maxRecDepth 100000 in
theorem New_calls (g : Geo) (w : World) (hg : g.Ok) : Calls Tryz.prog 9 #[g.val, .slice none 0 0, .slice none 0 0] w fun e w' => ∃ p L, e = .returned (.tuple #[.pointer (some ⟨p, 0, none⟩), .int .i64 0]) ∧ Nand w' p (St.new g) L ∧ Fr None_ w w' ∧ ∀ b, NF p L (St.new g).n (St.new g).nb b → w.heap.size ≤ b := by
  have HC := As.mk (fun w => Check_calls g w hg)
  have HG := As.mk hg
  have h1 := hg.c.1
  have h2 := hg.c.2
  have h3 := hg.b.1
  have h4 := hg.b.2
  have h5 := hg.p.1
  have h6 := hg.p.2
  have h7 := hg.s.1
  have h8 := hg.s.2
  have HF1 := As.mk ((Fr.refl None_ w).alloc (.cells #[.int .i64 g.c, .int .i64 g.b, .int .i64 g.p, .int .i64 g.s] 24))
  have HB1 := As.mk (heap_alloc_new w (.cells #[.int .i64 g.c, .int .i64 g.b, .int .i64 g.p, .int .i64 g.s] 24))
  clear hg
  unfold Geo.val at HC ⊢
  go_enter Tryz.func9, Tryz.ntmps9
  go_upto_region 6 with (go_at_call 29; (with_reducible refine (HC.out _).mono ?_); rintro e w2 ⟨rfl, hf2⟩; have hB2 := hf2.heap HB1.out (fun h => h); have HF2 := As.mk (HF1.out.after hf2 (fun _ _ h => h)); have e0 := cell_is (v := .int .i64 g.c) (i := 0) hB2 rfl; have e1 := cell_is (v := .int .i64 g.b) (i := 1) hB2 rfl; have e2 := cell_is (v := .int .i64 g.p) (i := 2) hB2 rfl; have e3 := cell_is (v := .int .i64 g.s) (i := 3) hB2 rfl; have HB2 := As.mk hB2; clear hf2 hB2)
  have hmk := run_makeV (P := Tryz.prog) 82 4 (.bool false) 1 1 Tryz.underlying82 infoBool (g.c + 1) (by omega) (by omega) (by omega)
  have hap := append_nil
  have hz2 : w.heap.size < w2.heap.size := (Array.getElem?_eq_some_iff.1 HB2.out).1
  go_region
  have hgr := Grow.start HF2.out HB2.out
  have HGR := As.mk (show ∃ A cap vs B P, Grow w (((w2.alloc (.cells (madeCells #[.bool false] (g.c + 1).toNat) 4)).alloc (.cells #[.int .i64 g.c, .int .i64 g.b, .int .i64 g.p, .int .i64 g.s, .slice none 0 0, .slice (some ⟨w2.heap.size, 0, none⟩) (g.c + 1).toNat (g.c + 1).toNat, .slice none 0 0, .int .i64 0, .bool false] 85)).drew) g (w2.heap.size + 1) w2.heap.size 0 (w2.heap.size + 2) A cap vs B P from ⟨_, _, _, _, _, hgr⟩)
  have g0 := cell_is (v := .int .i64 g.c) (i := 0) hgr.geo rfl
  clear hgr hmk hap hz2 e0 e1 e2 e3 HB2 HF2
  generalize ((w2.alloc (.cells (madeCells #[.bool false] (g.c + 1).toNat) 4)).alloc (.cells #[.int .i64 g.c, .int .i64 g.b, .int .i64 g.p, .int .i64 g.s, .slice none 0 0, .slice (some ⟨w2.heap.size, 0, none⟩) (g.c + 1).toNat (g.c + 1).toNat, .slice none 0 0, .int .i64 0, .bool false] 85)).drew = w3 at *
  generalize w2.heap.size + 2 = base at *
  generalize w2.heap.size + 1 = p at *
  generalize w2.heap.size = D at *
  clear w2
  go_wp2_with fail
  clear g0
  obtain ⟨n, hn⟩ := Int.eq_ofNat_of_zero_le (show 0 ≤ g.c + 1 by omega)
  go_loopw [10, 11, 34, 41] (fun v10 v11 v34 v41 w' => ∃ i : Nat, v34 = .int .i64 (i : Int) ∧ (i : Int) ≤ g.c + 1 ∧ As (∃ A cap vs B P, Grow w w' g p D i base A cap vs B P)) (fun _ _ v34 _ _ => (g.c + 1).toNat - (intOf v34).toNat)
  case atStart => exact ⟨0, rfl, by omega, HGR⟩
  case round =>
    obtain ⟨i, rfl, hi, HX⟩ := hrel
    obtain ⟨A, cap, vs, B, P, hx⟩ := HX
    have HX := As.mk hx
    clear hx
    have g1 := cell_is (v := .int .i64 g.b) (i := 1) HX.out.geo rfl
    by_cases hlt : (i : Int) < g.c + 1
    · have hmk := run_makeV (P := Tryz.prog) 86 89 (.agg #[.slice none 0 0, .int .i64 0, .int .i64 0, .bool false]) 4 48 Tryz.underlying86 infoBlk g.b (by omega) (by omega) (by omega)
      have hmx : max g.b 0 = g.b := by omega
      go_wp2_with fail
      clear hmk hmx g1
      have HF0 := As.mk ((Fr.refl None_ wr).alloc (.cells (madeCells #[.slice none 0 0, .int .i64 0, .int .i64 0, .bool false] (g.b.toNat * 4)) 89))
      have HZ0 := As.mk (show ∃ P, ZPart (wr.alloc (.cells (madeCells #[.slice none 0 0, .int .i64 0, .int .i64 0, .bool false] (g.b.toNat * 4)) 89)) 0 g.b.toNat g.p.toNat wr.heap.size wr.heap.size P from ⟨_, ZPart.start wr g.b.toNat g.p.toNat⟩)
      generalize wr.alloc (.cells (madeCells #[.slice none 0 0, .int .i64 0, .int .i64 0, .bool false] (g.b.toNat * 4)) 89) = w4 at *
      go_loopw [11, 41] (fun v11 v41 w' => ∃ j : Nat, v41 = .int .i64 (j : Int) ∧ (j : Int) ≤ g.b ∧ As (Fr None_ wr w') ∧ As (∃ P, ZPart w' j g.b.toNat g.p.toNat wr.heap.size wr.heap.size P)) (fun _ v41 _ => g.b.toNat - (intOf v41).toNat)
      case atStart => exact ⟨0, rfl, by omega, HF0, HZ0⟩
      case round =>
        obtain ⟨j, rfl, hj, HF5, HZ5⟩ := hrel
        rename World => w5
        obtain ⟨P5, hz5⟩ := HZ5
        have HZ5 := As.mk hz5
        by_cases hlj : (j : Int) < g.b
        · have hmk := run_makeV (P := Tryz.prog) 87 176 (.agg #[.slice none 0 0, .slice none 0 0]) 2 48 Tryz.underlying87 infoPg g.p (by omega) (by omega) (by omega)
          have g2 := cell_is (v := .int .i64 g.p) (i := 2) (HF5.out.heap HX.out.geo (fun h => h)) rfl
          obtain ⟨cs, hb, hz, _, _⟩ := hz5.blk
          obtain ⟨u, kb⟩ : ∃ u, w5.cell? ⟨wr.heap.size, j * 4, none⟩ = some u := ⟨_, cell_is hb (Array.getElem?_eq_getElem (show j * 4 < cs.size by omega))⟩
          have kf := free_of (i := j * 4) hb
          have hBz : wr.heap.size < w5.heap.size := (Array.getElem?_eq_some_iff.1 hb).1
          have hst := ZPart.step hz5 (j := j) (by omega)
          rw [World.setCell_alloc_past _ _ _ _ hBz] at hst
          have HST := As.mk hst
          have hsf := (HF5.out.alloc (.cells (madeCells #[.slice none 0 0, .slice none 0 0] (g.p.toNat * 2)) 176)).setCell (p := ⟨wr.heap.size, j * 4, none⟩) (fun h => absurd h (Nat.lt_irrefl _)) (.slice (some ⟨w5.heap.size, 0, none⟩) g.p.toNat g.p.toNat)
          rw [World.setCell_alloc_past _ _ _ _ hBz] at hsf
          have HSF := As.mk hsf
          clear hb hz hst hsf hz5
          go_wp2_with fail
          exact ⟨⟨j + 1, rfl, by omega, HSF, ⟨_, HST.out⟩⟩, by simp [intOf]; omega⟩
        · obtain rfl : j = g.b.toNat := by omega
          have HCH := As.mk hz5.done
          have hm5 := HF5.out.heap HX.out.main (fun h => h)
          have hpb := HX.out.lo
          have m4 := cell_is (v := .slice A i cap) (i := 4) hm5 rfl
          have hrw := HX.out.row.none_ HF5.out
          have HRW := As.mk hrw
          have HM5 := As.mk hm5
          have HOW := As.mk (fun b hb => (hrw.blk b hb).1)
          have hsz := HF5.out.size
          clear hm5 hrw hz5
          go_wp2_with (at_builtin; (with_reducible refine appendV base rfl _ _ 83 86 (.slice none 0 0) 1 24 rfl Tryz.underlying83 infoSB rfl (by decide) (by decide) (.slice A i cap) i vs #[.slice (some ⟨wr.heap.size, 0, none⟩) g.b.toNat g.b.toNat] _ rfl rfl rfl rfl ?o0 HRW.out ?o2 ?o3 ?_); (case o0 => intro u hu; simp at hu; subst hu; rfl); (case o2 => omega); (case o3 => omega); intro v6 w6 hrow6 hfr6 hat6; have HR6 := As.mk hrow6; have HF6 := As.mk hfr6; have hm6 := hfr6.heap HM5.out (fun hb => absurd (HOW.out _ hb) (by omega)); have m6 := cell_is (v := .slice A i cap) (i := 4) hm6 rfl; have f6 := free_of (i := 4) hm6; clear hrow6 hfr6 hat6 hm6; obtain ⟨A6, c6, e6, _, _, _⟩ := HR6.out.rd; subst e6)
          refine ⟨⟨_, _, _, ⟨i + 1, rfl, by omega, ⟨_, _, _, _, _, HX.out.snoc HF5.out HCH.out HR6.out HF6.out⟩⟩, rfl, rfl, rfl⟩, by simp [intOf]; omega⟩
    · obtain rfl : i = (g.c + 1).toNat := by omega
      obtain ⟨L, hN, hL⟩ := HX.out.nand HG.out
      have HN := As.mk hN
      have HL := As.mk hL
      have HFR := As.mk HX.out.fr
      clear hN hL HX
      go_wp2_with fail
      go_loop [13, 65] (fun v13 v65 => v65 = .int .i64 0) (fun _ _ => 0)
      case atStart => rfl
      case round =>
        obtain rfl := hrel
        go_wp2_with fail
        go_ret2
        exact ⟨p, rfl, L, HN.out, HFR.out, HL.out⟩
end Go.Proofs.YteofgpaceeibpaaGreat.NandG

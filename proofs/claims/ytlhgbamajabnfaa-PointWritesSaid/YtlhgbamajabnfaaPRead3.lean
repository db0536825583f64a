import Derived.Test.YtlhgbamajabnfaaIter
import Derived.Test.YtlhgbamajabnfaaDec5
import Derived.Test.YtlhgbamajabnfaaRow3
import Derived.Maps.OwnIn
import Derived.Sort.CutIn
import Derived.RegionIn
import Derived.BigRegionIn
/- point.Read: what it computes (plain), and its memory. -/
namespace Go.Proofs.Ytlhgbamajabnfaa.PRead1
open Go.RowKit Go.Proofs.Ytlhgbamajabnfaa.Gab Go.Proofs.Ytlhgbamajabnfaa.Wr Go.Proofs.Ytlhgbamajabnfaa.Geom Go.Proofs.Ytlhgbamajabnfaa.Fields Go.Proofs.Ytlhgbamajabnfaa.Ord Go.Proofs.Ytlhgbamajabnfaa.Iter Go.Proofs.Ytlhgbamajabnfaa.Write
open Go.Proofs.Ytlhgbamajabnfaa.Point1 (cell_is)
set_option linter.unusedVariables false
set_option linter.unusedSimpArgs false

/-- append(v, ys...) inside a fence. -/
theorem appendRowIn {F : Fence} {n : Nat} {P : Program} {ops : Array Oper} {rest : List Oper} {o : Oper} {a : Act} {Q : Exit → Act → World → Prop} {W : World} (base : Nat) (hgd : o.guard = none) (s x : Operand) (t e : TypeId) (k : IntKind) (bytes : Nat)
    (ho : o.op = .call { callee := .builtin .append, args := #[s, x], argTypes := #[t, t] })
    (ht : P.underlying t = some (.slice e)) (hinfo : (P.info? e).map (fun i => (i.zero, i.size, i.bytes)) = some (some (.int k 0), 1, bytes)) (hb0 : 0 < bytes)
    (v : Value) (xs ys : List Int) (A : Option Addr) (m c : Nat) (hs : a.eval s = v) (hx : a.eval x = .slice A m c)
    (HO : Row e k W base v xs) (HR : Rd k W A m ys) (hbase : base ≤ W.heap.size) (hl : (xs.length + m) * bytes ≤ 140737488355328)
    (h : ∀ v1 w1, Row e k w1 base v1 (xs ++ ys) → Fr (fun b => v.ownBlock = some b) W w1 → (v1.ownBlock = v.ownBlock ∨ ∃ b, v1.ownBlock = some b ∧ W.heap.size ≤ b) → wpListIn F n P ops Q rest (a.put o.dst v1) w1) :
    wpListIn F n P ops Q (o :: rest) a W := by
  obtain ⟨v1, w1, hr, hown, hg, hat⟩ := run_append_row (P := P) base t o.type e k bytes ht hinfo hb0 v xs ys A m c HO HR hbase hl
  refine wpListIn_plain hgd fun K hK => ?_
  unfold Oper.wpIn
  refine ⟨by simp [Oper.about, ho, resolve, Target.leads, Sem.run_pure], ?_⟩
  rw [Oper.semAt_plain F _ _ (by rw [ho]; intro c hc'; cases hc')]
  simp only [execOp, ho, resolve, invoke, builtin, Sem.run_bind, Sem.run_pure, Result.andThen_ok, List.map_toArray, List.map_cons, List.map_nil, hs, hx, hr]
  exact hK _ _ (h v1 w1 hown hg hat)

/-! ### plain -/
/-- How far Read has come: how many pages there are, are all right, the greatest number, the bytes. -/
structure RSt where
  n : Int
  whole : Bool
  most : Int
  b : List Int
def RSt.init : RSt := ⟨1, true, 0, []⟩
def nOf (i : Int) (q : Head × List Int) (st : RSt) : Int := if i = 0 then q.1.count else st.n
def goodHead (q : Head) (i n : Int) : Bool := decide (q.kind = 3 ∧ q.index = i ∧ q.count = n)
def stepPage (i : Int) (q : Head × List Int) (st : RSt) : RSt :=
  if nOf i q st ≤ i then ⟨nOf i q st, st.whole, max st.most q.1.epoch, st.b⟩ else ⟨nOf i q st, st.whole && goodHead q.1 i (nOf i q st), max st.most q.1.epoch, st.b ++ q.2⟩
/-- The first j pages of row k. -/
def pagesTo (W k : Nat) (l : List (Head × List Int)) : Nat → RSt → RSt
  | 0, st => st
  | j + 1, st => stepPage ((k * W + j : Nat) : Int) (l.getD j noPage) (pagesTo W k l j st)
def rowStep (W : Nat) (L : Nat → List (Head × List Int)) (st : RSt) (k : Nat) : RSt := pagesTo W k (L k) (L k).length st
def rowsSt (W : Nat) (L : Nat → List (Head × List Int)) (ks : List Nat) : RSt := ks.foldl (rowStep W L) RSt.init
structure RSt.Ok (st : RSt) (m : Nat) : Prop where
  n : 0 ≤ st.n ∧ st.n < 65536
  most : 0 ≤ st.most ∧ st.most < 4294967296
  len : st.b.length ≤ m
  range : InR 256 st.b
theorem RSt.init_ok : RSt.init.Ok 0 := ⟨by show (0 : Int) ≤ 1 ∧ (1 : Int) < 65536; decide, by show (0 : Int) ≤ 0 ∧ (0 : Int) < 4294967296; decide, Nat.le_refl _, fun x hx => by cases hx⟩
theorem nOf_range {i : Int} {q : Head × List Int} {st : RSt} {m : Nat} (h : st.Ok m) (hq : q.1.Ok) : 0 ≤ nOf i q st ∧ nOf i q st < 65536 := by
  unfold nOf
  split
  · exact hq.count
  · exact h.n
theorem stepPage_ok {i : Int} {q : Head × List Int} {st : RSt} {m S : Nat} (h : st.Ok m) (hq : q.1.Ok) (hl : q.2.length = S) (hr : InR 256 q.2) : (stepPage i q st).Ok (m + S) := by
  have h1 := nOf_range (i := i) h hq
  have h2 := h.most
  have h3 := hq.epoch
  have h4 : 0 ≤ max st.most q.1.epoch ∧ max st.most q.1.epoch < 4294967296 := by omega
  unfold stepPage
  split
  · exact ⟨h1, h4, by have := h.len; show st.b.length ≤ m + S; omega, h.range⟩
  · exact ⟨h1, h4, by have := h.len; show (st.b ++ q.2).length ≤ m + S; rw [List.length_append]; omega, fun x hx => by
      rcases List.mem_append.1 hx with hx | hx
      · exact h.range x hx
      · exact hr x hx⟩
theorem pagesTo_ok {W k S : Nat} {l : List (Head × List Int)} (hl : ∀ q ∈ l, q.1.Ok ∧ q.2.length = S ∧ InR 256 q.2) {st : RSt} {m : Nat} (h : st.Ok m) : ∀ j, j ≤ l.length → (pagesTo W k l j st).Ok (m + j * S)
  | 0, _ => by rw [Nat.zero_mul]; exact h
  | j + 1, hj => by
    have hq := hl (l.getD j noPage) (Stripe.getD_mem (by omega) _)
    have := stepPage_ok (i := ((k * W + j : Nat) : Int)) (pagesTo_ok (W := W) (k := k) hl h j (by omega)) hq.1 hq.2.1 hq.2.2
    rw [Nat.add_mul, Nat.one_mul, ← Nat.add_assoc]
    exact this
theorem rowsSt_snoc (W : Nat) (L : Nat → List (Head × List Int)) (ks : List Nat) (k : Nat) : rowsSt W L (ks ++ [k]) = rowStep W L (rowsSt W L ks) k := by simp [rowsSt]

theorem rowsSt_okF {W S : Nat} {L : Nat → List (Head × List Int)} : ∀ (ks : List Nat) (st : RSt) (m : Nat), (∀ k ∈ ks, (L k).length = W ∧ ∀ q ∈ L k, q.1.Ok ∧ q.2.length = S ∧ InR 256 q.2) → st.Ok m → (ks.foldl (rowStep W L) st).Ok (m + ks.length * (W * S))
  | [], st, m, _, h => by simpa using h
  | k :: ks, st, m, hL, h => by
    have h1 := hL k (List.mem_cons_self)
    have h2 : (rowStep W L st k).Ok (m + W * S) := by
      have := pagesTo_ok (W := W) (k := k) h1.2 h (L k).length (Nat.le_refl _)
      rw [h1.1] at this
      unfold rowStep
      rw [h1.1]
      exact this
    have h3 := rowsSt_okF ks _ _ (fun k' hk => hL k' (List.mem_cons_of_mem _ hk)) h2
    rw [List.foldl_cons, List.length_cons, Nat.add_mul, Nat.one_mul]
    rw [show m + (ks.length * (W * S) + W * S) = m + W * S + ks.length * (W * S) by omega]
    exact h3
theorem rowsSt_ok {W S : Nat} {L : Nat → List (Head × List Int)} (ks : List Nat) (hL : ∀ k ∈ ks, (L k).length = W ∧ ∀ q ∈ L k, q.1.Ok ∧ q.2.length = S ∧ InR 256 q.2) : (rowsSt W L ks).Ok (ks.length * (W * S)) := by
  have := rowsSt_okF ks RSt.init 0 hL RSt.init_ok
  rwa [Nat.zero_add] at this
/-! ### memory -/
/-- Where Read's variables lie. -/
structure Bl where
  d : Nat
  wh : Nat
  pt : Nat
  ok : Nat
  mo : Nat
  er : Nat
  ge : Nat
  bb : Nat
  nn : Nat
  ww : Nat
structure Mem (w W : World) (p : Nat) (which : Int) (g : Geo) (a : Bl) (st : RSt) (v : Value) : Prop where
  fr : Fr None_ w W
  d : W.heap[a.d]? = some (.cells #[dev p] 105 (0, 0))
  wh : W.heap[a.wh]? = some (.cells #[.int .i64 which] 3 (0, 0))
  pt : W.heap[a.pt]? = some (.cells #[.int .u32 0, .int .u32 0, .slice none 0 0, .slice none 0 0] 73 (0, 0))
  ok : W.heap[a.ok]? = some (.cells #[.bool false] 4 (0, 0))
  mo : W.heap[a.mo]? = some (.cells #[.int .u32 st.most] 51 (0, 0))
  er : W.heap[a.er]? = some (.cells #[.int .i64 0] 42 (0, 0))
  ge : W.heap[a.ge]? = some (.cells #[.int .i64 g.c, .int .i64 g.b, .int .i64 g.p, .int .i64 g.s] 28 (0, 0))
  bb : W.heap[a.bb]? = some (.cells #[v] 23 (0, 0))
  row : Row 5 .u8 W w.heap.size v st.b
  nn : W.heap[a.nn]? = some (.cells #[.int .i64 st.n] 3 (0, 0))
  ww : W.heap[a.ww]? = some (.cells #[.bool st.whole] 4 (0, 0))
  ne1 : a.wh ≠ a.nn
  ne2 : a.ok ≠ a.ww
  new : w.heap.size ≤ a.mo ∧ w.heap.size ≤ a.bb ∧ w.heap.size ≤ a.nn ∧ w.heap.size ≤ a.ww
theorem tne {W : World} {i j : Nat} {cs ds : Array Value} {T U : TypeId} {f1 f2 : Nat × Nat} (h : W.heap[i]? = some (.cells cs T f1)) (k : W.heap[j]? = some (.cells ds U f2)) (hT : T ≠ U) : i ≠ j := fun e => by
  subst e
  rw [h] at k
  injection k with k
  injection k with _ k
  exact hT k
theorem Mem.none_ {w W W' : World} {p : Nat} {which : Int} {g : Geo} {a : Bl} {st : RSt} {v : Value} (h : Mem w W p which g a st v) (hf : Fr None_ W W') : Mem w W' p which g a st v :=
  ⟨h.fr.after hf (fun _ _ e => e.elim), hf.heap h.d (fun e => e), hf.heap h.wh (fun e => e), hf.heap h.pt (fun e => e), hf.heap h.ok (fun e => e), hf.heap h.mo (fun e => e), hf.heap h.er (fun e => e), hf.heap h.ge (fun e => e), hf.heap h.bb (fun e => e), h.row.none_ hf, hf.heap h.nn (fun e => e), hf.heap h.ww (fun e => e), h.ne1, h.ne2, h.new⟩
theorem Fr.set1 {w' : World} {b : Nat} (v : Value) : Fr (fun i => i = b) w' (w'.setCell ⟨b, 0, none⟩ v) := (Fr.refl (fun i => i = b) w').setCell (p := ⟨b, 0, none⟩) (fun _ => rfl) v
theorem Row.set1 {W : World} {base b : Nat} {v : Value} {xs : List Int} {cs : Array Value} {T : TypeId} (h : Row 5 .u8 W base v xs) (hb : W.heap[b]? = some (.cells cs T (0, 0))) (hT : T ≠ 5) (u : Value) : Row 5 .u8 (W.setCell ⟨b, 0, none⟩ u) base v xs :=
  h.fr (Fr.set1 (b := b) u) (fun i hi e => by subst e; exact Row.ne h hb hT hi)
theorem Mem.setMo {w W : World} {p : Nat} {which : Int} {g : Geo} {a : Bl} {st : RSt} {v : Value} (h : Mem w W p which g a st v) (x : Int) : Mem w (W.setCell ⟨a.mo, 0, none⟩ (.int .u32 x)) p which g a { st with most := x } v :=
  have hf := Fr.set1 (w' := W) (b := a.mo) (.int .u32 x)
  ⟨h.fr.after hf (fun i hi e => by subst e; have := h.new.1; omega), hf.heap h.d (tne h.d h.mo (by decide)), hf.heap h.wh (tne h.wh h.mo (by decide)), hf.heap h.pt (tne h.pt h.mo (by decide)), hf.heap h.ok (tne h.ok h.mo (by decide)), set_of h.mo, hf.heap h.er (tne h.er h.mo (by decide)), hf.heap h.ge (tne h.ge h.mo (by decide)), hf.heap h.bb (tne h.bb h.mo (by decide)), Row.set1 h.row h.mo (by decide) _, hf.heap h.nn (tne h.nn h.mo (by decide)), hf.heap h.ww (tne h.ww h.mo (by decide)), h.ne1, h.ne2, h.new⟩
theorem Mem.setN {w W : World} {p : Nat} {which : Int} {g : Geo} {a : Bl} {st : RSt} {v : Value} (h : Mem w W p which g a st v) (x : Int) : Mem w (W.setCell ⟨a.nn, 0, none⟩ (.int .i64 x)) p which g a { st with n := x } v :=
  have hf := Fr.set1 (w' := W) (b := a.nn) (.int .i64 x)
  ⟨h.fr.after hf (fun i hi e => by subst e; have := h.new.2.2.1; omega), hf.heap h.d (tne h.d h.nn (by decide)), hf.heap h.wh h.ne1, hf.heap h.pt (tne h.pt h.nn (by decide)), hf.heap h.ok (tne h.ok h.nn (by decide)), hf.heap h.mo (tne h.mo h.nn (by decide)), hf.heap h.er (tne h.er h.nn (by decide)), hf.heap h.ge (tne h.ge h.nn (by decide)), hf.heap h.bb (tne h.bb h.nn (by decide)), Row.set1 h.row h.nn (by decide) _, set_of h.nn, hf.heap h.ww (tne h.ww h.nn (by decide)), h.ne1, h.ne2, h.new⟩
theorem Mem.setW {w W : World} {p : Nat} {which : Int} {g : Geo} {a : Bl} {st : RSt} {v : Value} (h : Mem w W p which g a st v) (x : Bool) : Mem w (W.setCell ⟨a.ww, 0, none⟩ (.bool x)) p which g a { st with whole := x } v :=
  have hf := Fr.set1 (w' := W) (b := a.ww) (.bool x)
  ⟨h.fr.after hf (fun i hi e => by subst e; have := h.new.2.2.2; omega), hf.heap h.d (tne h.d h.ww (by decide)), hf.heap h.wh (tne h.wh h.ww (by decide)), hf.heap h.pt (tne h.pt h.ww (by decide)), hf.heap h.ok h.ne2, hf.heap h.mo (tne h.mo h.ww (by decide)), hf.heap h.er (tne h.er h.ww (by decide)), hf.heap h.ge (tne h.ge h.ww (by decide)), hf.heap h.bb (tne h.bb h.ww (by decide)), Row.set1 h.row h.ww (by decide) _, hf.heap h.nn (tne h.nn h.ww (by decide)), set_of h.ww, h.ne1, h.ne2, h.new⟩
/-- An append to the bytes, and its store. -/
theorem Mem.setB {w W w1 : World} {p : Nat} {which : Int} {g : Geo} {a : Bl} {st : RSt} {v v1 : Value} {ys : List Int} (h : Mem w W p which g a st v) (hr : Row 5 .u8 w1 w.heap.size v1 ys) (hf : Fr (fun b => v.ownBlock = some b) W w1) : Mem w (w1.setCell ⟨a.bb, 0, none⟩ v1) p which g a { st with b := ys } v1 := by
  have hR := h.row
  have hbb := hf.heap h.bb (Row.ne hR h.bb (by decide))
  have hf2 := Fr.set1 (w' := w1) (b := a.bb) v1
  have mv : ∀ {k : Nat} {cs : Array Value} {T : TypeId}, W.heap[k]? = some (.cells cs T (0, 0)) → T ≠ 5 → T ≠ 23 → (w1.setCell ⟨a.bb, 0, none⟩ v1).heap[k]? = some (.cells cs T (0, 0)) := fun hk h1 h2 => hf2.heap (hf.heap hk (Row.ne hR hk h1)) (tne hk h.bb h2)
  exact ⟨(h.fr.after hf (fun i hi e => absurd hi (by have := (hR.blk i e).1; omega))).after hf2 (fun i hi e => by subst e; have := h.new.2.1; omega), mv h.d (by decide) (by decide), mv h.wh (by decide) (by decide), mv h.pt (by decide) (by decide), mv h.ok (by decide) (by decide), mv h.mo (by decide) (by decide), mv h.er (by decide) (by decide), mv h.ge (by decide) (by decide), set_of hbb, Row.set1 hr hbb (by decide) _, mv h.nn (by decide) (by decide), mv h.ww (by decide) (by decide), h.ne1, h.ne2, h.new⟩

/-- Six new boxes. -/
def six (w : World) (p : Nat) (which : Int) : World := (((((w.alloc (.cells #[dev p] 105)).alloc (.cells #[.int .i64 which] 3)).alloc (.cells #[.int .u32 0, .int .u32 0, .slice none 0 0, .slice none 0 0] 73)).alloc (.cells #[.bool false] 4)).alloc (.cells #[.int .u32 0] 51)).alloc (.cells #[.int .i64 0] 42)
theorem six_is (w : World) (p : Nat) (which : Int) : Fr None_ w (six w p which) ∧ (six w p which).heap.size = w.heap.size + 1 + 1 + 1 + 1 + 1 + 1 ∧ (six w p which).heap[w.heap.size]? = some (.cells #[dev p] 105 (0, 0)) ∧ (six w p which).heap[w.heap.size + 1]? = some (.cells #[.int .i64 which] 3 (0, 0)) ∧
    (six w p which).heap[w.heap.size + 1 + 1]? = some (.cells #[.int .u32 0, .int .u32 0, .slice none 0 0, .slice none 0 0] 73 (0, 0)) ∧ (six w p which).heap[w.heap.size + 1 + 1 + 1]? = some (.cells #[.bool false] 4 (0, 0)) ∧ (six w p which).heap[w.heap.size + 1 + 1 + 1 + 1]? = some (.cells #[.int .u32 0] 51 (0, 0)) ∧ (six w p which).heap[w.heap.size + 1 + 1 + 1 + 1 + 1]? = some (.cells #[.int .i64 0] 42 (0, 0)) := by
  have s1 := size_new (.cells #[dev p] 105) (rfl : w.heap.size = w.heap.size)
  have s2 := size_new (.cells #[.int .i64 which] 3) s1
  have s3 := size_new (.cells #[.int .u32 0, .int .u32 0, .slice none 0 0, .slice none 0 0] 73) s2
  have s4 := size_new (.cells #[.bool false] 4) s3
  have s5 := size_new (.cells #[.int .u32 0] 51) s4
  refine ⟨(((((((Fr.refl None_ w).alloc _).alloc _).alloc _).alloc _).alloc _).alloc _), size_new _ s5, ?_, ?_, ?_, ?_, ?_, ?_⟩
  · exact at_old _ (at_old _ (at_old _ (at_old _ (at_old _ (heap_alloc_new w _)))))
  · exact at_old _ (at_old _ (at_old _ (at_old _ (at_new _ s1))))
  · exact at_old _ (at_old _ (at_old _ (at_new _ s2)))
  · exact at_old _ (at_old _ (at_new _ s3))
  · exact at_old _ (at_new _ s4)
  · exact at_new _ s5
/-- Four more. -/
def four (w : World) (g : Geo) : World := (((w.alloc (.cells #[.int .i64 g.c, .int .i64 g.b, .int .i64 g.p, .int .i64 g.s] 28)).alloc (.cells #[.slice none 0 0] 23)).alloc (.cells #[.int .i64 1] 3)).alloc (.cells #[.bool true] 4)
theorem four_is (w : World) (g : Geo) : Fr None_ w (four w g) ∧ (four w g).heap.size = w.heap.size + 1 + 1 + 1 + 1 ∧ (four w g).heap[w.heap.size]? = some (.cells #[.int .i64 g.c, .int .i64 g.b, .int .i64 g.p, .int .i64 g.s] 28 (0, 0)) ∧ (four w g).heap[w.heap.size + 1]? = some (.cells #[.slice none 0 0] 23 (0, 0)) ∧
    (four w g).heap[w.heap.size + 1 + 1]? = some (.cells #[.int .i64 1] 3 (0, 0)) ∧ (four w g).heap[w.heap.size + 1 + 1 + 1]? = some (.cells #[.bool true] 4 (0, 0)) := by
  have s1 := size_new (.cells #[.int .i64 g.c, .int .i64 g.b, .int .i64 g.p, .int .i64 g.s] 28) (rfl : w.heap.size = w.heap.size)
  have s2 := size_new (.cells #[.slice none 0 0] 23) s1
  have s3 := size_new (.cells #[.int .i64 1] 3) s2
  refine ⟨(((((Fr.refl None_ w).alloc _).alloc _).alloc _).alloc _), size_new _ s3, ?_, ?_, ?_, ?_⟩
  · exact at_old _ (at_old _ (at_old _ (heap_alloc_new w _)))
  · exact at_old _ (at_old _ (at_new _ s1))
  · exact at_old _ (at_new _ s2)
  · exact at_new _ s3
/-- Read's memory, ahead of the first row. -/
theorem Mem.start {w w6 w7 w8 : World} {p : Nat} {which : Int} {g : Geo} (h6 : w6 = six w p which) (h7 : Fr None_ w6 w7) (h8 : w8 = four w7 g) :
    Mem w w8 p which g ⟨w.heap.size, w.heap.size + 1, w.heap.size + 1 + 1, w.heap.size + 1 + 1 + 1, w.heap.size + 1 + 1 + 1 + 1, w.heap.size + 1 + 1 + 1 + 1 + 1, w7.heap.size, w7.heap.size + 1, w7.heap.size + 1 + 1, w7.heap.size + 1 + 1 + 1⟩ RSt.init (.slice none 0 0) ∧ w8.heap.size = w7.heap.size + 1 + 1 + 1 + 1 := by
  obtain ⟨a0, a1, a2, a3, a4, a5, a6, a7⟩ := six_is w p which
  obtain ⟨b0, b1, b2, b3, b4, b5⟩ := four_is w7 g
  rw [← h6] at a0 a1 a2 a3 a4 a5 a6 a7
  rw [← h8] at b0 b1 b2 b3 b4 b5
  have hz := h7.size
  have mv : ∀ {k : Nat} {o : Obj}, w6.heap[k]? = some o → w8.heap[k]? = some o := fun hk => b0.heap (h7.heap hk (fun e => e)) (fun e => e)
  exact ⟨⟨(a0.after h7 (fun _ _ e => e)).after b0 (fun _ _ e => e), mv a2, mv a3, mv a4, mv a5, mv a6, mv a7, b2, b3, Row.nil _ _ _ _, b4, b5, by show w.heap.size + 1 ≠ w7.heap.size + 1 + 1; omega, by show w.heap.size + 1 + 1 + 1 ≠ w7.heap.size + 1 + 1 + 1; omega, by show w.heap.size ≤ w.heap.size + 1 + 1 + 1 + 1; omega, by show w.heap.size ≤ w7.heap.size + 1; omega, by show w.heap.size ≤ w7.heap.size + 1 + 1; omega, by show w.heap.size ≤ w7.heap.size + 1 + 1 + 1; omega⟩, b1⟩
/-- Cells stay where a block that is none turns. -/
theorem cells_kept {W W' : World} {row : Option Nat} {k : Nat} {cs : Array Value} {T : TypeId} {f : Nat × Nat} (h : W.heap[k]? = some (.cells cs T f)) (hg : W.grownBy W' row) (hr : ∀ r, row = some r → ∃ o : Obj, W.heap[r]? = some o ∧ o.isCells = false) : W'.heap[k]? = some (.cells cs T f) := by
  refine (hg.block k (Array.getElem?_eq_some_iff.1 h).1 (fun e => ?_)).trans h
  obtain ⟨o, ho, hc⟩ := hr k e.symm
  rw [h] at ho
  injection ho with ho
  subst ho
  cases hc
theorem Fr.kept {w W W' : World} {row : Option Nat} {B : Nat} (h : Fr None_ w W) (hg : W.grownBy W' row) (hB : w.heap.size ≤ B) (hr : ∀ r, row = some r → B ≤ r) : Fr None_ w W' :=
  h.grown hg (fun k e hk => by have := hr k e; omega)
theorem Row.kept {W W' : World} {row : Option Nat} {base : Nat} {v : Value} {xs : List Int} (h : Row 5 .u8 W base v xs) (hg : W.grownBy W' row) (hr : ∀ r, row = some r → ∃ o : Obj, W.heap[r]? = some o ∧ o.isCells = false) : Row 5 .u8 W' base v xs := by
  refine ⟨h.1, ?_⟩
  rcases h.2 with h2 | ⟨g, cap, cur, rfl, hb, hg2, r⟩
  · exact .inl h2
  · exact .inr ⟨g, cap, cur, rfl, hb, cells_kept hg2 hg hr, r⟩
theorem Mem.kept {w W W' : World} {p : Nat} {which : Int} {g : Geo} {a : Bl} {st : RSt} {v : Value} {row : Option Nat} {B : Nat} (h : Mem w W p which g a st v) (hg : W.grownBy W' row) (hB : w.heap.size ≤ B) (hr : ∀ r, row = some r → B ≤ r ∧ ∃ o : Obj, W.heap[r]? = some o ∧ o.isCells = false) : Mem w W' p which g a st v := by
  have hc : ∀ r, row = some r → ∃ o : Obj, W.heap[r]? = some o ∧ o.isCells = false := fun r e => (hr r e).2
  exact ⟨Fr.kept h.fr hg hB (fun r e => (hr r e).1), cells_kept h.d hg hc, cells_kept h.wh hg hc, cells_kept h.pt hg hc, cells_kept h.ok hg hc, cells_kept h.mo hg hc, cells_kept h.er hg hc, cells_kept h.ge hg hc, cells_kept h.bb hg hc, Row.kept h.row hg hc, cells_kept h.nn hg hc, cells_kept h.ww hg hc, h.ne1, h.ne2, h.new⟩

/-! ### what a round's body keeps -/
structure Kept (B gb sb : Nat) (W W' : World) : Prop where
  from_ : KeepsFrom B W W'
  caught : Caught gb sb W W'
theorem Kept.refl (B gb sb : Nat) (W : World) : Kept B gb sb W W := ⟨KeepsFrom.refl _ _, rfl, rfl⟩
theorem Kept.none_ {B gb sb : Nat} {W W' W2 : World} (h : Kept B gb sb W W') (hf : Fr None_ W' W2) (hg : gb < W'.heap.size) (hs : sb < W'.heap.size) : Kept B gb sb W W2 :=
  ⟨h.from_.trans ⟨hf.size, fun k o _ hk _ => hf.heap hk (fun e => e)⟩, (hf.block gb hg (fun e => e)).trans h.caught.1, (hf.block sb hs (fun e => e)).trans h.caught.2⟩
/-- A step that turns one block of cells. -/
theorem Kept.turn {B gb sb : Nat} {W W' W2 : World} {S : Nat → Prop} (h : Kept B gb sb W W') (hf : Fr S W' W2) (hc : ∀ b, S b → ∃ cs T f, W'.heap[b]? = some (.cells cs T f)) (hg : gb < W'.heap.size ∧ ¬ S gb) (hs : sb < W'.heap.size ∧ ¬ S sb) : Kept B gb sb W W2 :=
  ⟨h.from_.trans ⟨hf.size, fun k o _ hk ho => hf.heap hk (fun e => by
    obtain ⟨cs, T, f, h1⟩ := hc k e
    rw [hk] at h1
    injection h1 with h1
    subst h1
    cases ho)⟩, (hf.block gb hg.1 hg.2).trans h.caught.1, (hf.block sb hs.1 hs.2).trans h.caught.2⟩
/-! ### the pages that Row has handed back -/
structure Pg (lo hi : Nat) (w : World) (A : Option Addr) (n : Nat) (vs : List Value) (l : List (Head × List Int)) : Prop where
  c : Par.RdC w A (n * 8) vs
  d : ∀ j, j < n → ∃ D nd cd, vs.getD (j * 8 + 7) undef = .slice D nd cd ∧ nd ≤ cd ∧ Rd .u8 w D nd (l.getD j noPage).2 ∧ ∀ ad, D = some ad → lo ≤ ad.block ∧ ad.block < hi
  h : ∀ j, j < n → (l.getD j noPage).1.Ok ∧ ∀ i, i < 7 → vs.getD (j * 8 + i) undef = (l.getD j noPage).1.vals.getD i undef
  ty : ∀ ad, A = some ad → lo ≤ ad.block ∧ ad.block < hi ∧ ∃ cs, w.heap[ad.block]? = some (.cells cs 56 (0, 0))
theorem Pg.of {w w' : World} {s : Ram.St} {p : Nat} {A : Option Addr} {n : Nat} {vs : List Value} {l : List (Head × List Int)} (hc : Par.RdC w' A (n * 8) vs) (hs : SPs w' p vs l) (hn : l.length = n) (hf : SRow2.Fresh w vs n) (ha : ∀ ad, A = some ad → w.heap.size ≤ ad.block ∧ ∃ cs, w'.heap[ad.block]? = some (.cells cs 56 (0, 0))) : Pg w.heap.size w'.heap.size w' A n vs l := by
  refine ⟨hc, fun j hj => ?_, fun j hj => ?_, fun ad e => ?_⟩
  · obtain ⟨h1, ⟨⟨D, nd, cd, e, h2, h3⟩, h4⟩, h5⟩ := hs.2 j (by omega) noPage
    refine ⟨D, nd, cd, e, h2, h3, fun ad ea => ?_⟩
    subst ea
    exact ⟨hf j hj ad.block (by rw [e]; rfl), by obtain ⟨_, cs, hb⟩ := h4 ad.block (by rw [e]; rfl); exact (Array.getElem?_eq_some_iff.1 hb).1⟩
  · obtain ⟨h1, _, h5⟩ := hs.2 j (by omega) noPage
    exact ⟨h1, h5⟩
  · obtain ⟨h1, cs, h2⟩ := ha ad e
    exact ⟨h1, (Array.getElem?_eq_some_iff.1 h2).1, cs, h2⟩
theorem Pg.fr {lo hi : Nat} {S : Nat → Prop} {w w' : World} {A : Option Addr} {n : Nat} {vs : List Value} {l : List (Head × List Int)} (h : Pg lo hi w A n vs l) (hf : Fr S w w') (hS : ∀ b, S b → b < lo ∨ hi ≤ b) : Pg lo hi w' A n vs l := by
  have hno : ∀ b, lo ≤ b → b < hi → ¬ S b := fun b h1 h2 h3 => by rcases hS b h3 with h | h <;> omega
  refine ⟨h.c.fr hf (fun ad e _ => hno _ (h.ty ad e).1 (h.ty ad e).2.1), fun j hj => ?_, h.h, fun ad e => ?_⟩
  · obtain ⟨D, nd, cd, e, h2, h3, h4⟩ := h.d j hj
    exact ⟨D, nd, cd, e, h2, h3.fr hf (fun ad ea _ => hno _ (h4 ad ea).1 (h4 ad ea).2), h4⟩
  · obtain ⟨h1, h2, cs, h3⟩ := h.ty ad e
    exact ⟨h1, h2, cs, hf.heap h3 (hno _ h1 h2)⟩
theorem Pg.at_ {lo hi : Nat} {w : World} {A : Option Addr} {n : Nat} {vs : List Value} {l : List (Head × List Int)} (h : Pg lo hi w A n vs l) (j : Nat) (hj : j < n) :
    ∃ ad ax D nd cd, A = some ad ∧ ad.add (j * 8) = ax ∧ w.cell? ax = some (.int .u8 (l.getD j noPage).1.kind) ∧ w.cell? ⟨ax.block, ax.off + 1, none⟩ = some (.int .u32 (l.getD j noPage).1.epoch) ∧ w.cell? ⟨ax.block, ax.off + 2, none⟩ = some (.int .u32 (l.getD j noPage).1.batch) ∧ w.cell? ⟨ax.block, ax.off + 3, none⟩ = some (.int .u16 (l.getD j noPage).1.index) ∧ w.cell? ⟨ax.block, ax.off + 4, none⟩ = some (.int .u16 (l.getD j noPage).1.count) ∧
      w.cell? ⟨ax.block, ax.off + 5, none⟩ = some (.int .u32 (l.getD j noPage).1.block) ∧ w.cell? ⟨ax.block, ax.off + 6, none⟩ = some (.int .u32 (l.getD j noPage).1.more) ∧ w.cell? ⟨ax.block, ax.off + 7, none⟩ = some (.slice D nd cd) ∧ nd ≤ cd ∧ Rd .u8 w D nd (l.getD j noPage).2 ∧ (∀ ad, D = some ad → lo ≤ ad.block ∧ ad.block < hi) ∧ (l.getD j noPage).1.Ok := by
  obtain ⟨ad, e, hc⟩ := h.c.2 (by omega)
  obtain ⟨D, nd, cd, e7, h2, h3, h4⟩ := h.d j hj
  obtain ⟨ho, hh⟩ := h.h j hj
  have hx : ∀ i, 0 < i → i < 8 → w.cell? ⟨(ad.add (j * 8)).block, (ad.add (j * 8)).off + i, none⟩ = some (vs.getD (j * 8 + i) undef) := fun i h0 hi => by rw [← Go.Proofs.Ytlhgbamajabnfaa.Str.add_next _ _ _ h0]; exact hc (j * 8 + i) (by omega)
  have h0 := hc (j * 8) (by omega)
  rw [show vs.getD (j * 8) undef = vs.getD (j * 8 + 0) undef from rfl, hh 0 (by decide)] at h0
  have x1 := hx 1 (by decide) (by decide)
  have x2 := hx 2 (by decide) (by decide)
  have x3 := hx 3 (by decide) (by decide)
  have x4 := hx 4 (by decide) (by decide)
  have x5 := hx 5 (by decide) (by decide)
  have x6 := hx 6 (by decide) (by decide)
  have x7 := hx 7 (by decide) (by decide)
  rw [hh 1 (by decide)] at x1
  rw [hh 2 (by decide)] at x2
  rw [hh 3 (by decide)] at x3
  rw [hh 4 (by decide)] at x4
  rw [hh 5 (by decide)] at x5
  rw [hh 6 (by decide)] at x6
  rw [e7] at x7
  exact ⟨ad, _, D, nd, cd, e, rfl, h0, x1, x2, x3, x4, x5, x6, x7, h2, h3, h4, ho⟩
end Go.Proofs.Ytlhgbamajabnfaa.PRead1

/- point.Read: the walk. -/
namespace Go.Proofs.Ytlhgbamajabnfaa.PRead2
open Go.RowKit Go.Proofs.Ytlhgbamajabnfaa.Gab Go.Proofs.Ytlhgbamajabnfaa.Wr Go.Proofs.Ytlhgbamajabnfaa.Geom Go.Proofs.Ytlhgbamajabnfaa.Fields Go.Proofs.Ytlhgbamajabnfaa.Ord Go.Proofs.Ytlhgbamajabnfaa.Iter Go.Proofs.Ytlhgbamajabnfaa.Write Go.Proofs.Ytlhgbamajabnfaa.Stripe Go.Proofs.Ytlhgbamajabnfaa.PRead1
open Go.Proofs.Ytlhgbamajabnfaa.Point1 (cell_is)
open Go.Proofs.Ytlhgbamajabnfaa.Ram (RamE Geo_calls)
attribute [local go_sem] Oper.semAt_some
set_option linter.unusedVariables false
set_option linter.unusedSimpArgs false

/-- What the rows of a segment are: whole ones, with their pages. -/
structure RowsAre (s : Ram.St) (p : Nat) (seg : Int) (is : Nat → Bool) (L : Nat → List (Head × List Int)) (w : World) : Prop where
  lok : ∀ k : Nat, (k : Int) < s.g.p → is k = true → LOk s.g (L k)
  whole : ∀ k : Nat, (k : Int) < s.g.p → is k = true → ∀ w', Fr None_ w w' → Calls Try.prog 26 #[dev p, .int .i64 seg, .int .i64 (k : Int)] w' (SRow2.RowPost2 s p (L k) w')
  not : ∀ k : Nat, (k : Int) < s.g.p → is k = false → ∀ w', Fr None_ w w' → Calls Try.prog 26 #[dev p, .int .i64 seg, .int .i64 (k : Int)] w' fun e w'' => ∃ c : Int, c ≠ 2 ∧ e = .returned (.tuple #[.slice none 0 0, .int .i64 c, .int .i64 0]) ∧ Fr None_ w' w''

/-- What is proved in a later declaration. -/
structure Later (p : Prop) : Prop where mk :: (out : p)
/-- Is what Read has found a point? -/
def Good (S : Nat) (st : RSt) : Prop := st.whole = true ∧ 1 ≤ st.n ∧ (st.b.length : Int) = st.n * S
def ReadPost (W S : Nat) (P : Nat) (is : Nat → Bool) (L : Nat → List (Head × List Int)) (w : World) (e : Ending) (w' : World) : Prop :=
  ∃ m st, m ≤ P ∧ (∀ k, k < m → is k = true) ∧ (m < P → is m = false) ∧ st = rowsSt W L (List.range m) ∧
    ((¬ (Good S st ∧ Dec5.IsPt st.b ∧ Dec3.nb st.b 0 = st.most) ∧ e = .returned (.tuple #[.agg #[.int .u32 0, .int .u32 0, .slice none 0 0, .slice none 0 0], .bool false, .int .u32 st.most, .int .i64 0]) ∧ Fr None_ w w') ∨
     ((Good S st ∧ Dec5.IsPt st.b ∧ Dec3.nb st.b 0 = st.most) ∧ ∃ vM vE, e = .returned (.tuple #[.agg #[.int .u32 st.most, .int .u32 (Dec3.nb st.b 4), vM, vE], .bool true, .int .u32 st.most, .int .i64 0]) ∧
       Row 51 .u32 w' w.heap.size vM (Dec3.nbs st.b 16 (Dec3.nb st.b 8).toNat) ∧ Row 51 .u32 w' w.heap.size vE (Dec3.nbs st.b (16 + 4 * (Dec3.nb st.b 8).toNat) (Dec3.nb st.b 12).toNat) ∧ Fr None_ w w'))

set_option maxHeartbeats 8000000 in
set_option maxRecDepth 100000 in
def part1 : { T : Prop // Later T → ∀ (p : Nat) (s : Ram.St) (which : Int) (S Wd : Nat) (w : World) (is : Nat → Bool) (L : Nat → List (Head × List Int)) (hR : RamE w p s) (hS : s.g.s = S) (hWd : (Wd : Int) = s.g.c - 1) (hw : which = 0 ∨ which = 1) (hA : RowsAre s p (2 + which) is L w),
    Calls Try.prog 41 #[dev p, .int .i64 which] w (ReadPost Wd S s.g.p.toNat is L w) } := by
  refine ⟨?T, fun hT => ?X⟩
  case X =>
    intro p s which S Wd w is L hR hS hWd hw hA
    have HWD := As.mk hWd
    clear hWd
    have hok : s.g.Ok := by obtain ⟨_, _, _, _, _, h⟩ := hR; exact h.ok
    have HG := As.mk (fun w' (hf : Fr None_ w w') => Geo_calls p s w' (hR.none_ hf))
    have HRW := As.mk (fun w => Rows_calls s.g (2 + which) w)
    unfold Geo.val at HG HRW
    have HS6 := As.mk (show Fr None_ w (six w p which) from (six_is w p which).1)
    have HS7 := As.mk (six_is w p which).2.1
    have HSS := As.mk hS
    clear hS
    have h6 : six w p which = (((((w.alloc (.cells #[dev p] 105)).alloc (.cells #[.int .i64 which] 3)).alloc (.cells #[.int .u32 0, .int .u32 0, .slice none 0 0, .slice none 0 0] 73)).alloc (.cells #[.bool false] 4)).alloc (.cells #[.int .u32 0] 51)).alloc (.cells #[.int .i64 0] 42) := rfl
    obtain ⟨w6, h6'⟩ : ∃ w6, w6 = six w p which := ⟨_, rfl⟩
    rw [← h6'] at h6 HS6 HS7
    unfold dev at *
    have hme : ∀ W : World, (method 285 30 (.pointer (some ⟨p, 0, none⟩)) "Geo").run Try.prog W = .ok (108, .pointer (some ⟨p, 0, none⟩)) W := fun _ => by kernel_rfl
    have d1 : decide (which < 0) = false := decide_eq_false (by omega)
    have d2 : decide (1 < which) = false := decide_eq_false (by omega)
    refine (callsIn_wide (n := 3)).1 ?_
    refine callsIn_of_wp_marks Try.func41 rfl trivial ?_ rfl
    simp only [Try.ntmps41, List.size_toArray, List.length_cons, List.length_nil, Nat.reduceAdd, Nat.reduceSub, Array.replicate_succ, Array.replicate_zero, List.push_toArray, List.append_toArray, List.nil_append, List.cons_append]
    gi_wp2
    rw [← h6]
    refine ⟨trivial, (callsIn_wide.2 (HG.out w6 HS6.out)).mono ?_⟩
    rintro e w7 ⟨rfl, hf7⟩
    have H67 := As.mk hf7
    clear hf7
    obtain ⟨w8, h8⟩ : ∃ w8, w8 = four w7 s.g := ⟨_, rfl⟩
    obtain ⟨hM, hz8⟩ := Mem.start h6' H67.out h8
    have HM := As.mk hM
    have HZ8 := As.mk hz8
    clear hz8
    have k3 := cell_of hM.wh
    have g0 := cell_is (i := 0) hM.ge rfl
    have g1 := cell_is (i := 1) hM.ge rfl
    have g2 := cell_is (i := 2) hM.ge rfl
    have g3 := cell_is (i := 3) hM.ge rfl
    dsimp only at k3 g0 g1 g2 g3
    clear hM
    have h8' := h8
    unfold four at h8'
    rw [h8'] at k3 g0 g1 g2 g3
    clear h8
    gi_wp2
    rw [← h8']
    clear h8'
    refine ⟨trivial, (callsIn_wide.2 (HRW.out w8)).mono ?_⟩
    rintro e w9 ⟨rfl, hf9, hz9, hgb, hsb⟩
    have HM9 := As.mk (HM.out.none_ hf9)
    have HZ9 := As.mk hz9
    have HGB := As.mk (And.intro hgb hsb)
    clear hz9 hgb hsb
    clear k3 g0 g1 g2 g3 HM hf9
    gi_wp2
    have hz9 := HZ9.out
    obtain ⟨hgb, hsb⟩ := HGB.out
    have hgb9 : w8.heap.size < w9.heap.size := by omega
    have hsb9 : w8.heap.size + 1 < w9.heap.size := by omega
    have hz09 : w.heap.size ≤ w9.heap.size := HM9.out.fr.size
    have hz48 : w.heap.size + 1 + 1 + 1 + 1 < w8.heap.size := by have h1 := H67.out.size; have h2 := HZ8.out; have h3 := HS6.out.size; have h4 := HS7.out; omega
    have hz78 : w7.heap.size + 1 + 1 + 1 < w8.heap.size := by have h2 := HZ8.out; omega
    clear h6 h6' hz9
    have HSOF : As (∀ J, J ≤ s.g.p.toNat → (∀ k, k < J → is k = true) → (rowsSt Wd L (List.range J)).Ok 1000000) := ⟨fun J hJ hall => by
      have h1 := hok.c
      have h2 := hok.p
      have h3 := hok.s
      have h4 := HWD.out
      have h5 := HSS.out
      have h := rowsSt_ok (W := Wd) (S := S) (L := L) (List.range J) (fun k hk => by
        have hk2 := List.mem_range.1 hk
        have hl := hA.lok k (by omega) (hall k hk2)
        have h6 := hl.len
        exact ⟨by omega, fun q hq => ⟨(hl.head q hq).1, by have := (hl.data q hq).1; omega, (hl.data q hq).2⟩⟩)
      have e1 : Wd * S ≤ 15 * 1024 := Nat.mul_le_mul (by omega) (by omega)
      have e2 : (List.range J).length * (Wd * S) ≤ 32 * (15 * 1024) := Nat.mul_le_mul (by rw [List.length_range]; omega) e1
      exact ⟨h.n, h.most, by have := h.len; omega, h.range⟩⟩
    refine wpIn_rangeFunc_ownG rfl (by omega) (gf := 86) (lb := #[.pointer (some ⟨w8.heap.size, 0, none⟩), .pointer (some ⟨w8.heap.size + 1, 0, none⟩)]) rfl trivial (fun _ _ => rfl) (encs := encs s.g (2 + which)) (Kp := Caught w8.heap.size (w8.heap.size + 1)) (S := fun xs => xs.map Fin.val = List.range s.g.p.toNat) (Sp := fun pre => ∃ j, j < s.g.p.toNat ∧ pre.map Fin.val = List.range (j + 1)) (N := s.g.p.toNat)
      (fun l J Jx W hW hJ hJx hY h0 => rows_in (3 - 1) (by decide) s.g hok (2 + which) (by have := hok.b; omega) w8.heap.size (w8.heap.size + 1) l J Jx W hJ hY ((hW.block _ hgb9).trans hgb) ((hW.block _ hsb9).trans hsb) h0)
      (fun h k => ⟨k.1.trans h.1, k.2.trans h.2⟩)
      (fun W l o o' hl ho hc hw => ⟨World.putObj_heap_other (by omega), World.putObj_heap_other (by omega)⟩)
      (Below.refl _ _) (fun _ => rfl)
      (fun pre W => ∃ v, Mem w W p which s.g ⟨w.heap.size, w.heap.size + 1, w.heap.size + 1 + 1, w.heap.size + 1 + 1 + 1, w.heap.size + 1 + 1 + 1 + 1, w.heap.size + 1 + 1 + 1 + 1 + 1, w7.heap.size, w7.heap.size + 1, w7.heap.size + 1 + 1, w7.heap.size + 1 + 1 + 1⟩ (rowsSt Wd L (pre.map Fin.val)) v ∧ (∀ x ∈ pre, is x.val = true) ∧ w9.heap.size ≤ W.heap.size ∧ Caught w8.heap.size (w8.heap.size + 1) w9 W)
      (fun c pre W => c = .exit 0 ∧ ∃ v pre' x, pre = pre' ++ [x] ∧ is x.val = false ∧ Mem w W p which s.g ⟨w.heap.size, w.heap.size + 1, w.heap.size + 1 + 1, w.heap.size + 1 + 1 + 1, w.heap.size + 1 + 1 + 1 + 1, w.heap.size + 1 + 1 + 1 + 1 + 1, w7.heap.size, w7.heap.size + 1, w7.heap.size + 1 + 1, w7.heap.size + 1 + 1 + 1⟩ (rowsSt Wd L (pre'.map Fin.val)) v ∧ (∀ x ∈ pre', is x.val = true))
      (fun pre W W' row hs hg hr => by
        obtain ⟨v, h1, h2⟩ := hs
        exact ⟨v, h1.kept hg hz09 hr, h2.1, Nat.le_trans h2.2.1 hg.size, (hg.block _ (Nat.lt_of_lt_of_le hgb9 h2.2.1) (fun e => by have := (hr _ e.symm).1; omega)).trans h2.2.2.1, (hg.block _ (Nat.lt_of_lt_of_le hsb9 h2.2.1) (fun e => by have := (hr _ e.symm).1; omega)).trans h2.2.2.2⟩)
      (fun c pre W W' row hs hg hr => by
        obtain ⟨hc, v, pre', x, h1, h2, h3, h4⟩ := hs
        exact ⟨hc, v, pre', x, h1, h2, h3.kept hg hz09 hr, h4⟩)
      ⟨_, HM9.out, (fun x hx => by cases hx), Nat.le_refl _, rfl, rfl⟩ ?a1 ?assign ?body ?done ?stop
    case assign =>
      intro l x W K hK
      simp [encs]
      gi_wp2
      exact hK
    case body =>
      rintro l pre x W ⟨v, hm, hall, hsz, hcw⟩ hlen
      have HM := As.mk hm
      have HAL := As.mk hall
      have hxp : (x.val : Int) < s.g.p := by have := x.isLt; omega
      have kd := cell_of hm.d
      have kw := cell_of hm.wh
      dsimp only at kd kw
      have hRW1 := hA.whole x.val hxp
      have hRW2 := hA.not x.val hxp
      have HLO := As.mk (hA.lok x.val hxp)
      have hfW := hm.fr
      clear hm hall
      have HZW : As (w9.heap.size ≤ W.heap.size) := ⟨hsz⟩
      have HCW := As.mk hcw
      clear hcw
      rcases hix : is x.val with _ | _
      · have HIX := As.mk hix
        have HRN := As.mk (hRW2 hix W hfW)
        clear hix hRW1 hRW2
        unfold dev at HRN
        gi_wp2
        refine ⟨trivial, (CallsIn.inRound l (callsIn_wide.2 (HRN.out))).mono ?_⟩
        rintro e w2 ⟨c, hc2, rfl, hf2⟩
        have HF2 := As.mk hf2
        have hcb : (c != 2) = true := by simp [hc2]
        clear hf2 kd kw
        gi_wp2
        have hcap := (Kept.refl w9.heap.size w8.heap.size (w8.heap.size + 1) W).none_ HF2.out (Nat.lt_of_lt_of_le hgb9 HZW.out) (Nat.lt_of_lt_of_le hsb9 HZW.out)
        exact ⟨hcap.from_, rfl, v, pre, x, rfl, HIX.out, HM.out.none_ HF2.out, HAL.out⟩
      · have HIX := As.mk hix
        have HRN := As.mk (hRW1 hix W hfW)
        have HLK := As.mk (HLO.out hix)
        clear hix hRW1 hRW2
        unfold dev at HRN
        have HW0 := As.mk (Kept.refl w9.heap.size w8.heap.size (w8.heap.size + 1) W)
        gi_wp2
        refine ⟨trivial, (CallsIn.inRound l (callsIn_wide.2 (HRN.out))).mono ?_⟩
        rintro e w2 ⟨A, c, n, vs, rfl, hn, hC, hSP, hFS, hAN, hf2⟩
        have HM2 := As.mk (HM.out.none_ hf2)
        have HK2 := As.mk (HW0.out.none_ hf2 (Nat.lt_of_lt_of_le hgb9 HZW.out) (Nat.lt_of_lt_of_le hsb9 HZW.out))
        have hnW : n = Wd := by have := HWD.out; omega
        have HLL := As.mk (show (L x.val).length = n by have := HLK.out.len; omega)
        have HPG := As.mk (Pg.of (s := s) hC hSP HLL.out hFS hAN)
        have hWw : W.heap.size ≤ w2.heap.size := hf2.size
        have hz2 : w9.heap.size ≤ w2.heap.size := Nat.le_trans HZW.out hf2.size
        clear hf2 hC hSP hFS hAN kd kw hn
        have hks : ∀ k ∈ pre.map Fin.val, (L k).length = Wd ∧ ∀ q ∈ L k, q.1.Ok ∧ q.2.length = S ∧ InR 256 q.2 := fun k hk => by
          obtain ⟨y, hy, rfl⟩ := List.mem_map.1 hk
          have hl := hA.lok y.val (by have := y.isLt; omega) (HAL.out y hy)
          have h1 := hl.len
          have h2 := HWD.out
          exact ⟨by omega, fun q hq => ⟨(hl.head q hq).1, by have := (hl.data q hq).1; have := HSS.out; omega, (hl.data q hq).2⟩⟩
        have hst0 := rowsSt_ok _ hks
        rw [List.length_map] at hst0
        have hLx : ∀ q ∈ L x.val, q.1.Ok ∧ q.2.length = S ∧ InR 256 q.2 := fun q hq => ⟨(HLK.out.head q hq).1, by have := (HLK.out.data q hq).1; have := HSS.out; omega, (HLK.out.data q hq).2⟩
        have HLX := As.mk hLx
        have HST := As.mk (fun j (hj : j ≤ (L x.val).length) => pagesTo_ok (W := Wd) (k := x.val) hLx hst0 j hj)
        have hbnd : ∀ j, j ≤ n → pre.length * (Wd * S) + j * S ≤ 32 * (15 * 1024) + 15 * 1024 := fun j hj => by
          have h1 := hok.c
          have h2 := hok.p
          have h3 := hok.s
          have h4 := HWD.out
          have h5 := HSS.out
          have e1 : Wd * S ≤ 15 * 1024 := Nat.mul_le_mul (by omega) (by omega)
          have e2 : pre.length * (Wd * S) ≤ 32 * (15 * 1024) := Nat.mul_le_mul (by omega) e1
          have e3 : j * S ≤ 15 * 1024 := Nat.mul_le_mul (by omega) (by omega)
          omega
        have HBN := As.mk hbnd
        have hrow0 : ∀ b, v.ownBlock = some b → b < W.heap.size ∨ w2.heap.size ≤ b := fun b hb => .inl (HM.out.row.blk b hb).2.1
        have HR0 := As.mk hrow0
        generalize hst0' : rowsSt Wd L (pre.map Fin.val) = st0 at *
        generalize hlx' : L x.val = lx at *
        have HEQ := As.mk (And.intro hst0' hlx')
        clear hst0' hlx'
        have hx32 : x.val < 32 := by have := hok.p; have := x.isLt; omega
        have hW15 : 2 ≤ Wd ∧ Wd ≤ 15 := by have := hok.c; have := HWD.out; omega
        clear hks hst0 hLx hbnd hrow0
        gi_wp2
        gi_loopw [16, 17, 18, 55] (fun v16 v17 v18 v55 wr => ∃ (j : Nat) (v' : Value), v55 = .int .i64 (j : Int) ∧ j ≤ n ∧ As (Mem w wr p which s.g ⟨w.heap.size, w.heap.size + 1, w.heap.size + 1 + 1, w.heap.size + 1 + 1 + 1, w.heap.size + 1 + 1 + 1 + 1, w.heap.size + 1 + 1 + 1 + 1 + 1, w7.heap.size, w7.heap.size + 1, w7.heap.size + 1 + 1, w7.heap.size + 1 + 1 + 1⟩ (pagesTo Wd x.val lx j st0) v') ∧ As (Kept w9.heap.size w8.heap.size (w8.heap.size + 1) W wr) ∧ As (Pg W.heap.size w2.heap.size wr A n vs lx) ∧ As (∀ b, v'.ownBlock = some b → b < W.heap.size ∨ w2.heap.size ≤ b) ∧ As (w2.heap.size ≤ wr.heap.size)) (fun _ _ _ v55 _ => n - (intOf v55).toNat)
        case atStart => exact ⟨0, v, rfl, by omega, HM2, HK2, HPG, HR0, ⟨Nat.le_refl _⟩⟩
        case round =>
          obtain ⟨j, v', rfl, hj, HMj, HKj, HPj, HRj, HZj⟩ := hrel
          by_cases hlt : j < n
          · have hltI : (j : Int) < (n : Int) := by omega
            have hjl : j < lx.length := by have := HLL.out; omega
            obtain ⟨ad, ax, D, nd, cd, rfl, hax, y0, y1, y2, y3, y4, y5, y6, y7, hnd, hD, hDb, hok8⟩ := HPj.out.at_ j hlt
            have HDA := As.mk (And.intro hnd (And.intro hD hDb))
            have HOK8 := As.mk hok8
            have HNS : As (nd = S) := ⟨by have h1 := hD.1; have h2 := (HLX.out _ (getD_mem hjl noPage)).2.1; omega⟩
            have hS1024 : S ≤ 1024 := by have h1 := hok.s; have h2 := HSS.out; omega
            have HSJ := As.mk (HST.out j (by omega))
            have HSTEP : As (pagesTo Wd x.val lx (j + 1) st0 = stepPage ((x.val * Wd + j : Nat) : Int) (lx.getD j noPage) (pagesTo Wd x.val lx j st0)) := ⟨rfl⟩
            have hbj := HBN.out j (by omega)
            have hlen8 := HSJ.out.len
            generalize pagesTo Wd x.val lx j st0 = st at *
            generalize lx.getD j noPage = q at *
            clear hnd hD hDb hok8
            have hxW : x.val * Wd ≤ 32 * 15 := Nat.mul_le_mul (by omega) (by omega)
            obtain ⟨i, hi⟩ : ∃ i : Nat, x.val * Wd + j = i := ⟨_, rfl⟩
            have hwr1 : IntKind.i64.wrap ((x.val : Int) * (Wd : Int)) = ((x.val * Wd : Nat) : Int) := by
              rw [show (x.val : Int) * (Wd : Int) = ((x.val * Wd : Nat) : Int) by push_cast; rfl]
              exact i64_in _ (by omega) (by omega)
            have hwr2 : ((x.val * Wd : Nat) : Int) + (j : Int) = (i : Int) := by omega
            rw [hi] at HSTEP
            have hi64 : i < 1000 := by omega
            generalize x.val * Wd = xW at *
            have HWDc := As.mk (fun w => Width_calls s.g w hok)
            unfold Geo.val at HWDc
            rw [← HWD.out] at HWDc
            have HIX2 := As.mk (And.intro hi hi64)
            clear hi64
            gi_upto_region 17 with fail
            have HNEW := As.mk (heap_alloc_new wr (.cells #[.int .u8 q.1.kind, .int .u32 q.1.epoch, .int .u32 q.1.batch, .int .u16 q.1.index, .int .u16 q.1.count, .int .u32 q.1.block, .int .u32 q.1.more, .slice D nd cd] 56))
            have HFA := As.mk ((Fr.refl None_ wr).alloc (.cells #[.int .u8 q.1.kind, .int .u32 q.1.epoch, .int .u32 q.1.batch, .int .u16 q.1.index, .int .u16 q.1.count, .int .u32 q.1.block, .int .u32 q.1.more, .slice D nd cd] 56))
            clear y0 y1 y2 y3 y4 y5 y6 y7
            generalize wr.alloc (.cells #[.int .u8 q.1.kind, .int .u32 q.1.epoch, .int .u32 q.1.batch, .int .u16 q.1.index, .int .u16 q.1.count, .int .u32 q.1.block, .int .u32 q.1.more, .slice D nd cd] 56) = wa at *
            generalize hxb : wr.heap.size = xb at HNEW ⊢
            have HM4 := As.mk (HMj.out.none_ HFA.out)
            have e0 := cell_is (i := 0) HM4.out.ge rfl
            have e1 := cell_is (i := 1) HM4.out.ge rfl
            have e2 := cell_is (i := 2) HM4.out.ge rfl
            have e3 := cell_is (i := 3) HM4.out.ge rfl
            dsimp only at e0 e1 e2 e3
            have HXB : As (w2.heap.size ≤ xb) := ⟨by rw [← hxb]; exact HZj.out⟩
            clear hxb
            gi_wp2
            refine ⟨trivial, (CallsIn.inRound l (callsIn_wide.2 (HWDc.out wa))).mono ?_⟩
            rintro e w5 ⟨rfl, hf5⟩
            have HF5 := As.mk (HFA.out.after hf5 (fun _ _ h => h))
            have HM5 := As.mk (HMj.out.none_ HF5.out)
            have HK5 := As.mk (HKj.out.none_ HF5.out (Nat.lt_of_lt_of_le hgb9 (Nat.le_trans hz2 HZj.out)) (Nat.lt_of_lt_of_le hsb9 (Nat.le_trans hz2 HZj.out)))
            have HP5 := As.mk (HPj.out.fr HF5.out (fun b h => h.elim))
            have HN5 := As.mk (hf5.heap HNEW.out (fun h => h))
            have HZ5 := As.mk (Nat.le_trans HZj.out HF5.out.size)
            have HD5 := As.mk (HDA.out.2.1.none_ HF5.out)
            clear hf5 e0 e1 e2 e3 HM4
            have m0 := cell_of HM5.out.mo
            have f0 := free_of (i := 0) HM5.out.mo
            have x1 := cell_is (i := 1) HN5.out rfl
            dsimp only at m0 f0 x1
            gi_upto_region 19 with fail
            have hmax : (if st.most < q.1.epoch then q.1.epoch else st.most) = max st.most q.1.epoch := by rw [Int.max_def]; split <;> split <;> omega
            rw [hmax]
            have hs6 := Fr.set1 (w' := w5) (b := w.heap.size + 1 + 1 + 1 + 1) (.int .u32 (max st.most q.1.epoch))
            have HM6 := As.mk (HM5.out.setMo (max st.most q.1.epoch))
            have hzw : w.heap.size + 1 + 1 + 1 + 1 < W.heap.size := (Array.getElem?_eq_some_iff.1 HM.out.mo).1
            have hzn : w7.heap.size + 1 + 1 < W.heap.size := (Array.getElem?_eq_some_iff.1 HM.out.nn).1
            have hzo : w7.heap.size + 1 + 1 + 1 < W.heap.size := (Array.getElem?_eq_some_iff.1 HM.out.ww).1
            have hzb : w7.heap.size + 1 < W.heap.size := (Array.getElem?_eq_some_iff.1 HM.out.bb).1
            have hzg : w7.heap.size < W.heap.size := (Array.getElem?_eq_some_iff.1 HM.out.ge).1
            have hne4 : w.heap.size + 1 + 1 + 1 + 1 < w8.heap.size := hz48
            have HK6 := As.mk (HK5.out.turn hs6 (fun b e => by subst e; exact ⟨_, _, _, HM5.out.mo⟩) ⟨Nat.lt_of_lt_of_le hgb9 (Nat.le_trans hz2 HZ5.out), by omega⟩ ⟨Nat.lt_of_lt_of_le hsb9 (Nat.le_trans hz2 HZ5.out), by omega⟩)
            have HP6 := As.mk (HP5.out.fr hs6 (fun b e => .inl (by subst e; exact hzw)))
            have HN6 := As.mk (hs6.heap HN5.out (fun e => by have := HXB.out; omega))
            have HF6 := As.mk hs6.size
            have HD6 := As.mk (HD5.out.fr hs6 (fun ad e _ hb => by have := (HDA.out.2.2 ad e).1; omega))
            clear m0 f0 x1 hmax hs6
            change As (Mem w (w5.setCell ⟨w.heap.size + 1 + 1 + 1 + 1, 0, none⟩ (.int .u32 (max st.most q.1.epoch))) p which s.g ⟨w.heap.size, w.heap.size + 1, w.heap.size + 1 + 1, w.heap.size + 1 + 1 + 1, w.heap.size + 1 + 1 + 1 + 1, w.heap.size + 1 + 1 + 1 + 1 + 1, w7.heap.size, w7.heap.size + 1, w7.heap.size + 1 + 1, w7.heap.size + 1 + 1 + 1⟩ { st with most := max st.most q.1.epoch } v') at HM6
            generalize w5.setCell ⟨w.heap.size + 1 + 1 + 1 + 1, 0, none⟩ (.int .u32 (max st.most q.1.epoch)) = w6' at *
            gi_upto_if 72 with fail
            gi_cut [] from 142 (fun wx => As (Mem w wx p which s.g ⟨w.heap.size, w.heap.size + 1, w.heap.size + 1 + 1, w.heap.size + 1 + 1 + 1, w.heap.size + 1 + 1 + 1 + 1, w.heap.size + 1 + 1 + 1 + 1 + 1, w7.heap.size, w7.heap.size + 1, w7.heap.size + 1 + 1, w7.heap.size + 1 + 1 + 1⟩ { st with n := nOf i q st, most := max st.most q.1.epoch } v') ∧ As (Kept w9.heap.size w8.heap.size (w8.heap.size + 1) W wx) ∧ As (Pg W.heap.size w2.heap.size wx (some ad) n vs lx) ∧ As (wx.heap[xb]? = some (.cells #[.int .u8 q.1.kind, .int .u32 q.1.epoch, .int .u32 q.1.batch, .int .u16 q.1.index, .int .u16 q.1.count, .int .u32 q.1.block, .int .u32 q.1.more, .slice D nd cd] 56 (0, 0))) ∧ As (w5.heap.size ≤ wx.heap.size) ∧ As (Rd .u8 wx D nd q.2))
            case first =>
              by_cases hi0 : i = 0
              · have hb0 : ((i : Int) == 0) = true := by simp [hi0]
                have n0 := cell_of HM6.out.nn
                have g0 := free_of (i := 0) HM6.out.nn
                have x4 := cell_is (i := 4) HN6.out rfl
                dsimp only at n0 g0 x4
                have hc16 : 0 ≤ q.1.count ∧ q.1.count < 65536 := HOK8.out.count
                have hcw : IntKind.i64.wrap q.1.count = q.1.count := i64_in _ (by omega) (by omega)
                gi_wp2
                gi_meet
                case rel =>
                  have hs7 := Fr.set1 (w' := w6') (b := w7.heap.size + 1 + 1) (.int .i64 q.1.count)
                  have hn : nOf i q st = q.1.count := by unfold nOf; rw [if_pos (by omega)]
                  refine ⟨?_, ⟨HK6.out.turn hs7 (fun b e => by subst e; exact ⟨_, _, _, HM6.out.nn⟩) ⟨Nat.lt_of_lt_of_le hgb9 (Nat.le_trans hz2 (Nat.le_trans HZ5.out HF6.out)), by omega⟩ ⟨Nat.lt_of_lt_of_le hsb9 (Nat.le_trans hz2 (Nat.le_trans HZ5.out HF6.out)), by omega⟩⟩, ⟨HP6.out.fr hs7 (fun b e => .inl (by subst e; exact hzn))⟩, ⟨hs7.heap HN6.out (fun e => by have := HXB.out; omega)⟩, ⟨Nat.le_trans HF6.out hs7.size⟩, ⟨HD6.out.fr hs7 (fun ad e _ hb => by have := (HDA.out.2.2 ad e).1; omega)⟩⟩
                  rw [hn]
                  exact ⟨HM6.out.setN q.1.count⟩
              · have hb0 : ((i : Int) == 0) = false := by simp [hi0]
                gi_wp2
                gi_meet
                case rel =>
                  have hn : nOf i q st = st.n := by unfold nOf; rw [if_neg (by omega)]
                  refine ⟨?_, HK6, HP6, HN6, HF6, HD6⟩
                  rw [hn]
                  exact HM6
            case rest =>
              obtain ⟨HM7, HK7, HP7, HN7, HF7, HD7⟩ := hcut
              have hnr := nOf_range (i := (i : Int)) HSJ.out HOK8.out
              obtain ⟨n', hn'⟩ : ∃ n', nOf i q st = n' := ⟨_, rfl⟩
              rw [hn'] at hnr HM7
              have HNN := As.mk hn'
              clear hn'
              have n0 := cell_of HM7.out.nn
              dsimp only at n0
              rename World => w77
              by_cases hle : n' ≤ (i : Int)
              · have dl : decide (n' ≤ (i : Int)) = true := decide_eq_true hle
                gi_wp2
                refine ⟨⟨j + 1, v', rfl, by omega, ⟨?_⟩, HK7, HP7, HRj, ⟨Nat.le_trans HZ5.out HF7.out⟩⟩, by simp [intOf]; omega⟩
                rw [HSTEP.out]
                unfold stepPage
                rw [HNN.out, if_pos hle]
                exact HM7.out
              · have dl : decide (n' ≤ (i : Int)) = false := decide_eq_false hle
                gi_upto_region 22 with fail
                gi_cut [] from 142 (fun wx => As (Mem w wx p which s.g ⟨w.heap.size, w.heap.size + 1, w.heap.size + 1 + 1, w.heap.size + 1 + 1 + 1, w.heap.size + 1 + 1 + 1 + 1, w.heap.size + 1 + 1 + 1 + 1 + 1, w7.heap.size, w7.heap.size + 1, w7.heap.size + 1 + 1, w7.heap.size + 1 + 1 + 1⟩ { st with n := n', most := max st.most q.1.epoch, whole := st.whole && goodHead q.1 i n' } v') ∧ As (Kept w9.heap.size w8.heap.size (w8.heap.size + 1) W wx) ∧ As (Pg W.heap.size w2.heap.size wx (some ad) n vs lx) ∧ As (wx.heap[xb]? = some (.cells #[.int .u8 q.1.kind, .int .u32 q.1.epoch, .int .u32 q.1.batch, .int .u16 q.1.index, .int .u16 q.1.count, .int .u32 q.1.block, .int .u32 q.1.more, .slice D nd cd] 56 (0, 0))) ∧ As (w5.heap.size ≤ wx.heap.size) ∧ As (Rd .u8 wx D nd q.2))
                case first =>
                  have hrel := fun (b : Bool) (hb : b = (st.whole && goodHead q.1 i n')) => (show As (Mem w (w77.setCell ⟨w7.heap.size + 1 + 1 + 1, 0, none⟩ (.bool b)) p which s.g ⟨w.heap.size, w.heap.size + 1, w.heap.size + 1 + 1, w.heap.size + 1 + 1 + 1, w.heap.size + 1 + 1 + 1 + 1, w.heap.size + 1 + 1 + 1 + 1 + 1, w7.heap.size, w7.heap.size + 1, w7.heap.size + 1 + 1, w7.heap.size + 1 + 1 + 1⟩ { st with n := n', most := max st.most q.1.epoch, whole := st.whole && goodHead q.1 i n' } v') ∧ As (Kept w9.heap.size w8.heap.size (w8.heap.size + 1) W (w77.setCell ⟨w7.heap.size + 1 + 1 + 1, 0, none⟩ (.bool b))) ∧ As (Pg W.heap.size w2.heap.size (w77.setCell ⟨w7.heap.size + 1 + 1 + 1, 0, none⟩ (.bool b)) (some ad) n vs lx) ∧ As ((w77.setCell ⟨w7.heap.size + 1 + 1 + 1, 0, none⟩ (.bool b)).heap[xb]? = some (.cells #[.int .u8 q.1.kind, .int .u32 q.1.epoch, .int .u32 q.1.batch, .int .u16 q.1.index, .int .u16 q.1.count, .int .u32 q.1.block, .int .u32 q.1.more, .slice D nd cd] 56 (0, 0))) ∧ As (w5.heap.size ≤ (w77.setCell ⟨w7.heap.size + 1 + 1 + 1, 0, none⟩ (.bool b)).heap.size) ∧ As (Rd .u8 (w77.setCell ⟨w7.heap.size + 1 + 1 + 1, 0, none⟩ (.bool b)) D nd q.2) from by
                    have hs8 := Fr.set1 (w' := w77) (b := w7.heap.size + 1 + 1 + 1) (.bool b)
                    refine ⟨?_, ⟨HK7.out.turn hs8 (fun k e => by subst e; exact ⟨_, _, _, HM7.out.ww⟩) ⟨Nat.lt_of_lt_of_le hgb9 (Nat.le_trans hz2 (Nat.le_trans HZ5.out HF7.out)), by omega⟩ ⟨Nat.lt_of_lt_of_le hsb9 (Nat.le_trans hz2 (Nat.le_trans HZ5.out HF7.out)), by omega⟩⟩, ⟨HP7.out.fr hs8 (fun k e => .inl (by subst e; exact hzo))⟩, ⟨hs8.heap HN7.out (fun e => by have := HXB.out; omega)⟩, ⟨Nat.le_trans HF7.out hs8.size⟩, ⟨HD7.out.fr hs8 (fun ad' e _ hb2 => by have := (HDA.out.2.2 ad' e).1; omega)⟩⟩
                    rw [← hb]
                    exact ⟨HM7.out.setW b⟩)
                  have HREL := As.mk hrel
                  have x0 := cell_is (i := 0) HN7.out rfl
                  have x3 := cell_is (i := 3) HN7.out rfl
                  have x4 := cell_is (i := 4) HN7.out rfl
                  have wc := cell_of HM7.out.ww
                  have wf := free_of (i := 0) HM7.out.ww
                  dsimp only at x0 x3 x4 wc wf
                  have hi3 : 0 ≤ q.1.index ∧ q.1.index < 65536 := HOK8.out.index
                  have hi4 : 0 ≤ q.1.count ∧ q.1.count < 65536 := HOK8.out.count
                  have hw3 : IntKind.i64.wrap q.1.index = q.1.index := i64_in _ (by omega) (by omega)
                  have hw4 : IntKind.i64.wrap q.1.count = q.1.count := i64_in _ (by omega) (by omega)
                  clear hrel
                  obtain ⟨bw, hbw⟩ : ∃ bw, st.whole = bw := ⟨_, rfl⟩
                  rw [hbw] at wc
                  have HBW := As.mk hbw
                  clear hbw
                  rcases bw with _ | _
                  · gi_wp2
                    gi_meet
                    case rel => exact HREL.out false (by rw [HBW.out]; simp)
                  · by_cases hk3 : q.1.kind = 3
                    · have b1 : (q.1.kind == 3) = true := by simp [hk3]
                      have HK3 := As.mk hk3
                      clear hk3
                      by_cases hk4 : q.1.index = i
                      · have b2 : (q.1.index == (i : Int)) = true := by simp [hk4]
                        have HK4 := As.mk hk4
                        clear hk4
                        by_cases hk5 : q.1.count = n'
                        · have b3 : (q.1.count == n') = true := by simp [hk5]
                          have HK5' := As.mk hk5
                          clear hk5
                          gi_wp2
                          gi_meet
                          case rel => exact HREL.out true (by rw [HBW.out]; simp [goodHead, HK3.out, HK4.out, HK5'.out])
                        · have b3 : (q.1.count == n') = false := by simp [hk5]
                          gi_wp2
                          gi_meet
                          case rel => exact HREL.out false (by rw [HBW.out]; simp [goodHead, hk5])
                      · have b2 : (q.1.index == (i : Int)) = false := by simp [hk4]
                        gi_wp2
                        gi_meet
                        case rel => exact HREL.out false (by rw [HBW.out]; simp [goodHead, hk4])
                    · have b1 : (q.1.kind == 3) = false := by simp [hk3]
                      gi_wp2
                      gi_meet
                      case rel => exact HREL.out false (by rw [HBW.out]; simp [goodHead, hk3])
                case rest =>
                  obtain ⟨HM8, HK8, HP8, HN8, HF8, HD8⟩ := hcut
                  have bc := cell_of HM8.out.bb
                  have bf := free_of (i := 0) HM8.out.bb
                  have x7 := cell_is (i := 7) HN8.out rfl
                  dsimp only at bc bf x7
                  obtain ⟨Ab, nb', cb, eb, _, _, _⟩ := HM8.out.row.rd
                  subst eb
                  rename World => w88
                  have HRB : As (Row 5 .u8 w88 w.heap.size (.slice Ab nb' cb) st.b) := ⟨HM8.out.row⟩
                  have hblen : (st.b.length + nd) * 1 ≤ 140737488355328 := by have h1 := hlen8; have h2 := HD8.out.1; have h3 : nd = S := HNS.out; have h4 := hbj; have h5 := hS1024; omega
                  have hzz : w.heap.size ≤ w88.heap.size := HM8.out.fr.size
                  have hg88 := (HK8.out.caught.1.trans HCW.out.1).trans HGB.out.1
                  have hs88 := (HK8.out.caught.2.trans HCW.out.2).trans HGB.out.2
                  have HGS := As.mk (And.intro hg88 hs88)
                  clear hg88 hs88
                  gi_wp2_with (gi_at_builtin; (with_reducible refine appendRowIn w.heap.size rfl _ _ 23 5 .u8 1 rfl Try.underlying23 infoByte (by decide) (.slice Ab nb' cb) st.b q.2 D nd cd rfl rfl HRB.out HD8.out hzz hblen ?_); intro v9 w99 hrow9 hfr9 hat9; have HW9 := As.mk hrow9; have HF9 := As.mk hfr9; have HA9 := As.mk hat9; have hb9 := hfr9.heap HM8.out.bb (Row.ne HRB.out HM8.out.bb (by decide)); have bc9 := cell_of hb9; have bf9 := free_of (i := 0) hb9; dsimp only at bc9 bf9; have HB9 := As.mk hb9; clear hrow9 hfr9 hat9 hb9; obtain ⟨A9, n9, c9, e9, _, _, _⟩ := HW9.out.rd; subst e9)
                  have hs9 := Fr.set1 (w' := w99) (b := w7.heap.size + 1) (.slice A9 n9 c9)
                  have hzg8 : w8.heap.size < w88.heap.size := (Array.getElem?_eq_some_iff.1 HGS.out.1).1
                  have hzs8 : w8.heap.size + 1 < w88.heap.size := (Array.getElem?_eq_some_iff.1 HGS.out.2).1
                  have hz99 := HF9.out.size
                  have hk9 := HK8.out.turn HF9.out (fun k e => by obtain ⟨_, _, cs, hc⟩ := HRB.out.blk k e; exact ⟨_, _, _, hc⟩) ⟨hzg8, Row.ne HRB.out HGS.out.1 (by decide)⟩ ⟨hzs8, Row.ne HRB.out HGS.out.2 (by decide)⟩
                  have hk99 := hk9.turn hs9 (fun k e => by subst e; exact ⟨_, _, _, HB9.out⟩) ⟨by omega, by omega⟩ ⟨by omega, by omega⟩
                  refine ⟨⟨j + 1, .slice A9 n9 c9, rfl, by omega, ⟨?_⟩, ⟨hk99⟩, ⟨(HP8.out.fr HF9.out (fun k e => HRj.out k e)).fr hs9 (fun k e => .inl (by subst e; exact hzb))⟩, ⟨fun k e => ?_⟩, ⟨Nat.le_trans HZ5.out (Nat.le_trans HF8.out (Nat.le_trans hz99 hs9.size))⟩⟩, by simp [intOf]; omega⟩
                  · rw [HSTEP.out]
                    unfold stepPage
                    rw [HNN.out, if_neg hle]
                    exact HM8.out.setB HW9.out HF9.out
                  · rcases HA9.out with h | ⟨b', h, hb'⟩
                    · rw [h] at e
                      exact HRj.out k e
                    · rw [h] at e
                      injection e with e
                      subst e
                      exact .inr (Nat.le_trans HZ5.out (Nat.le_trans HF8.out hb'))
          · have hltI : ¬ (j : Int) < (n : Int) := by omega
            have hjn : n = j := by omega
            subst hjn
            gi_wp2
            refine ⟨HKj.out.from_, HKj.out.caught, ⟨v', ?_⟩, fun y hy => ?_, ?_⟩
            · rw [List.map_append, List.map_cons, List.map_nil, rowsSt_snoc, HEQ.out.1]
              unfold rowStep
              rw [HEQ.out.2, HLL.out]
              exact HMj.out
            · rcases List.mem_append.1 hy with h | h
              · exact HAL.out y h
              · obtain rfl := List.mem_singleton.1 h
                exact HIX.out
            · exact ⟨Nat.le_trans hz2 HZj.out, HKj.out.caught.1.trans HCW.out.1, HKj.out.caught.2.trans HCW.out.2⟩
    case done =>
      rintro D xs W hD hxs ⟨v, hm, hall, hsz, hcw⟩ hK
      rw [hxs] at hm
      have HRS : As (∃ m, m ≤ s.g.p.toNat ∧ (∀ k, k < m → is k = true) ∧ (m < s.g.p.toNat → is m = false) ∧ rowsSt Wd L (List.range m) = rowsSt Wd L (List.range s.g.p.toNat)) := ⟨s.g.p.toNat, Nat.le_refl _, fun k hk => by
        have h1 : k ∈ xs.map Fin.val := by rw [hxs]; exact List.mem_range.2 hk
        obtain ⟨y, hy, rfl⟩ := List.mem_map.1 h1
        exact hall y hy, fun h => absurd h (Nat.lt_irrefl _), rfl⟩
      have HSO := As.mk (HSOF.out s.g.p.toNat (Nat.le_refl _) (fun k hk => by
        have h5 : k ∈ xs.map Fin.val := by rw [hxs]; exact List.mem_range.2 hk
        obtain ⟨y, hy, rfl⟩ := List.mem_map.1 h5
        exact hall y hy))
      generalize rowsSt Wd L (List.range s.g.p.toNat) = st at *
      have HM := As.mk hm
      have HOK := As.mk hok
      clear HSOF hm hall hsz hcw hxs xs HG HRW HS6 HS7 H67 HZ8 HM9 hR hA hok HZ9 HGB hgb hsb hgb9 hsb9 hz48 hz78 d1 d2 hme HWD
      gi_upto_region 25 with fail
      revert p s which S Wd w is L w6 w7 w8 w9 D W v st
      repeat (rename_i z; revert z)
      exact hT.out
    case stop =>
      rintro D c pre W hD hj ⟨rfl, v, pre', x, hpre, hix, hm, hall⟩ hK
      obtain ⟨j, hjN, hjr⟩ := hj
      rw [hpre, List.map_append, List.map_cons, List.map_nil, List.range_succ] at hjr
      have hpr := List.append_inj' hjr rfl
      have hxj : x.val = j := by have := hpr.2; injection this
      rw [hpr.1] at hm
      have HRS : As (∃ m, m ≤ s.g.p.toNat ∧ (∀ k, k < m → is k = true) ∧ (m < s.g.p.toNat → is m = false) ∧ rowsSt Wd L (List.range m) = rowsSt Wd L (List.range j)) := ⟨j, by omega, fun k hk => by
        have h1 : k ∈ pre'.map Fin.val := by rw [hpr.1]; exact List.mem_range.2 hk
        obtain ⟨y, hy, rfl⟩ := List.mem_map.1 h1
        exact hall y hy, fun h => by rw [← hxj]; exact hix, rfl⟩
      have HSO := As.mk (HSOF.out j (by omega) (fun k hk => by
        have h1 : k ∈ pre'.map Fin.val := by rw [hpr.1]; exact List.mem_range.2 hk
        obtain ⟨y, hy, rfl⟩ := List.mem_map.1 h1
        exact hall y hy))
      generalize rowsSt Wd L (List.range j) = st at *
      have HM := As.mk hm
      have HOK := As.mk hok
      clear HSOF hm hall hpre hjr hpr hxj hix pre' pre x HG HRW HS6 HS7 H67 HZ8 HM9 hR hA hok HZ9 HGB hgb hsb hgb9 hsb9 hz48 hz78 d1 d2 hme HWD
      gi_upto_region 25 with fail
      apply hT.out _ _ p s which S Wd w is L hw HSS w6 w7 w8 w9 hz09 D W hD v hK st HRS HSO HM HOK <;> assumption
end Go.Proofs.Ytlhgbamajabnfaa.PRead2

/- point.Read: behind its range. -/
namespace Go.Proofs.Ytlhgbamajabnfaa.PRead3
open Go.RowKit Go.Proofs.Ytlhgbamajabnfaa.Gab Go.Proofs.Ytlhgbamajabnfaa.Wr Go.Proofs.Ytlhgbamajabnfaa.Geom Go.Proofs.Ytlhgbamajabnfaa.Fields Go.Proofs.Ytlhgbamajabnfaa.Ord Go.Proofs.Ytlhgbamajabnfaa.Iter Go.Proofs.Ytlhgbamajabnfaa.Write Go.Proofs.Ytlhgbamajabnfaa.Stripe Go.Proofs.Ytlhgbamajabnfaa.PRead1 Go.Proofs.Ytlhgbamajabnfaa.PRead2
open Go.Proofs.Ytlhgbamajabnfaa.Point1 (cell_is)
open Go.Proofs.Ytlhgbamajabnfaa.Ram (RamE Geo_calls)
attribute [local go_sem] Oper.semAt_some
set_option linter.unusedVariables false
set_option linter.unusedSimpArgs false

/-- The four results, stored. -/
def stored (W : World) (b2 b3 b4 b5 : Nat) (v0 v1 v2 v3 : Value) (k : Bool) (m e : Int) : World :=
  (((((((W.setCell ⟨b2, 0, none⟩ v0).setCell ⟨b2, 1, none⟩ v1).setCell ⟨b2, 2, none⟩ v2).setCell ⟨b2, 3, none⟩ v3).setCell ⟨b3, 0, none⟩ (.bool k)).setCell ⟨b4, 0, none⟩ (.int .u32 m)).setCell ⟨b5, 0, none⟩ (.int .i64 e)).drew
theorem stored_is {w W : World} {b2 b3 b4 b5 D : Nat} {a0 a1 a2 a3 x3 x4 x5 : Value} {o : Obj} (hf : Fr None_ w W) (h2 : W.heap[b2]? = some (.cells #[a0, a1, a2, a3] 73 (0, 0))) (h3 : W.heap[b3]? = some (.cells #[x3] 4 (0, 0))) (h4 : W.heap[b4]? = some (.cells #[x4] 51 (0, 0))) (h5 : W.heap[b5]? = some (.cells #[x5] 42 (0, 0)))
    (hD : W.heap[D]? = some o) (ho : o.isCells = false) (hn : w.heap.size ≤ b2 ∧ w.heap.size ≤ b3 ∧ w.heap.size ≤ b4 ∧ w.heap.size ≤ b5) (v0 v1 v2 v3 : Value) (k : Bool) (m e : Int) :
    Fr None_ w (stored W b2 b3 b4 b5 v0 v1 v2 v3 k m e) ∧ (stored W b2 b3 b4 b5 v0 v1 v2 v3 k m e).heap[b2]? = some (.cells #[v0, v1, v2, v3] 73 (0, 0)) ∧ (stored W b2 b3 b4 b5 v0 v1 v2 v3 k m e).heap[b3]? = some (.cells #[.bool k] 4 (0, 0)) ∧
    (stored W b2 b3 b4 b5 v0 v1 v2 v3 k m e).heap[b4]? = some (.cells #[.int .u32 m] 51 (0, 0)) ∧ (stored W b2 b3 b4 b5 v0 v1 v2 v3 k m e).heap[b5]? = some (.cells #[.int .i64 e] 42 (0, 0)) ∧ (stored W b2 b3 b4 b5 v0 v1 v2 v3 k m e).heap[D]? = some o ∧
    Fr (fun b => b = b2 ∨ b = b3 ∨ b = b4 ∨ b = b5) W (stored W b2 b3 b4 b5 v0 v1 v2 v3 k m e) := by
  have hDn : ∀ {b : Nat} {cs : Array Value} {T : TypeId} {f : Nat × Nat}, W.heap[b]? = some (.cells cs T f) → D ≠ b := fun hb e => by
    subst e
    rw [hb] at hD
    injection hD with hD
    subst hD
    cases ho
  have q0 := Case.heap_set h2 0 v0
  have q1 := Case.heap_set q0 1 v1
  have q2 := Case.heap_set q1 2 v2
  have q3 := Case.heap_set q2 3 v3
  have q4 : ((((W.setCell ⟨b2, 0, none⟩ v0).setCell ⟨b2, 1, none⟩ v1).setCell ⟨b2, 2, none⟩ v2).setCell ⟨b2, 3, none⟩ v3).heap[b2]? = some (.cells #[v0, v1, v2, v3] 73 (0, 0)) := by rw [q3]; simp
  have f4 : Fr (fun i => i = b2) W ((((W.setCell ⟨b2, 0, none⟩ v0).setCell ⟨b2, 1, none⟩ v1).setCell ⟨b2, 2, none⟩ v2).setCell ⟨b2, 3, none⟩ v3) := ((((Fr.refl (fun i => i = b2) W).setCell (p := ⟨b2, 0, none⟩) (fun _ => rfl) v0).setCell (p := ⟨b2, 1, none⟩) (fun _ => rfl) v1).setCell (p := ⟨b2, 2, none⟩) (fun _ => rfl) v2).setCell (p := ⟨b2, 3, none⟩) (fun _ => rfl) v3
  have n23 := tne h2 h3 (by decide)
  have n24 := tne h2 h4 (by decide)
  have n25 := tne h2 h5 (by decide)
  have n34 := tne h3 h4 (by decide)
  have n35 := tne h3 h5 (by decide)
  have n45 := tne h4 h5 (by decide)
  have g3 := f4.heap h3 (fun e => n23 e.symm)
  have g4 := f4.heap h4 (fun e => n24 e.symm)
  have g5 := f4.heap h5 (fun e => n25 e.symm)
  have gD := f4.heap hD (hDn h2)
  unfold stored
  generalize (((W.setCell ⟨b2, 0, none⟩ v0).setCell ⟨b2, 1, none⟩ v1).setCell ⟨b2, 2, none⟩ v2).setCell ⟨b2, 3, none⟩ v3 = W4 at *
  have f5 := Fr.set1 (w' := W4) (b := b3) (.bool k)
  have r2 := f5.heap q4 n23
  have r3 := set_of (u := .bool k) g3
  have r4 := f5.heap g4 (fun e => n34 e.symm)
  have r5 := f5.heap g5 (fun e => n35 e.symm)
  have rD := f5.heap gD (hDn h3)
  generalize W4.setCell ⟨b3, 0, none⟩ (.bool k) = W5 at *
  have f6 := Fr.set1 (w' := W5) (b := b4) (.int .u32 m)
  have t2 := f6.heap r2 n24
  have t3 := f6.heap r3 n34
  have t4 := set_of (u := .int .u32 m) r4
  have t5 := f6.heap r5 (fun e => n45 e.symm)
  have tD := f6.heap rD (hDn h4)
  generalize W5.setCell ⟨b4, 0, none⟩ (.int .u32 m) = W6 at *
  have f7 := Fr.set1 (w' := W6) (b := b5) (.int .i64 e)
  have hall : Fr (fun b => b = b2 ∨ b = b3 ∨ b = b4 ∨ b = b5) W (W6.setCell ⟨b5, 0, none⟩ (.int .i64 e)).drew := ((((f4.mono (fun i _ h => .inl h)).after f5 (fun i _ h => .inr (.inl h))).after f6 (fun i _ h => .inr (.inr (.inl h)))).after f7 (fun i _ h => .inr (.inr (.inr h)))).drew
  exact ⟨hf.after hall (fun i hi h => by rcases h with rfl | rfl | rfl | rfl <;> omega), f7.heap t2 n25, f7.heap t3 n35, f7.heap t4 n45, set_of t5, f7.heap tD (hDn h5), hall⟩
/-- The point, stored. -/
theorem put_pt {w W : World} {p : Nat} {which : Int} {g : Geo} {a : Bl} {st : RSt} {v : Value} {D : Nat} (h : Mem w W p which g a st v) (hpt : w.heap.size ≤ a.pt) (hD : W.heap[D]? = some (.deferred (some []))) (v0 v1 v2 v3 : Value) :
    As (Fr None_ w ((((W.setCell ⟨a.pt, 0, none⟩ v0).setCell ⟨a.pt, 1, none⟩ v1).setCell ⟨a.pt, 2, none⟩ v2).setCell ⟨a.pt, 3, none⟩ v3)) ∧
    As (((((W.setCell ⟨a.pt, 0, none⟩ v0).setCell ⟨a.pt, 1, none⟩ v1).setCell ⟨a.pt, 2, none⟩ v2).setCell ⟨a.pt, 3, none⟩ v3).heap[a.pt]? = some (.cells #[v0, v1, v2, v3] 73 (0, 0))) ∧
    As (((((W.setCell ⟨a.pt, 0, none⟩ v0).setCell ⟨a.pt, 1, none⟩ v1).setCell ⟨a.pt, 2, none⟩ v2).setCell ⟨a.pt, 3, none⟩ v3).heap[a.ok]? = some (.cells #[.bool false] 4 (0, 0))) ∧
    As (((((W.setCell ⟨a.pt, 0, none⟩ v0).setCell ⟨a.pt, 1, none⟩ v1).setCell ⟨a.pt, 2, none⟩ v2).setCell ⟨a.pt, 3, none⟩ v3).heap[a.mo]? = some (.cells #[.int .u32 st.most] 51 (0, 0))) ∧
    As (((((W.setCell ⟨a.pt, 0, none⟩ v0).setCell ⟨a.pt, 1, none⟩ v1).setCell ⟨a.pt, 2, none⟩ v2).setCell ⟨a.pt, 3, none⟩ v3).heap[a.er]? = some (.cells #[.int .i64 0] 42 (0, 0))) ∧
    As (((((W.setCell ⟨a.pt, 0, none⟩ v0).setCell ⟨a.pt, 1, none⟩ v1).setCell ⟨a.pt, 2, none⟩ v2).setCell ⟨a.pt, 3, none⟩ v3).heap[D]? = some (.deferred (some []))) ∧
    As (Fr (fun i => i = a.pt) W ((((W.setCell ⟨a.pt, 0, none⟩ v0).setCell ⟨a.pt, 1, none⟩ v1).setCell ⟨a.pt, 2, none⟩ v2).setCell ⟨a.pt, 3, none⟩ v3)) := by
  have hf := h.fr
  have f4 : Fr (fun i => i = a.pt) W ((((W.setCell ⟨a.pt, 0, none⟩ v0).setCell ⟨a.pt, 1, none⟩ v1).setCell ⟨a.pt, 2, none⟩ v2).setCell ⟨a.pt, 3, none⟩ v3) := ((((Fr.refl (fun i => i = a.pt) W).setCell (p := ⟨a.pt, 0, none⟩) (fun _ => rfl) v0).setCell (p := ⟨a.pt, 1, none⟩) (fun _ => rfl) v1).setCell (p := ⟨a.pt, 2, none⟩) (fun _ => rfl) v2).setCell (p := ⟨a.pt, 3, none⟩) (fun _ => rfl) v3
  have q0 := Case.heap_set h.pt 0 v0
  have q1 := Case.heap_set q0 1 v1
  have q2 := Case.heap_set q1 2 v2
  have q3 := Case.heap_set q2 3 v3
  exact ⟨⟨hf.after f4 (fun i hi e => by subst e; omega)⟩, ⟨by rw [q3]; simp⟩, ⟨f4.heap h.ok (tne h.ok h.pt (by decide))⟩, ⟨f4.heap h.mo (tne h.mo h.pt (by decide))⟩, ⟨f4.heap h.er (tne h.er h.pt (by decide))⟩, ⟨f4.heap hD (fun e => by rw [e, h.pt] at hD; injection hD with hD; cases hD)⟩, ⟨f4⟩⟩
/-- Behind the rounds' deferred calls. -/
theorem taken {w Wf : World} {D : Nat} (hf : Fr None_ w Wf) (hD : Wf.heap[D]? = some (.deferred (some []))) (hd : w.heap.size ≤ D) :
    Fr None_ w (Wf.putObj D (.deferred none)) ∧ (∀ {k : Nat} {cs : Array Value} {T : TypeId} {f : Nat × Nat}, Wf.heap[k]? = some (.cells cs T f) → (Wf.putObj D (.deferred none)).heap[k]? = some (.cells cs T f)) ∧ Fr (fun b => b = D) Wf (Wf.putObj D (.deferred none)) :=
  ⟨hf.grown (grownBy_putObj' Wf D _) (fun k e hk => by cases e; omega), fun hk => cells_kept hk (grownBy_putObj' Wf D _) (fun r e => by cases e; exact ⟨_, hD, rfl⟩), (Fr.refl (fun b => b = D) Wf).grown (grownBy_putObj' Wf D _) (fun k e _ => by cases e; rfl)⟩
set_option maxHeartbeats 8000000 in
set_option maxRecDepth 100000 in
theorem part2 : part1.1 := by
  unfold part1
  dsimp only
  unhygienic intros
  have hm := HM.out
  have hn := HSO.out.n
  have hlen := HSO.out.len
  have cww := cell_of hm.ww
  have nc := cell_of hm.nn
  have bc := cell_of hm.bb
  have oc := cell_of hm.mo
  have g3 := cell_is (i := 3) hm.ge rfl
  try dsimp only at cww nc bc oc g3
  rw [HSS.out] at g3
  obtain ⟨Ab, nb', cb, eb, hcb, hdb, _⟩ := hm.row.rd
  subst eb
  obtain rfl : st.b.length = nb' := hdb.out.1
  have hS1024 : 256 ≤ S ∧ S ≤ 1024 := by have h1 := HOK.out.s; have h2 := HSS.out; omega
  have hm0 : 0 ≤ st.n * (S : Int) := Int.mul_nonneg (by omega) (by omega)
  have hm1 : st.n * (S : Int) ≤ 65535 * 1024 := Int.mul_le_mul (by omega) (by omega) (by omega) (by omega)
  have hmw : IntKind.i64.wrap (st.n * (S : Int)) = st.n * (S : Int) := i64_in _ (by omega) (by omega)
  have hgood : PRead2.Good S st ↔ (st.whole = true ∧ 1 ≤ st.n ∧ (st.b.length : Int) = st.n * S) := Iff.rfl
  have HGD := As.mk hgood
  clear hgood hm
  obtain ⟨gb, hgb⟩ : ∃ gb : Bool, (gb = true ↔ PRead2.Good S st) := by
    rcases Classical.em (PRead2.Good S st) with h | h
    · exact ⟨true, fun _ => h, fun _ => rfl⟩
    · exact ⟨false, fun e => by (cases e), fun e => absurd e h⟩
  gi_cut [122] from 142 (fun v122 wx => v122 = .bool (!gb) ∧ wx = W)
  case first =>
    have HGB := As.mk hgb
    clear hgb
    obtain ⟨bw, hbw⟩ : ∃ bw, st.whole = bw := ⟨_, rfl⟩
    rw [hbw] at cww
    have HBW := As.mk hbw
    clear hbw
    rcases bw with _ | _
    · have hgf : gb = false := by
        rcases gb with _ | _
        · rfl
        · have := ((HGD.out.1 (HGB.out.1 rfl)).1).symm.trans HBW.out
          cases this
      gi_wp2
      gi_meet
      case rel => exact ⟨by rw [hgf]; rfl, rfl⟩
    · by_cases hn1 : st.n < 1
      · have hgf : gb = false := by
          rcases gb with _ | _
          · rfl
          · have := (HGD.out.1 (HGB.out.1 rfl)).2.1
            omega
        have dn : decide (st.n < 1) = true := decide_eq_true hn1
        gi_wp2
        gi_meet
        case rel => exact ⟨by rw [hgf]; rfl, rfl⟩
      · have dn : decide (st.n < 1) = false := decide_eq_false hn1
        by_cases hl : (st.b.length : Int) = st.n * S
        · have hgt : gb = true := HGB.out.2 ⟨HBW.out, by omega, hl⟩
          have db : ((st.b.length : Int) != st.n * S) = false := by simp [hl]
          have HL := As.mk hl
          clear hl
          gi_wp2
          gi_meet
          case rel => exact ⟨by rw [hgt]; rfl, rfl⟩
        · have hgf : gb = false := by
            rcases gb with _ | _
            · rfl
            · exact absurd (HGD.out.1 (HGB.out.1 rfl)).2.2 hl
          have db : ((st.b.length : Int) != st.n * S) = true := by simp [hl]
          gi_wp2
          gi_meet
          case rel => exact ⟨by rw [hgf]; rfl, rfl⟩
  case rest =>
    obtain ⟨rfl, rfl⟩ := hcut
    rcases gb with _ | _
    · have hnG : ¬ PRead2.Good S st := fun h => by have := hgb.2 h; cases this
      have HNG := As.mk hnG
      clear hnG hgb
      gi_upto_region 26 with fail
      have hm := HM.out
      have p0 := cell_is (i := 0) hm.pt rfl
      have p1 := cell_is (i := 1) hm.pt rfl
      have p2 := cell_is (i := 2) hm.pt rfl
      have p3 := cell_is (i := 3) hm.pt rfl
      have pf0 := free_of (i := 0) hm.pt
      have pf1 := free_of (i := 1) hm.pt
      have pf2 := free_of (i := 2) hm.pt
      have pf3 := free_of (i := 3) hm.pt
      have kc := cell_of hm.ok
      have kf := free_of (i := 0) hm.ok
      have of := free_of (i := 0) hm.mo
      have ec := cell_of hm.er
      have ef := free_of (i := 0) hm.er
      try dsimp only at p0 p1 p2 p3 pf0 pf1 pf2 pf3 kc kf of ec ef
      clear hm cww nc bc g3
      gi_region
      have hm := HM.out
      obtain ⟨z1, z2, z3, z4, z5, z6, z7⟩ := stored_is hm.fr hm.pt hm.ok hm.mo hm.er hK rfl (show w.heap.size ≤ w.heap.size + 1 + 1 ∧ w.heap.size ≤ w.heap.size + 1 + 1 + 1 ∧ w.heap.size ≤ w.heap.size + 1 + 1 + 1 + 1 ∧ w.heap.size ≤ w.heap.size + 1 + 1 + 1 + 1 + 1 from ⟨by omega, by omega, by omega, by omega⟩) (.int .u32 0) (.int .u32 0) (.slice none 0 0) (.slice none 0 0) false st.most 0
      unfold stored at z1 z2 z3 z4 z5 z6 z7
      try dsimp only at z1 z2 z3 z4 z5 z6 z7
      clear p0 p1 p2 p3 pf0 pf1 pf2 pf3 kc kf of ec ef oc hm
      generalize ((((((wc.setCell ⟨w.heap.size + 1 + 1, 0, none⟩ (.int .u32 0)).setCell ⟨w.heap.size + 1 + 1, 1, none⟩ (.int .u32 0)).setCell ⟨w.heap.size + 1 + 1, 2, none⟩ (.slice none 0 0)).setCell ⟨w.heap.size + 1 + 1, 3, none⟩ (.slice none 0 0)).setCell ⟨w.heap.size + 1 + 1 + 1, 0, none⟩ (.bool false)).setCell ⟨w.heap.size + 1 + 1 + 1 + 1, 0, none⟩ (.int .u32 st.most)).setCell ⟨w.heap.size + 1 + 1 + 1 + 1 + 1, 0, none⟩ (.int .i64 0) = wf at *
      gi_wp2
      refine ⟨by simp, .inl ⟨_, _, rfl, run_takeDeferred z6, ?_⟩⟩
      obtain ⟨t1, t2, t3⟩ := taken z1 z6 (Nat.le_trans hz09 hD)
      have y2 := t2 z2
      have y3 := t2 z3
      have y4 := t2 z4
      have y5 := t2 z5
      have y20 := cell_is (i := 0) y2 rfl
      have y21 := cell_is (i := 1) y2 rfl
      have y22 := cell_is (i := 2) y2 rfl
      have y23 := cell_is (i := 3) y2 rfl
      have y30 := cell_of y3
      have y40 := cell_of y4
      have y50 := cell_of y5
      obtain ⟨m, hm1, hm2, hm3, hm4⟩ := HRS.out
      exact ⟨.tuple #[.agg #[.int .u32 0, .int .u32 0, .slice none 0 0, .slice none 0 0], .bool false, .int .u32 st.most, .int .i64 0], by simp [results, Try.results41, go_sem, y20, y21, y22, y23, y30, y40, y50], m, st, hm1, hm2, hm3, hm4.symm, .inl ⟨fun h => HNG.out h.1, rfl, t1⟩⟩
    · have hG := hgb.1 rfl
      have HG := As.mk hG
      clear hG hgb
      gi_wp2
      refine ⟨trivial, (callsIn_wide.2 (Dec5.Decode_calls Ab st.b.length cb st.b wc hdb.out HSO.out.range hcb.out hlen)).mono ?_⟩
      rintro e w5 (⟨hpt, vM, vE, rfl, hM, hE, hf5⟩ | ⟨hpt, rfl, hf5⟩)
      · have HMn := As.mk (HM.out.none_ hf5)
        have HKn := As.mk (hf5.heap hK (fun e => e))
        have HPT := As.mk hpt
        obtain ⟨AM, nM, cM, eM, _, _, _⟩ := hM.rd
        subst eM
        obtain ⟨AE, nE, cE, eE, _, _, _⟩ := hE.rd
        subst eE
        have HRM := As.mk hM
        have HRE := As.mk hE
        have hwc : w.heap.size ≤ wc.heap.size := HM.out.fr.size
        obtain ⟨q0, hq0⟩ : ∃ q0, Dec3.nb st.b 0 = q0 := ⟨_, rfl⟩
        obtain ⟨q4, hq4⟩ : ∃ q4, Dec3.nb st.b 4 = q4 := ⟨_, rfl⟩
        rw [hq0, hq4]
        have HQ := As.mk (And.intro hq0 hq4)
        clear hf5 hpt cww nc bc oc g3 hM hE hq0 hq4
        have p0 := cell_is (i := 0) HMn.out.pt rfl
        have p1 := cell_is (i := 1) HMn.out.pt rfl
        have p2 := cell_is (i := 2) HMn.out.pt rfl
        have p3 := cell_is (i := 3) HMn.out.pt rfl
        have pf0 := free_of (i := 0) HMn.out.pt
        have pf1 := free_of (i := 1) HMn.out.pt
        have pf2 := free_of (i := 2) HMn.out.pt
        have pf3 := free_of (i := 3) HMn.out.pt
        try dsimp only at p0 p1 p2 p3 pf0 pf1 pf2 pf3
        obtain ⟨HFo, HPo, HKo, HOo, HEo, HDo, HSo⟩ := put_pt HMn.out (show w.heap.size ≤ w.heap.size + 1 + 1 by omega) HKn.out (.int .u32 q0) (.int .u32 q4) (.slice AM nM cM) (.slice AE nE cE)
        try dsimp only at HFo HPo HKo HOo HEo HDo HSo
        gi_upto_region 28 with fail
        clear p0 p1 p2 p3 pf0 pf1 pf2 pf3
        generalize (((w5.setCell ⟨w.heap.size + 1 + 1, 0, none⟩ (.int .u32 q0)).setCell ⟨w.heap.size + 1 + 1, 1, none⟩ (.int .u32 q4)).setCell ⟨w.heap.size + 1 + 1, 2, none⟩ (.slice AM nM cM)).setCell ⟨w.heap.size + 1 + 1, 3, none⟩ (.slice AE nE cE) = w5' at *
        have HRM5 := As.mk (HRM.out.fr HSo.out (fun b hb e => by subst e; exact Row.ne HRM.out HMn.out.pt (by decide) hb))
        have HRE5 := As.mk (HRE.out.fr HSo.out (fun b hb e => by subst e; exact Row.ne HRE.out HMn.out.pt (by decide) hb))
        have oc := cell_of HOo.out
        have p0 := cell_is (i := 0) HPo.out rfl
        try dsimp only at oc p0
        by_cases hqe : q0 = st.most
        · subst hqe
          have hbq : (st.most != st.most) = false := by simp
          have hl5 : w.heap.size + 1 + 1 + 1 + 1 + 1 < wc.heap.size := (Array.getElem?_eq_some_iff.1 HM.out.er).1
          gi_upto_region 30 with fail
          clear oc p0
          have p0 := cell_is (i := 0) HPo.out rfl
          have p1 := cell_is (i := 1) HPo.out rfl
          have p2 := cell_is (i := 2) HPo.out rfl
          have p3 := cell_is (i := 3) HPo.out rfl
          have pf0 := free_of (i := 0) HPo.out
          have pf1 := free_of (i := 1) HPo.out
          have pf2 := free_of (i := 2) HPo.out
          have pf3 := free_of (i := 3) HPo.out
          have kc := cell_of HKo.out
          have kf := free_of (i := 0) HKo.out
          have oc := cell_of HOo.out
          have of := free_of (i := 0) HOo.out
          have ec := cell_of HEo.out
          have ef := free_of (i := 0) HEo.out
          try dsimp only at p0 p1 p2 p3 pf0 pf1 pf2 pf3 kc kf oc of ec ef
          gi_region
          obtain ⟨z1, z2, z3, z4, z5, z6, z7⟩ := stored_is HFo.out HPo.out HKo.out HOo.out HEo.out HDo.out rfl (show w.heap.size ≤ w.heap.size + 1 + 1 ∧ w.heap.size ≤ w.heap.size + 1 + 1 + 1 ∧ w.heap.size ≤ w.heap.size + 1 + 1 + 1 + 1 ∧ w.heap.size ≤ w.heap.size + 1 + 1 + 1 + 1 + 1 from ⟨by omega, by omega, by omega, by omega⟩) (.int .u32 st.most) (.int .u32 q4) (.slice AM nM cM) (.slice AE nE cE) true st.most 0
          unfold stored at z1 z2 z3 z4 z5 z6 z7
          try dsimp only at z1 z2 z3 z4 z5 z6 z7
          have r1 := HRM5.out.fr z7 (fun b hb e => by have h1 := (HRM5.out.blk b hb).1; rcases e with e | e | e | e <;> omega)
          have r2 := HRE5.out.fr z7 (fun b hb e => by have h1 := (HRE5.out.blk b hb).1; rcases e with e | e | e | e <;> omega)
          clear p0 p1 p2 p3 pf0 pf1 pf2 pf3 kc kf oc of ec ef
          generalize ((((((w5'.setCell ⟨w.heap.size + 1 + 1, 0, none⟩ (.int .u32 st.most)).setCell ⟨w.heap.size + 1 + 1, 1, none⟩ (.int .u32 q4)).setCell ⟨w.heap.size + 1 + 1, 2, none⟩ (.slice AM nM cM)).setCell ⟨w.heap.size + 1 + 1, 3, none⟩ (.slice AE nE cE)).setCell ⟨w.heap.size + 1 + 1 + 1, 0, none⟩ (.bool true)).setCell ⟨w.heap.size + 1 + 1 + 1 + 1, 0, none⟩ (.int .u32 st.most)).setCell ⟨w.heap.size + 1 + 1 + 1 + 1 + 1, 0, none⟩ (.int .i64 0) = wf at *
          gi_wp2
          refine ⟨by simp, .inl ⟨_, _, rfl, run_takeDeferred z6, ?_⟩⟩
          obtain ⟨t1, t2, t3⟩ := taken z1 z6 (Nat.le_trans hz09 hD)
          have s1 := (r1.fr t3 (fun b hb e => by subst e; obtain ⟨_, _, cs, hc⟩ := r1.blk _ hb; rw [z6] at hc; cases hc)).lower hwc
          have s2 := (r2.fr t3 (fun b hb e => by subst e; obtain ⟨_, _, cs, hc⟩ := r2.blk _ hb; rw [z6] at hc; cases hc)).lower hwc
          have y2 := t2 z2
          have y3 := t2 z3
          have y4 := t2 z4
          have y5 := t2 z5
          have y20 := cell_is (i := 0) y2 rfl
          have y21 := cell_is (i := 1) y2 rfl
          have y22 := cell_is (i := 2) y2 rfl
          have y23 := cell_is (i := 3) y2 rfl
          have y30 := cell_of y3
          have y40 := cell_of y4
          have y50 := cell_of y5
          obtain ⟨m, hm1, hm2, hm3, hm4⟩ := HRS.out
          exact ⟨.tuple #[.agg #[.int .u32 st.most, .int .u32 q4, .slice AM nM cM, .slice AE nE cE], .bool true, .int .u32 st.most, .int .i64 0], by simp [results, Try.results41, go_sem, y20, y21, y22, y23, y30, y40, y50], m, st, hm1, hm2, hm3, hm4.symm, .inr ⟨⟨HG.out, HPT.out, HQ.out.1⟩, _, _, by rw [HQ.out.2], s1, s2, t1⟩⟩
        · have hbq : (q0 != st.most) = true := by simp [hqe]
          have HQE := As.mk hqe
          clear hqe
          gi_upto_region 29 with fail
          clear oc p0
          gi_upto_region 29 with fail
          have p0 := cell_is (i := 0) HPo.out rfl
          have p1 := cell_is (i := 1) HPo.out rfl
          have p2 := cell_is (i := 2) HPo.out rfl
          have p3 := cell_is (i := 3) HPo.out rfl
          have pf0 := free_of (i := 0) HPo.out
          have pf1 := free_of (i := 1) HPo.out
          have pf2 := free_of (i := 2) HPo.out
          have pf3 := free_of (i := 3) HPo.out
          have kc := cell_of HKo.out
          have kf := free_of (i := 0) HKo.out
          have oc := cell_of HOo.out
          have of := free_of (i := 0) HOo.out
          have ec := cell_of HEo.out
          have ef := free_of (i := 0) HEo.out
          try dsimp only at p0 p1 p2 p3 pf0 pf1 pf2 pf3 kc kf oc of ec ef
          gi_region
          obtain ⟨z1, z2, z3, z4, z5, z6, z7⟩ := stored_is HFo.out HPo.out HKo.out HOo.out HEo.out HDo.out rfl (show w.heap.size ≤ w.heap.size + 1 + 1 ∧ w.heap.size ≤ w.heap.size + 1 + 1 + 1 ∧ w.heap.size ≤ w.heap.size + 1 + 1 + 1 + 1 ∧ w.heap.size ≤ w.heap.size + 1 + 1 + 1 + 1 + 1 from ⟨by omega, by omega, by omega, by omega⟩) (.int .u32 0) (.int .u32 0) (.slice none 0 0) (.slice none 0 0) false st.most 0
          unfold stored at z1 z2 z3 z4 z5 z6 z7
          try dsimp only at z1 z2 z3 z4 z5 z6 z7
          clear p0 p1 p2 p3 pf0 pf1 pf2 pf3 kc kf oc of ec ef
          generalize ((((((w5'.setCell ⟨w.heap.size + 1 + 1, 0, none⟩ (.int .u32 0)).setCell ⟨w.heap.size + 1 + 1, 1, none⟩ (.int .u32 0)).setCell ⟨w.heap.size + 1 + 1, 2, none⟩ (.slice none 0 0)).setCell ⟨w.heap.size + 1 + 1, 3, none⟩ (.slice none 0 0)).setCell ⟨w.heap.size + 1 + 1 + 1, 0, none⟩ (.bool false)).setCell ⟨w.heap.size + 1 + 1 + 1 + 1, 0, none⟩ (.int .u32 st.most)).setCell ⟨w.heap.size + 1 + 1 + 1 + 1 + 1, 0, none⟩ (.int .i64 0) = wf at *
          gi_wp2
          refine ⟨by simp, .inl ⟨_, _, rfl, run_takeDeferred z6, ?_⟩⟩
          obtain ⟨t1, t2, t3⟩ := taken z1 z6 (Nat.le_trans hz09 hD)
          have y2 := t2 z2
          have y3 := t2 z3
          have y4 := t2 z4
          have y5 := t2 z5
          have y20 := cell_is (i := 0) y2 rfl
          have y21 := cell_is (i := 1) y2 rfl
          have y22 := cell_is (i := 2) y2 rfl
          have y23 := cell_is (i := 3) y2 rfl
          have y30 := cell_of y3
          have y40 := cell_of y4
          have y50 := cell_of y5
          obtain ⟨m, hm1, hm2, hm3, hm4⟩ := HRS.out
          exact ⟨.tuple #[.agg #[.int .u32 0, .int .u32 0, .slice none 0 0, .slice none 0 0], .bool false, .int .u32 st.most, .int .i64 0], by simp [results, Try.results41, go_sem, y20, y21, y22, y23, y30, y40, y50], m, st, hm1, hm2, hm3, hm4.symm, .inl ⟨fun h => HQE.out (HQ.out.1.symm.trans h.2.2), rfl, t1⟩⟩
      · have HMn := As.mk (HM.out.none_ hf5)
        have HKn := As.mk (hf5.heap hK (fun e => e))
        have HPT := As.mk hpt
        clear hf5 hpt cww nc bc oc g3
        have p0 := cell_is (i := 0) HMn.out.pt rfl
        have p1 := cell_is (i := 1) HMn.out.pt rfl
        have p2 := cell_is (i := 2) HMn.out.pt rfl
        have p3 := cell_is (i := 3) HMn.out.pt rfl
        have pf0 := free_of (i := 0) HMn.out.pt
        have pf1 := free_of (i := 1) HMn.out.pt
        have pf2 := free_of (i := 2) HMn.out.pt
        have pf3 := free_of (i := 3) HMn.out.pt
        try dsimp only at p0 p1 p2 p3 pf0 pf1 pf2 pf3
        obtain ⟨HFo, HPo, HKo, HOo, HEo, HDo, HSo⟩ := put_pt HMn.out (show w.heap.size ≤ w.heap.size + 1 + 1 by omega) HKn.out (.int .u32 0) (.int .u32 0) (.slice none 0 0) (.slice none 0 0)
        try dsimp only at HFo HPo HKo HOo HEo HDo HSo
        gi_upto_region 28 with fail
        clear p0 p1 p2 p3 pf0 pf1 pf2 pf3
        generalize (((w5.setCell ⟨w.heap.size + 1 + 1, 0, none⟩ (.int .u32 0)).setCell ⟨w.heap.size + 1 + 1, 1, none⟩ (.int .u32 0)).setCell ⟨w.heap.size + 1 + 1, 2, none⟩ (.slice none 0 0)).setCell ⟨w.heap.size + 1 + 1, 3, none⟩ (.slice none 0 0) = w5' at *
        gi_upto_region 29 with fail
        have p0 := cell_is (i := 0) HPo.out rfl
        have p1 := cell_is (i := 1) HPo.out rfl
        have p2 := cell_is (i := 2) HPo.out rfl
        have p3 := cell_is (i := 3) HPo.out rfl
        have pf0 := free_of (i := 0) HPo.out
        have pf1 := free_of (i := 1) HPo.out
        have pf2 := free_of (i := 2) HPo.out
        have pf3 := free_of (i := 3) HPo.out
        have kc := cell_of HKo.out
        have kf := free_of (i := 0) HKo.out
        have oc := cell_of HOo.out
        have of := free_of (i := 0) HOo.out
        have ec := cell_of HEo.out
        have ef := free_of (i := 0) HEo.out
        try dsimp only at p0 p1 p2 p3 pf0 pf1 pf2 pf3 kc kf oc of ec ef
        gi_region
        obtain ⟨z1, z2, z3, z4, z5, z6, z7⟩ := stored_is HFo.out HPo.out HKo.out HOo.out HEo.out HDo.out rfl (show w.heap.size ≤ w.heap.size + 1 + 1 ∧ w.heap.size ≤ w.heap.size + 1 + 1 + 1 ∧ w.heap.size ≤ w.heap.size + 1 + 1 + 1 + 1 ∧ w.heap.size ≤ w.heap.size + 1 + 1 + 1 + 1 + 1 from ⟨by omega, by omega, by omega, by omega⟩) (.int .u32 0) (.int .u32 0) (.slice none 0 0) (.slice none 0 0) false st.most 0
        unfold stored at z1 z2 z3 z4 z5 z6 z7
        try dsimp only at z1 z2 z3 z4 z5 z6 z7
        clear p0 p1 p2 p3 pf0 pf1 pf2 pf3 kc kf oc of ec ef
        generalize ((((((w5'.setCell ⟨w.heap.size + 1 + 1, 0, none⟩ (.int .u32 0)).setCell ⟨w.heap.size + 1 + 1, 1, none⟩ (.int .u32 0)).setCell ⟨w.heap.size + 1 + 1, 2, none⟩ (.slice none 0 0)).setCell ⟨w.heap.size + 1 + 1, 3, none⟩ (.slice none 0 0)).setCell ⟨w.heap.size + 1 + 1 + 1, 0, none⟩ (.bool false)).setCell ⟨w.heap.size + 1 + 1 + 1 + 1, 0, none⟩ (.int .u32 st.most)).setCell ⟨w.heap.size + 1 + 1 + 1 + 1 + 1, 0, none⟩ (.int .i64 0) = wf at *
        gi_wp2
        refine ⟨by simp, .inl ⟨_, _, rfl, run_takeDeferred z6, ?_⟩⟩
        obtain ⟨t1, t2, t3⟩ := taken z1 z6 (Nat.le_trans hz09 hD)
        have y2 := t2 z2
        have y3 := t2 z3
        have y4 := t2 z4
        have y5 := t2 z5
        have y20 := cell_is (i := 0) y2 rfl
        have y21 := cell_is (i := 1) y2 rfl
        have y22 := cell_is (i := 2) y2 rfl
        have y23 := cell_is (i := 3) y2 rfl
        have y30 := cell_of y3
        have y40 := cell_of y4
        have y50 := cell_of y5
        obtain ⟨m, hm1, hm2, hm3, hm4⟩ := HRS.out
        exact ⟨.tuple #[.agg #[.int .u32 0, .int .u32 0, .slice none 0 0, .slice none 0 0], .bool false, .int .u32 st.most, .int .i64 0], by simp [results, Try.results41, go_sem, y20, y21, y22, y23, y30, y40, y50], m, st, hm1, hm2, hm3, hm4.symm, .inl ⟨fun h => HPT.out h.2.1, rfl, t1⟩⟩
theorem Read_calls (p : Nat) (s : Ram.St) (which : Int) (S Wd : Nat) (w : World) (is : Nat → Bool) (L : Nat → List (Head × List Int)) (hR : RamE w p s) (hS : s.g.s = S) (hWd : (Wd : Int) = s.g.c - 1) (hw : which = 0 ∨ which = 1) (hA : RowsAre s p (2 + which) is L w) :
    Calls Try.prog 41 #[dev p, .int .i64 which] w (ReadPost Wd S s.g.p.toNat is L w) := part1.2 ⟨part2⟩ p s which S Wd w is L hR hS hWd hw hA
end Go.Proofs.Ytlhgbamajabnfaa.PRead3

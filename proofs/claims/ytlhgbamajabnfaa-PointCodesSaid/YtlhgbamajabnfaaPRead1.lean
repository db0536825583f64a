/- point.Read: what it computes (plain), and its memory. -/
import Derived.Test.YtlhgbamajabnfaaIter
import Derived.Test.YtlhgbamajabnfaaDec5
import Derived.Test.YtlhgbamajabnfaaRow3
import Derived.Maps.OwnIn
namespace Go.Proofs.Ytlhgbamajabnfaa.PRead1
open Go.RowKit Go.Proofs.Ytlhgbamajabnfaa.Gab Go.Proofs.Ytlhgbamajabnfaa.Wr Go.Proofs.Ytlhgbamajabnfaa.Geom Go.Proofs.Ytlhgbamajabnfaa.Fields Go.Proofs.Ytlhgbamajabnfaa.Ord Go.Proofs.Ytlhgbamajabnfaa.Iter Go.Proofs.Ytlhgbamajabnfaa.Write
open Go.Proofs.Ytlhgbamajabnfaa.Point1 (cell_is)
set_option linter.unusedVariables false
set_option linter.unusedSimpArgs false

/-- append(v, ys...) inside a fence. -/
theorem appendRowIn {F : Fence} {n : Nat} {P : Program} {ops : Array Oper} {rest : List Oper} {o : Oper} {a : Act} {Q : Exit → Act → World → Prop} {W : World} (base : Nat) (hgd : o.guard = none) (s x : Operand) (t e : TypeId) (k : IntKind) (bytes : Nat)
    (ho : o.op = .call { callee := .builtin .append, args := #[s, x], argTypes := #[t, t] })
    (ht : P.underlying t = some (.slice e)) (hinfo : (P.info? e).map (fun i => (i.zero, i.size, i.bytes)) = some (some (.int k 0), 1, bytes)) (hb0 : 0 < bytes)
    (v : Value) (xs ys : List Int) (A : Option Addr) (m c : Nat) (hs : a.eval s = v) (hx : a.eval x = .slice A m c)
    (HO : Row e k W base v xs) (HR : Rd k W A m ys) (hbase : base ≤ W.heap.size) (hl : (xs.length + m) * bytes ≤ 140737488355328)
    (h : ∀ v1 w1, Row e k w1 base v1 (xs ++ ys) → Fr (fun b => v.ownBlock = some b) W w1 → (v1.ownBlock = v.ownBlock ∨ ∃ b, v1.ownBlock = some b ∧ W.heap.size ≤ b) → wpListIn F n P ops Q rest (a.put o.dst v1) w1) :
    wpListIn F n P ops Q (o :: rest) a W := by
  obtain ⟨v1, w1, hr, hown, hg, hat⟩ := run_append_row (P := P) base t o.type e k bytes ht hinfo hb0 v xs ys A m c HO HR hbase hl
  refine wpListIn_plain hgd fun K hK => ?_
  unfold Oper.wpIn
  refine ⟨by simp [Oper.about, ho, resolve, Target.leads, Sem.run_pure], ?_⟩
  rw [Oper.semAt_plain F _ _ (by rw [ho]; intro c hc'; cases hc')]
  simp only [execOp, ho, resolve, invoke, builtin, Sem.run_bind, Sem.run_pure, Result.andThen_ok, List.map_toArray, List.map_cons, List.map_nil, hs, hx, hr]
  exact hK _ _ (h v1 w1 hown hg hat)

/-! ### plain -/
/-- How far Read has come: how many pages there are, are all right, the greatest number, the bytes. -/
structure RSt where
  n : Int
  whole : Bool
  most : Int
  b : List Int
def RSt.init : RSt := ⟨1, true, 0, []⟩
def nOf (i : Int) (q : Head × List Int) (st : RSt) : Int := if i = 0 then q.1.count else st.n
def goodHead (q : Head) (i n : Int) : Bool := decide (q.kind = 3 ∧ q.index = i ∧ q.count = n)
def stepPage (i : Int) (q : Head × List Int) (st : RSt) : RSt :=
  if nOf i q st ≤ i then ⟨nOf i q st, st.whole, max st.most q.1.epoch, st.b⟩ else ⟨nOf i q st, st.whole && goodHead q.1 i (nOf i q st), max st.most q.1.epoch, st.b ++ q.2⟩
/-- The first j pages of row k. -/
def pagesTo (W k : Nat) (l : List (Head × List Int)) : Nat → RSt → RSt
  | 0, st => st
  | j + 1, st => stepPage ((k * W + j : Nat) : Int) (l.getD j noPage) (pagesTo W k l j st)
def rowStep (W : Nat) (L : Nat → List (Head × List Int)) (st : RSt) (k : Nat) : RSt := pagesTo W k (L k) (L k).length st
def rowsSt (W : Nat) (L : Nat → List (Head × List Int)) (ks : List Nat) : RSt := ks.foldl (rowStep W L) RSt.init
structure RSt.Ok (st : RSt) (m : Nat) : Prop where
  n : 0 ≤ st.n ∧ st.n < 65536
  most : 0 ≤ st.most ∧ st.most < 4294967296
  len : st.b.length ≤ m
  range : InR 256 st.b
theorem RSt.init_ok : RSt.init.Ok 0 := ⟨by show (0 : Int) ≤ 1 ∧ (1 : Int) < 65536; decide, by show (0 : Int) ≤ 0 ∧ (0 : Int) < 4294967296; decide, Nat.le_refl _, fun x hx => by cases hx⟩
theorem nOf_range {i : Int} {q : Head × List Int} {st : RSt} {m : Nat} (h : st.Ok m) (hq : q.1.Ok) : 0 ≤ nOf i q st ∧ nOf i q st < 65536 := by
  unfold nOf
  split
  · exact hq.count
  · exact h.n
theorem stepPage_ok {i : Int} {q : Head × List Int} {st : RSt} {m S : Nat} (h : st.Ok m) (hq : q.1.Ok) (hl : q.2.length = S) (hr : InR 256 q.2) : (stepPage i q st).Ok (m + S) := by
  have h1 := nOf_range (i := i) h hq
  have h2 := h.most
  have h3 := hq.epoch
  have h4 : 0 ≤ max st.most q.1.epoch ∧ max st.most q.1.epoch < 4294967296 := by omega
  unfold stepPage
  split
  · exact ⟨h1, h4, by have := h.len; show st.b.length ≤ m + S; omega, h.range⟩
  · exact ⟨h1, h4, by have := h.len; show (st.b ++ q.2).length ≤ m + S; rw [List.length_append]; omega, fun x hx => by
      rcases List.mem_append.1 hx with hx | hx
      · exact h.range x hx
      · exact hr x hx⟩
theorem pagesTo_ok {W k S : Nat} {l : List (Head × List Int)} (hl : ∀ q ∈ l, q.1.Ok ∧ q.2.length = S ∧ InR 256 q.2) {st : RSt} {m : Nat} (h : st.Ok m) : ∀ j, j ≤ l.length → (pagesTo W k l j st).Ok (m + j * S)
  | 0, _ => by rw [Nat.zero_mul]; exact h
  | j + 1, hj => by
    have hq := hl (l.getD j noPage) (Stripe.getD_mem (by omega) _)
    have := stepPage_ok (i := ((k * W + j : Nat) : Int)) (pagesTo_ok (W := W) (k := k) hl h j (by omega)) hq.1 hq.2.1 hq.2.2
    rw [Nat.add_mul, Nat.one_mul, ← Nat.add_assoc]
    exact this
theorem rowsSt_snoc (W : Nat) (L : Nat → List (Head × List Int)) (ks : List Nat) (k : Nat) : rowsSt W L (ks ++ [k]) = rowStep W L (rowsSt W L ks) k := by simp [rowsSt]

theorem rowsSt_okF {W S : Nat} {L : Nat → List (Head × List Int)} : ∀ (ks : List Nat) (st : RSt) (m : Nat), (∀ k ∈ ks, (L k).length = W ∧ ∀ q ∈ L k, q.1.Ok ∧ q.2.length = S ∧ InR 256 q.2) → st.Ok m → (ks.foldl (rowStep W L) st).Ok (m + ks.length * (W * S))
  | [], st, m, _, h => by simpa using h
  | k :: ks, st, m, hL, h => by
    have h1 := hL k (List.mem_cons_self)
    have h2 : (rowStep W L st k).Ok (m + W * S) := by
      have := pagesTo_ok (W := W) (k := k) h1.2 h (L k).length (Nat.le_refl _)
      rw [h1.1] at this
      unfold rowStep
      rw [h1.1]
      exact this
    have h3 := rowsSt_okF ks _ _ (fun k' hk => hL k' (List.mem_cons_of_mem _ hk)) h2
    rw [List.foldl_cons, List.length_cons, Nat.add_mul, Nat.one_mul]
    rw [show m + (ks.length * (W * S) + W * S) = m + W * S + ks.length * (W * S) by omega]
    exact h3
theorem rowsSt_ok {W S : Nat} {L : Nat → List (Head × List Int)} (ks : List Nat) (hL : ∀ k ∈ ks, (L k).length = W ∧ ∀ q ∈ L k, q.1.Ok ∧ q.2.length = S ∧ InR 256 q.2) : (rowsSt W L ks).Ok (ks.length * (W * S)) := by
  have := rowsSt_okF ks RSt.init 0 hL RSt.init_ok
  rwa [Nat.zero_add] at this
/-! ### memory -/
/-- Where Read's variables lie. -/
structure Bl where
  d : Nat
  wh : Nat
  pt : Nat
  ok : Nat
  mo : Nat
  er : Nat
  ge : Nat
  bb : Nat
  nn : Nat
  ww : Nat
structure Mem (w W : World) (p : Nat) (which : Int) (g : Geo) (a : Bl) (st : RSt) (v : Value) : Prop where
  fr : Fr None_ w W
  d : W.heap[a.d]? = some (.cells #[dev p] 105 (0, 0))
  wh : W.heap[a.wh]? = some (.cells #[.int .i64 which] 3 (0, 0))
  pt : W.heap[a.pt]? = some (.cells #[.int .u32 0, .int .u32 0, .slice none 0 0, .slice none 0 0] 73 (0, 0))
  ok : W.heap[a.ok]? = some (.cells #[.bool false] 4 (0, 0))
  mo : W.heap[a.mo]? = some (.cells #[.int .u32 st.most] 51 (0, 0))
  er : W.heap[a.er]? = some (.cells #[.int .i64 0] 42 (0, 0))
  ge : W.heap[a.ge]? = some (.cells #[.int .i64 g.c, .int .i64 g.b, .int .i64 g.p, .int .i64 g.s] 28 (0, 0))
  bb : W.heap[a.bb]? = some (.cells #[v] 23 (0, 0))
  row : Row 5 .u8 W w.heap.size v st.b
  nn : W.heap[a.nn]? = some (.cells #[.int .i64 st.n] 3 (0, 0))
  ww : W.heap[a.ww]? = some (.cells #[.bool st.whole] 4 (0, 0))
  ne1 : a.wh ≠ a.nn
  ne2 : a.ok ≠ a.ww
  new : w.heap.size ≤ a.mo ∧ w.heap.size ≤ a.bb ∧ w.heap.size ≤ a.nn ∧ w.heap.size ≤ a.ww
theorem tne {W : World} {i j : Nat} {cs ds : Array Value} {T U : TypeId} {f1 f2 : Nat × Nat} (h : W.heap[i]? = some (.cells cs T f1)) (k : W.heap[j]? = some (.cells ds U f2)) (hT : T ≠ U) : i ≠ j := fun e => by
  subst e
  rw [h] at k
  injection k with k
  injection k with _ k
  exact hT k
theorem Mem.none_ {w W W' : World} {p : Nat} {which : Int} {g : Geo} {a : Bl} {st : RSt} {v : Value} (h : Mem w W p which g a st v) (hf : Fr None_ W W') : Mem w W' p which g a st v :=
  ⟨h.fr.after hf (fun _ _ e => e.elim), hf.heap h.d (fun e => e), hf.heap h.wh (fun e => e), hf.heap h.pt (fun e => e), hf.heap h.ok (fun e => e), hf.heap h.mo (fun e => e), hf.heap h.er (fun e => e), hf.heap h.ge (fun e => e), hf.heap h.bb (fun e => e), h.row.none_ hf, hf.heap h.nn (fun e => e), hf.heap h.ww (fun e => e), h.ne1, h.ne2, h.new⟩
theorem Fr.set1 {w' : World} {b : Nat} (v : Value) : Fr (fun i => i = b) w' (w'.setCell ⟨b, 0, none⟩ v) := (Fr.refl (fun i => i = b) w').setCell (p := ⟨b, 0, none⟩) (fun _ => rfl) v
theorem Row.set1 {W : World} {base b : Nat} {v : Value} {xs : List Int} {cs : Array Value} {T : TypeId} (h : Row 5 .u8 W base v xs) (hb : W.heap[b]? = some (.cells cs T (0, 0))) (hT : T ≠ 5) (u : Value) : Row 5 .u8 (W.setCell ⟨b, 0, none⟩ u) base v xs :=
  h.fr (Fr.set1 (b := b) u) (fun i hi e => by subst e; exact Row.ne h hb hT hi)
theorem Mem.setMo {w W : World} {p : Nat} {which : Int} {g : Geo} {a : Bl} {st : RSt} {v : Value} (h : Mem w W p which g a st v) (x : Int) : Mem w (W.setCell ⟨a.mo, 0, none⟩ (.int .u32 x)) p which g a { st with most := x } v :=
  have hf := Fr.set1 (w' := W) (b := a.mo) (.int .u32 x)
  ⟨h.fr.after hf (fun i hi e => by subst e; have := h.new.1; omega), hf.heap h.d (tne h.d h.mo (by decide)), hf.heap h.wh (tne h.wh h.mo (by decide)), hf.heap h.pt (tne h.pt h.mo (by decide)), hf.heap h.ok (tne h.ok h.mo (by decide)), set_of h.mo, hf.heap h.er (tne h.er h.mo (by decide)), hf.heap h.ge (tne h.ge h.mo (by decide)), hf.heap h.bb (tne h.bb h.mo (by decide)), Row.set1 h.row h.mo (by decide) _, hf.heap h.nn (tne h.nn h.mo (by decide)), hf.heap h.ww (tne h.ww h.mo (by decide)), h.ne1, h.ne2, h.new⟩
theorem Mem.setN {w W : World} {p : Nat} {which : Int} {g : Geo} {a : Bl} {st : RSt} {v : Value} (h : Mem w W p which g a st v) (x : Int) : Mem w (W.setCell ⟨a.nn, 0, none⟩ (.int .i64 x)) p which g a { st with n := x } v :=
  have hf := Fr.set1 (w' := W) (b := a.nn) (.int .i64 x)
  ⟨h.fr.after hf (fun i hi e => by subst e; have := h.new.2.2.1; omega), hf.heap h.d (tne h.d h.nn (by decide)), hf.heap h.wh h.ne1, hf.heap h.pt (tne h.pt h.nn (by decide)), hf.heap h.ok (tne h.ok h.nn (by decide)), hf.heap h.mo (tne h.mo h.nn (by decide)), hf.heap h.er (tne h.er h.nn (by decide)), hf.heap h.ge (tne h.ge h.nn (by decide)), hf.heap h.bb (tne h.bb h.nn (by decide)), Row.set1 h.row h.nn (by decide) _, set_of h.nn, hf.heap h.ww (tne h.ww h.nn (by decide)), h.ne1, h.ne2, h.new⟩
theorem Mem.setW {w W : World} {p : Nat} {which : Int} {g : Geo} {a : Bl} {st : RSt} {v : Value} (h : Mem w W p which g a st v) (x : Bool) : Mem w (W.setCell ⟨a.ww, 0, none⟩ (.bool x)) p which g a { st with whole := x } v :=
  have hf := Fr.set1 (w' := W) (b := a.ww) (.bool x)
  ⟨h.fr.after hf (fun i hi e => by subst e; have := h.new.2.2.2; omega), hf.heap h.d (tne h.d h.ww (by decide)), hf.heap h.wh (tne h.wh h.ww (by decide)), hf.heap h.pt (tne h.pt h.ww (by decide)), hf.heap h.ok h.ne2, hf.heap h.mo (tne h.mo h.ww (by decide)), hf.heap h.er (tne h.er h.ww (by decide)), hf.heap h.ge (tne h.ge h.ww (by decide)), hf.heap h.bb (tne h.bb h.ww (by decide)), Row.set1 h.row h.ww (by decide) _, hf.heap h.nn (tne h.nn h.ww (by decide)), set_of h.ww, h.ne1, h.ne2, h.new⟩
/-- An append to the bytes, and its store. -/
theorem Mem.setB {w W w1 : World} {p : Nat} {which : Int} {g : Geo} {a : Bl} {st : RSt} {v v1 : Value} {ys : List Int} (h : Mem w W p which g a st v) (hr : Row 5 .u8 w1 w.heap.size v1 ys) (hf : Fr (fun b => v.ownBlock = some b) W w1) : Mem w (w1.setCell ⟨a.bb, 0, none⟩ v1) p which g a { st with b := ys } v1 := by
  have hR := h.row
  have hbb := hf.heap h.bb (Row.ne hR h.bb (by decide))
  have hf2 := Fr.set1 (w' := w1) (b := a.bb) v1
  have mv : ∀ {k : Nat} {cs : Array Value} {T : TypeId}, W.heap[k]? = some (.cells cs T (0, 0)) → T ≠ 5 → T ≠ 23 → (w1.setCell ⟨a.bb, 0, none⟩ v1).heap[k]? = some (.cells cs T (0, 0)) := fun hk h1 h2 => hf2.heap (hf.heap hk (Row.ne hR hk h1)) (tne hk h.bb h2)
  exact ⟨(h.fr.after hf (fun i hi e => absurd hi (by have := (hR.blk i e).1; omega))).after hf2 (fun i hi e => by subst e; have := h.new.2.1; omega), mv h.d (by decide) (by decide), mv h.wh (by decide) (by decide), mv h.pt (by decide) (by decide), mv h.ok (by decide) (by decide), mv h.mo (by decide) (by decide), mv h.er (by decide) (by decide), mv h.ge (by decide) (by decide), set_of hbb, Row.set1 hr hbb (by decide) _, mv h.nn (by decide) (by decide), mv h.ww (by decide) (by decide), h.ne1, h.ne2, h.new⟩

/-- Six new boxes. -/
def six (w : World) (p : Nat) (which : Int) : World := (((((w.alloc (.cells #[dev p] 105)).alloc (.cells #[.int .i64 which] 3)).alloc (.cells #[.int .u32 0, .int .u32 0, .slice none 0 0, .slice none 0 0] 73)).alloc (.cells #[.bool false] 4)).alloc (.cells #[.int .u32 0] 51)).alloc (.cells #[.int .i64 0] 42)
theorem six_is (w : World) (p : Nat) (which : Int) : Fr None_ w (six w p which) ∧ (six w p which).heap.size = w.heap.size + 1 + 1 + 1 + 1 + 1 + 1 ∧ (six w p which).heap[w.heap.size]? = some (.cells #[dev p] 105 (0, 0)) ∧ (six w p which).heap[w.heap.size + 1]? = some (.cells #[.int .i64 which] 3 (0, 0)) ∧
    (six w p which).heap[w.heap.size + 1 + 1]? = some (.cells #[.int .u32 0, .int .u32 0, .slice none 0 0, .slice none 0 0] 73 (0, 0)) ∧ (six w p which).heap[w.heap.size + 1 + 1 + 1]? = some (.cells #[.bool false] 4 (0, 0)) ∧ (six w p which).heap[w.heap.size + 1 + 1 + 1 + 1]? = some (.cells #[.int .u32 0] 51 (0, 0)) ∧ (six w p which).heap[w.heap.size + 1 + 1 + 1 + 1 + 1]? = some (.cells #[.int .i64 0] 42 (0, 0)) := by
  have s1 := size_new (.cells #[dev p] 105) (rfl : w.heap.size = w.heap.size)
  have s2 := size_new (.cells #[.int .i64 which] 3) s1
  have s3 := size_new (.cells #[.int .u32 0, .int .u32 0, .slice none 0 0, .slice none 0 0] 73) s2
  have s4 := size_new (.cells #[.bool false] 4) s3
  have s5 := size_new (.cells #[.int .u32 0] 51) s4
  refine ⟨(((((((Fr.refl None_ w).alloc _).alloc _).alloc _).alloc _).alloc _).alloc _), size_new _ s5, ?_, ?_, ?_, ?_, ?_, ?_⟩
  · exact at_old _ (at_old _ (at_old _ (at_old _ (at_old _ (heap_alloc_new w _)))))
  · exact at_old _ (at_old _ (at_old _ (at_old _ (at_new _ s1))))
  · exact at_old _ (at_old _ (at_old _ (at_new _ s2)))
  · exact at_old _ (at_old _ (at_new _ s3))
  · exact at_old _ (at_new _ s4)
  · exact at_new _ s5
/-- Four more. -/
def four (w : World) (g : Geo) : World := (((w.alloc (.cells #[.int .i64 g.c, .int .i64 g.b, .int .i64 g.p, .int .i64 g.s] 28)).alloc (.cells #[.slice none 0 0] 23)).alloc (.cells #[.int .i64 1] 3)).alloc (.cells #[.bool true] 4)
theorem four_is (w : World) (g : Geo) : Fr None_ w (four w g) ∧ (four w g).heap.size = w.heap.size + 1 + 1 + 1 + 1 ∧ (four w g).heap[w.heap.size]? = some (.cells #[.int .i64 g.c, .int .i64 g.b, .int .i64 g.p, .int .i64 g.s] 28 (0, 0)) ∧ (four w g).heap[w.heap.size + 1]? = some (.cells #[.slice none 0 0] 23 (0, 0)) ∧
    (four w g).heap[w.heap.size + 1 + 1]? = some (.cells #[.int .i64 1] 3 (0, 0)) ∧ (four w g).heap[w.heap.size + 1 + 1 + 1]? = some (.cells #[.bool true] 4 (0, 0)) := by
  have s1 := size_new (.cells #[.int .i64 g.c, .int .i64 g.b, .int .i64 g.p, .int .i64 g.s] 28) (rfl : w.heap.size = w.heap.size)
  have s2 := size_new (.cells #[.slice none 0 0] 23) s1
  have s3 := size_new (.cells #[.int .i64 1] 3) s2
  refine ⟨(((((Fr.refl None_ w).alloc _).alloc _).alloc _).alloc _), size_new _ s3, ?_, ?_, ?_, ?_⟩
  · exact at_old _ (at_old _ (at_old _ (heap_alloc_new w _)))
  · exact at_old _ (at_old _ (at_new _ s1))
  · exact at_old _ (at_new _ s2)
  · exact at_new _ s3
/-- Read's memory, ahead of the first row. -/
theorem Mem.start {w w6 w7 w8 : World} {p : Nat} {which : Int} {g : Geo} (h6 : w6 = six w p which) (h7 : Fr None_ w6 w7) (h8 : w8 = four w7 g) :
    Mem w w8 p which g ⟨w.heap.size, w.heap.size + 1, w.heap.size + 1 + 1, w.heap.size + 1 + 1 + 1, w.heap.size + 1 + 1 + 1 + 1, w.heap.size + 1 + 1 + 1 + 1 + 1, w7.heap.size, w7.heap.size + 1, w7.heap.size + 1 + 1, w7.heap.size + 1 + 1 + 1⟩ RSt.init (.slice none 0 0) ∧ w8.heap.size = w7.heap.size + 1 + 1 + 1 + 1 := by
  obtain ⟨a0, a1, a2, a3, a4, a5, a6, a7⟩ := six_is w p which
  obtain ⟨b0, b1, b2, b3, b4, b5⟩ := four_is w7 g
  rw [← h6] at a0 a1 a2 a3 a4 a5 a6 a7
  rw [← h8] at b0 b1 b2 b3 b4 b5
  have hz := h7.size
  have mv : ∀ {k : Nat} {o : Obj}, w6.heap[k]? = some o → w8.heap[k]? = some o := fun hk => b0.heap (h7.heap hk (fun e => e)) (fun e => e)
  exact ⟨⟨(a0.after h7 (fun _ _ e => e)).after b0 (fun _ _ e => e), mv a2, mv a3, mv a4, mv a5, mv a6, mv a7, b2, b3, Row.nil _ _ _ _, b4, b5, by show w.heap.size + 1 ≠ w7.heap.size + 1 + 1; omega, by show w.heap.size + 1 + 1 + 1 ≠ w7.heap.size + 1 + 1 + 1; omega, by show w.heap.size ≤ w.heap.size + 1 + 1 + 1 + 1; omega, by show w.heap.size ≤ w7.heap.size + 1; omega, by show w.heap.size ≤ w7.heap.size + 1 + 1; omega, by show w.heap.size ≤ w7.heap.size + 1 + 1 + 1; omega⟩, b1⟩
/-- Cells stay where a block that is none turns. -/
theorem cells_kept {W W' : World} {row : Option Nat} {k : Nat} {cs : Array Value} {T : TypeId} {f : Nat × Nat} (h : W.heap[k]? = some (.cells cs T f)) (hg : W.grownBy W' row) (hr : ∀ r, row = some r → ∃ o : Obj, W.heap[r]? = some o ∧ o.isCells = false) : W'.heap[k]? = some (.cells cs T f) := by
  refine (hg.block k (Array.getElem?_eq_some_iff.1 h).1 (fun e => ?_)).trans h
  obtain ⟨o, ho, hc⟩ := hr k e.symm
  rw [h] at ho
  injection ho with ho
  subst ho
  cases hc
theorem Fr.kept {w W W' : World} {row : Option Nat} {B : Nat} (h : Fr None_ w W) (hg : W.grownBy W' row) (hB : w.heap.size ≤ B) (hr : ∀ r, row = some r → B ≤ r) : Fr None_ w W' :=
  h.grown hg (fun k e hk => by have := hr k e; omega)
theorem Row.kept {W W' : World} {row : Option Nat} {base : Nat} {v : Value} {xs : List Int} (h : Row 5 .u8 W base v xs) (hg : W.grownBy W' row) (hr : ∀ r, row = some r → ∃ o : Obj, W.heap[r]? = some o ∧ o.isCells = false) : Row 5 .u8 W' base v xs := by
  refine ⟨h.1, ?_⟩
  rcases h.2 with h2 | ⟨g, cap, cur, rfl, hb, hg2, r⟩
  · exact .inl h2
  · exact .inr ⟨g, cap, cur, rfl, hb, cells_kept hg2 hg hr, r⟩
theorem Mem.kept {w W W' : World} {p : Nat} {which : Int} {g : Geo} {a : Bl} {st : RSt} {v : Value} {row : Option Nat} {B : Nat} (h : Mem w W p which g a st v) (hg : W.grownBy W' row) (hB : w.heap.size ≤ B) (hr : ∀ r, row = some r → B ≤ r ∧ ∃ o : Obj, W.heap[r]? = some o ∧ o.isCells = false) : Mem w W' p which g a st v := by
  have hc : ∀ r, row = some r → ∃ o : Obj, W.heap[r]? = some o ∧ o.isCells = false := fun r e => (hr r e).2
  exact ⟨Fr.kept h.fr hg hB (fun r e => (hr r e).1), cells_kept h.d hg hc, cells_kept h.wh hg hc, cells_kept h.pt hg hc, cells_kept h.ok hg hc, cells_kept h.mo hg hc, cells_kept h.er hg hc, cells_kept h.ge hg hc, cells_kept h.bb hg hc, Row.kept h.row hg hc, cells_kept h.nn hg hc, cells_kept h.ww hg hc, h.ne1, h.ne2, h.new⟩

/-! ### what a round's body keeps -/
structure Kept (B gb sb : Nat) (W W' : World) : Prop where
  from_ : KeepsFrom B W W'
  caught : Caught gb sb W W'
theorem Kept.refl (B gb sb : Nat) (W : World) : Kept B gb sb W W := ⟨KeepsFrom.refl _ _, rfl, rfl⟩
theorem Kept.none_ {B gb sb : Nat} {W W' W2 : World} (h : Kept B gb sb W W') (hf : Fr None_ W' W2) (hg : gb < W'.heap.size) (hs : sb < W'.heap.size) : Kept B gb sb W W2 :=
  ⟨h.from_.trans ⟨hf.size, fun k o _ hk _ => hf.heap hk (fun e => e)⟩, (hf.block gb hg (fun e => e)).trans h.caught.1, (hf.block sb hs (fun e => e)).trans h.caught.2⟩
/-- A step that turns one block of cells. -/
theorem Kept.turn {B gb sb : Nat} {W W' W2 : World} {S : Nat → Prop} (h : Kept B gb sb W W') (hf : Fr S W' W2) (hc : ∀ b, S b → ∃ cs T f, W'.heap[b]? = some (.cells cs T f)) (hg : gb < W'.heap.size ∧ ¬ S gb) (hs : sb < W'.heap.size ∧ ¬ S sb) : Kept B gb sb W W2 :=
  ⟨h.from_.trans ⟨hf.size, fun k o _ hk ho => hf.heap hk (fun e => by
    obtain ⟨cs, T, f, h1⟩ := hc k e
    rw [hk] at h1
    injection h1 with h1
    subst h1
    cases ho)⟩, (hf.block gb hg.1 hg.2).trans h.caught.1, (hf.block sb hs.1 hs.2).trans h.caught.2⟩
/-! ### the pages that Row has handed back -/
structure Pg (lo hi : Nat) (w : World) (A : Option Addr) (n : Nat) (vs : List Value) (l : List (Head × List Int)) : Prop where
  c : Par.RdC w A (n * 8) vs
  d : ∀ j, j < n → ∃ D nd cd, vs.getD (j * 8 + 7) undef = .slice D nd cd ∧ nd ≤ cd ∧ Rd .u8 w D nd (l.getD j noPage).2 ∧ ∀ ad, D = some ad → lo ≤ ad.block ∧ ad.block < hi
  h : ∀ j, j < n → (l.getD j noPage).1.Ok ∧ ∀ i, i < 7 → vs.getD (j * 8 + i) undef = (l.getD j noPage).1.vals.getD i undef
  ty : ∀ ad, A = some ad → lo ≤ ad.block ∧ ad.block < hi ∧ ∃ cs, w.heap[ad.block]? = some (.cells cs 56 (0, 0))
theorem Pg.of {w w' : World} {s : Ram.St} {p : Nat} {A : Option Addr} {n : Nat} {vs : List Value} {l : List (Head × List Int)} (hc : Par.RdC w' A (n * 8) vs) (hs : SPs w' p vs l) (hn : l.length = n) (hf : SRow2.Fresh w vs n) (ha : ∀ ad, A = some ad → w.heap.size ≤ ad.block ∧ ∃ cs, w'.heap[ad.block]? = some (.cells cs 56 (0, 0))) : Pg w.heap.size w'.heap.size w' A n vs l := by
  refine ⟨hc, fun j hj => ?_, fun j hj => ?_, fun ad e => ?_⟩
  · obtain ⟨h1, ⟨⟨D, nd, cd, e, h2, h3⟩, h4⟩, h5⟩ := hs.2 j (by omega) noPage
    refine ⟨D, nd, cd, e, h2, h3, fun ad ea => ?_⟩
    subst ea
    exact ⟨hf j hj ad.block (by rw [e]; rfl), by obtain ⟨_, cs, hb⟩ := h4 ad.block (by rw [e]; rfl); exact (Array.getElem?_eq_some_iff.1 hb).1⟩
  · obtain ⟨h1, _, h5⟩ := hs.2 j (by omega) noPage
    exact ⟨h1, h5⟩
  · obtain ⟨h1, cs, h2⟩ := ha ad e
    exact ⟨h1, (Array.getElem?_eq_some_iff.1 h2).1, cs, h2⟩
theorem Pg.fr {lo hi : Nat} {S : Nat → Prop} {w w' : World} {A : Option Addr} {n : Nat} {vs : List Value} {l : List (Head × List Int)} (h : Pg lo hi w A n vs l) (hf : Fr S w w') (hS : ∀ b, S b → b < lo ∨ hi ≤ b) : Pg lo hi w' A n vs l := by
  have hno : ∀ b, lo ≤ b → b < hi → ¬ S b := fun b h1 h2 h3 => by rcases hS b h3 with h | h <;> omega
  refine ⟨h.c.fr hf (fun ad e _ => hno _ (h.ty ad e).1 (h.ty ad e).2.1), fun j hj => ?_, h.h, fun ad e => ?_⟩
  · obtain ⟨D, nd, cd, e, h2, h3, h4⟩ := h.d j hj
    exact ⟨D, nd, cd, e, h2, h3.fr hf (fun ad ea _ => hno _ (h4 ad ea).1 (h4 ad ea).2), h4⟩
  · obtain ⟨h1, h2, cs, h3⟩ := h.ty ad e
    exact ⟨h1, h2, cs, hf.heap h3 (hno _ h1 h2)⟩
theorem Pg.at_ {lo hi : Nat} {w : World} {A : Option Addr} {n : Nat} {vs : List Value} {l : List (Head × List Int)} (h : Pg lo hi w A n vs l) (j : Nat) (hj : j < n) :
    ∃ ad ax D nd cd, A = some ad ∧ ad.add (j * 8) = ax ∧ w.cell? ax = some (.int .u8 (l.getD j noPage).1.kind) ∧ w.cell? ⟨ax.block, ax.off + 1, none⟩ = some (.int .u32 (l.getD j noPage).1.epoch) ∧ w.cell? ⟨ax.block, ax.off + 2, none⟩ = some (.int .u32 (l.getD j noPage).1.batch) ∧ w.cell? ⟨ax.block, ax.off + 3, none⟩ = some (.int .u16 (l.getD j noPage).1.index) ∧ w.cell? ⟨ax.block, ax.off + 4, none⟩ = some (.int .u16 (l.getD j noPage).1.count) ∧
      w.cell? ⟨ax.block, ax.off + 5, none⟩ = some (.int .u32 (l.getD j noPage).1.block) ∧ w.cell? ⟨ax.block, ax.off + 6, none⟩ = some (.int .u32 (l.getD j noPage).1.more) ∧ w.cell? ⟨ax.block, ax.off + 7, none⟩ = some (.slice D nd cd) ∧ nd ≤ cd ∧ Rd .u8 w D nd (l.getD j noPage).2 ∧ (∀ ad, D = some ad → lo ≤ ad.block ∧ ad.block < hi) ∧ (l.getD j noPage).1.Ok := by
  obtain ⟨ad, e, hc⟩ := h.c.2 (by omega)
  obtain ⟨D, nd, cd, e7, h2, h3, h4⟩ := h.d j hj
  obtain ⟨ho, hh⟩ := h.h j hj
  have hx : ∀ i, 0 < i → i < 8 → w.cell? ⟨(ad.add (j * 8)).block, (ad.add (j * 8)).off + i, none⟩ = some (vs.getD (j * 8 + i) undef) := fun i h0 hi => by rw [← Go.Proofs.Ytlhgbamajabnfaa.Str.add_next _ _ _ h0]; exact hc (j * 8 + i) (by omega)
  have h0 := hc (j * 8) (by omega)
  rw [show vs.getD (j * 8) undef = vs.getD (j * 8 + 0) undef from rfl, hh 0 (by decide)] at h0
  have x1 := hx 1 (by decide) (by decide)
  have x2 := hx 2 (by decide) (by decide)
  have x3 := hx 3 (by decide) (by decide)
  have x4 := hx 4 (by decide) (by decide)
  have x5 := hx 5 (by decide) (by decide)
  have x6 := hx 6 (by decide) (by decide)
  have x7 := hx 7 (by decide) (by decide)
  rw [hh 1 (by decide)] at x1
  rw [hh 2 (by decide)] at x2
  rw [hh 3 (by decide)] at x3
  rw [hh 4 (by decide)] at x4
  rw [hh 5 (by decide)] at x5
  rw [hh 6 (by decide)] at x6
  rw [e7] at x7
  exact ⟨ad, _, D, nd, cd, e, rfl, h0, x1, x2, x3, x4, x5, x6, x7, h2, h3, h4, ho⟩
end Go.Proofs.Ytlhgbamajabnfaa.PRead1

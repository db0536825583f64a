/- point.Write: what it lays (plain). -/
import Derived.Test.YtlhgbamajabnfaaPoint6
import Derived.Test.YtlhgbamajabnfaaKept
import Derived.StillTailTactics
namespace Go.Proofs.Ytlhgbamajabnfaa.Point7
open Go.RowKit Go.Proofs.Ytlhgbamajabnfaa.Gab Go.Proofs.Ytlhgbamajabnfaa.Wr Go.Proofs.Ytlhgbamajabnfaa.Geom Go.Proofs.Ytlhgbamajabnfaa.Ref Go.Proofs.Ytlhgbamajabnfaa.Point1 Go.Proofs.Ytlhgbamajabnfaa.Point6 Go.Proofs.Ytlhgbamajabnfaa.Fields Go.Proofs.Ytlhgbamajabnfaa.Stripe Go.Proofs.Ytlhgbamajabnfaa.Write Go.Proofs.Ytlhgbamajabnfaa.Ord Go.Proofs.Ytlhgbamajabnfaa.Kept
open Go.Proofs.Ytlhgbamajabnfaa.Ram (RamE)
open Go.Proofs.Ytlhgbamajabnfaa.Str (pcells take_snoc)
set_option linter.unusedVariables false
set_option linter.unusedSimpArgs false

/-- How many pages a point takes. -/
def pagesOf (S : Nat) (len : Nat) : Nat := (len + S - 1) / S
/-- The page that stands at place i: the point's, or one that says nothing. -/
def ptPage (S n : Nat) (seq : Int) (B : List Int) (i : Nat) : Head × List Int :=
  if i < n then (⟨3, seq, 0, i, n, 0, 0⟩, ((padTo B (n * S)).drop (i * S)).take S) else (fillHead seq 0, List.replicate S 0)
/-- A row's pages: W of them. -/
def ptRow (S n : Nat) (seq : Int) (B : List Int) (W r : Nat) : List (Head × List Int) := (List.range W).map fun k => ptPage S n seq B (r * W + k)
theorem ptRow_len (S n : Nat) (seq : Int) (B : List Int) (W r : Nat) : (ptRow S n seq B W r).length = W := by simp [ptRow]
theorem ptRow_get {S n : Nat} {seq : Int} {B : List Int} {W r k : Nat} (h : k < W) (d : Head × List Int) : (ptRow S n seq B W r).getD k d = ptPage S n seq B (r * W + k) := by
  simp [ptRow, List.getD_eq_getElem?_getD, h]
theorem padTo_len {xs : List Int} {n : Nat} (h : xs.length ≤ n) : (padTo xs n).length = n := by unfold padTo; simp; omega
theorem padTo_range {xs : List Int} {n : Nat} (h : InR 256 xs) : InR 256 (padTo xs n) := fun x hx => by
  unfold padTo at hx
  rcases List.mem_append.1 hx with hx | hx
  · exact h x hx
  · obtain ⟨_, rfl⟩ := List.mem_replicate.1 hx
    decide
theorem pages_le {S len : Nat} (hS : 0 < S) : len ≤ pagesOf S len * S := by
  unfold pagesOf
  have h1 := Nat.div_add_mod (len + S - 1) S
  have h2 := Nat.mod_lt (len + S - 1) hS
  rw [Nat.mul_comm]
  omega
theorem ptPage_ok {S n : Nat} {seq : Int} {B : List Int} (hq : 0 ≤ seq ∧ seq < 4294967296) (hB : InR 256 B) (hl : B.length ≤ n * S) (hn : n < 65536) (i : Nat) :
    ((ptPage S n seq B i).1.Ok ∧ 1 ≤ (ptPage S n seq B i).1.kind ∧ (ptPage S n seq B i).1.kind ≤ 6) ∧ (ptPage S n seq B i).2.length = S ∧ InR 256 (ptPage S n seq B i).2 := by
  unfold ptPage
  by_cases h : i < n
  · rw [if_pos h]
    refine ⟨⟨⟨by show (0 : Int) ≤ 3 ∧ (3 : Int) < 256; decide, hq, by show (0 : Int) ≤ 0 ∧ (0 : Int) < 4294967296; decide, by show 0 ≤ (i : Int) ∧ (i : Int) < 65536; omega, by show 0 ≤ (n : Int) ∧ (n : Int) < 65536; omega, by show (0 : Int) ≤ 0 ∧ (0 : Int) < 4294967296; decide, by show (0 : Int) ≤ 0 ∧ (0 : Int) < 4294967296; decide⟩, by show (1 : Int) ≤ 3; decide, by show (3 : Int) ≤ 6; decide⟩, ?_, fun x hx => ?_⟩
    · have h1 : (i + 1) * S ≤ n * S := Nat.mul_le_mul_right _ h
      rw [Nat.add_mul, Nat.one_mul] at h1
      show (((padTo B (n * S)).drop (i * S)).take S).length = S
      rw [List.length_take, List.length_drop, padTo_len hl]
      omega
    · exact padTo_range hB x (List.drop_subset _ _ (List.take_subset _ _ hx))
  · rw [if_neg h]
    refine ⟨⟨⟨by show (0 : Int) ≤ 6 ∧ (6 : Int) < 256; decide, hq, by show (0 : Int) ≤ 0 ∧ (0 : Int) < 4294967296; decide, by show (0 : Int) ≤ 0 ∧ (0 : Int) < 65536; decide, by show (0 : Int) ≤ 0 ∧ (0 : Int) < 65536; decide, by show (0 : Int) ≤ 0 ∧ (0 : Int) < 4294967296; decide, by show (0 : Int) ≤ 0 ∧ (0 : Int) < 4294967296; decide⟩, by show (1 : Int) ≤ 6; decide, by show (6 : Int) ≤ 6; decide⟩, by simp, fun x hx => ?_⟩
    obtain ⟨_, rfl⟩ := List.mem_replicate.1 hx
    decide
theorem ptRow_ok {g : Geo} {S n : Nat} {seq : Int} {B : List Int} (hS : g.s = S) (hq : 0 ≤ seq ∧ seq < 4294967296) (hB : InR 256 B) (hl : B.length ≤ n * S) (hn : n < 65536) {W : Nat} (hW : (W : Int) = g.c - 1) (r : Nat) : LOk g (ptRow S n seq B W r) := by
  have hm : ∀ q ∈ ptRow S n seq B W r, ∃ k, q = ptPage S n seq B (r * W + k) := fun q hq => by
    unfold ptRow at hq
    obtain ⟨k, _, rfl⟩ := List.mem_map.1 hq
    exact ⟨k, rfl⟩
  refine ⟨by rw [ptRow_len]; exact hW, fun q h => ?_, fun q h => ?_⟩
  · obtain ⟨k, rfl⟩ := hm q h
    exact (ptPage_ok hq hB hl hn _).1
  · obtain ⟨k, rfl⟩ := hm q h
    have h1 := (ptPage_ok hq hB hl hn (r * W + k)).2
    exact ⟨by rw [h1.1, hS], h1.2⟩

/-- Members on whose segment a point's first r rows were written. -/
structure Wrote (s s' : Ram.St) (seg : Int) (L : Nat → List (Head × List Int)) (r : Nat) : Prop where
  geo : s'.g = s.g
  first : s'.first = s.first
  gone : s'.gone = s.gone
  cnt : s'.cnt ≤ s.cnt + 100 * r
  other : ∀ m b q, b ≠ seg → s'.pages m b q = s.pages m b q
  done : ∀ q : Nat, q < r → ∀ m, 0 ≤ m → m < s.g.c → s'.pages m seg q = (pageOf s.g (L q) seg q m).1 ++ (pageOf s.g (L q) seg q m).2
  todo : ∀ q : Int, (r : Int) ≤ q → q < s.g.p → ∀ m, 0 ≤ m → m < s.g.c → s'.pages m seg q = []
theorem Wrote.erased (s : Ram.St) (seg : Int) (L : Nat → List (Head × List Int)) : Wrote s (s.erase seg) seg L 0 := by
  refine ⟨rfl, rfl, rfl, by show s.cnt ≤ s.cnt + 100 * 0; omega, fun m b q h => ?_, fun q h => by omega, fun q h0 h1 m m0 m1 => ?_⟩
  · show (if _ then _ else _) = _
    rw [if_neg (fun hh => h hh.1)]
  · show (if _ then _ else _) = _
    rw [if_pos ⟨rfl, m0, by omega, h1, .inl m1⟩]
theorem Wrote.step {s s' : Ram.St} {seg : Int} {L : Nat → List (Head × List Int)} {r : Nat} (h : Wrote s s' seg L r) (hg : s.g.Ok) (hgn : ∀ m, ¬ 0 < s.gone m) :
    Wrote s (s'.progs seg r (fun m => (pageOf s.g (L r) seg r m).1 ++ (pageOf s.g (L r) seg r m).2) (orderOf s.first s.g.c)) seg L (r + 1) := by
  obtain ⟨a1, a2, a3, a4, a5⟩ := progs_gone seg r (fun m => (pageOf s.g (L r) seg r m).1 ++ (pageOf s.g (L r) seg r m).2) (orderOf s.first s.g.c) s'
  have hc := hg.c
  have ho := orderOf_len s.first s.g.c
  have hgn' : ∀ m, ¬ 0 < s'.gone m := by rw [h.gone]; exact hgn
  refine ⟨by rw [a2, h.geo], by rw [a3, h.first], by rw [a1, h.gone], ?_, fun m b q hb => ?_, fun q hq m m0 m1 => ?_, fun q q0 q1 m m0 m1 => ?_⟩
  · have h2 := h.cnt
    omega
  · rw [progs_pages, if_neg (fun hh => hb hh.2.1)]
    exact h.other m b q hb
  · rw [progs_pages]
    by_cases e : q = r
    · subst e
      rw [if_pos ⟨mem_order m0 m1, rfl, rfl, hgn' m⟩]
    · rw [if_neg (fun hh => e (by have h2 := hh.2.2.1; omega))]
      exact h.done q (by omega) m m0 m1
  · rw [progs_pages, if_neg (fun hh => by have h2 := hh.2.2.1; omega)]
    exact h.todo q (by omega) q1 m m0 m1
theorem Wrote.err {s s' : Ram.St} {seg : Int} {L : Nat → List (Head × List Int)} {r : Nat} (h : Wrote s s' seg L r) (hgn : ∀ m, ¬ 0 < s.gone m) (first c : Int) : errOf (goneIn s' (orderOf first c)) = 0 := by
  have hgn' : ∀ m, ¬ 0 < s'.gone m := by rw [h.gone]; exact hgn
  rw [show goneIn s' (orderOf first c) = 0 from goneIn_none _ _ (fun m _ => hgn' m)]
  rfl
/-- A part of a slice that is none of theirs. -/
theorem SlO.sub {w : World} {p : Nat} {ad : Addr} {n c : Nat} {xs : List Int} (h : SlO w p (.slice (some ad) n c) xs) (i k : Nat) (hk : i + k ≤ n) (hk0 : 0 < k) : SlO w p (.slice (some (ad.add i)) k (c - i)) ((xs.drop i).take k) := by
  obtain ⟨⟨A, n', c', e, h1, h2⟩, h3⟩ := h
  injection e with e1 e2 e3
  subst e1 e2 e3
  refine ⟨⟨_, _, _, rfl, by omega, ?_⟩, fun b hb => h3 b ?_⟩
  · have hd := (h2.drop i (by omega) h1).take k (by omega)
    rwa [if_neg (by omega)] at hd
  · have e : (ad.add i).block = b := by simpa [Value.ownBlock] using hb
    rw [add_block] at e
    rw [← e]
    rfl
/-- append of one element of several cells, where the region draws its order. -/
theorem step_appendV {P : Program} {ops : Array Oper} {o : Oper} {a : Act} {K : Act → World → Prop} {Q : Exit → Act → World → Prop} {E : Prop} {W : World} (base : Nat) (hgd : o.guard = none) (s x : Operand) (t e : TypeId) (z : Value) (size bytes : Nat)
    (ho : o.op = .call { callee := .builtin .append, args := #[s, x], argTypes := #[t, t] })
    (ht : P.underlying t = some (.slice e)) (hinfo : (P.info? e).map (fun i => (i.zero, i.size, i.bytes)) = some (some z, size, bytes)) (hzs : z.cells.size = size) (hs0 : 0 < size) (hb0 : 0 < bytes)
    (v : Value) (n : Nat) (vs : List Value) (ys : Array Value) (g : Nat) (hs : a.eval s = v) (hx : a.eval x = .slice (some ⟨g, 0, none⟩) 1 1) (hys : ys.size = size) (hone : ∀ u ∈ ys.toList, u.oneCell' = true)
    (hcell : W.heap[g]? = some (.cells ys e (0, 0))) (HO : Par.RowV e size W base v n vs) (hbase : base ≤ W.heap.size) (hl : (n + 1) * bytes ≤ 140737488355328)
    (h : ∀ v1 w1, Par.RowV e size w1 base v1 (n + 1) (vs ++ ys.toList) → Fr (fun b => v.ownBlock = some b) W w1 → (v1.ownBlock = v.ownBlock ∨ ∃ b, v1.ownBlock = some b ∧ W.heap.size ≤ b) → K (a.put o.dst v1) w1) :
    if Region.wanted o (yielded ops a.tmps) = true then Oper.wp P o a W K Q else E := by
  have hw : Region.wanted o (yielded ops a.tmps) = true := by simp [Region.wanted, hgd]
  rw [if_pos hw]
  obtain ⟨i0, hi, hzz⟩ := Option.map_eq_some_iff.1 hinfo
  simp only [Prod.mk.injEq] at hzz
  obtain ⟨hz0, hz1, hz2⟩ := hzz
  have hlen : n + 1 ≤ 140737488355328 := Nat.le_trans (Nat.le_mul_of_pos_right _ hb0) hl
  obtain ⟨v1, w1, hr, hown, hg, _, hat⟩ := run_append_own_at (P := P) (w := W) base t o.type e i0 z size bytes ht hi hz0 hz1 hz2 hzs hs0 v n vs HO.1 ⟨g, 0, none⟩ 1 1 ys.toList (by simp [hys]) (World.news_of_block hcell) hone (by simp only [maxLen]; omega) hl hbase
  unfold Oper.wp execOp
  simp only [ho, resolve, invoke, builtin, Sem.run_bind, Sem.run_pure, Result.andThen_ok, List.map_toArray, List.map_cons, List.map_nil, hs, hx, hr]
  refine h v1 w1 ⟨hown, ?_⟩ ((Fr.refl _ W).grown hg (fun k hk _ => hk.symm ▸ rfl)) ?_
  · rw [List.length_append, HO.2, Array.length_toList, hys, Nat.add_mul, Nat.one_mul]
  · rcases hat with hat | hat
    · exact .inl hat
    · exact .inr ⟨_, hat, Nat.le_refl _⟩
/-- b[o:e], of a slice of bytes that is not nil. -/
theorem run_part (ad : Addr) (n c o e S : Nat) (W : World) (h1 : o ≤ e) (h2 : e ≤ c) (h3 : ¬ c = o) (h4 : e - o = S) :
    (Instr.slice 23 (.slice (some ad) n c) (some (.int .i64 (o : Int))) (some (.int .i64 (e : Int))) none).run Try.prog W = .ok (.slice (some (ad.add o)) S (c - o)) W := by
  subst h4
  simp [Instr.slice, Instr.sliceBounds, Instr.sliceBound, asIntOf, run_underlying Try.underlying23, go_sem, h1, h2, h3]
end Go.Proofs.Ytlhgbamajabnfaa.Point7

/- Maps of this seat, by what stands at each key: a value for each (the zero value where there is none). -/
import Derived.Test.YtlhgbamajabnfaaGab
import Derived.Test.YtlhgbamajabnfaaProg
import Derived.Maps.OwnSet
import Derived.WideKeyPair
import Derived.DeepKeys4
import Derived.KernelRfl
namespace Go.Proofs.Ytlhgbamajabnfaa.Map
open Go.RowKit Go.Proofs.Ytlhgbamajabnfaa.Gab Go.WideMaps
open Go.Maps (Keyed)
set_option linter.unusedVariables false

/-- An element as it stands. -/
def R (v : Value) : Option (DataW Value × List MemPlace) := some (.held v, [])
/-- Block b is a map of at most n entries that answers f; z where nothing stands. -/
def MapW (P : Program) (w : World) (K : TypeId) (b n : Nat) (z : Value) (f : Value → Value) : Prop :=
  ∃ D : DataW Value, w.ownsMap P K R b n D ∧ ∀ key kl, keyOf P K key = some kl → D.atKey kl (.held z) = .held (f key)
variable {P : Program}
theorem MapW.made (w : World) (K : TypeId) (z : Value) : MapW P (w.alloc (.map #[] 0)) K w.heap.size 0 z (fun _ => z) :=
  ⟨.map [], World.ownsMap_made w P K R, fun _ _ _ => rfl⟩
theorem MapW.lt {w : World} {K : TypeId} {b n : Nat} {z : Value} {f : Value → Value} (h : MapW P w K b n z f) : b < w.heap.size := by
  obtain ⟨D, h1, _⟩ := h
  exact h1.lt
theorem MapW.blk {w : World} {K : TypeId} {b n : Nat} {z : Value} {f : Value → Value} (h : MapW P w K b n z f) : ∃ es c, w.heap[b]? = some (.map es c) := by
  obtain ⟨D, ⟨es, c, h1, _⟩, _⟩ := h
  exact ⟨es, c, h1⟩
theorem MapW.fr {S : Nat → Prop} {w w' : World} {K : TypeId} {b n : Nat} {z : Value} {f : Value → Value} (h : MapW P w K b n z f) (hf : Fr S w w') (hS : ¬ S b) : MapW P w' K b n z f := by
  obtain ⟨D, ⟨es, c, h1, h2⟩, h3⟩ := h
  exact ⟨D, ⟨es, c, hf.heap h1 hS, h2⟩, h3⟩
theorem MapW.mono {w : World} {K : TypeId} {b n m : Nat} {z : Value} {f : Value → Value} (h : MapW P w K b n z f) (hm : n ≤ m) : MapW P w K b m z f := by
  obtain ⟨D, h1, h2⟩ := h
  exact ⟨D, h1.mono hm, h2⟩
theorem MapW.look {w : World} {t K e : TypeId} {b n : Nat} {z : Value} {f : Value → Value} (h : MapW P w K b n z f) (L : Keyed P K) (ht : P.underlying t = some (.map K e)) (hz : (zeroValue e).run P w = .ok z w)
    {key : Value} {kl : Lit} (hk : keyOf P K key = some kl) : (Instr.lookup t (.map (some b)) key false).run P w = .ok (f key) w := by
  obtain ⟨D, h1, h2⟩ := h
  obtain ⟨v, ps, hr, hv⟩ := h1.lookup L ht hz (zd := .held z) (zp := []) rfl hk
  rw [h2 key kl hk] at hv
  injection hv with hv
  injection hv with hv
  injection hv with hv
  rw [← hv]
  exact hr
/-- Another value at a key. -/
noncomputable def put (f : Value → Value) (key v : Value) : Value → Value := fun k => by classical exact if k = key then v else f k
theorem put_same (f : Value → Value) (key v : Value) : put f key v key = v := by unfold put; simp
theorem put_ne (f : Value → Value) {key k : Value} (v : Value) (h : k ≠ key) : put f key v k = f k := by unfold put; simp [h]
theorem MapW.store {w : World} {t K e : TypeId} {b n : Nat} {z : Value} {f : Value → Value} (h : MapW P w K b n z f) (L : Keyed P K) (ht : P.underlying t = some (.map K e)) (hn : n < maxLen)
    {key : Value} {kl : Lit} (hk : keyOf P K key = some kl) (v : Value) : ∃ w', (Instr.mapUpdate t (.map (some b)) key v).run P w = .ok () w' ∧ MapW P w' K b (n + 1) z (put f key v) ∧ Fr (fun x => x = b) w w' := by
  obtain ⟨D, h1, h2⟩ := h
  obtain ⟨w', hr, h3, h4⟩ := h1.store L ht hn hk (val := v) (d := .held v) (ps := []) rfl
  refine ⟨w', hr, ⟨_, h3, fun k' kl' hk' => ?_⟩, (Fr.refl _ w).grown h4.grown (fun k hk _ => by injection hk with hk; exact hk.symm)⟩
  by_cases e : k' = key
  · subst e
    rw [hk] at hk'
    injection hk' with hk'
    subst hk'
    rw [Maps.atKey_put_same (h1.isMap) (L.key hk), put_same]
  · rw [Maps.atKey_put_other (fun e2 => e (L.inj hk' (by rw [e2]; exact hk))), h2 k' kl' hk', put_ne f v e]
theorem MapW.drop {w : World} {t K e : TypeId} {b n : Nat} {z : Value} {f : Value → Value} (h : MapW P w K b n z f) (L : Keyed P K) (ht : P.underlying t = some (.map K e))
    {key : Value} {kl : Lit} (hk : keyOf P K key = some kl) (ty : TypeId) : ∃ w', (Builtin.delete_ #[t, K] ty #[.map (some b), key]).run P w = .ok (.tuple #[]) w' ∧ MapW P w' K b n z (put f key z) ∧ Fr (fun x => x = b) w w' := by
  obtain ⟨D, h1, h2⟩ := h
  obtain ⟨w', hr, h3, h4⟩ := h1.drop L ht hk ty
  refine ⟨w', hr, ⟨_, h3, fun k' kl' hk' => ?_⟩, (Fr.refl _ w).grown h4.grown (fun k hk _ => by injection hk with hk; exact hk.symm)⟩
  by_cases e : k' = key
  · subst e
    rw [hk] at hk'
    injection hk' with hk'
    subst hk'
    rw [Maps.atKey_del_same, put_same]
  · rw [Maps.atKey_del_other (fun e2 => e (L.inj hk' (by rw [e2]; exact hk))), h2 k' kl' hk', put_ne f z e]

section
variable {ops : Array Oper} {rest : List Oper} {o : Oper} {a : Act} {Q : Exit → Act → World → Prop}
theorem wp_look (w : World) (hg : o.guard = none) (m x : Operand) (t : TypeId) (hop : o.op = Op.lookup t m x false) (K e : TypeId) (L : Keyed P K) (ht : P.underlying t = some (.map K e)) (z : Value) (hz : (zeroValue e).run P w = .ok z w) (b n : Nat) (f : Value → Value)
    (hm : a.eval m = .map (some b)) (h : MapW P w K b n z f) (key : Value) (hx : a.eval x = key) (hk : ∃ kl, keyOf P K key = some kl)
    (v : Value) (hv : f key = v) (hK : wpList P ops Q rest (a.put o.dst v) w) : wpList P ops Q (o :: rest) a w := by
  refine wpList_plain hg fun K' hK' => ?_
  obtain ⟨kl, hk⟩ := hk
  subst hv
  have hrun := h.look L ht hz hk
  unfold Oper.wp
  simp [execOp, hop, hm, hx, hrun, Result.andThen]
  exact hK' _ _ hK
theorem wp_store (w : World) (hg : o.guard = none) (m x y : Operand) (t : TypeId) (hop : o.op = Op.mapUpdate t m x y) (K e : TypeId) (L : Keyed P K) (ht : P.underlying t = some (.map K e)) (z : Value) (b n : Nat) (f : Value → Value)
    (hm : a.eval m = .map (some b)) (h : MapW P w K b n z f) (hn : n < maxLen) (key v : Value) (hx : a.eval x = key) (hy : a.eval y = v) (hk : ∃ kl, keyOf P K key = some kl)
    (hK : ∀ w', MapW P w' K b (n + 1) z (put f key v) → Fr (fun x => x = b) w w' → wpList P ops Q rest (a.put o.dst undef) w') : wpList P ops Q (o :: rest) a w := by
  refine wpList_plain hg fun K' hK' => ?_
  obtain ⟨kl, hk⟩ := hk
  obtain ⟨w', hrun, r1, r2⟩ := h.store L ht hn hk v
  unfold Oper.wp
  simp [execOp, hop, hm, hx, hy, hrun, Result.andThen]
  exact hK' _ _ (hK w' r1 r2)
theorem wp_drop (w : World) (hg : o.guard = none) (m x : Operand) (t K : TypeId) (hop : o.op = Op.call { callee := Callee.builtin Builtin.delete, args := #[m, x], argTypes := #[t, K] }) (e : TypeId) (L : Keyed P K) (ht : P.underlying t = some (.map K e)) (z : Value) (b n : Nat) (f : Value → Value)
    (hm : a.eval m = .map (some b)) (h : MapW P w K b n z f) (key : Value) (hx : a.eval x = key) (hk : ∃ kl, keyOf P K key = some kl)
    (hK : ∀ w', MapW P w' K b n z (put f key z) → Fr (fun x => x = b) w w' → wpList P ops Q rest (a.put o.dst (.tuple #[])) w') : wpList P ops Q (o :: rest) a w := by
  refine wpList_plain hg fun K' hK' => ?_
  obtain ⟨kl, hk⟩ := hk
  obtain ⟨w', hrun, r1, r2⟩ := h.drop L ht hk o.type
  unfold Oper.wp
  simp [execOp, hop, resolve, invoke, builtin, hm, hx, hrun, Result.andThen]
  exact hK' _ _ (hK w' r1 r2)
end

/-! ### the keys of this seat -/
theorem laidOut : laidOutB Try.prog = true := by kernel_rfl
theorem row3 : (45 : TypeId) < Try.prog.types.size := of_decide_eq_true (by kernel_rfl)
theorem cells3 : Try.prog.cellsOf 45 = 3 := by kernel_rfl
theorem arr3 : ArrKey Try.prog 45 3 3 := ⟨Try.underlying45, by kernel_rfl, by kernel_rfl, cells3⟩
set_option maxRecDepth 100000 in
theorem wide3 : (match Try.prog.underlying 45 with | some (.array _ _) | some (.struct _) => true | _ => false) = true := by rw [Try.underlying45]
theorem kt3 : Try.prog.keyTypeAt 2 45 = true := by kernel_rfl
set_option maxRecDepth 100000 in
theorem law3 : Keyed Try.prog 45 := Keyed.of_law (deep_law_laid (P := Try.prog) laidOut (m := 2) (by omega) row3 kt3 wide3)
theorem lawI : Keyed Try.prog 3 := Maps.int_keyed Try.underlying3
theorem sized : ∃ m, Try.prog.types.size = m + 1 := Nat.exists_eq_succ_of_ne_zero (Nat.pos_iff_ne_zero.1 (Nat.lt_of_le_of_lt (Nat.zero_le _) row3))
def key3 (m b q : Int) : Value := .agg #[.int .i64 m, .int .i64 b, .int .i64 q]
theorem wf64 {n : Int} (h0 : -9223372036854775808 ≤ n) (h1 : n < 9223372036854775808) : (Lit.int .i64 n).wf = true := WalkArith.wf_i64 (by omega)
theorem keyOf_3 {m b q : Int} (hm : 0 ≤ m ∧ m < 1000) (hb : 0 ≤ b ∧ b < 1000) (hq : 0 ≤ q ∧ q < 1000) : ∃ kl, keyOf Try.prog 45 (key3 m b q) = some kl := by
  have A := arr3
  have he := Try.underlying3
  have wm := wf64 (n := m) (by omega) (by omega)
  have wb := wf64 (n := b) (by omega) (by omega)
  have wq := wf64 (n := q) (by omega) (by omega)
  have hkt := A.keyType sized
  obtain ⟨s, hs⟩ := sized
  refine ⟨.string (keyBytes [.int .i64 m, .int .i64 b, .int .i64 q]), ?_⟩
  unfold keyOf key3
  simp only [A.hu]
  rw [if_pos (by simp [hkt, Value.formed, A.hu, A.size]), hs]
  unfold Program.keyLits
  simp only [A.hu, Value.cells]
  rw [if_pos (by rw [A.size]; rfl), show List.range 3 = [0, 1, 2] from rfl, List.mapM_cons, List.mapM_cons, List.mapM_cons, List.mapM_nil]
  simp [A.one, Program.keyLits, he, wm, wb, wq]
theorem keyOf_i {m : Int} (hm : 0 ≤ m ∧ m < 1000) : ∃ kl, keyOf Try.prog 3 (.int .i64 m) = some kl := ⟨_, Maps.keyOf_int_mk Try.underlying3 (wf64 (by omega) (by omega))⟩
theorem key3_inj {m b q m' b' q' : Int} (h : key3 m b q = key3 m' b' q') : m = m' ∧ b = b' ∧ q = q' := by
  unfold key3 at h
  injection h with h
  injection h with h
  simp at h
  exact h
theorem zeroB (w : World) : (zeroValue 23).run Try.prog w = .ok (.slice none 0 0) w := by kernel_rfl
theorem zeroI (w : World) : (zeroValue 3).run Try.prog w = .ok (.int .i64 0) w := by kernel_rfl
end Go.Proofs.Ytlhgbamajabnfaa.Map

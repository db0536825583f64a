/- append(v, make([]T, m)...): noughts behind a row of one's own. No program in it. -/
import Derived.Test.YtlhgbamajabnfaaGab
namespace Go.Proofs.Ytlhgbamajabnfaa.Zero
open Go.RowKit Go.Proofs.Ytlhgbamajabnfaa.Gab
set_option linter.unusedVariables false
set_option linter.unusedSimpArgs false
section
variable {P : Program} (w : World)
theorem zcells (k : IntKind) (m : Nat) : Builtin.zeroCells #[Value.int k 0] m = (nums k (List.replicate m 0)).toArray := by
  apply Array.ext'
  apply List.ext_getElem
  · simp [Builtin.zeroCells, nums]
  · intro i h1 h2
    simp [Builtin.zeroCells, nums, Nat.mod_one]
theorem run_zeros_room (t tn ty e : TypeId) (k kn : IntKind) (i : TypeInfo) (ht : P.underlying t = some (.slice e)) (htn : P.underlying tn = some (.int kn)) (hi : P.info? e = some i) (hz : i.zero = some (.int k 0)) (hs : i.size = 1) (hb : i.bytes = 1)
    (g sLen sCap : Nat) (cur : Array Value) (hg : w.heap[g]? = some (.cells cur e (0, 0))) (m : Nat) (hm0 : 0 < m) (hm : m ≤ 1000000)
    (hroom : sLen + m ≤ sCap) (hfit : sLen * 1 + m ≤ cur.size) :
    (Builtin.append_ #[t, tn] ty #[.slice (some ⟨g, 0, none⟩) sLen sCap, .int .i64 (m : Int)]).run P w =
      .ok (.slice (some ⟨g, 0, none⟩) (sLen + m) sCap) (w.setRow g (cur.toList.take (sLen * 1) ++ nums k (List.replicate m 0) ++ cur.toList.drop (sLen * 1 + m)).toArray) := by
  have hst := run_storeCells_at P g (sLen * 1) e (nums k (List.replicate m 0)) 0 cur w hg (by simpa [nums] using hfit) (by intro u hu; simp only [nums, List.mem_map] at hu; obtain ⟨q, _, rfl⟩ := hu; rfl)
  simp only [Nat.add_zero] at hst
  have hw : IntKind.i64.wrap (m : Int) = m := by rw [IntKind.wrap_i64]; omega
  have hneg : ¬ ((m : Int) < 0) := by omega
  have h48 : ¬ (281474976710656 < (m : Int)) := by omega
  have hmz : ¬ m = 0 := by omega
  have hzc := zcells k m
  have hlen : (nums k (List.replicate m 0)).length = m := by simp [nums]
  rw [hlen] at hst
  simp [Builtin.append_, run_underlying ht, run_underlying htn, sizeOf, typeInfo, hi, hs, hb, hz, hw, hneg, h48, hmz, zeroValue, asInt, asIntOf, hroom, Addr.add_lit, Value.cells, hzc]
  have hst2 : (storeCells ⟨g, sLen, none⟩ (nums k (List.replicate m 0))).run P w = .ok () (w.setRow g (cur.toList.take sLen ++ (nums k (List.replicate m 0) ++ cur.toList.drop (sLen + m))).toArray) := by simpa using hst
  rw [hst2]
  rfl
theorem run_zeros_grow (t tn ty e : TypeId) (k kn : IntKind) (i : TypeInfo) (ht : P.underlying t = some (.slice e)) (htn : P.underlying tn = some (.int kn)) (hi : P.info? e = some i) (hz : i.zero = some (.int k 0)) (hs : i.size = 1) (hb : i.bytes = 1)
    (b : Addr) (sLen sCap : Nat) (olds : List Value) (hlo : olds.length = sLen * 1) (holds : ∀ j v, olds[j]? = some v → w.cell? (b.add j) = some v) (m : Nat) (hm0 : 0 < m) (hm : m ≤ 1000000)
    (hg : sCap < sLen + m) (h63 : sLen + m ≤ 1000000000) :
    (Builtin.append_ #[t, tn] ty #[.slice (some b) sLen sCap, .int .i64 (m : Int)]).run P w =
      .ok (.slice (some ⟨w.heap.size, 0, none⟩) (sLen + m) (grownCap w (sLen + m) sCap e))
        (w.drew.alloc (.cells (olds.toArray ++ (nums k (List.replicate m 0)).toArray ++ Builtin.zeroCells #[.int k 0] (grownCap w (sLen + m) sCap e - (sLen + m))) e)) := by
  have hn : ¬ (sLen + m ≤ sCap) := by omega
  have hw : IntKind.i64.wrap (m : Int) = m := by rw [IntKind.wrap_i64]; omega
  have hneg : ¬ ((m : Int) < 0) := by omega
  have h48 : ¬ (281474976710656 < (m : Int)) := by omega
  have hmz : ¬ m = 0 := by omega
  have h63' : ¬ (9223372036854775807 < ((sLen : Int) + (m : Int))) := by omega
  have hfit := growslice_fits (bytes := 1) hg (by omega)
  have h48' : ¬ (281474976710656 < Builtin.nextslicecap (sLen + m) sCap) := by omega
  have hfo := run_firstCells_some (P := P) w.drew 1 sLen b sLen sCap olds hlo (by simpa using holds)
  have hzc := zcells k m
  simp [Builtin.append_, run_underlying ht, run_underlying htn, sizeOf, typeInfo, zeroValue, hi, hz, hs, hb, hw, hneg, h48, hmz, asInt, asIntOf, Builtin.lenOf, hn, h63', h48', Question.forced, hfo, newRow, grownCap, Value.cells, hzc]
  congr 2
  apply Array.ext'
  simp [List.append_assoc]
theorem run_zeros (base : Nat) (t tn ty e : TypeId) (k kn : IntKind) (ht : P.underlying t = some (.slice e)) (htn : P.underlying tn = some (.int kn)) (hinfo : (P.info? e).map (fun i => (i.zero, i.size, i.bytes)) = some (some (.int k 0), 1, 1))
    (v : Value) (xs : List Int) (hown : Row e k w base v xs) (hx : 0 < xs.length) (hxl : xs.length ≤ 1000000) (m : Nat) (hm0 : 0 < m) (hm : m ≤ 1000000) (hbase : base ≤ w.heap.size) :
    ∃ v' w', (Builtin.append_ #[t, tn] ty #[v, .int .i64 (m : Int)]).run P w = .ok v' w' ∧ Row e k w' base v' (xs ++ List.replicate m 0) ∧ Fr (fun b => v.ownBlock = some b) w w' ∧ (v'.ownBlock = v.ownBlock ∨ ∃ b, v'.ownBlock = some b ∧ w.heap.size ≤ b) := by
  obtain ⟨i, hi, hzz⟩ := Option.map_eq_some_iff.1 hinfo
  simp only [Prod.mk.injEq] at hzz
  obtain ⟨hz, hs, hb⟩ := hzz
  rcases hown.2 with ⟨rfl, h0⟩ | ⟨g, cap, cur, rfl, hbg, hg, hnc, hcm, hcs, htake⟩
  · omega
  · have hnl : (nums k xs).length = xs.length := by simp [nums]
    have hzl : (nums k (List.replicate m 0)).length = m := by simp [nums]
    have hal : (xs ++ List.replicate m 0).length = xs.length + m := by simp
    by_cases hroom : xs.length + m ≤ cap
    · have hfit : xs.length * 1 + m ≤ cur.size := by omega
      have hr := run_zeros_room (P := P) w t tn ty e k kn i ht htn hi hz hs hb g xs.length cap cur hg m hm0 hm hroom hfit
      refine ⟨_, _, hr, ?_, ?_, .inl rfl⟩
      · unfold Row
        rw [hal, nums_append]
        refine ⟨by simp [hnl, hzl], .inr ⟨g, cap, _, rfl, hbg, setRow_heap w g cur _ e _ hg, hroom, hcm, ?_, ?_⟩⟩
        · simp only [List.size_toArray, List.length_append, List.length_take, List.length_drop, Array.length_toList, hzl]
          omega
        · rw [htake]
          have : (xs.length + m) * 1 = (nums k xs ++ nums k (List.replicate m 0)).length := by rw [List.length_append, hnl, hzl]; omega
          rw [this]
          exact List.take_left
      · exact (Fr.refl _ w).grown ⟨rfl, rfl, rfl, by simp, fun x _ hx => setRow_other w g x _ (fun e => hx (by rw [e]))⟩ (fun x hx _ => by injection hx with hx; rw [← hx]; rfl)
    · have holds : ∀ j u, (nums k xs)[j]? = some u → w.cell? ((⟨g, 0, none⟩ : Addr).add j) = some u := World.ownsRow.cells hown (g := g) rfl
      have hr := run_zeros_grow (P := P) w t tn ty e k kn i ht htn hi hz hs hb ⟨g, 0, none⟩ xs.length cap (nums k xs) (by simp [nums]) holds m hm0 hm (by omega) (by omega)
      refine ⟨_, _, hr, ?_, ?_, .inr ⟨_, rfl, Nat.le_refl _⟩⟩
      · unfold Row
        rw [hal, nums_append]
        refine ⟨by simp [hnl, hzl], .inr ⟨w.heap.size, _, _, rfl, hbase, heap_alloc_new w.drew _, grownCap_ge w _ _ e, grownCap_le_maxLen w _ _ e (by simp only [maxLen]; omega), ?_, ?_⟩⟩
        · have := grownCap_ge w (xs.length + m) cap e
          simp only [Array.size_append, List.size_toArray, size_zeroCells, hnl, hzl]
          simp
          omega
        · simp only [Array.toList_append, List.append_assoc]
          rw [← List.append_assoc]
          have : (xs.length + m) * 1 = (nums k xs ++ nums k (List.replicate m 0)).length := by rw [List.length_append, hnl, hzl]; omega
          rw [this]
          exact List.take_left
      · exact (Fr.refl _ w).grown (row := none) ⟨rfl, rfl, rfl, by simp, fun x hx _ => Below.heap_alloc w.drew _ x hx⟩ (fun x hx _ => by cases hx)
variable {w}
/-- The same, behind 'at_builtin'. -/
theorem appendZeros {ops : Array Oper} {rest : List Oper} {o : Oper} {a : Act} {Q : Exit → Act → World → Prop} (base : Nat) (hgd : o.guard = none) (s x : Operand) (t tn e : TypeId) (k kn : IntKind)
    (ho : o.op = .call { callee := .builtin .append, args := #[s, x], argTypes := #[t, tn] })
    (ht : P.underlying t = some (.slice e)) (htn : P.underlying tn = some (.int kn)) (hinfo : (P.info? e).map (fun i => (i.zero, i.size, i.bytes)) = some (some (.int k 0), 1, 1))
    (v : Value) (xs : List Int) (m : Nat) (hs : a.eval s = v) (hx : a.eval x = .int .i64 (m : Int)) (hown : Row e k w base v xs) (hx0 : 0 < xs.length) (hxl : xs.length ≤ 1000000) (hm0 : 0 < m) (hm : m ≤ 1000000) (hbase : base ≤ w.heap.size)
    (h : ∀ v1 w1, Row e k w1 base v1 (xs ++ List.replicate m 0) → Fr (fun b => v.ownBlock = some b) w w1 → (v1.ownBlock = v.ownBlock ∨ ∃ b, v1.ownBlock = some b ∧ w.heap.size ≤ b) → wpList P ops Q rest (a.put o.dst v1) w1) :
    wpList P ops Q (o :: rest) a w := by
  obtain ⟨v1, w1, hr, h1, h2, h3⟩ := run_zeros (P := P) w base t tn o.type e k kn ht htn hinfo v xs hown hx0 hxl m hm0 hm hbase
  refine wpList_plain hgd fun K hK => ?_
  unfold Oper.wp execOp
  simp only [ho, resolve, invoke, builtin, Sem.run_bind, Sem.run_pure, Result.andThen_ok, List.map_toArray, List.map_cons, List.map_nil, hs, hx, hr]
  exact hK _ _ (h v1 w1 h1 h2 h3)
end
end Go.Proofs.Ytlhgbamajabnfaa.Zero

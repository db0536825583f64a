/- append(v, make([]T, m)...): noughts behind a row of one's own. No program in it. | parity.Missing: the page that is missing, out of all others (where it comes out right). -/
import Derived.Test.YteofgpaceeibpaaGreatTkGab
import Derived.Test.YteofgpaceeibpaaGreatTkStr
import Derived.Test.YteofgpaceeibpaaGreatTkOpen
namespace Go.Proofs.YteofgpaceeibpaaGreat.Zero
open Go.RowKit Gab
set_option linter.unusedVariables false
set_option linter.unusedSimpArgs false
section
variable {P : Program} (w : World)
theorem zcells (k : IntKind) (m : Nat) : Builtin.zeroCells #[Value.int k 0] m = (nums k (List.replicate m 0)).toArray := by
  apply Array.ext'
  apply List.ext_getElem
  · simp [Builtin.zeroCells, nums]
  · intro i h1 h2
    simp [Builtin.zeroCells, nums, Nat.mod_one]
theorem run_zeros_room (t tn ty e : TypeId) (k kn : IntKind) (i : TypeInfo) (ht : P.underlying t = some (.slice e)) (htn : P.underlying tn = some (.int kn)) (hi : P.info? e = some i) (hz : i.zero = some (.int k 0)) (hs : i.size = 1) (hb : i.bytes = 1)
    (g sLen sCap : Nat) (cur : Array Value) (hg : w.heap[g]? = some (.cells cur e (0, 0))) (m : Nat) (hm0 : 0 < m) (hm : m ≤ 1000000)
    (hroom : sLen + m ≤ sCap) (hfit : sLen * 1 + m ≤ cur.size) :
    (Builtin.append_ #[t, tn] ty #[.slice (some ⟨g, 0, none⟩) sLen sCap, .int .i64 (m : Int)]).run P w =
      .ok (.slice (some ⟨g, 0, none⟩) (sLen + m) sCap) (w.setRow g (cur.toList.take (sLen * 1) ++ nums k (List.replicate m 0) ++ cur.toList.drop (sLen * 1 + m)).toArray) := by
  have hst := run_storeCells_at P g (sLen * 1) e (nums k (List.replicate m 0)) 0 cur w hg (by simpa [nums] using hfit) (by intro u hu; simp only [nums, List.mem_map] at hu; obtain ⟨q, _, rfl⟩ := hu; rfl)
  simp only [Nat.add_zero] at hst
  have hw : IntKind.i64.wrap (m : Int) = m := by rw [IntKind.wrap_i64]; omega
  have hneg : ¬ ((m : Int) < 0) := by omega
  have h48 : ¬ (281474976710656 < (m : Int)) := by omega
  have hmz : ¬ m = 0 := by omega
  have hzc := zcells k m
  have hlen : (nums k (List.replicate m 0)).length = m := by simp [nums]
  rw [hlen] at hst
  simp [Builtin.append_, run_underlying ht, run_underlying htn, sizeOf, typeInfo, hi, hs, hb, hz, hw, hneg, h48, hmz, zeroValue, asInt, asIntOf, hroom, Addr.add_lit, Value.cells, hzc]
  have hst2 : (storeCells ⟨g, sLen, none⟩ (nums k (List.replicate m 0))).run P w = .ok () (w.setRow g (cur.toList.take sLen ++ (nums k (List.replicate m 0) ++ cur.toList.drop (sLen + m))).toArray) := by simpa using hst
  rw [hst2]
  rfl
theorem run_zeros_grow (t tn ty e : TypeId) (k kn : IntKind) (i : TypeInfo) (ht : P.underlying t = some (.slice e)) (htn : P.underlying tn = some (.int kn)) (hi : P.info? e = some i) (hz : i.zero = some (.int k 0)) (hs : i.size = 1) (hb : i.bytes = 1)
    (b : Addr) (sLen sCap : Nat) (olds : List Value) (hlo : olds.length = sLen * 1) (holds : ∀ j v, olds[j]? = some v → w.cell? (b.add j) = some v) (m : Nat) (hm0 : 0 < m) (hm : m ≤ 1000000)
    (hg : sCap < sLen + m) (h63 : sLen + m ≤ 1000000000) :
    (Builtin.append_ #[t, tn] ty #[.slice (some b) sLen sCap, .int .i64 (m : Int)]).run P w =
      .ok (.slice (some ⟨w.heap.size, 0, none⟩) (sLen + m) (grownCap w (sLen + m) sCap e))
        (w.drew.alloc (.cells (olds.toArray ++ (nums k (List.replicate m 0)).toArray ++ Builtin.zeroCells #[.int k 0] (grownCap w (sLen + m) sCap e - (sLen + m))) e)) := by
  have hn : ¬ (sLen + m ≤ sCap) := by omega
  have hw : IntKind.i64.wrap (m : Int) = m := by rw [IntKind.wrap_i64]; omega
  have hneg : ¬ ((m : Int) < 0) := by omega
  have h48 : ¬ (281474976710656 < (m : Int)) := by omega
  have hmz : ¬ m = 0 := by omega
  have h63' : ¬ (9223372036854775807 < ((sLen : Int) + (m : Int))) := by omega
  have hfit := growslice_fits (bytes := 1) hg (by omega)
  have h48' : ¬ (281474976710656 < Builtin.nextslicecap (sLen + m) sCap) := by omega
  have hfo := run_firstCells_some (P := P) w.drew 1 sLen b sLen sCap olds hlo (by simpa using holds)
  have hzc := zcells k m
  simp [Builtin.append_, run_underlying ht, run_underlying htn, sizeOf, typeInfo, zeroValue, hi, hz, hs, hb, hw, hneg, h48, hmz, asInt, asIntOf, Builtin.lenOf, hn, h63', h48', Question.forced, hfo, newRow, grownCap, Value.cells, hzc]
  congr 2
  apply Array.ext'
  simp [List.append_assoc]
theorem run_zeros (base : Nat) (t tn ty e : TypeId) (k kn : IntKind) (ht : P.underlying t = some (.slice e)) (htn : P.underlying tn = some (.int kn)) (hinfo : (P.info? e).map (fun i => (i.zero, i.size, i.bytes)) = some (some (.int k 0), 1, 1))
    (v : Value) (xs : List Int) (hown : Row e k w base v xs) (hx : 0 < xs.length) (hxl : xs.length ≤ 1000000) (m : Nat) (hm0 : 0 < m) (hm : m ≤ 1000000) (hbase : base ≤ w.heap.size) :
    ∃ v' w', (Builtin.append_ #[t, tn] ty #[v, .int .i64 (m : Int)]).run P w = .ok v' w' ∧ Row e k w' base v' (xs ++ List.replicate m 0) ∧ Fr (fun b => v.ownBlock = some b) w w' ∧ (v'.ownBlock = v.ownBlock ∨ ∃ b, v'.ownBlock = some b ∧ w.heap.size ≤ b) := by
  obtain ⟨i, hi, hzz⟩ := Option.map_eq_some_iff.1 hinfo
  simp only [Prod.mk.injEq] at hzz
  obtain ⟨hz, hs, hb⟩ := hzz
  rcases hown.2 with ⟨rfl, h0⟩ | ⟨g, cap, cur, rfl, hbg, hg, hnc, hcm, hcs, htake⟩
  · omega
  · have hnl : (nums k xs).length = xs.length := by simp [nums]
    have hzl : (nums k (List.replicate m 0)).length = m := by simp [nums]
    have hal : (xs ++ List.replicate m 0).length = xs.length + m := by simp
    by_cases hroom : xs.length + m ≤ cap
    · have hfit : xs.length * 1 + m ≤ cur.size := by omega
      have hr := run_zeros_room (P := P) w t tn ty e k kn i ht htn hi hz hs hb g xs.length cap cur hg m hm0 hm hroom hfit
      refine ⟨_, _, hr, ?_, ?_, .inl rfl⟩
      · unfold Row
        rw [hal, nums_append]
        refine ⟨by simp [hnl, hzl], .inr ⟨g, cap, _, rfl, hbg, setRow_heap w g cur _ e _ hg, hroom, hcm, ?_, ?_⟩⟩
        · simp only [List.size_toArray, List.length_append, List.length_take, List.length_drop, Array.length_toList, hzl]
          omega
        · rw [htake]
          have : (xs.length + m) * 1 = (nums k xs ++ nums k (List.replicate m 0)).length := by rw [List.length_append, hnl, hzl]; omega
          rw [this]
          exact List.take_left
      · exact (Fr.refl _ w).grown ⟨rfl, rfl, rfl, by simp, fun x _ hx => setRow_other w g x _ (fun e => hx (by rw [e]))⟩ (fun x hx _ => by injection hx with hx; rw [← hx]; rfl)
    · have holds : ∀ j u, (nums k xs)[j]? = some u → w.cell? ((⟨g, 0, none⟩ : Addr).add j) = some u := World.ownsRow.cells hown (g := g) rfl
      have hr := run_zeros_grow (P := P) w t tn ty e k kn i ht htn hi hz hs hb ⟨g, 0, none⟩ xs.length cap (nums k xs) (by simp [nums]) holds m hm0 hm (by omega) (by omega)
      refine ⟨_, _, hr, ?_, ?_, .inr ⟨_, rfl, Nat.le_refl _⟩⟩
      · unfold Row
        rw [hal, nums_append]
        refine ⟨by simp [hnl, hzl], .inr ⟨w.heap.size, _, _, rfl, hbase, heap_alloc_new w.drew _, grownCap_ge w _ _ e, grownCap_le_maxLen w _ _ e (by simp only [maxLen]; omega), ?_, ?_⟩⟩
        · have := grownCap_ge w (xs.length + m) cap e
          simp only [Array.size_append, List.size_toArray, size_zeroCells, hnl, hzl]
          simp
          omega
        · simp only [Array.toList_append, List.append_assoc]
          rw [← List.append_assoc]
          have : (xs.length + m) * 1 = (nums k xs ++ nums k (List.replicate m 0)).length := by rw [List.length_append, hnl, hzl]; omega
          rw [this]
          exact List.take_left
      · exact (Fr.refl _ w).grown (row := none) ⟨rfl, rfl, rfl, by simp, fun x hx _ => Below.heap_alloc w.drew _ x hx⟩ (fun x hx _ => by cases hx)
variable {w}
/-- The same, behind 'at_builtin'. -/
theorem appendZeros {ops : Array Oper} {rest : List Oper} {o : Oper} {a : Act} {Q : Exit → Act → World → Prop} (base : Nat) (hgd : o.guard = none) (s x : Operand) (t tn e : TypeId) (k kn : IntKind)
    (ho : o.op = .call { callee := .builtin .append, args := #[s, x], argTypes := #[t, tn] })
    (ht : P.underlying t = some (.slice e)) (htn : P.underlying tn = some (.int kn)) (hinfo : (P.info? e).map (fun i => (i.zero, i.size, i.bytes)) = some (some (.int k 0), 1, 1))
    (v : Value) (xs : List Int) (m : Nat) (hs : a.eval s = v) (hx : a.eval x = .int .i64 (m : Int)) (hown : Row e k w base v xs) (hx0 : 0 < xs.length) (hxl : xs.length ≤ 1000000) (hm0 : 0 < m) (hm : m ≤ 1000000) (hbase : base ≤ w.heap.size)
    (h : ∀ v1 w1, Row e k w1 base v1 (xs ++ List.replicate m 0) → Fr (fun b => v.ownBlock = some b) w w1 → (v1.ownBlock = v.ownBlock ∨ ∃ b, v1.ownBlock = some b ∧ w.heap.size ≤ b) → wpList P ops Q rest (a.put o.dst v1) w1) :
    wpList P ops Q (o :: rest) a w := by
  obtain ⟨v1, w1, hr, h1, h2, h3⟩ := run_zeros (P := P) w base t tn o.type e k kn ht htn hinfo v xs hown hx0 hxl m hm0 hm hbase
  refine wpList_plain hgd fun K hK => ?_
  unfold Oper.wp execOp
  simp only [ho, resolve, invoke, builtin, Sem.run_bind, Sem.run_pure, Result.andThen_ok, List.map_toArray, List.map_cons, List.map_nil, hs, hx, hr]
  exact hK _ _ (h v1 w1 h1 h2 h3)
end
end Go.Proofs.YteofgpaceeibpaaGreat.Zero
namespace Go.Proofs.YteofgpaceeibpaaGreat.Miss
open Go.RowKit Gab Go.Proofs.YteofgpaceeibpaaGreat.Zero Go.Proofs.YteofgpaceeibpaaGreat.Sum Ref Par Fields Seal Str
open Wr (InR infoByte)
open Go.Proofs.YteofgpaceeibpaaGreat.Open (openOf)
set_option linter.unusedVariables false
set_option linter.unusedSimpArgs false

theorem RowV.lit {e : TypeId} (W : World) (base : Nat) (u : Value) (hb : base ≤ W.heap.size) : RowV e 1 (W.alloc (.cells #[u] e)) base (.slice (some ⟨W.heap.size, 0, none⟩) 1 1) 1 [u] :=
  ⟨World.ownsRow_lit (base := base) (e := e) (size := 1) W #[u] 1 hb (by decide) (by simp), rfl⟩
theorem lit_two {e : TypeId} (W : World) (base : Nat) (u v : Value) (hb : base ≤ W.heap.size) :
    RowV e 1 ((W.alloc (.cells #[u] e)).alloc (.cells #[v] e)) base (.slice (some ⟨W.heap.size, 0, none⟩) 1 1) 1 [u] ∧ RowV e 1 ((W.alloc (.cells #[u] e)).alloc (.cells #[v] e)) base (.slice (some ⟨W.heap.size + 1, 0, none⟩) 1 1) 1 [v] ∧
    (∀ b, (Value.slice (some ⟨W.heap.size, 0, none⟩) 1 1).ownBlock = some b → ¬ (Value.slice (some ⟨W.heap.size + 1, 0, none⟩) 1 1).ownBlock = some b) ∧ (∀ b, (Value.slice (some ⟨W.heap.size + 1, 0, none⟩) 1 1).ownBlock = some b → ¬ (Value.slice (some ⟨W.heap.size, 0, none⟩) 1 1).ownBlock = some b) ∧ Fr None_ W ((W.alloc (.cells #[u] e)).alloc (.cells #[v] e)) := by
  have h2 := RowV.lit (e := e) (W.alloc (.cells #[u] e)) base v (by simp; omega)
  have hs : (W.alloc (.cells #[u] e)).heap.size = W.heap.size + 1 := size_new _ rfl
  rw [hs] at h2
  refine ⟨(RowV.lit W base u hb).none_ ((Fr.refl None_ _).alloc _), h2, fun b h1 h2 => ?_, fun b h1 h2 => ?_, ((Fr.refl None_ W).alloc _).alloc _⟩
  · simp [Value.ownBlock] at h1 h2; omega
  · simp [Value.ownBlock] at h1 h2; omega
def missD (N : Nat) (wd : List Int) (l : List (List Int × List Int)) : List Int := xorAll N (wd :: l.map (·.1))
def missO (wo : List Int) (l : List (List Int × List Int)) : List Int := xorAll 32 (wo.drop 32 :: l.map fun p => p.2.take 32) ++ List.replicate 32 0

set_option maxHeartbeats 8000000 in
set_option maxRecDepth 100000 in
theorem Missing_calls (N : Nat) (D O : Option Addr) (nd cd co : Nat) (wd wo : List Int) (l : List (List Int × List Int)) (vs : List Value) (A : Option Addr) (n c : Nat) (w : World) (h h' : Head) (hD : Rd .u8 w D nd wd) (hO : Rd .u8 w O 64 wo) (hcd : nd ≤ cd) (hco : 64 ≤ co)
    (hrd : InR 256 wd) (hro : InR 256 wo) (hwd : wd.length = N) (hc : RdC w A (n * 2) vs) (hp : PPs w vs l) (hl : ∀ p ∈ l, p.1.length = N ∧ p.2.length = 64 ∧ InR 256 p.1 ∧ InR 256 p.2) (hn : n ≤ 1000) (hN : N ≤ 100000)
    (hopen : openOf wd wo = (h, true)) (hk : h.kind = 5) (hres : openOf (missD N wd l) (missO wo l) = (h', true)) :
    Calls Tryz.prog 108 #[.agg #[.slice D nd cd, .slice O 64 co], .slice A n c] w fun e w' => ∃ v1 v2, e = .returned (.tuple #[.agg #[v1, v2], .int .i64 0]) ∧ Row 5 .u8 w' w.heap.size v1 (missD N wd l) ∧ Row 5 .u8 w' w.heap.size v2 (missO wo l) ∧ Fr None_ w w' := by
  have HD := As.mk hD
  have HO := As.mk hO
  have HC := As.mk hc
  have HP := As.mk hp
  have HL := As.mk hl
  have HN := As.mk hN
  have HNL : As (l.length = n) := ⟨by have h1 := hp.1; have h2 := hc.1; omega⟩
  have HWL := As.mk hwd
  have HLO := As.mk hO.1
  have HOP : As (∀ w', Fr None_ w w' → Calls Tryz.prog 42 #[.slice D nd cd, .slice O 64 co] w' fun e w'' => e = .returned (.tuple #[.agg #[.int .u8 5, .int .u32 h.epoch, .int .u32 h.batch, .int .u16 h.index, .int .u16 h.count, .int .u32 h.block, .int .u32 h.more], .bool true]) ∧ Fr None_ w' w'') := ⟨fun w' hf => by
    have h1 := Open.Open_calls O D 64 co nd cd wo wd w' (hO.none_ hf) (hD.none_ hf) hro hrd hco hcd
    rw [hopen] at h1
    unfold Head.vals at h1
    dsimp only at h1
    rw [hk] at h1
    exact h1⟩
  have HO32 : As (Rd .u8 w (O.map (fun x => (⟨x.block, x.off + 32, none⟩ : Addr))) 32 (wo.drop 32)) := ⟨by have h1 := hO.drop 32 (by decide) hco; rw [if_neg (by omega)] at h1; exact h1⟩
  have HCO := As.mk hco
  have HCD := As.mk hcd
  have HRES := As.mk hres
  have HRD := As.mk hrd
  have hco1 : ¬ co = 32 := by omega
  have hco2 : (32 : Int) ≤ (co : Int) := by omega
  have hco3 : (64 : Int) ≤ (co : Int) := by omega
  clear hD hO hc hp hl hN hwd hcd hres hrd hro hopen
  have HFW : As (Fr None_ w ((w.alloc (.cells #[.slice D nd cd, .slice O 64 co] 157)).alloc (.cells #[.slice none 0 0, .slice none 0 0] 157))) := ⟨((Fr.refl _ w).alloc _).alloc _⟩
  have HB0 := As.mk (heap_alloc_new w (.cells #[.slice D nd cd, .slice O 64 co] 157))
  have HB1 := As.mk (at_old (.cells #[.slice none 0 0, .slice none 0 0] 157) HB0.out)
  have HB2 := As.mk (at_new (.cells #[.slice none 0 0, .slice none 0 0] 157) (size_new (.cells #[.slice D nd cd, .slice O 64 co] 157) (rfl : w.heap.size = w.heap.size)))
  go_enter Tryz.func108, Tryz.ntmps108
  go_wp2_with fail
  ((with_reducible refine (HOP.out _ HFW.out).mono ?_); rintro e w1 ⟨rfl, hf1⟩)
  have HF1 := As.mk (HFW.out.after hf1 (fun _ _ h => h))
  have HC1 := As.mk (hf1.heap HB1.out (fun h => h))
  have HC2 := As.mk (hf1.heap HB2.out (fun h => h))
  have z0 := cell_is (i := 0) HC1.out rfl
  have z1 := cell_is (i := 1) HC1.out rfl
  have l0 : w.heap.size < w1.heap.size := (Array.getElem?_eq_some_iff.1 HC1.out).1
  have l1 : w.heap.size < w1.heap.size + 1 := by omega
  have l2 : w.heap.size < w1.heap.size + 1 + 1 := by omega
  clear hf1
  have HK := As.mk (fun (w' : World) (hf : Fr None_ w1 w') => hf.heap HC1.out (fun h => h))
  go_upto_region 4 with fail
  go_cut [8, 9] (fun v8 v9 wc => As (RowV 48 1 wc w.heap.size v8 1 [.slice D nd cd]) ∧ As (RowV 48 1 wc w.heap.size v9 1 [.slice (O.map (fun x => (⟨x.block, x.off + 32, none⟩ : Addr))) 32 (co - 32)]) ∧ As (∀ b, v8.ownBlock = some b → ¬ v9.ownBlock = some b) ∧ As (Fr None_ w1 wc))
  case first =>
    go_region_held3 (fun w' => w'.cell? ⟨w.heap.size, 0, none⟩ = some (.slice D nd cd) ∧ w'.cell? ⟨w.heap.size, 1, none⟩ = some (.slice O 64 co)) (refine ⟨cell_is (i := 0) (HK.out _ ?_) rfl, cell_is (i := 1) (HK.out _ ?_) rfl⟩ <;> (repeat (first | exact Fr.refl _ _ | apply Fr.drew | apply Fr.alloc))) (fail)
    all_goals
      go_wp2_with fail
      go_meet
      case rel =>
        have hz : w.heap.size ≤ w1.heap.size := HF1.out.size
        have hs : (w1.alloc (.cells #[.int .u8 5, .int .u32 h.epoch, .int .u32 h.batch, .int .u16 h.index, .int .u16 h.count, .int .u32 h.block, .int .u32 h.more] 112)).heap.size = w1.heap.size + 1 := size_new _ rfl
        obtain ⟨p1, p2, p3, p4, p5⟩ := lit_two (e := 48) (w1.alloc (.cells #[.int .u8 5, .int .u32 h.epoch, .int .u32 h.batch, .int .u16 h.index, .int .u16 h.count, .int .u32 h.block, .int .u32 h.more] 112)) w.heap.size (.slice D nd cd) (.slice (O.map (fun x => (⟨x.block, x.off + 32, none⟩ : Addr))) 32 (co - 32)) (by omega)
        obtain ⟨q1, q2, q3, q4, q5⟩ := lit_two (e := 48) (w1.alloc (.cells #[.int .u8 5, .int .u32 h.epoch, .int .u32 h.batch, .int .u16 h.index, .int .u16 h.count, .int .u32 h.block, .int .u32 h.more] 112)) w.heap.size (.slice (O.map (fun x => (⟨x.block, x.off + 32, none⟩ : Addr))) 32 (co - 32)) (.slice D nd cd) (by omega)
        rw [hs] at p1 p2 p3 p4 q1 q2 q3 q4
        have pf := ((Fr.refl None_ w1).alloc (.cells #[.int .u8 5, .int .u32 h.epoch, .int .u32 h.batch, .int .u16 h.index, .int .u16 h.count, .int .u32 h.block, .int .u32 h.more] 112)).after p5 (fun _ _ h => h)
        have qf := ((Fr.refl None_ w1).alloc (.cells #[.int .u8 5, .int .u32 h.epoch, .int .u32 h.batch, .int .u16 h.index, .int .u16 h.count, .int .u32 h.block, .int .u32 h.more] 112)).after q5 (fun _ _ h => h)
        first
          | exact ⟨⟨p1⟩, ⟨p2⟩, ⟨p3⟩, ⟨pf.drew⟩⟩
          | exact ⟨⟨q2⟩, ⟨q1⟩, ⟨q4⟩, ⟨qf.drew⟩⟩
  case rest =>
    obtain ⟨H8, H9, HS0, HFC⟩ := hcut
    have HFW2 : As (Fr None_ w wc) := ⟨HF1.out.after HFC.out (fun _ _ h => h)⟩
    have HRB := As.mk (HFC.out.heap HC2.out (fun h => h))
    clear z0 z1 l0 l1 l2
    obtain ⟨A8, c8, e8, _, _, _⟩ := H8.out.rd
    obtain ⟨A9, c9, e9, _, _, _⟩ := H9.out.rd
    subst e8 e9
    go_wp2_with fail
    go_loopw [8, 9, 11, 41] (fun v5 v6 v8 v12 w' => ∃ i : Int, ∃ (vs5 vs6 : List Value), v12 = .int .i64 i ∧ 0 ≤ i ∧ i ≤ (n : Int) ∧ As (RowV 48 1 w' w.heap.size v5 (1 + i.toNat) vs5 ∧ Sls w vs5 (wd :: (l.take i.toNat).map (·.1))) ∧ As (RowV 48 1 w' w.heap.size v6 (1 + i.toNat) vs6 ∧ Sls w vs6 (wo.drop 32 :: (l.take i.toNat).map fun p => p.2.take 32)) ∧ As (∀ b, v5.ownBlock = some b → ¬ v6.ownBlock = some b) ∧ As (Fr None_ w w' ∧ w'.heap[w.heap.size + 1]? = some (.cells #[.slice none 0 0, .slice none 0 0] 157 (0, 0)))) (fun _ _ _ v12 _ => n - (intOf v12).toNat)
    case atStart => exact ⟨0, [.slice D nd cd], [.slice (O.map (fun x => (⟨x.block, x.off + 32, none⟩ : Addr))) 32 (co - 32)], rfl, by omega, by omega, ⟨H8.out, (Sls.nil w).snoc ⟨D, nd, cd, rfl, HCD.out, HD.out⟩⟩, ⟨H9.out, (Sls.nil w).snoc ⟨_, 32, co - 32, rfl, by have := HCO.out; omega, HO32.out⟩⟩, HS0, ⟨HFW2.out, HRB.out⟩⟩
    case round =>
      obtain ⟨i, vs5, vs6, rfl, hi0, hi, H5, H6, HS, HF⟩ := hrel
      obtain ⟨A5, c5, e5, _, _, _⟩ := H5.out.1.rd
      obtain ⟨A6, c6, e6, _, _, _⟩ := H6.out.1.rd
      subst e5 e6
      by_cases hlt : i < (n : Int)
      · obtain ⟨ad, D1, nd1, cd1, O1, no1, co1, rfl, k1, k2, HD1, HO1⟩ := PPs.at_ HC.out HP.out i hi0 hlt
        have hil : i.toNat < l.length := by have := HNL.out; omega
        have HLI := As.mk (HL.out (l.getD i.toNat ([], [])) (by rw [List.getD_eq_getElem?_getD, List.getElem?_eq_getElem hil]; exact List.getElem_mem hil))
        have HTK := As.mk (take_snoc ([], []) hil)
        have kk1 := HF.out.1.cell k1 (fun h => h)
        have kk2 := HF.out.1.cell k2 (fun h => h)
        have hno : (no1 : Int) = 64 ∨ (no1 : Int) = 32 := by have h1 := HO1.out.2.1; have h2 := HLI.out.2.1; omega
        clear k1 k2 hil
        go_wp2_with (first | (at_builtin; first | ((with_reducible refine appendV w.heap.size rfl _ _ 198 48 (.slice none 0 0) 1 24 rfl Tryz.underlying198 infoSl rfl (by decide) (by decide) (.slice A5 (1 + i.toNat) c5) (1 + i.toNat) vs5 #[.slice D1 nd1 cd1] (wr.heap.size + 1) (size_new _ rfl) rfl rfl rfl ?o0 (H5.out.1.none_ ((Fr.refl None_ wr).alloc _)) ?o2 ?o3 ?_); (case o0 => intro u hu; simp at hu; subst hu; rfl); (case o2 => have := HF.out.1.size; simp; omega); (case o3 => omega); intro v1 w1 hrow1 hfr1 hat1; have hb1 := hfr1.heap (heap_alloc_new wr _) (fun hb => absurd (H5.out.1.blk _ hb).2.1 (Nat.lt_irrefl _)); have r0 := cell_is (i := 0) hb1 rfl; have r1 := cell_is (i := 1) hb1 rfl; have HR1 := As.mk hrow1; have HQ1 := As.mk (((Fr.refl _ wr).alloc _).after hfr1 (fun _ _ h => h)); have HA1 := As.mk hat1; clear hrow1 hfr1 hat1 hb1; obtain ⟨A1, c1, e1, _, _, _⟩ := HR1.out.rd; subst e1) | ((with_reducible refine appendV w.heap.size rfl _ _ 198 48 (.slice none 0 0) 1 24 rfl Tryz.underlying198 infoSl rfl (by decide) (by decide) (.slice A6 (1 + i.toNat) c6) (1 + i.toNat) vs6 #[.slice O1 32 co1] _ rfl rfl rfl rfl ?o4 ((H6.out.1.fr HQ1.out (fun b hb hb2 => absurd hb (HS.out b hb2))).none_ hf2) ?o5 ?o6 ?_); (case o4 => intro u hu; simp at hu; subst hu; rfl); (case o5 => have := HF.out.1.size; have := HQ1.out.size; have := hf2.size; omega); (case o6 => omega); intro v2 w3 hrow2 hfr2 hat2; have HR2 := As.mk hrow2; have HQ2 := As.mk hfr2; have HA2 := As.mk hat2; clear hrow2 hfr2 hat2; obtain ⟨A2, c2, e2, _, _, _⟩ := HR2.out.rd; subst e2)) | (go_at_call 109; (with_reducible refine (head_calls D1 O1 nd1 cd1 no1 co1 _ hno HO1.out.1).mono ?_); rintro e w2 ⟨rfl, hf2⟩))
        have hn1 : (i + 1).toNat = i.toNat + 1 := by omega
        have hF1 : Fr None_ w w1 := HF.out.1.after HQ1.out (fun j hj hb => absurd hj (by have := (H5.out.1.blk j hb).1; omega))
        have hF2 : Fr None_ w w2 := hF1.after hf2 (fun _ _ h => h)
        have h6 := (H6.out.1.fr HQ1.out (fun b hb hb2 => absurd hb (HS.out b hb2))).none_ hf2
        have hF3 : Fr None_ w w3 := hF2.after HQ2.out (fun j hj hb => absurd hj (by have := (h6.blk j hb).1; omega))
        have h12 := HR1.out.none_ hf2
        have hsep : ∀ b, (Value.slice A1 (1 + i.toNat + 1) c1).ownBlock = some b → ¬ (Value.slice A6 (1 + i.toNat) c6).ownBlock = some b := by
          intro b hb hb6
          rcases HA1.out with h1 | ⟨b', h1, h2⟩
          · exact HS.out b (h1 ▸ hb) hb6
          · rw [hb] at h1
            injection h1 with h1
            have := (H6.out.1.blk b hb6).2.1
            simp at h2
            omega
        have hb2 := hf2.heap (HQ1.out.heap HF.out.2 (RowV.ne H5.out.1 HF.out.2 (by decide))) (fun h => h)
        refine ⟨⟨i + 1, vs5 ++ [.slice D1 nd1 cd1], vs6 ++ [.slice O1 32 co1], rfl, by omega, by omega, ⟨?_, ?_⟩, ⟨?_, ?_⟩, ⟨?_⟩, ⟨hF3, ?_⟩⟩, by simp [intOf]; omega⟩
        · rw [hn1]
          exact h12.fr HQ2.out hsep
        · rw [hn1, HTK.out, List.map_append]
          exact H5.out.2.snoc ⟨D1, nd1, cd1, rfl, HD1.out⟩
        · rw [hn1]
          exact HR2.out
        · rw [hn1, HTK.out, List.map_append]
          refine H6.out.2.snoc ⟨O1, 32, co1, rfl, by have := HO1.out.1; omega, HO1.out.2.take 32 (by omega)⟩
        · intro b hb hb2
          rcases HA2.out with h1 | ⟨b', h1, h2⟩
          · exact hsep b hb (h1 ▸ hb2)
          · rw [hb2] at h1
            injection h1 with h1
            have := (h12.blk b hb).2.1
            omega
        · exact HQ2.out.heap hb2 (RowV.ne h6 hb2 (by decide))
      · have hin : i.toNat = n := by omega
        rw [hin] at H5 H6 ⊢
        have hsl : ∀ (v : Value) (Ax : Option Addr) (cx : Nat) (vsx : List Value) (ls : List (List Int)), v = .slice Ax (1 + n) cx → RowV 48 1 wr w.heap.size v (1 + n) vsx → Sls w vsx ls → RdS .u8 wr Ax (1 + n) ls := by
          intro v Ax cx vsx ls ev h1 h2
          obtain ⟨A', c', e, _, h3, _⟩ := h1.rd
          rw [e] at ev
          injection ev with e1 e2 e3
          subst e1
          have h4 := h3.out
          rw [Nat.mul_one] at h4
          exact h4.sls (h2.none_ HF.out.1) (by omega)
        have htk : l.take n = l := List.take_of_length_le (by have := HNL.out; omega)
        have h5 := hsl _ A5 c5 vs5 _ rfl H5.out.1 H5.out.2
        have h6 := hsl _ A6 c6 vs6 _ rfl H6.out.1 H6.out.2
        rw [htk] at h5 h6
        have hlen5 : ∀ x ∈ wd :: l.map (·.1), x.length = N := by
          intro x hx
          rcases List.mem_cons.1 hx with rfl | hx
          · exact HWL.out
          · obtain ⟨p, hp, rfl⟩ := List.mem_map.1 hx
            exact (HL.out p hp).1
        have hlen6 : ∀ x ∈ wo.drop 32 :: l.map (fun p => p.2.take 32), x.length = 32 := by
          intro x hx
          rcases List.mem_cons.1 hx with rfl | hx
          · rw [List.length_drop, HLO.out]
          · obtain ⟨p, hp, rfl⟩ := List.mem_map.1 hx
            rw [List.length_take, (HL.out p hp).2.1]
            rfl
        have HX5 : As (∀ w', Fr None_ wr w' → Calls Tryz.prog 110 #[.slice A5 (1 + n) c5] w' fun e w'' => ∃ v, e = .returned v ∧ Row 5 .u8 w'' w'.heap.size v (missD N wd l) ∧ Fr None_ w' w'') := ⟨fun w' hf => Xor_calls N _ A5 (1 + n) c5 w' (RdS.none_ h5 hf) hlen5 (by have := HN.out; omega) (by omega)⟩
        have HX6 : As (∀ w', Fr None_ wr w' → Calls Tryz.prog 110 #[.slice A6 (1 + n) c6] w' fun e w'' => ∃ v, e = .returned v ∧ Row 5 .u8 w'' w'.heap.size v (xorAll 32 (wo.drop 32 :: l.map fun p => p.2.take 32)) ∧ Fr None_ w' w'') := ⟨fun w' hf => Xor_calls 32 _ A6 (1 + n) c6 w' (RdS.none_ h6 hf) hlen6 (by decide) (by omega)⟩
        have HMO : As (missO wo l = xorAll 32 (wo.drop 32 :: l.map fun p => p.2.take 32) ++ List.replicate 32 0) := ⟨rfl⟩
        have HR1 : As (InR 256 (missD N wd l)) := ⟨xor_range _ _⟩
        have HR2 : As (InR 256 (xorAll 32 (wo.drop 32 :: l.map fun p => p.2.take 32))) := ⟨xor_range _ _⟩
        have HXL : As ((xorAll 32 (wo.drop 32 :: l.map fun p => p.2.take 32)).length = 32) := ⟨xorAll_len _ _ _ (by simp) hlen6⟩
        clear h5 h6 hsl hlen5 hlen6 htk hin
        generalize hmd : missD N wd l = md at *
        generalize hmo : missO wo l = mo at *
        have HMD := As.mk hmd
        have HMO2 := As.mk hmo
        clear hmd hmo
        generalize xorAll 32 (wo.drop 32 :: l.map fun p => p.2.take 32) = bs at *
        have HOP2 := As.mk (fun (D1 O1 : Option Addr) (nd1 cd1 no1 co1 : Nat) (w' : World) (h1 : Rd .u8 w' O1 no1 mo) (h2 : Rd .u8 w' D1 nd1 md) (h3 : no1 ≤ co1) (h4 : nd1 ≤ cd1) => Open.Open_calls O1 D1 no1 co1 nd1 cd1 mo md w' h1 h2 (by rw [HMO.out]; exact Go.Proofs.YteofgpaceeibpaaGreat.Seal.inR_append HR2.out (fun x hx => by obtain ⟨_, rfl⟩ := List.mem_replicate.1 hx; decide)) HR1.out h3 h4)
        have hres := HRES.out
        rw [hres] at HOP2
        unfold Head.vals at HOP2
        dsimp only at HOP2
        clear hres
        go_wp2_with fail
        ((with_reducible refine (HX5.out _ (Fr.refl _ _)).mono ?_); rintro e w4 ⟨v4, rfl, hrow4, hf4⟩)
        have HRW4 := As.mk hrow4
        have HF4 := As.mk hf4
        clear hrow4 hf4
        obtain ⟨A4, n4, c4, e4, hm4, hd4, _⟩ := HRW4.out.rd
        subst e4
        go_wp2_with fail
        ((with_reducible refine (HX6.out _ HF4.out).mono ?_); rintro e w5 ⟨v5, rfl, hrow5, hf5⟩)
        have HRW5 := As.mk hrow5
        have HF5 := As.mk hf5
        clear hrow5 hf5
        obtain ⟨A5', n5, c5', e5', hm5, hd5, _⟩ := HRW5.out.rd
        subst e5'
        go_wp2_with (first | (at_builtin; (with_reducible refine appendZeros w4.heap.size rfl _ _ 48 3 5 .u8 .i64 rfl Tryz.underlying48 Tryz.underlying3 infoByte (.slice A5' n5 c5') bs 32 rfl rfl HRW5.out ?z1 ?z2 (by decide) (by decide) HF5.out.size ?_); (case z1 => have := HXL.out; omega); (case z2 => have := HXL.out; omega); intro v6 w6 hrow6 hfr6 hat6; have HRW6 := As.mk hrow6; have HF6 := As.mk (row_grow HRW5.out HF5.out hfr6); clear hrow6 hfr6 hat6; obtain ⟨A6', n6, c6', e6', hm6, hd6, _⟩ := HRW6.out.rd; subst e6') | (go_at_call 42; (with_reducible refine (HOP2.out A4 A6' n4 c4 n6 c6' _ ?y1 ?y2 hm6.out hm4.out).mono ?_); (case y1 => rw [HMO.out]; exact hd6.out); (case y2 => exact hd4.out.none_ HF6.out); rintro e w7 ⟨rfl, hf7⟩; have hrb := hf7.heap (HF6.out.heap (HF4.out.heap HF.out.2 (fun h => h)) (fun h => h)) (fun h => h); have x0 := cell_is (i := 0) hrb rfl; have x1 := cell_is (i := 1) hrb rfl; have y0 := free_of (i := 0) hrb; have y1 := free_of (i := 1) hrb; have HRB7 := As.mk hrb; have lrb : w.heap.size + 1 < w7.heap.size := (Array.getElem?_eq_some_iff.1 hrb).1; have HF7 := As.mk hf7; clear hf7 hrb))
        have hz := HF.out.1.size
        have hz4 := HF4.out.size
        have hr4 := (HRW4.out.none_ HF6.out).none_ HF7.out
        have hr6 := HRW6.out.none_ HF7.out
        have hset : ∀ (u v : Value) (o : Obj), Fr (fun b => b = w.heap.size + 1) w7 (((w7.setCell ⟨w.heap.size + 1, 0, none⟩ u).setCell ⟨w.heap.size + 1, 1, none⟩ v).alloc o) := fun u v o => (((Fr.refl (fun b => b = w.heap.size + 1) w7).setCell (p := ⟨w.heap.size + 1, 0, none⟩) (fun _ => rfl) u).setCell (p := ⟨w.heap.size + 1, 1, none⟩) (fun _ => rfl) v).alloc o
        have hF7 : Fr None_ w w7 := ((HF.out.1.after HF4.out (fun _ _ h => h)).after HF6.out (fun _ _ h => h)).after HF7.out (fun _ _ h => h)
        refine bodyPost_ret (v := .tuple #[.agg #[.slice A4 n4 c4, .slice A6' n6 c6'], .int .i64 0]) (by simp [results, Tryz.results108, go_sem, x0, x1, y0, y1, lrb]) rfl ⟨_, _, rfl, ?_, ?_, ?_⟩
        · rw [HMD.out]
          exact Row.fr (S := fun b => b = w.heap.size + 1) (hr4.lower hz) (hset _ _ _) (fun b hbo e => Row.ne hr4 HRB7.out (by decide) (e ▸ hbo))
        · rw [HMO2.out, HMO.out]
          exact Row.fr (S := fun b => b = w.heap.size + 1) (hr6.lower (by omega)) (hset _ _ _) (fun b hbo e => Row.ne hr6 HRB7.out (by decide) (e ▸ hbo))
        · exact ((hF7.setCell (p := ⟨w.heap.size + 1, 0, none⟩) (fun hl => absurd hl (by simp)) _).setCell (p := ⟨w.heap.size + 1, 1, none⟩) (fun hl => absurd hl (by simp)) _).alloc _
end Go.Proofs.YteofgpaceeibpaaGreat.Miss

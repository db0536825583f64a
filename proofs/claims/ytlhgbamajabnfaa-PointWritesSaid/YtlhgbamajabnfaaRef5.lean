/- The reference's seal and open of a record. -/
import Derived.Test.YtlhgbamajabnfaaSumR
import Derived.Test.YtlhgbamajabnfaaOpen
namespace Go.Proofs.Ytlhgbamajabnfaa.Ref5
open Go.RowKit Go.Proofs.Ytlhgbamajabnfaa.Gab Go.Proofs.Ytlhgbamajabnfaa.Wr Go.Proofs.Ytlhgbamajabnfaa.Sum Go.Proofs.Ytlhgbamajabnfaa.Fields Go.Proofs.Ytlhgbamajabnfaa.Seal Go.Proofs.Ytlhgbamajabnfaa.Ref Go.Proofs.Ytlhgbamajabnfaa.SumR Go.Proofs.Ytlhgbamajabnfaa.Open
set_option linter.unusedVariables false
set_option linter.unusedSimpArgs false

def rvals (h : Head) : Array Value := #[.int .i64 h.kind, .int .i64 h.epoch, .int .i64 h.batch, .int .i64 h.index, .int .i64 h.count, .int .i64 h.block, .int .i64 h.more]
theorem row_grow' {e : TypeId} {k : IntKind} {w wr w1 : World} {b : Nat} {v : Value} {xs : List Int} (h : Row e k wr b v xs) (hf : Fr None_ w wr) (hb : w.heap.size = b) (h1 : Fr (fun b => v.ownBlock = some b) wr w1) : Fr None_ w w1 := by
  subst hb
  exact row_grow h hf h1
theorem rd_two (w : World) (a b : Int) (e : TypeId) : Rd .u8 (w.alloc (.cells #[.int .u8 a, .int .u8 b] e)) (some ⟨w.heap.size, 0, none⟩) 2 [a, b] := by
  have h := heap_alloc_new w (.cells #[.int .u8 a, .int .u8 b] e)
  generalize w.alloc (.cells #[.int .u8 a, .int .u8 b] e) = W at *
  refine ⟨rfl, by decide, fun _ => ⟨_, rfl, fun j hj => ?_⟩⟩
  rw [add_at]
  match j, hj with
  | 0, _ => simp [World.cell?, h]
  | 1, _ => simp [World.cell?, h]
theorem seal_eq (h : Head) (data beside : List Int) : [] ++ le 22356 2 ++ [h.kind, 0] ++ le h.epoch 4 ++ le h.batch 4 ++ le h.index 2 ++ le h.count 2 ++ le h.block 4 ++ le h.more 4 = h.bytes ∨ ¬ h.Ok := by
  by_cases hk : h.Ok
  · left
    have := hk.kind
    simp [Head.bytes, les, le]
    omega
  · exact .inr hk

set_option maxHeartbeats 4000000 in
set_option maxRecDepth 100000 in
theorem Seal_calls (h : Head) (data beside : List Int) (A B : Option Addr) (n m c cb : Nat) (w : World) (hh : h.Ok) (hA : Rd .u8 w A n data) (hB : Rd .u8 w B m beside) (hc : n ≤ c) (hcb : m ≤ cb) (hr : InR 256 data) (hrb : InR 256 beside) (hn : n ≤ 1073741824) (hm : m ≤ 1073741824) :
    Calls Try.prog 51 #[.agg (rvals h), .slice A n c, .slice B m cb] w fun e w' => ∃ v, e = .returned v ∧ Row 5 .u8 w' w.heap.size v (sealOf h data beside) ∧ Fr None_ w w' := by
  have HE : As (h.bytes = [] ++ le 22356 2 ++ [h.kind, 0] ++ le h.epoch 4 ++ le h.batch 4 ++ le h.index 2 ++ le h.count 2 ++ le h.block 4 ++ le h.more 4) := ⟨by rcases seal_eq h data beside with e | e; exact e.symm; exact absurd hh e⟩
  have HA := As.mk hA
  have htk : beside.take (min m 32) = beside.take 32 := by
    rcases Nat.lt_or_ge 32 m with h | h
    · rw [show min m 32 = 32 by omega]
    · rw [List.take_of_length_le (by have := hB.1; omega), List.take_of_length_le (by have := hB.1; omega)]
  have HB : As (Rd .u8 w B (min m 32) (beside.take 32)) := ⟨by rw [← htk]; exact hB.take (min m 32) (by omega)⟩
  have HBL := As.mk hB.1
  have HAL := As.mk hA.1
  have HRA := As.mk hr
  have HRB := As.mk hrb
  have HH := As.mk (bytes_range h)
  obtain ⟨fk0, fk1⟩ := hh.kind
  obtain ⟨fe0, fe1⟩ := hh.epoch
  obtain ⟨fb0, fb1⟩ := hh.batch
  obtain ⟨fi0, fi1⟩ := hh.index
  obtain ⟨fc0, fc1⟩ := hh.count
  obtain ⟨fl0, fl1⟩ := hh.block
  obtain ⟨fm0, fm1⟩ := hh.more
  have HT : As (sealOf h data beside = padTo (h.bytes ++ le (sumOf [h.bytes, data, tailOf beside]) 4) 32 ++ tailOf beside ∧ tailOf beside = padTo (beside.take 32) 32) := ⟨rfl, rfl⟩
  have HG : As (sumOf [h.bytes, data, tailOf beside] = sumOf [h.bytes ++ data ++ tailOf beside]) := ⟨by rw [sum_one]; simp⟩
  clear hA hB hr hrb hh htk
  generalize h.bytes = hb at *
  generalize sealOf h data beside = res at *
  obtain ⟨kind, epoch, batch, index, count, block, more⟩ := h
  unfold rvals
  simp only at *
  have hw0 : As (Fr None_ w (w.alloc (.cells #[.int .i64 kind, .int .i64 epoch, .int .i64 batch, .int .i64 index, .int .i64 count, .int .i64 block, .int .i64 more] 47)) ∧ (w.alloc (.cells #[.int .i64 kind, .int .i64 epoch, .int .i64 batch, .int .i64 index, .int .i64 count, .int .i64 block, .int .i64 more] 47)).heap[w.heap.size]? = some (.cells #[.int .i64 kind, .int .i64 epoch, .int .i64 batch, .int .i64 index, .int .i64 count, .int .i64 block, .int .i64 more] 47) ∧ (w.alloc (.cells #[.int .i64 kind, .int .i64 epoch, .int .i64 batch, .int .i64 index, .int .i64 count, .int .i64 block, .int .i64 more] 47)).heap.size = w.heap.size + 1) := ⟨(Fr.refl _ w).alloc _, heap_alloc_new w _, size_new _ rfl⟩
  rcases Nat.lt_or_ge 32 m with hm32 | hm32
  all_goals
    first | rw [show min m 32 = 32 by omega] at HB | rw [show min m 32 = m by omega] at HB
    go_enter Try.func51, Try.ntmps51
    have HF0 : As (Fr None_ (w.alloc (.cells #[.int .i64 kind, .int .i64 epoch, .int .i64 batch, .int .i64 index, .int .i64 count, .int .i64 block, .int .i64 more] 47)) (w.alloc (.cells #[.int .i64 kind, .int .i64 epoch, .int .i64 batch, .int .i64 index, .int .i64 count, .int .i64 block, .int .i64 more] 47))) := ⟨Fr.refl _ _⟩
    have HR0 : As (Row 5 .u8 (w.alloc (.cells #[.int .i64 kind, .int .i64 epoch, .int .i64 batch, .int .i64 index, .int .i64 count, .int .i64 block, .int .i64 more] 47)) (w.heap.size + 1) (.slice none 0 0) []) := ⟨Row.nil _ _ _ _⟩
    go_wp2_with fail
    ((with_reducible refine (Bytes_calls 22356 2 _ (by decide) (by decide) (by decide) (by decide)).mono ?_); rintro e x0 ⟨r, rfl, hr, hf⟩)
    rw [show Int.toNat 2 = 2 from rfl] at hr
    have HX0 := As.mk (HR0.out.none_ hf)
    have HY0 := As.mk (HF0.out.after hf (fun _ _ h => h))
    obtain ⟨A0, n0, c0, e0, hcc0, HD0, _⟩ := hr.rd
    subst e0
    have HL0 := As.mk HD0.out.1
    clear hr hf hcc0
    go_wp2_with (at_builtin; first | ((with_reducible refine appendRow (w.heap.size + 1) rfl _ _ 23 5 .u8 1 rfl Try.underlying23 infoByte (by decide) (.slice none 0 0) [] (le 22356 2) A0 n0 _ rfl rfl HX0.out HD0.out ?c0 ?c1 ?_); (case c0 => have := HY0.out.size; have := hw0.out.2.2; omega); (case c1 => have := HL0.out; rw [le_length] at this; simp only [List.length_append, List.length_nil, List.length_cons, le_length]; omega); intro v1 w1 hrow1 hfr1 hat1; have HR1 := As.mk hrow1; have HF1 := As.mk (row_grow' HX0.out HY0.out hw0.out.2.2 hfr1); clear hrow1 hfr1 hat1; have ck1 : w1.cell? ⟨w.heap.size, 0, none⟩ = some (.int .i64 kind) := (by have h := HF1.out.heap hw0.out.2.1 (fun h => h); simp [World.cell?, h])) | (have HX1 := As.mk (HR1.out.none_ ((Fr.refl None_ w1).alloc (.cells #[.int .u8 kind, .int .u8 0] 5))); have HY1 := As.mk (HF1.out.alloc (.cells #[.int .u8 kind, .int .u8 0] 5)); have HD1 := As.mk (rd_two w1 kind 0 5); (with_reducible refine appendRow (w.heap.size + 1) rfl _ _ 23 5 .u8 1 rfl Try.underlying23 infoByte (by decide) v1 ([] ++ le 22356 2) [kind, 0] _ 2 _ rfl rfl HX1.out HD1.out ?c0 ?c1 ?_); (case c0 => have := HY1.out.size; have := hw0.out.2.2; omega); (case c1 => simp only [List.length_append, List.length_nil, List.length_cons, le_length]; omega); intro v2 w2 hrow1 hfr1 hat1; have HR2 := As.mk hrow1; have HF2 := As.mk (row_grow' HX1.out HY1.out hw0.out.2.2 hfr1); clear hrow1 hfr1 hat1; have ck2 : w2.cell? ⟨w.heap.size, 1, none⟩ = some (.int .i64 epoch) := (by have h := HF2.out.heap hw0.out.2.1 (fun h => h); simp [World.cell?, h])))
    go_wp2_with fail
    ((with_reducible refine (Bytes_calls epoch 4 _ fe0 (by omega) (by decide) (by decide)).mono ?_); rintro e x2 ⟨r, rfl, hr, hf⟩)
    rw [show Int.toNat 4 = 4 from rfl] at hr
    have HX2 := As.mk (HR2.out.none_ hf)
    have HY2 := As.mk (HF2.out.after hf (fun _ _ h => h))
    obtain ⟨A2, n2, c2, e2, hcc2, HD2, _⟩ := hr.rd
    subst e2
    have HL2 := As.mk HD2.out.1
    clear hr hf hcc2 ck2
    go_wp2_with (at_builtin; (with_reducible refine appendRow (w.heap.size + 1) rfl _ _ 23 5 .u8 1 rfl Try.underlying23 infoByte (by decide) v2 ([] ++ le 22356 2 ++ [kind, 0]) (le epoch 4) A2 n2 _ rfl rfl HX2.out HD2.out ?c0 ?c1 ?_); (case c0 => have := HY2.out.size; have := hw0.out.2.2; omega); (case c1 => have := HL2.out; rw [le_length] at this; simp only [List.length_append, List.length_nil, List.length_cons, le_length]; omega); intro v3 w3 hrow1 hfr1 hat1; have HR3 := As.mk hrow1; have HF3 := As.mk (row_grow' HX2.out HY2.out hw0.out.2.2 hfr1); clear hrow1 hfr1 hat1; have ck3 : w3.cell? ⟨w.heap.size, 2, none⟩ = some (.int .i64 batch) := (by have h := HF3.out.heap hw0.out.2.1 (fun h => h); simp [World.cell?, h]))
    go_wp2_with fail
    ((with_reducible refine (Bytes_calls batch 4 _ fb0 (by omega) (by decide) (by decide)).mono ?_); rintro e x3 ⟨r, rfl, hr, hf⟩)
    rw [show Int.toNat 4 = 4 from rfl] at hr
    have HX3 := As.mk (HR3.out.none_ hf)
    have HY3 := As.mk (HF3.out.after hf (fun _ _ h => h))
    obtain ⟨A3, n3, c3, e3, hcc3, HD3, _⟩ := hr.rd
    subst e3
    have HL3 := As.mk HD3.out.1
    clear hr hf hcc3 ck3
    go_wp2_with (at_builtin; (with_reducible refine appendRow (w.heap.size + 1) rfl _ _ 23 5 .u8 1 rfl Try.underlying23 infoByte (by decide) v3 ([] ++ le 22356 2 ++ [kind, 0] ++ le epoch 4) (le batch 4) A3 n3 _ rfl rfl HX3.out HD3.out ?c0 ?c1 ?_); (case c0 => have := HY3.out.size; have := hw0.out.2.2; omega); (case c1 => have := HL3.out; rw [le_length] at this; simp only [List.length_append, List.length_nil, List.length_cons, le_length]; omega); intro v4 w4 hrow1 hfr1 hat1; have HR4 := As.mk hrow1; have HF4 := As.mk (row_grow' HX3.out HY3.out hw0.out.2.2 hfr1); clear hrow1 hfr1 hat1; have ck4 : w4.cell? ⟨w.heap.size, 3, none⟩ = some (.int .i64 index) := (by have h := HF4.out.heap hw0.out.2.1 (fun h => h); simp [World.cell?, h]))
    go_wp2_with fail
    ((with_reducible refine (Bytes_calls index 2 _ fi0 (by omega) (by decide) (by decide)).mono ?_); rintro e x4 ⟨r, rfl, hr, hf⟩)
    rw [show Int.toNat 2 = 2 from rfl] at hr
    have HX4 := As.mk (HR4.out.none_ hf)
    have HY4 := As.mk (HF4.out.after hf (fun _ _ h => h))
    obtain ⟨A4, n4, c4, e4, hcc4, HD4, _⟩ := hr.rd
    subst e4
    have HL4 := As.mk HD4.out.1
    clear hr hf hcc4 ck4
    go_wp2_with (at_builtin; (with_reducible refine appendRow (w.heap.size + 1) rfl _ _ 23 5 .u8 1 rfl Try.underlying23 infoByte (by decide) v4 ([] ++ le 22356 2 ++ [kind, 0] ++ le epoch 4 ++ le batch 4) (le index 2) A4 n4 _ rfl rfl HX4.out HD4.out ?c0 ?c1 ?_); (case c0 => have := HY4.out.size; have := hw0.out.2.2; omega); (case c1 => have := HL4.out; rw [le_length] at this; simp only [List.length_append, List.length_nil, List.length_cons, le_length]; omega); intro v5 w5 hrow1 hfr1 hat1; have HR5 := As.mk hrow1; have HF5 := As.mk (row_grow' HX4.out HY4.out hw0.out.2.2 hfr1); clear hrow1 hfr1 hat1; have ck5 : w5.cell? ⟨w.heap.size, 4, none⟩ = some (.int .i64 count) := (by have h := HF5.out.heap hw0.out.2.1 (fun h => h); simp [World.cell?, h]))
    go_wp2_with fail
    ((with_reducible refine (Bytes_calls count 2 _ fc0 (by omega) (by decide) (by decide)).mono ?_); rintro e x5 ⟨r, rfl, hr, hf⟩)
    rw [show Int.toNat 2 = 2 from rfl] at hr
    have HX5 := As.mk (HR5.out.none_ hf)
    have HY5 := As.mk (HF5.out.after hf (fun _ _ h => h))
    obtain ⟨A5, n5, c5, e5, hcc5, HD5, _⟩ := hr.rd
    subst e5
    have HL5 := As.mk HD5.out.1
    clear hr hf hcc5 ck5
    go_wp2_with (at_builtin; (with_reducible refine appendRow (w.heap.size + 1) rfl _ _ 23 5 .u8 1 rfl Try.underlying23 infoByte (by decide) v5 ([] ++ le 22356 2 ++ [kind, 0] ++ le epoch 4 ++ le batch 4 ++ le index 2) (le count 2) A5 n5 _ rfl rfl HX5.out HD5.out ?c0 ?c1 ?_); (case c0 => have := HY5.out.size; have := hw0.out.2.2; omega); (case c1 => have := HL5.out; rw [le_length] at this; simp only [List.length_append, List.length_nil, List.length_cons, le_length]; omega); intro v6 w6 hrow1 hfr1 hat1; have HR6 := As.mk hrow1; have HF6 := As.mk (row_grow' HX5.out HY5.out hw0.out.2.2 hfr1); clear hrow1 hfr1 hat1; have ck6 : w6.cell? ⟨w.heap.size, 5, none⟩ = some (.int .i64 block) := (by have h := HF6.out.heap hw0.out.2.1 (fun h => h); simp [World.cell?, h]))
    go_wp2_with fail
    ((with_reducible refine (Bytes_calls block 4 _ fl0 (by omega) (by decide) (by decide)).mono ?_); rintro e x6 ⟨r, rfl, hr, hf⟩)
    rw [show Int.toNat 4 = 4 from rfl] at hr
    have HX6 := As.mk (HR6.out.none_ hf)
    have HY6 := As.mk (HF6.out.after hf (fun _ _ h => h))
    obtain ⟨A6, n6, c6, e6, hcc6, HD6, _⟩ := hr.rd
    subst e6
    have HL6 := As.mk HD6.out.1
    clear hr hf hcc6 ck6
    go_wp2_with (at_builtin; (with_reducible refine appendRow (w.heap.size + 1) rfl _ _ 23 5 .u8 1 rfl Try.underlying23 infoByte (by decide) v6 ([] ++ le 22356 2 ++ [kind, 0] ++ le epoch 4 ++ le batch 4 ++ le index 2 ++ le count 2) (le block 4) A6 n6 _ rfl rfl HX6.out HD6.out ?c0 ?c1 ?_); (case c0 => have := HY6.out.size; have := hw0.out.2.2; omega); (case c1 => have := HL6.out; rw [le_length] at this; simp only [List.length_append, List.length_nil, List.length_cons, le_length]; omega); intro v7 w7 hrow1 hfr1 hat1; have HR7 := As.mk hrow1; have HF7 := As.mk (row_grow' HX6.out HY6.out hw0.out.2.2 hfr1); clear hrow1 hfr1 hat1; have ck7 : w7.cell? ⟨w.heap.size, 6, none⟩ = some (.int .i64 more) := (by have h := HF7.out.heap hw0.out.2.1 (fun h => h); simp [World.cell?, h]))
    go_wp2_with fail
    ((with_reducible refine (Bytes_calls more 4 _ fm0 (by omega) (by decide) (by decide)).mono ?_); rintro e x7 ⟨r, rfl, hr, hf⟩)
    rw [show Int.toNat 4 = 4 from rfl] at hr
    have HX7 := As.mk (HR7.out.none_ hf)
    have HY7 := As.mk (HF7.out.after hf (fun _ _ h => h))
    obtain ⟨A7, n7, c7, e7, hcc7, HD7, _⟩ := hr.rd
    subst e7
    have HL7 := As.mk HD7.out.1
    clear hr hf hcc7 ck7
    go_wp2_with (at_builtin; (with_reducible refine appendRow (w.heap.size + 1) rfl _ _ 23 5 .u8 1 rfl Try.underlying23 infoByte (by decide) v7 ([] ++ le 22356 2 ++ [kind, 0] ++ le epoch 4 ++ le batch 4 ++ le index 2 ++ le count 2 ++ le block 4) (le more 4) A7 n7 _ rfl rfl HX7.out HD7.out ?c0 ?c1 ?_); (case c0 => have := HY7.out.size; have := hw0.out.2.2; omega); (case c1 => have := HL7.out; rw [le_length] at this; simp only [List.length_append, List.length_nil, List.length_cons, le_length]; omega); intro v8 w8 hrow1 hfr1 hat1; have HR8 := As.mk hrow1; have HF8 := As.mk (row_grow' HX7.out HY7.out hw0.out.2.2 hfr1); clear hrow1 hfr1 hat1)
    rw [← HE.out] at HR8
    have HHL : As (hb.length = 24) := ⟨by rw [HE.out]; simp [le_length]⟩
    have HB8 := As.mk (HB.out.none_ (hw0.out.1.after HF8.out (fun _ _ h => h)))
    go_wp2_with fail
    have HP : Calls Try.prog 74 #[.slice B _ cb, .int .i64 32] w8 _ := Pad_calls B _ cb (beside.take 32) 32 _ (HB8.out) (by omega) (by omega) (by decide)
    ((with_reducible refine HP.mono ?_); rintro e x8 ⟨tv, rfl, hr, hf⟩)
    clear HP
    rw [← HT.out.2] at hr
    have HTR := As.mk (hr.lower (base' := w.heap.size + 1) (by have := HF8.out.size; have := hw0.out.2.2; omega))
    have HR9 := As.mk (HR8.out.none_ hf)
    have HF9 := As.mk (HF8.out.after hf (fun _ _ h => h))
    have HTL : As ((tailOf beside).length = 32) := ⟨by rw [HT.out.2, padTo_length]; simp; omega⟩
    obtain ⟨At, nt, ct, et, hct, HTD, hto⟩ := HTR.out.rd
    have HTB : As (∀ ad, At = some ad → w8.heap.size ≤ ad.block ∧ ad.block < x8.heap.size) := ⟨fun ad ea => by have := hr.blk _ (hto.out ad ea); exact ⟨this.1, this.2.1⟩⟩
    have HFB : As (∀ b, v8.ownBlock = some b → b < w8.heap.size) := ⟨fun b hb => (HR8.out.blk b hb).2.1⟩
    have HNT := As.mk HTD.out.1
    have HTX := As.mk (tail_range HRB.out)
    obtain ⟨Af, nf, cf, ef, hcf, HFD, _⟩ := HR9.out.rd
    have HNF := As.mk HFD.out.1
    subst et
    subst ef
    clear hr hf hct hcf hto
    go_wp2_with (at_builtin; first
      | ((with_reducible refine appendRow x8.heap.size rfl _ _ 23 5 .u8 1 rfl Try.underlying23 infoByte (by decide) (.slice none 0 0) [] hb Af nf cf rfl rfl (Row.nil _ _ _ _) HFD.out (Nat.le_refl _) ?c1 ?_); (case c1 => have := HNF.out; have := HHL.out; simp only [List.length_nil]; omega); intro va y1 hrow1 hfr1 hat1; have GA1 := As.mk hrow1; have GF1 := As.mk (Fr.mono (T := None_) hfr1 (fun i _ h => by cases h)); clear hrow1 hfr1 hat1)
      | (have GX1 := As.mk ((HA.out.none_ hw0.out.1).none_ (HF9.out.after GF1.out (fun _ _ h => h))); (with_reducible refine appendRow x8.heap.size rfl _ _ 23 5 .u8 1 rfl Try.underlying23 infoByte (by decide) va ([] ++ hb) data A n c rfl rfl GA1.out GX1.out ?c0 ?c1 ?_); (case c0 => have := GF1.out.size; omega); (case c1 => have := HHL.out; simp only [List.length_append, List.length_nil]; omega); intro vb y2 hrow1 hfr1 hat1; have GA2 := As.mk hrow1; have GF2 := As.mk (row_grow GA1.out GF1.out hfr1); clear hrow1 hfr1 hat1)
      | (have GX2 := As.mk (HTD.out.none_ GF2.out); (with_reducible refine appendRow x8.heap.size rfl _ _ 23 5 .u8 1 rfl Try.underlying23 infoByte (by decide) vb ([] ++ hb ++ data) (tailOf beside) At nt ct rfl rfl GA2.out GX2.out ?c0 ?c1 ?_); (case c0 => have := GF2.out.size; omega); (case c1 => have := HHL.out; have := HAL.out; have := HTL.out; have := HNT.out; simp only [List.length_append, List.length_nil]; omega); intro vc y3 hrow1 hfr1 hat1; have GA3 := As.mk hrow1; have GF3 := As.mk (row_grow GA2.out GF2.out hfr1); clear hrow1 hfr1 hat1))
    obtain ⟨Ac, nc, cc, ec, hcc, GD, _⟩ := GA3.out.rd
    subst ec
    clear hcc
    have GR : As (InR 256 ([] ++ hb ++ data ++ tailOf beside)) := ⟨by rw [List.nil_append]; exact inR_append (inR_append HH.out HRA.out) HTX.out⟩
    go_wp2_with fail
    ((with_reducible refine (SumR.Of_calls _ Ac nc cc _ GD.out GR.out).mono ?_); rintro e y4 ⟨rfl, rfl⟩)
    rw [List.nil_append, ← HG.out]
    have hsr := sum_range [hb, data, tailOf beside]
    have HS9 := As.mk (HR9.out.none_ GF3.out)
    have HK9 := As.mk (HF9.out.after GF3.out (fun _ _ h => h))
    generalize sumOf [hb, data, tailOf beside] = sm at *
    obtain ⟨s0, s1⟩ := hsr
    go_wp2_with fail
    ((with_reducible refine (Bytes_calls sm 4 _ s0 (by omega) (by decide) (by decide)).mono ?_); rintro e y5 ⟨r, rfl, hr, hf⟩)
    rw [show Int.toNat 4 = 4 from rfl] at hr
    have HS10 := As.mk (HS9.out.none_ hf)
    have HK10 := As.mk (HK9.out.after hf (fun _ _ h => h))
    have HT5 := As.mk ((HTD.out.none_ GF3.out).none_ hf)
    have HSZ : As (x8.heap.size ≤ y5.heap.size) := ⟨Nat.le_trans GF3.out.size hf.size⟩
    obtain ⟨Ar, nr, cr, er, hcr, HRD, _⟩ := hr.rd
    subst er
    have HNR := As.mk HRD.out.1
    clear hr hf hcr
    go_wp2_with (at_builtin; (with_reducible refine appendRow (w.heap.size + 1) rfl _ _ 23 5 .u8 1 rfl Try.underlying23 infoByte (by decide) (.slice Af nf cf) hb (le sm 4) Ar nr cr rfl rfl HS10.out HRD.out ?c0 ?c1 ?_); (case c0 => have := HK10.out.size; have := hw0.out.2.2; omega); (case c1 => have := HHL.out; have := HNR.out; rw [le_length] at this; omega); intro vd y6 hrow1 hfr1 hat1; have HS11 := As.mk hrow1; have HK11 := As.mk (row_grow' HS10.out HK10.out hw0.out.2.2 hfr1); have HT6 := As.mk (HT5.out.fr hfr1 (fun ad e _ hb => by have := HFB.out _ hb; have := HTB.out ad e; omega)); have HVD := As.mk hat1; clear hrow1 hfr1 hat1)
    have HZ : Calls Try.prog 32 #[.int .i64 4] y6 _ := Zeros_calls 4 y6 (by decide)
    ((with_reducible refine HZ.mono ?_); rintro e y7 ⟨r, rfl, hr, hf⟩)
    have HS12 := As.mk (HS11.out.none_ hf)
    have HK12 := As.mk (HK11.out.after hf (fun _ _ h => h))
    obtain ⟨Az, nz, cz, ez, hcz, HZD, _⟩ := hr.rd
    subst ez
    have HNZ := As.mk HZD.out.1
    have HT7 := As.mk (HT6.out.none_ hf)
    clear hr hf hcz HZ
    go_wp2_with (at_builtin; first
      | ((with_reducible refine appendRow (w.heap.size + 1) rfl _ _ 23 5 .u8 1 rfl Try.underlying23 infoByte (by decide) vd (hb ++ le sm 4) (List.replicate 4 0) Az nz cz rfl rfl HS12.out HZD.out ?c0 ?c1 ?_); (case c0 => have := HK12.out.size; have := hw0.out.2.2; omega); (case c1 => have := HHL.out; have := HNZ.out; rw [List.length_replicate] at this; rw [List.length_append, le_length]; omega); intro ve y8 hrow1 hfr1 hat1; have HS13 := As.mk hrow1; have HK13 := As.mk (row_grow' HS12.out HK12.out hw0.out.2.2 hfr1); have HT8 := As.mk (HT7.out.fr hfr1 (fun ad e _ hb => by (have h1 := HTB.out ad e; have h2 := HSZ.out; rcases HVD.out with h | ⟨b, h, hb2⟩; (rw [h] at hb; have := HFB.out _ hb; omega); (rw [h] at hb; injection hb with hb; omega)))); clear hrow1 hfr1 hat1)
      | ((with_reducible refine appendRow (w.heap.size + 1) rfl _ _ 23 5 .u8 1 rfl Try.underlying23 infoByte (by decide) ve (hb ++ le sm 4 ++ List.replicate 4 0) (tailOf beside) At nt ct rfl rfl HS13.out HT8.out ?c0 ?c1 ?_); (case c0 => have := HK13.out.size; have := hw0.out.2.2; omega); (case c1 => have := HHL.out; have := HNT.out; have := HTL.out; rw [List.length_append, List.length_append, List.length_replicate, le_length]; omega); intro vf y9 hrow1 hfr1 hat1; have HS14 := As.mk hrow1; have HK14 := As.mk (row_grow' HS13.out HK13.out hw0.out.2.2 hfr1); clear hrow1 hfr1 hat1))
    go_ret
    refine ⟨_, rfl, ?_, hw0.out.1.after HK14.out (fun _ _ h => h)⟩
    rw [HT.out.1]
    have e1 : padTo (hb ++ le sm 4) 32 = hb ++ le sm 4 ++ List.replicate 4 0 := by unfold padTo; have := HHL.out; rw [List.length_append, le_length, this]
    rw [e1]
    exact HS14.out.lower (by omega)
end Go.Proofs.Ytlhgbamajabnfaa.Ref5

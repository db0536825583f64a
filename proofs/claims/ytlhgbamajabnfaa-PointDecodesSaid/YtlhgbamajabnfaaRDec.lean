/- gabionref14.Decode. -/
import Derived.Test.YtlhgbamajabnfaaDec5
import Derived.Test.YtlhgbamajabnfaaPoint7
import Derived.Test.YtlhgbamajabnfaaOpenLaw
namespace Go.Proofs.Ytlhgbamajabnfaa.RDec
open Go.RowKit Go.Proofs.Ytlhgbamajabnfaa.Gab Go.Proofs.Ytlhgbamajabnfaa.Wr Go.Proofs.Ytlhgbamajabnfaa.Geom Go.Proofs.Ytlhgbamajabnfaa.Ref Go.Proofs.Ytlhgbamajabnfaa.Point1 Go.Proofs.Ytlhgbamajabnfaa.Point2 Go.Proofs.Ytlhgbamajabnfaa.Point4
open Go.Proofs.Ytlhgbamajabnfaa.Rdr (cutAt leNum)
open Go.Proofs.Ytlhgbamajabnfaa.Case (heap_set)
open Go.Proofs.Ytlhgbamajabnfaa.Ram (step_appendRow)
open Go.Proofs.Ytlhgbamajabnfaa.Dec1 (run_from)
open Go.Proofs.Ytlhgbamajabnfaa.Dec3 (nb nbs nb_range nbs_len nbs_get nbs_succ Fits)
open Go.Proofs.Ytlhgbamajabnfaa.Dec5 (IsPt set4)
set_option linter.unusedVariables false
set_option linter.unusedSimpArgs false

/-- A call with three arguments, where the region draws its order. -/
theorem step_callee3 {P : Program} {ops : Array Oper} {o : Oper} {a : Act} {K : Act → World → Prop} {Q : Exit → Act → World → Prop} {E : Prop} {W : World} (hgd : o.guard = none) (f : FuncId) (x y z : Operand) (t u s : TypeId)
    (ho : o.op = .call { callee := .value (.func f), args := #[x, y, z], argTypes := #[t, u, s] }) (v0 v1 v2 : Value) (h0 : a.eval x = v0) (h1 : a.eval y = v1) (h2 : a.eval z = v2) (hE : ∀ args W, (callFunc f args).run P W = .ok (.enter f args) W) {R : Ending → World → Prop} (hC : Calls P f #[v0, v1, v2] W R)
    (hR : ∀ e w', R e w' → ∃ v, e = .returned v) (h : ∀ v w', R (.returned v) w' → K (a.put o.dst v) w') :
    if Region.wanted o (yielded ops a.tmps) = true then Oper.wp P o a W K Q else E := by
  have hw : Region.wanted o (yielded ops a.tmps) = true := by simp [Region.wanted, hgd]
  rw [if_pos hw]
  unfold Oper.wp
  have hrun : (execOp a.eval o).run P W = .ok (.enter f #[v0, v1, v2]) W := by
    unfold execOp
    rw [← h0, ← h1, ← h2]
    simp [ho, resolve, invoke, go_sem, hE]
  rw [hrun, Oper.upon_enter]
  refine hC.mono fun e w' hr => ?_
  obtain ⟨v, rfl⟩ := hR e w' hr
  exact h v w' hr

theorem num4 (A : Option Addr) (n c : Nat) (bs : List Int) (i : Nat) (k : Int) (w : World) (hk : k = (i : Int)) (hA : Rd .u8 w A n bs) (hr : InR 256 bs) (hn : n ≤ 1000000) (hi : i + 4 ≤ n) :
    Calls Try.prog 50 #[.slice A n c, .int .i64 k, .int .i64 4] w fun e w' => e = .returned (.int .u64 (nb bs i)) ∧ w = w' := by
  subst hk
  refine (Num_calls A n c bs i 4 w hA hr (by omega) (by omega) (by decide) (by decide) (by omega)).mono fun e w' h => ?_
  obtain ⟨rfl, rfl⟩ := h
  have h1 := OpenLaw.numAt_val hr i 4 (by decide) (by have := hA.1; omega)
  have h2 : Open.numAt bs i 4 = nb bs i := rfl
  rw [h2] at h1
  rw [show Int.toNat (i : Int) = i by omega, show Int.toNat 4 = 4 from rfl, ← h1]
  exact ⟨rfl, rfl⟩

/-- What the document's Decode answers. -/
def RDecPost (bs : List Int) (w : World) (e : Ending) (w' : World) : Prop :=
  (IsPt bs ∧ ∃ vM vE, e = .returned (.tuple #[.agg #[.int .i64 (nb bs 0), .int .i64 (nb bs 4), vM, vE], .int .i64 0]) ∧ Row 2 .i64 w' w.heap.size vM (nbs bs 16 (nb bs 8).toNat) ∧ Row 2 .i64 w' w.heap.size vE (nbs bs (16 + 4 * (nb bs 8).toNat) (nb bs 12).toNat) ∧ Fr None_ w w') ∨
  (¬ IsPt bs ∧ e = .returned (.tuple #[.agg #[.int .i64 0, .int .i64 0, .slice none 0 0, .slice none 0 0], .int .i64 62]) ∧ Fr None_ w w')

set_option maxHeartbeats 4000000 in
set_option maxRecDepth 100000 in
theorem short_calls (A : Option Addr) (n c : Nat) (bs : List Int) (w : World) (hA : Rd .u8 w A n bs) (h16 : n < 16) :
    Calls Try.prog 36 #[.slice A n c] w (RDecPost bs w) := by
  have hl := hA.1
  have d0 : decide ((n : Int) < 16) = true := decide_eq_true (by omega)
  have HPost := As.mk (fun (e : Ending) (w' : World) (h : e = .returned (.tuple #[.agg #[.int .i64 0, .int .i64 0, .slice none 0 0, .slice none 0 0], .int .i64 62]) ∧ Fr None_ w w') => (.inr ⟨fun hh => by have := hh.1.1; omega, h⟩ : RDecPost bs w e w'))
  have HF0 := As.mk ((Fr.refl None_ w).alloc (.cells #[.int .i64 0, .int .i64 0, .slice none 0 0, .slice none 0 0] 82))
  have HB0 := As.mk (heap_alloc_new w (.cells #[.int .i64 0, .int .i64 0, .slice none 0 0, .slice none 0 0] 82))
  clear hA hl h16
  go_enter Try.func36, Try.ntmps36
  go_wp2_with fail
  have r0 := cell_is (i := 0) HB0.out rfl
  have r1 := cell_is (i := 1) HB0.out rfl
  have r2 := cell_is (i := 2) HB0.out rfl
  have r3 := cell_is (i := 3) HB0.out rfl
  exact bodyPost_ret (v := .tuple #[.agg #[.int .i64 0, .int .i64 0, .slice none 0 0, .slice none 0 0], .int .i64 62]) (by simp [results, Try.results36, go_sem, r0, r1, r2, r3]) rfl (HPost.out _ _ ⟨(by first | rfl | trivial), HF0.out⟩)

set_option maxHeartbeats 8000000 in
set_option maxRecDepth 100000 in
theorem long_calls (A : Option Addr) (n c : Nat) (bs : List Int) (w : World) (hA : Rd .u8 w A n bs) (hr : InR 256 bs) (hc : n ≤ c) (hn : n ≤ 1000000) (h16 : 16 ≤ n) :
    Calls Try.prog 36 #[.slice A n c] w (RDecPost bs w) := by
  have hl := hA.1
  have hEN : ∀ args W, (callFunc 50 args).run Try.prog W = .ok (.enter 50 args) W := fun _ _ => rfl
  have HNU := As.mk (fun (i : Nat) (k : Int) (w' : World) (hk : k = (i : Int)) (hA' : Rd .u8 w' A n bs) (hi : i + 4 ≤ n) => num4 A n c bs i k w' hk hA' hr hn hi)
  have d0 : decide ((n : Int) < 16) = false := decide_eq_false (by omega)
  have r8 := nb_range bs 8
  have r12 := nb_range bs 12
  obtain ⟨N, hN⟩ : ∃ N : Nat, nb bs 8 = N := ⟨(nb bs 8).toNat, by omega⟩
  obtain ⟨M, hM⟩ : ∃ M : Nat, nb bs 12 = M := ⟨(nb bs 12).toNat, by omega⟩
  have HNo := As.mk (fun (e : Ending) (w' : World) (h : e = .returned (.tuple #[.agg #[.int .i64 0, .int .i64 0, .slice none 0 0, .slice none 0 0], .int .i64 62]) ∧ Fr None_ w w') (hno : ¬ IsPt bs) => (.inr ⟨hno, h⟩ : RDecPost bs w e w'))
  have HYes := As.mk (show ∀ (e : Ending) (w' : World), (∃ vM vE, e = .returned (.tuple #[.agg #[.int .i64 (nb bs 0), .int .i64 (nb bs 4), vM, vE], .int .i64 0]) ∧ Row 2 .i64 w' w.heap.size vM (nbs bs 16 N) ∧ Row 2 .i64 w' w.heap.size vE (nbs bs (16 + 4 * N) M) ∧ Fr None_ w w') → IsPt bs → RDecPost bs w e w' from fun e w' h hy => .inl ⟨hy, by rw [hN, hM, Int.toNat_natCast, Int.toNat_natCast]; exact h⟩)
  have q0 := nb_range bs 0
  have q4 := nb_range bs 4
  have y0 : IntKind.i64.wrap (nb bs 0) = nb bs 0 := i64_in _ (by omega) (by omega)
  have y4 : IntKind.i64.wrap (nb bs 4) = nb bs 4 := i64_in _ (by omega) (by omega)
  have y1 : IntKind.u64.wrap ((N : Int) + (M : Int)) = (N : Int) + (M : Int) := by rw [IntKind.wrap_u64]; omega
  have y2 : IntKind.u64.wrap (4 * ((N : Int) + (M : Int))) = 4 * ((N : Int) + (M : Int)) := by rw [IntKind.wrap_u64]; omega
  have y3 : IntKind.i64.wrap ((n : Int) - 16) = (n : Int) - 16 := i64_in _ (by omega) (by omega)
  have y5 : IntKind.u64.wrap ((n : Int) - 16) = (n : Int) - 16 := by rw [IntKind.wrap_u64]; omega
  have HA0 := As.mk hA
  have HIS := As.mk (show IsPt bs ↔ (Fits bs ∧ (bs.drop (16 + 4 * N + 4 * M)).all (· == 0) = true) from by unfold IsPt; rw [hN, hM, Int.toNat_natCast, Int.toNat_natCast])
  have HFI := As.mk (show Fits bs ↔ 4 * ((N : Int) + (M : Int)) ≤ (n : Int) - 16 from by unfold Fits; rw [hN, hM, hl]; omega)
  have HF0 := As.mk ((Fr.refl None_ w).alloc (.cells #[.int .i64 0, .int .i64 0, .slice none 0 0, .slice none 0 0] 82))
  have HF1 := As.mk (((Fr.refl None_ w).alloc (.cells #[.int .i64 0, .int .i64 0, .slice none 0 0, .slice none 0 0] 82)).alloc (.cells #[.int .i64 (nb bs 0), .int .i64 (nb bs 4), .slice none 0 0, .slice none 0 0] 82))
  have HB0 := As.mk (at_old (.cells #[.int .i64 (nb bs 0), .int .i64 (nb bs 4), .slice none 0 0, .slice none 0 0] 82) (heap_alloc_new w (.cells #[.int .i64 0, .int .i64 0, .slice none 0 0, .slice none 0 0] 82)))
  have HB1 := As.mk (at_new (.cells #[.int .i64 (nb bs 0), .int .i64 (nb bs 4), .slice none 0 0, .slice none 0 0] 82) (size_new (w := w) (.cells #[.int .i64 0, .int .i64 0, .slice none 0 0, .slice none 0 0] 82) rfl))
  clear hA hl q0 q4 r8 r12 hr
  go_enter Try.func36, Try.ntmps36
  go_wp2_with fail
  ((with_reducible refine (HNU.out 0 0 _ rfl (HA0.out.none_ HF0.out) (by omega)).mono ?_); rintro e w1 ⟨rfl, rfl⟩)
  go_wp2_with fail
  ((with_reducible refine (HNU.out 4 4 _ rfl (HA0.out.none_ HF0.out) (by omega)).mono ?_); rintro e w1 ⟨rfl, rfl⟩)
  go_wp2_with fail
  generalize (w.alloc (.cells #[.int .i64 0, .int .i64 0, .slice none 0 0, .slice none 0 0] 82)).alloc (.cells #[.int .i64 (nb bs 0), .int .i64 (nb bs 4), .slice none 0 0, .slice none 0 0] 82) = wa at *
  ((with_reducible refine (HNU.out 8 8 _ rfl (HA0.out.none_ HF1.out) (by omega)).mono ?_); rintro e w1 ⟨rfl, rfl⟩)
  go_wp2_with fail
  ((with_reducible refine (HNU.out 12 12 _ rfl (HA0.out.none_ HF1.out) (by omega)).mono ?_); rintro e w1 ⟨rfl, rfl⟩)
  rw [hM]
  have z0 := cell_is (i := 0) HB0.out rfl
  have z1 := cell_is (i := 1) HB0.out rfl
  have z2 := cell_is (i := 2) HB0.out rfl
  have z3 := cell_is (i := 3) HB0.out rfl
  have f0 := free_of (i := 0) HB0.out
  have f1 := free_of (i := 1) HB0.out
  have f2 := free_of (i := 2) HB0.out
  have f3 := free_of (i := 3) HB0.out
  by_cases hgt : (n : Int) - 16 < 4 * ((N : Int) + (M : Int))
  · have d1 : decide ((n : Int) - 16 < 4 * ((N : Int) + (M : Int))) = true := decide_eq_true hgt
    have HNP := As.mk (show ¬ IsPt bs from fun h => Int.not_lt.2 (HFI.out.1 (HIS.out.1 h).1) hgt)
    clear hgt
    go_wp2_with fail
    obtain ⟨s1, s2, s3⟩ := set4 HF1.out (Nat.le_refl _) HB0.out (.int .i64 0) (.int .i64 0) (.slice none 0 0) (.slice none 0 0)
    clear z0 z1 z2 z3 f0 f1 f2 f3 s3
    generalize (((wa.setCell ⟨w.heap.size, 0, none⟩ (.int .i64 0)).setCell ⟨w.heap.size, 1, none⟩ (.int .i64 0)).setCell ⟨w.heap.size, 2, none⟩ (.slice none 0 0)).setCell ⟨w.heap.size, 3, none⟩ (.slice none 0 0) = wf at *
    have r0 := cell_is (i := 0) s2 rfl
    have r1 := cell_is (i := 1) s2 rfl
    have r2 := cell_is (i := 2) s2 rfl
    have r3 := cell_is (i := 3) s2 rfl
    exact bodyPost_ret (v := .tuple #[.agg #[.int .i64 0, .int .i64 0, .slice none 0 0, .slice none 0 0], .int .i64 62]) (by simp [results, Try.results36, go_sem, r0, r1, r2, r3]) rfl (HNo.out _ _ ⟨(by first | rfl | trivial), s1⟩ HNP.out)
  · have d1 : decide ((n : Int) - 16 < 4 * ((N : Int) + (M : Int))) = false := decide_eq_false hgt
    have HLn := As.mk (show 16 + 4 * N + 4 * M ≤ n from by omega)
    have HFT := As.mk (HFI.out.2 (Int.not_lt.1 hgt))
    have hzs : w.heap.size + 1 < wa.heap.size := (Array.getElem?_eq_some_iff.1 HB1.out).1
    clear hgt z0 z1 z2 z3 f0 f1 f2 f3
    go_wp2_with fail
    go_loopw [7, 8] (fun v7 v8 w' => ∃ (j : Nat) (v : Value), v7 = .int .i64 ((16 + 4 * j : Nat) : Int) ∧ v8 = .int .u64 (j : Int) ∧ j ≤ N ∧ As (Row 2 .i64 w' wa.heap.size v (nbs bs 16 j)) ∧ As (Fr (fun b => b = w.heap.size + 1) wa w' ∧ w'.heap[w.heap.size + 1]? = some (.cells #[.int .i64 (nb bs 0), .int .i64 (nb bs 4), v, .slice none 0 0] 82 (0, 0)))) (fun _ v8 _ => N - (intOf v8).toNat)
    case atStart => exact ⟨0, .slice none 0 0, rfl, rfl, by omega, ⟨Row.nil _ _ _ _⟩, ⟨Fr.refl _ _, HB1.out⟩⟩
    case round =>
      obtain ⟨j, v, rfl, rfl, hj, HX, HQ⟩ := hrel
      obtain ⟨A1, n1, c1, e1, _, hd1, _⟩ := HX.out.rd
      subst e1
      have hn1 : j = n1 := by rw [← hd1.out.1, nbs_len]
      subst hn1
      clear hd1
      by_cases hlt : j < N
      · have hltI : (j : Int) < (N : Int) := by omega
        have HAr := As.mk ((HA0.out.none_ HF1.out).fr HQ.out.1 (fun ad e hp => by have := HA0.out.lt ad e hp; omega))
        have HUc := As.mk ((HNU.out (16 + 4 * j) _ wr.drew rfl (HAr.out.none_ (Fr.refl None_ wr).drew) (by have := HLn.out; omega)).mono (R' := fun e w' => e = .returned (.int .u64 (nb bs (16 + 4 * j))) ∧ Fr None_ wr.drew w') fun e w' h => ⟨h.1, by rw [h.2]; exact Fr.refl _ _⟩)
        have k2 := cell_is (i := 2) HQ.out.2 rfl
        change wr.cell? ⟨w.heap.size + 1, 2, none⟩ = some (.slice A1 j c1) at k2
        have HSC := As.mk (nbs_succ bs 16 j)
        have HLE := As.mk (nbs_len bs 16 j)
        have hxr := nb_range bs (16 + 4 * j)
        generalize nb bs (16 + 4 * j) = x at *
        generalize nbs bs 16 j = xs at *
        have hxw : IntKind.i64.wrap x = x := i64_in _ (by omega) (by omega)
        have hzl := HQ.out.1.size
        have hLn := HLn.out
        have hjw : IntKind.u64.wrap ((j : Int) + 1) = (j : Int) + 1 := by have := HLn.out; rw [IntKind.wrap_u64]; omega
        clear hxr
        go_upto_region 12 with fail
        go_region_law (first
          | ((with_reducible refine step_callee3 rfl 50 _ _ _ _ _ _ rfl (.slice A n c) (.int .i64 ((16 + 4 * j : Nat) : Int)) (.int .i64 4) rfl rfl rfl hEN HUc.out (fun e w' h => ⟨_, h.1⟩) ?_); rintro v w1 ⟨hv, hf1⟩; injection hv with hv; subst hv; have hfd : Fr None_ wr w1 := ((Fr.refl None_ wr).drew.after hf1 (fun _ _ h => h)); have H1 := As.mk (hfd.heap HQ.out.2 (fun h => h)); have hfa : Fr None_ wr (w1.alloc (.cells #[.int .i64 x] 2)) := hfd.alloc _; have H1a := As.mk (hfa.heap HQ.out.2 (fun h => h)); have HFa := As.mk (HQ.out.1.after hfa (fun _ _ h => absurd h id)); have HX1a := As.mk (HX.out.none_ hfa); have HRx : As (Rd .i64 (w1.alloc (.cells #[.int .i64 x] 2)) (some ⟨w1.heap.size, 0, none⟩) 1 [x]) := ⟨rfl, by decide, fun _ => ⟨_, rfl, fun i hi => by have hi0 : i = 0 := (by omega); subst hi0; exact cell_is (i := 0) (heap_alloc_new w1 _) rfl⟩⟩; have k21 := cell_is (i := 2) H1.out rfl; have k22 := cell_is (i := 2) H1a.out rfl; change w1.cell? ⟨w.heap.size + 1, 2, none⟩ = some (.slice A1 j c1) at k21; change (w1.alloc (.cells #[.int .i64 x] 2)).cell? ⟨w.heap.size + 1, 2, none⟩ = some (.slice A1 j c1) at k22; have hzb : wa.heap.size ≤ (w1.alloc (.cells #[.int .i64 x] 2)).heap.size := HFa.out.size; clear hf1 hfa hfd)
          | ((with_reducible refine step_appendRow wa.heap.size rfl _ _ 80 2 .i64 8 rfl Try.underlying80 infoI64 (by decide) (.slice A1 j c1) xs [x] (some ⟨w1.heap.size, 0, none⟩) 1 1 rfl rfl HX1a.out HRx.out hzb ?k1 ?_); (case k1 => have := HLn.out; rw [HLE.out]; omega); intro v9 w9 hrow9 hfr9 hat9; have H9 := As.mk (hfr9.heap H1a.out (Row.ne HX1a.out H1a.out (by decide))); have HF9 := As.mk (HFa.out.after hfr9 (fun i hi ht => absurd hi (by have := (HX1a.out.blk i ht).1; omega))); have HX9 := As.mk hrow9; have k29 := cell_is (i := 2) H9.out rfl; have f29 := free_of (i := 2) H9.out; change w9.cell? ⟨w.heap.size + 1, 2, none⟩ = some (.slice A1 j c1) at k29; clear hrow9 hfr9 hat9; obtain ⟨A9, n9, c9, e9, _, _, _⟩ := HX9.out.rd; subst e9)
          | fail)
        all_goals
          go_wp2_with fail
          have hs9 := (Fr.refl (fun b => b = w.heap.size + 1) w9).setCell (p := ⟨w.heap.size + 1, 2, none⟩) (fun _ => rfl) (.slice A9 n9 c9)
          refine ⟨⟨j + 1, .slice A9 n9 c9, (by show Value.int .i64 (16 + 4 * (j : Int) + 4) = _; exact congrArg (Value.int .i64) (by omega)), rfl, by omega, ⟨?_⟩, ⟨HF9.out.after hs9 (fun _ _ h => h), heap_set H9.out 2 (.slice A9 n9 c9)⟩⟩, by simp [intOf]; omega⟩
          rw [HSC.out]
          exact HX9.out.fr hs9 (fun b hb e => by subst e; exact Row.ne HX9.out H9.out (by decide) hb)
      · have hltI : ¬ (j : Int) < (N : Int) := by omega
        obtain rfl : N = j := by omega
        clear hlt hj
        have HVM := HX
        have HF2 := As.mk (HF1.out.after HQ.out.1 (fun i hi ht => absurd hi (by omega)))
        have HB2 := As.mk (HQ.out.1.heap HB0.out (by omega))
        have HO2 := As.mk HQ.out.2
        have HAl := As.mk ((HA0.out.none_ HF1.out).fr HQ.out.1 (fun ad e hp => by have := HA0.out.lt ad e hp; omega))
        have hzl := HF2.out.size
        have hzl2 : w.heap.size + 1 < wr.heap.size := (Array.getElem?_eq_some_iff.1 HQ.out.2).1
        rename World => wl
        have HAN := As.mk (fun ad (e : A = some ad) (hp : 0 < n) => show ¬ ad.block = w.heap.size + 1 from by have := HA0.out.lt ad e hp; omega)
        have HVN := As.mk (show ¬ (Value.slice _ _ _).ownBlock = some (w.heap.size + 1) from Row.ne HX.out HQ.out.2 (by decide))
        clear HX HQ HB0 HB1 HF1 HA0
        rename Option Addr => AM
        rename Nat => cM
        go_wp2_with fail
        go_loopw [7, 9] (fun v7 v9 w' => ∃ (j : Nat) (v : Value), v7 = .int .i64 ((16 + 4 * N + 4 * j : Nat) : Int) ∧ v9 = .int .u64 (j : Int) ∧ j ≤ M ∧ As (Row 2 .i64 w' wl.heap.size v (nbs bs (16 + 4 * N) j)) ∧ As (Fr (fun b => b = w.heap.size + 1) wl w' ∧ w'.heap[w.heap.size + 1]? = some (.cells #[.int .i64 (nb bs 0), .int .i64 (nb bs 4), .slice AM N cM, v] 82 (0, 0)))) (fun _ v9 _ => M - (intOf v9).toNat)
        case atStart => exact ⟨0, .slice none 0 0, rfl, rfl, by omega, ⟨Row.nil _ _ _ _⟩, ⟨Fr.refl _ _, HO2.out⟩⟩
        case round =>
          obtain ⟨j, v, rfl, rfl, hj, HX, HQ⟩ := hrel
          obtain ⟨A1, n1, c1, e1, _, hd1, _⟩ := HX.out.rd
          subst e1
          have hn1 : j = n1 := by rw [← hd1.out.1, nbs_len]
          subst hn1
          clear hd1
          have hzl3 := HQ.out.1.size
          by_cases hlt : j < M
          · have hltI : (j : Int) < (M : Int) := by omega
            have HAr := As.mk (HAl.out.fr HQ.out.1 (fun ad e hp => by have := HAl.out.lt ad e hp; exact HAN.out ad e hp))
            have HUc := As.mk ((HNU.out (16 + 4 * N + 4 * j) _ wr.drew rfl (HAr.out.none_ (Fr.refl None_ wr).drew) (by have := HLn.out; omega)).mono (R' := fun e w' => e = .returned (.int .u64 (nb bs (16 + 4 * N + 4 * j))) ∧ Fr None_ wr.drew w') fun e w' h => ⟨h.1, by rw [h.2]; exact Fr.refl _ _⟩)
            have k2 := cell_is (i := 3) HQ.out.2 rfl
            change wr.cell? ⟨w.heap.size + 1, 3, none⟩ = some (.slice A1 j c1) at k2
            have HSC := As.mk (nbs_succ bs (16 + 4 * N) j)
            have HLE := As.mk (nbs_len bs (16 + 4 * N) j)
            have hxr := nb_range bs (16 + 4 * N + 4 * j)
            generalize nb bs (16 + 4 * N + 4 * j) = x at *
            generalize nbs bs (16 + 4 * N) j = xs at *
            have hxw : IntKind.i64.wrap x = x := i64_in _ (by omega) (by omega)
            have hLn := HLn.out
            have hjw : IntKind.u64.wrap ((j : Int) + 1) = (j : Int) + 1 := by rw [IntKind.wrap_u64]; omega
            clear hxr
            go_upto_region 17 with fail
            go_region_law (first
              | ((with_reducible refine step_callee3 rfl 50 _ _ _ _ _ _ rfl (.slice A n c) (.int .i64 ((16 + 4 * N + 4 * j : Nat) : Int)) (.int .i64 4) rfl rfl rfl hEN HUc.out (fun e w' h => ⟨_, h.1⟩) ?_); rintro v w1 ⟨hv, hf1⟩; injection hv with hv; subst hv; have hfd : Fr None_ wr w1 := ((Fr.refl None_ wr).drew.after hf1 (fun _ _ h => h)); have H1 := As.mk (hfd.heap HQ.out.2 (fun h => h)); have hfa : Fr None_ wr (w1.alloc (.cells #[.int .i64 x] 2)) := hfd.alloc _; have H1a := As.mk (hfa.heap HQ.out.2 (fun h => h)); have HFa := As.mk (HQ.out.1.after hfa (fun _ _ h => absurd h id)); have HX1a := As.mk (HX.out.none_ hfa); have HRx : As (Rd .i64 (w1.alloc (.cells #[.int .i64 x] 2)) (some ⟨w1.heap.size, 0, none⟩) 1 [x]) := ⟨rfl, by decide, fun _ => ⟨_, rfl, fun i hi => by have hi0 : i = 0 := (by omega); subst hi0; exact cell_is (i := 0) (heap_alloc_new w1 _) rfl⟩⟩; have k21 := cell_is (i := 3) H1.out rfl; have k22 := cell_is (i := 3) H1a.out rfl; change w1.cell? ⟨w.heap.size + 1, 3, none⟩ = some (.slice A1 j c1) at k21; change (w1.alloc (.cells #[.int .i64 x] 2)).cell? ⟨w.heap.size + 1, 3, none⟩ = some (.slice A1 j c1) at k22; have hzb : wl.heap.size ≤ (w1.alloc (.cells #[.int .i64 x] 2)).heap.size := HFa.out.size; clear hf1 hfa hfd)
              | ((with_reducible refine step_appendRow wl.heap.size rfl _ _ 80 2 .i64 8 rfl Try.underlying80 infoI64 (by decide) (.slice A1 j c1) xs [x] (some ⟨w1.heap.size, 0, none⟩) 1 1 rfl rfl HX1a.out HRx.out hzb ?k1 ?_); (case k1 => have := HLn.out; rw [HLE.out]; omega); intro v9 w9 hrow9 hfr9 hat9; have H9 := As.mk (hfr9.heap H1a.out (Row.ne HX1a.out H1a.out (by decide))); have HF9 := As.mk (HFa.out.after hfr9 (fun i hi ht => absurd hi (by have := (HX1a.out.blk i ht).1; omega))); have HX9 := As.mk hrow9; have k29 := cell_is (i := 3) H9.out rfl; have f29 := free_of (i := 3) H9.out; change w9.cell? ⟨w.heap.size + 1, 3, none⟩ = some (.slice A1 j c1) at k29; clear hrow9 hfr9 hat9; obtain ⟨A9, n9, c9, e9, _, _, _⟩ := HX9.out.rd; subst e9)
              | fail)
            all_goals
              go_wp2_with fail
              have hs9 := (Fr.refl (fun b => b = w.heap.size + 1) w9).setCell (p := ⟨w.heap.size + 1, 3, none⟩) (fun _ => rfl) (.slice A9 n9 c9)
              refine ⟨⟨j + 1, .slice A9 n9 c9, (by show Value.int .i64 (16 + 4 * (N : Int) + 4 * (j : Int) + 4) = _; exact congrArg (Value.int .i64) (by omega)), rfl, by omega, ⟨?_⟩, ⟨HF9.out.after hs9 (fun _ _ h => h), heap_set H9.out 3 (.slice A9 n9 c9)⟩⟩, by simp [intOf]; omega⟩
              rw [HSC.out]
              exact HX9.out.fr hs9 (fun b hb e => by subst e; exact Row.ne HX9.out H9.out (by decide) hb)
          · have hltI : ¬ (j : Int) < (M : Int) := by omega
            obtain rfl : M = j := by omega
            clear hlt hj
            have HVE := As.mk (HX.out.lower (show w.heap.size ≤ wl.heap.size from hzl))
            have HVM2 := As.mk ((HVM.out.fr HQ.out.1 (fun b hb e => by subst e; exact HVN.out hb)).lower (show w.heap.size ≤ wa.heap.size by omega))
            have HF3 := As.mk (HF2.out.after HQ.out.1 (fun i hi ht => absurd hi (by omega)))
            have HB3 := As.mk (HQ.out.1.heap HB2.out (by omega))
            have HAr := As.mk (HAl.out.fr HQ.out.1 (fun ad e hp => HAN.out ad e hp))
            have HD := As.mk (HAr.out.drop (c := c) (16 + 4 * N + 4 * M) HLn.out hc)
            have hsl : ∀ W, (Instr.slice 23 (.slice A n c) (some (.int .i64 (16 + 4 * (N : Int) + 4 * (M : Int)))) none none).run Try.prog W = .ok (.slice (cutAt A c (16 + 4 * N + 4 * M)) (n - (16 + 4 * N + 4 * M)) (c - (16 + 4 * N + 4 * M))) W := fun W => by
              have h := run_from A n c (16 + 4 * N + 4 * M) W HLn.out hc
              rw [show ((16 + 4 * N + 4 * M : Nat) : Int) = 16 + 4 * (N : Int) + 4 * (M : Int) by omega] at h
              exact h
            change As (Rd .u8 wr (cutAt A c (16 + 4 * N + 4 * M)) (n - (16 + 4 * N + 4 * M)) (bs.drop (16 + 4 * N + 4 * M))) at HD
            have HZR := As.mk (IsZero_calls _ _ (c - (16 + 4 * N + 4 * M)) _ wr HD.out)
            generalize hzz : (bs.drop (16 + 4 * N + 4 * M)).all (· == 0) = zz at *
            have HZZ := As.mk hzz
            have HO3 := As.mk HQ.out.2
            clear HD
            generalize cutAt A c (16 + 4 * N + 4 * M) = AB at *
            generalize n - (16 + 4 * N + 4 * M) = nB at *
            generalize c - (16 + 4 * N + 4 * M) = cB at *
            clear hzz HX HQ HVM HAl HAr HAN HVN HF2 HB2 HO2
            have z0 := cell_is (i := 0) HB3.out rfl
            have z1 := cell_is (i := 1) HB3.out rfl
            have z2 := cell_is (i := 2) HB3.out rfl
            have z3 := cell_is (i := 3) HB3.out rfl
            have f0 := free_of (i := 0) HB3.out
            have f1 := free_of (i := 1) HB3.out
            have f2 := free_of (i := 2) HB3.out
            have f3 := free_of (i := 3) HB3.out
            have o0 := cell_is (i := 0) HO3.out rfl
            have o1 := cell_is (i := 1) HO3.out rfl
            have o2 := cell_is (i := 2) HO3.out rfl
            have o3 := cell_is (i := 3) HO3.out rfl
            try dsimp only at o0 o1 o2 o3
            go_wp2_with fail
            ((with_reducible refine (HZR.out).mono ?_); rintro e w8 ⟨rfl, rfl⟩)
            rcases zz with _ | _
            · have HNP := As.mk (show ¬ IsPt bs from fun h => by have := (HIS.out.1 h).2; cases this)
              go_wp2_with fail
              obtain ⟨s1, s2, s3⟩ := set4 HF3.out (Nat.le_refl _) HB3.out (.int .i64 0) (.int .i64 0) (.slice none 0 0) (.slice none 0 0)
              clear z0 z1 z2 z3 f0 f1 f2 f3 o0 o1 o2 o3 s3
              generalize (((wr.setCell ⟨w.heap.size, 0, none⟩ (.int .i64 0)).setCell ⟨w.heap.size, 1, none⟩ (.int .i64 0)).setCell ⟨w.heap.size, 2, none⟩ (.slice none 0 0)).setCell ⟨w.heap.size, 3, none⟩ (.slice none 0 0) = wf at *
              have r0 := cell_is (i := 0) s2 rfl
              have r1 := cell_is (i := 1) s2 rfl
              have r2 := cell_is (i := 2) s2 rfl
              have r3 := cell_is (i := 3) s2 rfl
              exact bodyPost_ret (v := .tuple #[.agg #[.int .i64 0, .int .i64 0, .slice none 0 0, .slice none 0 0], .int .i64 62]) (by simp [results, Try.results36, go_sem, r0, r1, r2, r3]) rfl (HNo.out _ _ ⟨(by first | rfl | trivial), s1⟩ HNP.out)
            · have HPT := As.mk (show IsPt bs from HIS.out.2 ⟨HFT.out, rfl⟩)
              go_wp2_with fail
              obtain ⟨s1, s2, s3⟩ := set4 HF3.out (Nat.le_refl _) HB3.out (.int .i64 (nb bs 0)) (.int .i64 (nb bs 4)) (.slice AM N cM) (.slice A1 M c1)
              have t5 := HVM2.out.fr s3 (fun b hb e => by subst e; exact Row.ne HVM2.out HB3.out (by decide) hb)
              have t6 := HVE.out.fr s3 (fun b hb e => by subst e; exact Row.ne HVE.out HB3.out (by decide) hb)
              clear z0 z1 z2 z3 f0 f1 f2 f3 o0 o1 o2 o3 s3
              generalize (((wr.setCell ⟨w.heap.size, 0, none⟩ (.int .i64 (nb bs 0))).setCell ⟨w.heap.size, 1, none⟩ (.int .i64 (nb bs 4))).setCell ⟨w.heap.size, 2, none⟩ (.slice AM N cM)).setCell ⟨w.heap.size, 3, none⟩ (.slice A1 M c1) = wf at *
              have r0 := cell_is (i := 0) s2 rfl
              have r1 := cell_is (i := 1) s2 rfl
              have r2 := cell_is (i := 2) s2 rfl
              have r3 := cell_is (i := 3) s2 rfl
              exact bodyPost_ret (v := .tuple #[.agg #[.int .i64 (nb bs 0), .int .i64 (nb bs 4), .slice AM N cM, .slice A1 M c1], .int .i64 0]) (by simp [results, Try.results36, go_sem, r0, r1, r2, r3]) rfl (HYes.out _ _ ⟨_, _, (by first | rfl | trivial), t5, t6, s1⟩ HPT.out)

theorem RDecode_calls (A : Option Addr) (n c : Nat) (bs : List Int) (w : World) (hA : Rd .u8 w A n bs) (hr : InR 256 bs) (hc : n ≤ c) (hn : n ≤ 1000000) :
    Calls Try.prog 36 #[.slice A n c] w (RDecPost bs w) := by
  by_cases h : n < 16
  · exact short_calls A n c bs w hA h
  · exact long_calls A n c bs w hA hr hc hn (by omega)
end Go.Proofs.Ytlhgbamajabnfaa.RDec

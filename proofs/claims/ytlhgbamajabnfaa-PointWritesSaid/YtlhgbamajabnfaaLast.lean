/- point.Last. -/
import Derived.Test.YtlhgbamajabnfaaPRead3
namespace Go.Proofs.Ytlhgbamajabnfaa.Last
open Go.RowKit Go.Proofs.Ytlhgbamajabnfaa.Gab Go.Proofs.Ytlhgbamajabnfaa.Wr Go.Proofs.Ytlhgbamajabnfaa.Geom Go.Proofs.Ytlhgbamajabnfaa.Fields Go.Proofs.Ytlhgbamajabnfaa.Ord Go.Proofs.Ytlhgbamajabnfaa.Write Go.Proofs.Ytlhgbamajabnfaa.Stripe Go.Proofs.Ytlhgbamajabnfaa.PRead1
open Go.Proofs.Ytlhgbamajabnfaa.Point1 (cell_is)
set_option linter.unusedVariables false
set_option linter.unusedSimpArgs false

/-- What is read of one segment, or of both. -/
structure Res where
  is : Bool
  most : Int
  seq : Int
  batch : Int
  m : List Int
  er : List Int
def Res.none : Res := ⟨false, 0, 0, 0, [], []⟩
structure Res.Ok (R : Res) : Prop where
  most : 0 ≤ R.most ∧ R.most < 4294967296
def takes (P q : Res) : Bool := q.is && (!P.is || decide (P.seq < q.seq))
def Res.step (P q : Res) : Res := bif takes P q then ⟨true, if P.most < q.most then q.most else P.most, q.seq, q.batch, q.m, q.er⟩ else ⟨P.is, if P.most < q.most then q.most else P.most, P.seq, P.batch, P.m, P.er⟩
theorem step_yes {P q : Res} (h : takes P q = true) : P.step q = ⟨true, if P.most < q.most then q.most else P.most, q.seq, q.batch, q.m, q.er⟩ := by unfold Res.step; rw [h]; rfl
theorem step_no {P q : Res} (h : takes P q = false) : P.step q = ⟨P.is, if P.most < q.most then q.most else P.most, P.seq, P.batch, P.m, P.er⟩ := by unfold Res.step; rw [h]; rfl
theorem step_ok {P q : Res} (h : P.Ok) (k : q.Ok) : (P.step q).Ok := by
  have h1 := h.most
  have h2 := k.most
  refine ⟨?_⟩
  rcases ht : takes P q with _ | _
  · rw [step_no ht]
    show 0 ≤ (if P.most < q.most then q.most else P.most) ∧ (if P.most < q.most then q.most else P.most) < 4294967296
    split <;> omega
  · rw [step_yes ht]
    show 0 ≤ (if P.most < q.most then q.most else P.most) ∧ (if P.most < q.most then q.most else P.most) < 4294967296
    split <;> omega
def lastTo (R : Nat → Res) : Nat → Res
  | 0 => Res.none
  | j + 1 => (lastTo R j).step (R j)
def ReadIs (R : Res) (w : World) (e : Ending) (w' : World) : Prop :=
  ∃ vM vE, e = .returned (.tuple #[.agg #[.int .u32 R.seq, .int .u32 R.batch, vM, vE], .bool R.is, .int .u32 R.most, .int .i64 0]) ∧ Row 51 .u32 w' w.heap.size vM R.m ∧ Row 51 .u32 w' w.heap.size vE R.er ∧ Fr None_ w w'

/-- A struct of four, stored. -/
def put4 (W : World) (b : Nat) (v0 v1 v2 v3 : Value) : World := (((W.setCell ⟨b, 0, none⟩ v0).setCell ⟨b, 1, none⟩ v1).setCell ⟨b, 2, none⟩ v2).setCell ⟨b, 3, none⟩ v3
theorem put4_is {W : World} {b : Nat} {a0 a1 a2 a3 : Value} {T : TypeId} (h : W.heap[b]? = some (.cells #[a0, a1, a2, a3] T (0, 0))) (v0 v1 v2 v3 : Value) :
    (put4 W b v0 v1 v2 v3).heap[b]? = some (.cells #[v0, v1, v2, v3] T (0, 0)) ∧ Fr (fun i => i = b) W (put4 W b v0 v1 v2 v3) := by
  have q0 := Case.heap_set h 0 v0
  have q1 := Case.heap_set q0 1 v1
  have q2 := Case.heap_set q1 2 v2
  have q3 := Case.heap_set q2 3 v3
  exact ⟨by unfold put4; rw [q3]; simp, ((((Fr.refl (fun i => i = b) W).setCell (p := ⟨b, 0, none⟩) (fun _ => rfl) v0).setCell (p := ⟨b, 1, none⟩) (fun _ => rfl) v1).setCell (p := ⟨b, 2, none⟩) (fun _ => rfl) v2).setCell (p := ⟨b, 3, none⟩) (fun _ => rfl) v3⟩
/-- The point's block: what it shows. -/
structure At (w W : World) (P : Res) : Prop where
  blk : ∃ vM vE, W.heap[w.heap.size]? = some (.cells #[.int .u32 P.seq, .int .u32 P.batch, vM, vE] 73 (0, 0)) ∧ Row 51 .u32 W w.heap.size vM P.m ∧ Row 51 .u32 W w.heap.size vE P.er
  fr : Fr None_ w W

set_option maxHeartbeats 8000000 in
set_option maxRecDepth 100000 in
theorem Last_calls (p : Nat) (R : Nat → Res) (w : World) (hRD : ∀ j : Nat, j < 2 → ∀ w', Fr None_ w w' → Calls Try.prog 41 #[dev p, .int .i64 (j : Int)] w' (ReadIs (R j) w')) (hok : ∀ j, (R j).Ok) :
    Calls Try.prog 40 #[dev p] w (ReadIs (lastTo R 2) w) := by
  have HRD := As.mk hRD
  have HOK := As.mk hok
  clear hRD hok
  unfold dev at *
  go_enter Try.func40, Try.ntmps40
  go_wp2_with fail
  go_loopw [3, 4, 6, 7, 8, 9, 10, 11] (fun v3 v4 v6 v7 v8 v9 v10 v11 w' => ∃ j : Nat, v11 = .int .i64 (j : Int) ∧ j ≤ 2 ∧ v3 = .bool (lastTo R j).is ∧ v4 = .int .u32 (lastTo R j).most ∧ As (At w w' (lastTo R j)) ∧ As (lastTo R j).Ok) (fun _ _ _ _ _ _ _ v11 _ => (2 - intOf v11).toNat)
  case atStart => exact ⟨0, rfl, by omega, rfl, rfl, ⟨⟨_, _, heap_alloc_new w _, Row.nil _ _ _ _, Row.nil _ _ _ _⟩, (Fr.refl None_ w).alloc _⟩, ⟨⟨by show (0 : Int) ≤ 0 ∧ (0 : Int) < 4294967296; decide⟩⟩⟩
  case round =>
    obtain ⟨j, rfl, hj, rfl, rfl, HA, HK⟩ := hrel
    obtain ⟨vM, vE, hb, hrM, hrE⟩ := HA.out.blk
    have HFR := As.mk HA.out.fr
    obtain ⟨AM, nM, cM, eM, _, _, _⟩ := hrM.rd
    subst eM
    obtain ⟨AE, nE, cE, eE, _, _, _⟩ := hrE.rd
    subst eE
    have HB := As.mk hb
    have HM := As.mk hrM
    have HE := As.mk hrE
    clear hb hrM hrE
    have HST := As.mk (show lastTo R (j + 1) = (lastTo R j).step (R j) from rfl)
    have HSE := As.mk (fun h : j = 2 => show lastTo R j = lastTo R 2 by rw [h])
    generalize hP : lastTo R j = P at *
    clear hP
    rename World => wr
    by_cases hlt : j < 2
    · have dl : decide ((j : Int) < 2) = true := decide_eq_true (by omega)
      have hjw : IntKind.i64.wrap ((j : Int) + 1) = (j : Int) + 1 := i64_in _ (by omega) (by omega)
      have HRJ := As.mk (HRD.out j hlt)
      have HKJ := As.mk (HOK.out j)
      generalize hQ : R j = Q at *
      clear hQ HRD HOK
      go_wp2_with fail
      ((with_reducible refine (HRJ.out _ HFR.out).mono ?_); rintro e w1 ⟨vM', vE', rfl, hM', hE', hf1⟩)
      obtain ⟨AM', nM', cM', eM', _, _, _⟩ := hM'.rd
      subst eM'
      obtain ⟨AE', nE', cE', eE', _, _, _⟩ := hE'.rd
      subst eE'
      have HB1 := As.mk (hf1.heap HB.out (fun e => e))
      have HM1 := As.mk (HM.out.none_ hf1)
      have HE1 := As.mk (HE.out.none_ hf1)
      have HF1 := As.mk (HFR.out.after hf1 (fun _ _ h => h))
      have HMq := As.mk (hM'.lower HFR.out.size)
      have HEq := As.mk (hE'.lower HFR.out.size)
      clear hM' hE' hf1 HB HM HE HFR
      go_upto_region 5 with fail
      have hfa : Fr None_ w1 (w1.alloc (.cells #[.int .u32 Q.seq, .int .u32 Q.batch, .slice AM' nM' cM', .slice AE' nE' cE'] 73)) := (Fr.refl None_ w1).alloc _
      have HQa := As.mk (heap_alloc_new w1 (.cells #[.int .u32 Q.seq, .int .u32 Q.batch, .slice AM' nM' cM', .slice AE' nE' cE'] 73))
      generalize w1.alloc (.cells #[.int .u32 Q.seq, .int .u32 Q.batch, .slice AM' nM' cM', .slice AE' nE' cE'] 73) = wa at *
      have HBa := As.mk (hfa.heap HB1.out (fun e => e))
      have HMa := As.mk (HM1.out.none_ hfa)
      have HEa := As.mk (HE1.out.none_ hfa)
      have HMqa := As.mk (HMq.out.none_ hfa)
      have HEqa := As.mk (HEq.out.none_ hfa)
      have HFa := As.mk (HF1.out.after hfa (fun _ _ h => h))
      clear hfa HB1 HM1 HE1 HMq HEq HF1
      generalize w1.heap.size = q at *
      go_upto_region 8 with fail
      obtain ⟨mx, hmx⟩ : ∃ mx, (if P.most < Q.most then Q.most else P.most) = mx := ⟨_, rfl⟩
      rw [hmx]
      have HSY := As.mk (fun h : takes P Q = true => HST.out.trans ((step_yes h).trans (by rw [hmx])))
      have HSN := As.mk (fun h : takes P Q = false => HST.out.trans ((step_no h).trans (by rw [hmx])))
      clear hmx
      rcases hqi : Q.is with _ | _
      · have htk : takes P Q = false := by unfold takes; rw [hqi]; rfl
        have HTK := As.mk htk
        clear dl htk
        go_wp2_with fail
        have hsy := HSN.out HTK.out
        refine ⟨⟨j + 1, rfl, by omega, by rw [hsy], by rw [hsy], ?_, ?_⟩, by simp [intOf]; omega⟩
        · rw [hsy]
          exact ⟨⟨⟨_, _, HBa.out, HMa.out, HEa.out⟩, HFa.out⟩⟩
        · rw [HST.out]
          exact ⟨step_ok HK.out HKJ.out⟩
      · rcases hpi : P.is with _ | _
        · have htk : takes P Q = true := by unfold takes; rw [hqi, hpi]; rfl
          have HTK := As.mk htk
          clear dl htk
          have q0 := cell_is (i := 0) HQa.out rfl
          have q1 := cell_is (i := 1) HQa.out rfl
          have q2 := cell_is (i := 2) HQa.out rfl
          have q3 := cell_is (i := 3) HQa.out rfl
          have p0 := cell_is (i := 0) HBa.out rfl
          have p1 := cell_is (i := 1) HBa.out rfl
          have p2 := cell_is (i := 2) HBa.out rfl
          have p3 := cell_is (i := 3) HBa.out rfl
          have pf0 := free_of (i := 0) HBa.out
          have pf1 := free_of (i := 1) HBa.out
          have pf2 := free_of (i := 2) HBa.out
          have pf3 := free_of (i := 3) HBa.out
          try dsimp only at q0 q1 q2 q3 p0 p1 p2 p3 pf0 pf1 pf2 pf3
          go_wp2_with fail
          have hsy := HSY.out HTK.out
          obtain ⟨z1, z2⟩ := put4_is HBa.out (.int .u32 Q.seq) (.int .u32 Q.batch) (.slice AM' nM' cM') (.slice AE' nE' cE')
          unfold put4 at z1 z2
          refine ⟨⟨j + 1, rfl, by omega, by rw [hsy], by rw [hsy], ?_, ?_⟩, by simp [intOf]; omega⟩
          · rw [hsy]
            exact ⟨⟨⟨_, _, z1, HMqa.out.fr z2 (fun b hb e => by subst e; exact Row.ne HMqa.out HBa.out (by decide) hb), HEqa.out.fr z2 (fun b hb e => by subst e; exact Row.ne HEqa.out HBa.out (by decide) hb)⟩, HFa.out.after z2 (fun i hi e => by subst e; omega)⟩⟩
          · rw [HST.out]
            exact ⟨step_ok HK.out HKJ.out⟩
        · by_cases hsq : P.seq < Q.seq
          · have htk : takes P Q = true := by unfold takes; rw [hqi, hpi, decide_eq_true hsq]; rfl
            have HTK := As.mk htk
            have dq : decide (P.seq < Q.seq) = true := decide_eq_true hsq
            clear dl htk
            have q0 := cell_is (i := 0) HQa.out rfl
            have q1 := cell_is (i := 1) HQa.out rfl
            have q2 := cell_is (i := 2) HQa.out rfl
            have q3 := cell_is (i := 3) HQa.out rfl
            have p0 := cell_is (i := 0) HBa.out rfl
            have p1 := cell_is (i := 1) HBa.out rfl
            have p2 := cell_is (i := 2) HBa.out rfl
            have p3 := cell_is (i := 3) HBa.out rfl
            have pf0 := free_of (i := 0) HBa.out
            have pf1 := free_of (i := 1) HBa.out
            have pf2 := free_of (i := 2) HBa.out
            have pf3 := free_of (i := 3) HBa.out
            try dsimp only at q0 q1 q2 q3 p0 p1 p2 p3 pf0 pf1 pf2 pf3
            go_wp2_with fail
            have hsy := HSY.out HTK.out
            obtain ⟨z1, z2⟩ := put4_is HBa.out (.int .u32 Q.seq) (.int .u32 Q.batch) (.slice AM' nM' cM') (.slice AE' nE' cE')
            unfold put4 at z1 z2
            refine ⟨⟨j + 1, rfl, by omega, by rw [hsy], by rw [hsy], ?_, ?_⟩, by simp [intOf]; omega⟩
            · rw [hsy]
              exact ⟨⟨⟨_, _, z1, HMqa.out.fr z2 (fun b hb e => by subst e; exact Row.ne HMqa.out HBa.out (by decide) hb), HEqa.out.fr z2 (fun b hb e => by subst e; exact Row.ne HEqa.out HBa.out (by decide) hb)⟩, HFa.out.after z2 (fun i hi e => by subst e; omega)⟩⟩
            · rw [HST.out]
              exact ⟨step_ok HK.out HKJ.out⟩
          · have htk : takes P Q = false := by unfold takes; rw [hqi, hpi, decide_eq_false hsq]; rfl
            have HTK := As.mk htk
            have dq : decide (P.seq < Q.seq) = false := decide_eq_false hsq
            have q0 := cell_is (i := 0) HQa.out rfl
            have p0 := cell_is (i := 0) HBa.out rfl
            try dsimp only at q0 p0
            clear dl htk
            go_wp2_with fail
            have hsy := HSN.out HTK.out
            refine ⟨⟨j + 1, rfl, by omega, by rw [hsy, ← hpi], by rw [hsy], ?_, ?_⟩, by simp [intOf]; omega⟩
            · rw [hsy]
              exact ⟨⟨⟨_, _, HBa.out, HMa.out, HEa.out⟩, HFa.out⟩⟩
            · rw [HST.out]
              exact ⟨step_ok HK.out HKJ.out⟩
    · have dl : decide ((j : Int) < 2) = false := decide_eq_false (by omega)
      obtain rfl : j = 2 := by omega
      have hPl : P = lastTo R 2 := HSE.out rfl
      have p0 := cell_is (i := 0) HB.out rfl
      have p1 := cell_is (i := 1) HB.out rfl
      have p2 := cell_is (i := 2) HB.out rfl
      have p3 := cell_is (i := 3) HB.out rfl
      have pf0 := free_of (i := 0) HB.out
      have pf1 := free_of (i := 1) HB.out
      have pf2 := free_of (i := 2) HB.out
      have pf3 := free_of (i := 3) HB.out
      try dsimp only at p0 p1 p2 p3 pf0 pf1 pf2 pf3
      have HPL := As.mk hPl
      clear hPl
      go_upto_region 11 with fail
      obtain ⟨z1, z2⟩ := put4_is HB.out (.int .u32 P.seq) (.int .u32 P.batch) (.slice AM nM cM) (.slice AE nE cE)
      have hz2' := z2
      unfold put4 at z1 z2 hz2'
      have r1 := HM.out.fr hz2' (fun b hb e => by subst e; exact Row.ne HM.out HB.out (by decide) hb)
      have r2 := HE.out.fr hz2' (fun b hb e => by subst e; exact Row.ne HE.out HB.out (by decide) hb)
      have HR1 := As.mk r1
      have HR2 := As.mk r2
      have HZ1 := As.mk z1
      have HZ2 := As.mk (HFR.out.after hz2' (fun i hi e => by subst e; omega))
      clear z1 z2 hz2' r1 r2
      go_wp2_with fail
      clear p0 p1 p2 p3 pf0 pf1 pf2 pf3
      generalize (((wr.setCell ⟨w.heap.size, 0, none⟩ (.int .u32 P.seq)).setCell ⟨w.heap.size, 1, none⟩ (.int .u32 P.batch)).setCell ⟨w.heap.size, 2, none⟩ (.slice AM nM cM)).setCell ⟨w.heap.size, 3, none⟩ (.slice AE nE cE) = wf at *
      have y0 := cell_is (i := 0) HZ1.out rfl
      have y1 := cell_is (i := 1) HZ1.out rfl
      have y2 := cell_is (i := 2) HZ1.out rfl
      have y3 := cell_is (i := 3) HZ1.out rfl
      try dsimp only at y0 y1 y2 y3
      exact bodyPost_ret (v := .tuple #[.agg #[.int .u32 P.seq, .int .u32 P.batch, .slice AM nM cM, .slice AE nE cE], .bool P.is, .int .u32 P.most, .int .i64 0]) (by simp [results, Try.results40, go_sem, y0, y1, y2, y3]) rfl ⟨_, _, by rw [← HPL.out], HPL.out ▸ HR1.out, HPL.out ▸ HR2.out, HZ2.out⟩
end Go.Proofs.Ytlhgbamajabnfaa.Last

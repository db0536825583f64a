/- gabionref08.Parity, gabionref08.Members; where a member stands in the order; how many are gone. -/
import Derived.Test.YtlhgbamajabnfaaKept
namespace Go.Proofs.Ytlhgbamajabnfaa.R8
open Go.RowKit Go.Proofs.Ytlhgbamajabnfaa.Gab Go.Proofs.Ytlhgbamajabnfaa.Map Go.Proofs.Ytlhgbamajabnfaa.Geom Go.Proofs.Ytlhgbamajabnfaa.Ram Go.Proofs.Ytlhgbamajabnfaa.Par Go.Proofs.Ytlhgbamajabnfaa.Fields Go.Proofs.Ytlhgbamajabnfaa.Ord Go.Proofs.Ytlhgbamajabnfaa.Write Go.Proofs.Ytlhgbamajabnfaa.Stripe Go.Proofs.Ytlhgbamajabnfaa.Ref Go.Proofs.Ytlhgbamajabnfaa.Case Go.Proofs.Ytlhgbamajabnfaa.Xor Go.Proofs.Ytlhgbamajabnfaa.Again Go.Proofs.Ytlhgbamajabnfaa.Kept
set_option linter.unusedVariables false
set_option linter.unusedSimpArgs false

set_option maxHeartbeats 1000000 in
set_option maxRecDepth 100000 in
theorem Parity_calls (g : Geo) (seg row : Int) (w : World) (h : g.Ok) (ha : g.At seg row) : Calls Try.prog 21 #[g.val, .int .i64 seg, .int .i64 row] w fun e w' => e = .returned (.int .i64 (g.par seg row)) ∧ Fr None_ w w' := by
  unfold Geo.val
  have h1 := h.c.1
  have h2 := h.c.2
  have hp := h.p.2
  have hr1 := ha.row.1
  have hr2 := ha.row.2
  obtain ⟨hm1, hm2⟩ := mul_range h ha
  have ht : Int.tmod (seg * g.p + row) g.c = g.par seg row := Int.tmod_eq_emod_of_nonneg (by omega)
  obtain ⟨k1, k2⟩ := par_range h seg row
  have hz : ¬ g.c = 0 := by omega
  have hw1 : IntKind.i64.wrap (seg * g.p) = seg * g.p := i64_in _ (by omega) (by omega)
  have hw2 : IntKind.i64.wrap (seg * g.p + row) = seg * g.p + row := i64_in _ (by omega) (by omega)
  have hw3 : IntKind.i64.wrap (g.par seg row) = g.par seg row := i64_in _ (by omega) (by omega)
  go_enter Try.func21, Try.ntmps21
  go_wp2
  go_ret
  exact ⟨rfl, (Fr.refl _ w).alloc _⟩

/-- The members of a stripe's slots. -/
def membersTo (g : Geo) (seg row : Int) (i : Nat) : List Int := (upTo i).filter fun n => decide (n ≠ g.par seg row)
theorem membersTo_succ (g : Geo) (seg row : Int) (i : Int) (hi : 0 ≤ i) : membersTo g seg row (i + 1).toNat = membersTo g seg row i.toNat ++ if i ≠ g.par seg row then [i] else [] := by
  unfold membersTo
  rw [show (i + 1).toNat = i.toNat + 1 by omega, upTo_succ, List.filter_append, show ((i.toNat : Nat) : Int) = i by omega]
  by_cases e : i = g.par seg row <;> simp [e]
theorem membersTo_le (g : Geo) (seg row : Int) (i : Nat) : (membersTo g seg row i).length ≤ i := by
  have h1 := List.length_filter_le (fun n => decide (n ≠ g.par seg row)) (upTo i)
  have h2 : (upTo i).length = i := by simp [upTo]
  unfold membersTo
  omega
def membersOf (g : Geo) (seg row : Int) : List Int := membersTo g seg row g.c.toNat
theorem membersOf_is {g : Geo} (hg : g.Ok) (seg row : Int) : membersOf g seg row = (upTo (g.c.toNat - 1)).map (g.mem seg row) := by
  obtain ⟨h1, h2⟩ := par_range hg seg row
  unfold membersOf membersTo
  rw [upTo_but _ h1, if_neg (by omega)]
  rfl
theorem membersOf_len {g : Geo} (hg : g.Ok) (seg row : Int) : ((membersOf g seg row).length : Int) = g.c - 1 := by
  have := hg.c
  rw [membersOf_is hg]
  simp [upTo]
  omega
theorem membersOf_get {g : Geo} (hg : g.Ok) (seg row : Int) (s : Int) (h0 : 0 ≤ s) (h1 : s < g.c - 1) : (membersOf g seg row).getD s.toNat 0 = g.mem seg row s := by
  have hc := hg.c
  rw [membersOf_is hg, List.getD_eq_getElem?_getD, List.getElem?_map]
  unfold upTo
  rw [List.getElem?_map, List.getElem?_range (by omega)]
  simp only [Option.map_some, Option.getD_some, Int.ofNat_eq_natCast]
  rw [show ((s.toNat : Nat) : Int) = s by omega]

set_option maxHeartbeats 4000000 in
set_option maxRecDepth 100000 in
theorem Members_calls (g : Geo) (seg row : Int) (w : World) (h : g.Ok) (ha : g.At seg row) : Calls Try.prog 19 #[g.val, .int .i64 seg, .int .i64 row] w fun e w' => ∃ v, e = .returned v ∧ Row 3 .i64 w' w.heap.size v (membersOf g seg row) ∧ Fr None_ w w' := by
  have HP := As.mk (fun w => Parity_calls g seg row w h ha)
  have HMO : As (∀ i : Int, 0 ≤ i → membersTo g seg row (i + 1).toNat = membersTo g seg row i.toNat ++ if i ≠ g.par seg row then [i] else []) := ⟨fun i hi => membersTo_succ g seg row i hi⟩
  have HML : As (∀ i : Nat, (membersTo g seg row i).length ≤ i) := ⟨membersTo_le g seg row⟩
  have HM0 : As (membersTo g seg row 0 = []) := ⟨rfl⟩
  have HME : As (membersOf g seg row = membersTo g seg row g.c.toNat) := ⟨rfl⟩
  have hc1 := h.c.1
  have hc2 := h.c.2
  unfold Geo.val at *
  generalize membersOf g seg row = res at *
  generalize membersTo g seg row = mt at *
  generalize g.par seg row = par at *
  have HBX := As.mk (heap_alloc_new w (.cells #[.int .i64 g.c, .int .i64 g.b, .int .i64 g.p, .int .i64 g.s] 28))
  clear h ha
  go_enter Try.func19, Try.ntmps19
  go_wp2_with fail
  go_loopw [7, 8] (fun v7 v8 w' => ∃ i : Int, v8 = .int .i64 i ∧ 0 ≤ i ∧ i ≤ g.c ∧ As (Row 3 .i64 w' w.heap.size v7 (mt i.toNat)) ∧ As (Fr None_ w w' ∧ w'.heap[w.heap.size]? = some (.cells #[.int .i64 g.c, .int .i64 g.b, .int .i64 g.p, .int .i64 g.s] 28 (0, 0)))) (fun _ v8 _ => (g.c - intOf v8).toNat)
  case atStart => exact ⟨0, rfl, by omega, by omega, ⟨by rw [show Int.toNat 0 = 0 from rfl, HM0.out]; exact Row.nil _ _ _ _⟩, ⟨(Fr.refl None_ w).alloc _, HBX.out⟩⟩
  case round =>
    obtain ⟨i, rfl, hi0, hi, HX, HF⟩ := hrel
    obtain ⟨A1, n1, c1, e1, _, hd, _⟩ := HX.out.rd
    subst e1
    have c0 := cell_is (i := 0) HF.out.2 rfl
    have c1' := cell_is (i := 1) HF.out.2 rfl
    have c2 := cell_is (i := 2) HF.out.2 rfl
    have c3 := cell_is (i := 3) HF.out.2 rfl
    by_cases hlt : i < g.c
    · go_wp2_with fail
      ((with_reducible refine (HP.out _).mono ?_); rintro e w4 ⟨rfl, hf4⟩)
      have HF4 := As.mk hf4
      have HX4 := As.mk (HX.out.none_ hf4)
      have HU := As.mk (HMO.out i hi0)
      have HLI := As.mk (HML.out i.toNat)
      have hsz : w.heap.size ≤ w4.heap.size := (HF.out.1.after hf4 (fun _ _ h => h)).size
      clear hf4 c0 c1' c2 c3 hd
      by_cases e : i = par
      · have hb : (i != par) = false := by simp [e]
        have HU2 : As (mt (i + 1).toNat = mt i.toNat) := ⟨by rw [HU.out, if_neg (fun h => h e), List.append_nil]⟩
        clear e
        go_wp2_with fail
        exact ⟨⟨i + 1, rfl, by omega, by omega, ⟨by rw [HU2.out]; exact HX4.out⟩, ⟨HF.out.1.after HF4.out (fun _ _ h => h), HF4.out.heap HF.out.2 (fun h => h)⟩⟩, by simp [intOf]; omega⟩
      · have hb : (i != par) = true := by simp [e]
        have HU2 : As (mt (i + 1).toNat = mt i.toNat ++ [i]) := ⟨by rw [HU.out, if_pos e]⟩
        clear e
        go_wp2_with (at_builtin; (with_reducible refine append1 w.heap.size rfl _ _ 39 3 .i64 8 rfl Try.underlying39 infoInt (by decide) (.slice A1 n1 c1) (mt i.toNat) _ rfl rfl HX4.out hsz ?k0 ?_); (case k0 => have := HLI.out; omega); intro v1 w5 hrow1 hfr1 hat1; have HR1 := As.mk hrow1; have HF5 := As.mk (row_grow HX4.out (HF.out.1.after HF4.out (fun _ _ h => h)) hfr1); have HB5 := As.mk (hfr1.heap (HF4.out.heap HF.out.2 (fun h => h)) (Row.ne HX4.out (HF4.out.heap HF.out.2 (fun h => h)) (by decide))); clear hrow1 hfr1 hat1)
        exact ⟨⟨i + 1, rfl, by omega, by omega, ⟨by rw [HU2.out]; exact HR1.out⟩, ⟨HF5.out, HB5.out⟩⟩, by simp [intOf]; omega⟩
    · have HE : As (Row 3 .i64 wr w.heap.size (.slice A1 n1 c1) res) := ⟨by rw [HME.out, show g.c.toNat = i.toNat by omega]; exact HX.out⟩
      go_wp2_with fail
      go_ret
      exact ⟨_, rfl, HE.out, HF.out.1⟩

/-! ### the order -/
/-- Where a member stands in the order. -/
def posOf (first k : Int) : Int := if 0 ≤ first then (if k ≤ first then k + 1 else k) else k
theorem order_len' {first c : Int} (hc : 0 ≤ c) (hf : first < c) : ((orderOf first c).length : Int) = c := by
  by_cases h0 : 0 ≤ first
  · unfold orderOf pre
    rw [if_pos ⟨h0, hf⟩, upTo_but _ h0, if_neg (by omega)]
    simp [upTo]
    omega
  · rw [order_len (fun h => h0 h.1)]
    omega
theorem order_first {first c : Int} (h0 : 0 ≤ first) (h1 : first < c) : (orderOf first c).getD 0 0 = first := by
  unfold orderOf pre
  rw [if_pos ⟨h0, h1⟩]
  rfl
theorem upTo_get {k i : Nat} (h : i < k) : (upTo k).getD i 0 = (i : Int) := by
  unfold upTo
  simp [List.getD_eq_getElem?_getD, List.getElem?_range h]
theorem order_at {first c k : Int} (hf : first < c) (h0 : 0 ≤ k) (h1 : k < c) (hk : k ≠ first) : (orderOf first c).getD (posOf first k).toNat 0 = k := by
  unfold posOf
  by_cases hf0 : 0 ≤ first
  · rw [if_pos hf0]
    unfold orderOf pre
    rw [if_pos ⟨hf0, hf⟩, upTo_but _ hf0, if_neg (by omega)]
    have hg : ∀ j : Nat, j < c.toNat - 1 → ([first] ++ (upTo (c.toNat - 1)).map (memOf first)).getD (j + 1) 0 = memOf first j := by
      intro j hj
      simp only [List.getD_eq_getElem?_getD, List.singleton_append, List.getElem?_cons_succ, List.getElem?_map]
      unfold upTo
      rw [List.getElem?_map, List.getElem?_range hj]
      rfl
    by_cases hle : k ≤ first
    · rw [if_pos hle, show (k + 1).toNat = k.toNat + 1 by omega, hg _ (by omega)]
      unfold memOf
      rw [if_neg (by omega)]
      omega
    · rw [if_neg hle, show k.toNat = (k.toNat - 1) + 1 by omega, hg _ (by omega)]
      unfold memOf
      rw [if_pos (by omega)]
      omega
  · rw [if_neg hf0]
    unfold orderOf pre
    rw [if_neg (fun h => hf0 h.1), List.nil_append, List.filter_eq_self.2, upTo_get (by omega)]
    · omega
    · intro m hm
      unfold upTo at hm
      obtain ⟨j, hj, rfl⟩ := List.mem_map.1 hm
      simp only [decide_eq_true_eq, Int.ofNat_eq_natCast]
      omega
theorem order_nodup (first c : Int) : (orderOf first c).Nodup := by
  have hu : ∀ k, (upTo k).Nodup := fun k => by
    unfold upTo
    exact List.Pairwise.map _ (fun a b h e => h (Int.ofNat.inj e)) List.nodup_range
  unfold orderOf
  rw [List.nodup_append]
  refine ⟨?_, (hu _).filter _, ?_⟩
  · unfold pre
    split <;> simp
  · intro a ha b hb e
    subst e
    unfold pre at ha
    split at ha
    · simp at ha
      subst ha
      simp at hb
    · cases ha
/-- If one member at most is gone, one at most of a row is. -/
theorem gone_le {s : Ram.St} {d : Int} (hd : ∀ m, m ≠ d → ¬ 0 < s.gone m) : ∀ (ms : List Int) (k : Int), ms.Nodup → ms.foldl (fun (k : Int) m => if 0 < s.gone m then k + 1 else k) k ≤ if d ∈ ms then k + 1 else k
  | [], k, _ => by simp
  | m :: ms, k, h => by
    rw [List.nodup_cons] at h
    rw [List.foldl_cons]
    have ih := gone_le hd ms (if 0 < s.gone m then k + 1 else k) h.2
    by_cases e : m = d
    · subst e
      rw [if_neg h.1] at ih
      rw [if_pos List.mem_cons_self]
      have h2 : (if 0 < s.gone m then k + 1 else k) ≤ k + 1 := by split <;> omega
      exact Int.le_trans ih h2
    · rw [if_neg (hd m e)] at ih
      rw [if_neg (hd m e)]
      have hm : d ∈ m :: ms ↔ d ∈ ms := by
        rw [List.mem_cons]
        exact ⟨fun h => h.resolve_left (fun h => e h.symm), .inr⟩
      by_cases hd2 : d ∈ ms
      · rw [if_pos (hm.2 hd2)]
        rw [if_pos hd2] at ih
        exact ih
      · rw [if_neg (fun h => hd2 (hm.1 h))]
        rw [if_neg hd2] at ih
        exact ih
theorem err_none {s : Ram.St} {d : Int} (hd : ∀ m, m ≠ d → ¬ 0 < s.gone m) (first c : Int) : errOf (goneIn s (orderOf first c)) = 0 := by
  have h := gone_le hd (orderOf first c) 0 (order_nodup first c)
  unfold errOf
  rw [if_neg]
  unfold goneIn
  split at h <;> omega
end Go.Proofs.Ytlhgbamajabnfaa.R8

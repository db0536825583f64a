/- A rule for a region that draws its order: an assertion for each operation's value, one for the world; what holds of each operation alone holds in whatever order. No program in it. -/
import Derived.OrdersHeld
import Derived.Great.Frames
import Derived.Tactics
namespace Go.Proofs.YteofgpaceeibpaaGreat.Reg
open Go

theorem getD_set (l : Array Bool) (i j : Nat) (b d : Bool) (hi : i < l.size) : (l.setIfInBounds i b).getD j d = if j = i then b else l.getD j d := by
  simp only [Array.getD_eq_getD_getElem?, Array.getElem?_setIfInBounds]
  by_cases h : i = j
  · subst h; simp [hi]
  · rw [if_neg h, if_neg (fun e => h e.symm)]
/-- How many are not listed. -/
def left (l : Array Bool) : Nat := l.toList.countP (fun b => !b)
theorem countP_set : ∀ (l : List Bool) (i : Nat), l.getD i true = false → (l.set i true).countP (fun b => !b) + 1 = l.countP (fun b => !b)
  | [], i, h => by simp at h
  | b :: l, 0, h => by
    simp at h
    subst h
    simp
  | b :: l, i + 1, h => by
    have ih := countP_set l i (by simpa using h)
    rw [List.set_cons_succ, List.countP_cons, List.countP_cons]
    omega
theorem left_set {l : Array Bool} {i : Nat} (h : l.getD i true = false) : left (l.setIfInBounds i true) + 1 = left l := by
  unfold left
  rw [Array.toList_setIfInBounds]
  exact countP_set _ i (by simpa [Array.getD_eq_getD_getElem?, List.getD_eq_getElem?_getD] using h)
theorem left_zero {l : Array Bool} (h : left l = 0) (i : Nat) : l.getD i true = true := by
  unfold left at h
  rw [List.countP_eq_zero] at h
  rw [Array.getD_eq_getD_getElem?]
  cases hi : l[i]? with
  | none => rfl
  | some b =>
    have hm : b ∈ l.toList := by
      rw [← Array.getElem?_toList] at hi
      exact List.mem_of_getElem? hi
    have := h b hm
    simpa using this
theorem left_replicate (n : Nat) : left (Array.replicate n false) = n := by
  unfold left
  rw [Array.toList_replicate, List.countP_replicate]
  simp

section
variable {P : Program} {md : Region.Mode} {ops : Array Oper} {Q : Exit → Act → World → Prop}
theorem wpAny_inv (I : Array Bool → Act → World → Prop) (hstep : ∀ listed a w i, I listed a w → i ∈ Region.ready md ops listed → wpOp P ops Q i (fun a' w' => I (listed.setIfInBounds i true) a' w') a w)
    (hend : ∀ listed a w, I listed a w → Region.ready md ops listed = [] → Q .normal a w) :
    ∀ fuel listed a w, I listed a w → left listed ≤ fuel → wpAny P md ops Q fuel listed a w := by
  intro fuel
  induction fuel with
  | zero =>
    intro listed a w hI hl
    have hr : Region.ready md ops listed = [] := by
      cases hr : Region.ready md ops listed with
      | nil => rfl
      | cons i r =>
        have hi : i ∈ Region.ready md ops listed := by rw [hr]; exact List.mem_cons_self
        have h1 := (mem_ready.1 hi).1
        rw [left_zero (by omega) i] at h1
        cases h1
    exact ⟨hr, hend listed a w hI hr⟩
  | succ fuel ih =>
    intro listed a w hI hl
    refine ⟨hend listed a w hI, fun i hi => ?_⟩
    refine wpOp_mono (fun a' w' h => ih _ a' w' h ?_) (hstep listed a w i hI hi)
    have := left_set (mem_ready.1 hi).1
    omega

/-- One more is done. -/
def doneSet (d : Nat → Bool) (i : Nat) : Nat → Bool := fun j => if j = i then true else d j
theorem doneSet_ne (d : Nat → Bool) {i j : Nat} (h : j ≠ i) : doneSet d i j = d j := if_neg h
/-- Where an operation's value lies. -/
def dstOf (ops : Array Oper) (i : Nat) : Option Tmp := (ops[i]?).bind (·.dst)
def valOf (ops : Array Oper) (a : Act) (i : Nat) : Value := match dstOf ops i with
  | some t => a.eval (.tmp t)
  | none => undef
/-- Which operations come ahead of one. -/
def depsOf (md : Region.Mode) (ops : Array Oper) (i : Nat) : List Nat := match ops[i]? with
  | some o => (o.after.toList.filter (fun e => Region.binds md e)).map (·.on)
  | none => []
/-- No two write one slot; all slots are there; each waits for earlier ones alone. -/
def wellB (md : Region.Mode) (ops : Array Oper) (n : Nat) : Bool :=
  (List.range ops.size).all fun i =>
    ((depsOf md ops i).all fun j => decide (j < i)) &&
    (match dstOf ops i with
      | some t => decide (t < n) && (List.range ops.size).all fun j => decide (j = i) || decide (dstOf ops j ≠ some t)
      | none => true)
structure RI (ops : Array Oper) (a0 : Act) (D : Nat → Value → World → Prop) (G : (Nat → Bool) → World → Prop) (listed : Array Bool) (a : Act) (w : World) : Prop where
  len : listed.size = ops.size
  size : a.tmps.size = a0.tmps.size
  defers : a.defers = a0.defers
  old : ∀ t, (∀ j, dstOf ops j ≠ some t) → a.eval (.tmp t) = a0.eval (.tmp t)
  done : ∀ j, listed.getD j false = true → D j (valOf ops a j) w
  glob : G (fun j => listed.getD j false) w
/-- What one operation must do. -/
def StepOk (P : Program) (md : Region.Mode) (ops : Array Oper) (Q : Exit → Act → World → Prop) (a0 : Act) (D : Nat → Value → World → Prop) (G : (Nat → Bool) → World → Prop) (i : Nat) : Prop :=
  ∀ o, ops[i]? = some o → ∀ (d : Nat → Bool) (a : Act) (w : World), d i = false → (∀ j ∈ depsOf md ops i, d j = true) → G d w →
    (∀ t, (∀ j, dstOf ops j ≠ some t) → a.eval (.tmp t) = a0.eval (.tmp t)) → (∀ j, d j = true → D j (valOf ops a j) w) →
    (Region.wanted o (yielded ops a.tmps) = true → o.wp P a w (fun a' w' => ∃ v, a' = a.put o.dst v ∧ (o.dst = none ∨ D i v w') ∧ (o.dst = none → D i undef w') ∧ G (doneSet d i) w' ∧ ∀ j, d j = true → ∀ u, D j u w → D j u w') Q) ∧
    (Region.wanted o (yielded ops a.tmps) = false → D i undef w ∧ G (doneSet d i) w)
theorem region_rule {n : Nat} (a0 : Act) (hn : a0.tmps.size = n) (hwell : wellB md ops n = true) (D : Nat → Value → World → Prop) (G : (Nat → Bool) → World → Prop)
    (hstep : ∀ i, i < ops.size → StepOk P md ops Q a0 D G i)
    (hend : ∀ (a : Act) (w : World), a.tmps.size = n → a.defers = a0.defers → (∀ t, (∀ j, dstOf ops j ≠ some t) → a.eval (.tmp t) = a0.eval (.tmp t)) → (∀ j, j < ops.size → D j (valOf ops a j) w) → G (fun j => decide (j < ops.size)) w → Q .normal a w)
    (w : World) (hG : G (fun _ => false) w) : wpAny P md ops Q ops.size (Array.replicate ops.size false) a0 w := by
  have hw : ∀ i, i < ops.size → (∀ j ∈ depsOf md ops i, j < i) ∧ ∀ t, dstOf ops i = some t → t < n ∧ ∀ j, j < ops.size → j ≠ i → dstOf ops j ≠ some t := by
    intro i hi
    have h := List.all_eq_true.1 hwell i (List.mem_range.2 hi)
    simp only [Bool.and_eq_true] at h
    obtain ⟨h1, h3⟩ := h
    refine ⟨fun j hj => by simpa using List.all_eq_true.1 h1 j hj, fun t ht => ?_⟩
    rw [ht] at h3
    simp only [Bool.and_eq_true, decide_eq_true_eq] at h3
    refine ⟨h3.1, fun j hj hne => ?_⟩
    have := List.all_eq_true.1 h3.2 j (List.mem_range.2 hj)
    simpa [hne] using this
  have hdst : ∀ j, ops.size ≤ j → dstOf ops j = none := fun j hj => by simp [dstOf, Array.getElem?_eq_none hj]
  refine wpAny_inv (RI ops a0 D G) ?_ ?_ ops.size _ a0 w ⟨by simp, rfl, rfl, fun _ _ => rfl, fun j hj => ?_, ?_⟩ (by rw [left_replicate]; exact Nat.le_refl _)
  · intro listed a w i hI hi
    obtain ⟨hi0, o, ho, hall⟩ := mem_ready.1 hi
    have hlt : i < ops.size := (Array.getElem?_eq_some_iff.1 ho).1
    obtain ⟨_, hd⟩ := hw i hlt
    have hi1 : listed.getD i false = false := by
      rw [Array.getD_eq_getD_getElem?] at hi0 ⊢
      cases h : listed[i]? with
      | none => rw [h] at hi0; cases hi0
      | some b => rw [h] at hi0; exact hi0
    have hs := hstep i hlt o ho (fun j => listed.getD j false) a w hi1 (fun j hj => by
      unfold depsOf at hj
      rw [ho] at hj
      obtain ⟨e, he, rfl⟩ := List.mem_map.1 hj
      obtain ⟨he1, he2⟩ := List.mem_filter.1 he
      exact hall e (by simpa using he1) he2) hI.glob hI.old hI.done
    have hdo : dstOf ops i = o.dst := by simp [dstOf, ho]
    have key : ∀ (v : Value) (w' : World), (o.dst = none ∨ D i v w') → (o.dst = none → D i undef w') → G (doneSet (fun j => listed.getD j false) i) w' → (∀ j, listed.getD j false = true → ∀ u, D j u w → D j u w') → RI ops a0 D G (listed.setIfInBounds i true) (a.put o.dst v) w' := by
      intro v w' hD hD0 hG' hkeep
      refine ⟨by rw [Array.size_setIfInBounds]; exact hI.len, by rw [Act.size_put]; exact hI.size, by rw [Act.defers_put']; exact hI.defers, fun t ht => ?_, fun j hj => ?_, ?_⟩
      · rw [← hI.old t ht]
        cases hdd : o.dst with
        | none => rfl
        | some d =>
          refine Act.eval_put_ne a d t v (fun e => ht i ?_)
          rw [hdo, hdd, e]
      · rw [getD_set _ _ _ _ _ (by rw [hI.len]; exact hlt)] at hj
        by_cases e : j = i
        · subst e
          unfold valOf
          rw [hdo]
          cases hdd : o.dst with
          | none => exact hD0 hdd
          | some d =>
            have hlt2 : d < a.tmps.size := by rw [hI.size, hn]; exact (hd d (by rw [hdo, hdd])).1
            simp only
            rw [Act.eval_put_same a d v hlt2]
            rcases hD with h | h
            · rw [hdd] at h; cases h
            · exact h
        · rw [if_neg e] at hj
          have h := hkeep j hj _ (hI.done j hj)
          have hv : valOf ops (a.put o.dst v) j = valOf ops a j := by
            unfold valOf
            cases hjd : dstOf ops j with
            | none => rfl
            | some t =>
              cases hdd : o.dst with
              | none => rfl
              | some d =>
                simp only
                refine Act.eval_put_ne a d t v (fun e2 => ?_)
                subst e2
                by_cases hjs : j < ops.size
                · exact (hd d (by rw [hdo, hdd])).2 j hjs e hjd
                · rw [hdst j (by omega)] at hjd; cases hjd
          rw [hv]
          exact h
      · have hf : (fun j => (listed.setIfInBounds i true).getD j false) = doneSet (fun j => listed.getD j false) i := by
          funext j
          exact getD_set _ _ _ _ _ (by rw [hI.len]; exact hlt)
        rw [hf]
        exact hG'
    unfold wpOp
    rw [ho]
    simp only
    by_cases hwant : Region.wanted o (yielded ops a.tmps) = true
    · rw [if_pos hwant]
      refine .inl (Oper.wp_mono ?_ (hs.1 hwant))
      rintro a' w' ⟨v, rfl, hD, hD0, hG', hkeep⟩
      exact key v w' hD hD0 hG' hkeep
    · rw [if_neg hwant]
      obtain ⟨h1, h2⟩ := hs.2 (by simpa using hwant)
      exact key undef w (.inr h1) (fun _ => h1) h2 (fun _ _ _ h => h)
  · intro listed a w hI hr
    have hlisted : ∀ i, i < ops.size → listed.getD i false = true := by
      intro i
      induction i using Nat.strongRecOn with
      | _ i ih =>
        intro hi
        cases hb : listed.getD i false with
        | true => rfl
        | false =>
          exfalso
          have hmem : i ∈ Region.ready md ops listed := by
            refine mem_ready.2 ⟨?_, ops[i], Array.getElem?_eq_getElem hi, fun e he hbind => ?_⟩
            · rw [Array.getD_eq_getD_getElem?] at hb ⊢
              have hl : i < listed.size := by rw [hI.len]; exact hi
              rw [Array.getElem?_eq_getElem hl] at hb ⊢
              exact hb
            · have hdep : e.on ∈ depsOf md ops i := by
                unfold depsOf
                rw [Array.getElem?_eq_getElem hi]
                exact List.mem_map.2 ⟨e, List.mem_filter.2 ⟨by simpa using he, hbind⟩, rfl⟩
              have hlt := (hw i hi).1 e.on hdep
              exact ih e.on hlt (by omega)
          rw [hr] at hmem
          cases hmem
    refine hend a w (hI.size.trans hn) hI.defers hI.old (fun j hj => hI.done j (hlisted j hj)) ?_
    have hf : (fun j => listed.getD j false) = fun j => decide (j < ops.size) := by
      funext j
      by_cases hj : j < ops.size
      · rw [hlisted j hj, decide_eq_true hj]
      · rw [decide_eq_false hj, Array.getD_eq_getD_getElem?, Array.getElem?_eq_none (by rw [hI.len]; omega)]
        rfl
    rw [← hf]
    exact hI.glob
  · rw [Array.getD_eq_getD_getElem?] at hj
    cases h : (Array.replicate ops.size false)[j]? with
    | none => rw [h] at hj; cases hj
    | some b =>
      rw [h] at hj
      have hb : b = true := hj
      rw [Array.getElem?_replicate] at h
      split at h
      · injection h with h; rw [← h] at hb; cases hb
      · cases h
  · have hf : (fun j => (Array.replicate ops.size false).getD j false) = fun _ => false := by
      funext j
      rw [Array.getD_eq_getD_getElem?, Array.getElem?_replicate]
      split <;> rfl
    rw [hf]
    exact hG
theorem old_of {t : Tmp} (h : ((List.range ops.size).all fun j => decide (dstOf ops j ≠ some t)) = true) : ∀ j, dstOf ops j ≠ some t := by
  intro j
  by_cases hj : j < ops.size
  · simpa using List.all_eq_true.1 h j (List.mem_range.2 hj)
  · simp [dstOf, Array.getElem?_eq_none (Nat.le_of_not_lt hj)]
theorem yielded_of {a : Act} {g : Nat} {b : Bool} (h : valOf ops a g = .bool b) : yielded ops a.tmps g = some b := by
  unfold valOf dstOf at h
  unfold yielded
  cases hd : (ops[g]?).bind (·.dst) with
  | none => rw [hd] at h; cases h
  | some t =>
    rw [hd] at h
    simp only [Act.eval, Array.getD_eq_getD_getElem?] at h
    simp only [Option.bind_some]
    cases ht : a.tmps[t]? with
    | none => rw [ht] at h; cases h
    | some v =>
      rw [ht] at h
      have hv : v = .bool b := h
      subst hv
      rfl
/-- An operation that isn't guarded. -/
theorem StepOk.free {a0 : Act} {D : Nat → Value → World → Prop} {G : (Nat → Bool) → World → Prop} {i : Nat} {o : Oper} (ho : ops[i]? = some o) (hgd : o.guard = none)
    (h : ∀ (d : Nat → Bool) (a : Act) (w : World), d i = false → (∀ j ∈ depsOf md ops i, d j = true) → G d w → (∀ t, (∀ j, dstOf ops j ≠ some t) → a.eval (.tmp t) = a0.eval (.tmp t)) → (∀ j, d j = true → D j (valOf ops a j) w) →
      o.wp P a w (fun a' w' => ∃ v, a' = a.put o.dst v ∧ (o.dst = none ∨ D i v w') ∧ (o.dst = none → D i undef w') ∧ G (doneSet d i) w' ∧ ∀ j, d j = true → ∀ u, D j u w → D j u w') Q) : StepOk P md ops Q a0 D G i := by
  intro o' ho' d a w hi hdep hg hold hdone
  obtain rfl : o = o' := by rw [ho] at ho'; injection ho'
  exact ⟨fun _ => h d a w hi hdep hg hold hdone, fun hn => (by unfold Region.wanted at hn; rw [hgd] at hn; cases hn)⟩
/-- A guarded operation whose guard is known. -/
theorem StepOk.guarded {a0 : Act} {D : Nat → Value → World → Prop} {G : (Nat → Bool) → World → Prop} {i g : Nat} {o : Oper} {want : Bool} (ho : ops[i]? = some o) (hgd : o.guard = some (g, want)) (b : Bool)
    (hb : ∀ (d : Nat → Bool) (a : Act) (w : World), (∀ j ∈ depsOf md ops i, d j = true) → G d w → (∀ j, d j = true → D j (valOf ops a j) w) → yielded ops a.tmps g = some b)
    (h1 : b = want → ∀ (d : Nat → Bool) (a : Act) (w : World), d i = false → (∀ j ∈ depsOf md ops i, d j = true) → G d w → (∀ t, (∀ j, dstOf ops j ≠ some t) → a.eval (.tmp t) = a0.eval (.tmp t)) → (∀ j, d j = true → D j (valOf ops a j) w) →
      o.wp P a w (fun a' w' => ∃ v, a' = a.put o.dst v ∧ (o.dst = none ∨ D i v w') ∧ (o.dst = none → D i undef w') ∧ G (doneSet d i) w' ∧ ∀ j, d j = true → ∀ u, D j u w → D j u w') Q)
    (h2 : b ≠ want → ∀ d w, G d w → D i undef w ∧ G (doneSet d i) w) : StepOk P md ops Q a0 D G i := by
  intro o' ho' d a w hi hdep hg hold hdone
  obtain rfl : o = o' := by rw [ho] at ho'; injection ho'
  have hy := hb d a w hdep hg hdone
  unfold Region.wanted
  rw [hgd]
  simp only [hy]
  exact ⟨fun hn => h1 (by simpa using hn) d a w hi hdep hg hold hdone, fun hn => h2 (by simpa using hn) d w hg⟩
/-- An operation that yields a value and leaves the world alone. -/
theorem StepOk.of_pure {a0 : Act} {D : Nat → Value → World → Prop} {G : (Nat → Bool) → World → Prop} {i : Nat} {o : Oper} {t : Tmp} (ho : ops[i]? = some o) (hgd : o.guard = none) (hd : o.dst = some t) (v : Value)
    (hv : ∀ (d : Nat → Bool) (a : Act) (w : World), (∀ j ∈ depsOf md ops i, d j = true) → G d w → (∀ t, (∀ j, dstOf ops j ≠ some t) → a.eval (.tmp t) = a0.eval (.tmp t)) → (∀ j, d j = true → D j (valOf ops a j) w) → (execOp a.eval o).run P w = .ok (.value v) w)
    (hD : ∀ d w, G d w → D i v w) (hG : ∀ d w, G d w → G (doneSet d i) w) : StepOk P md ops Q a0 D G i := by
  intro o' ho' d a w _ hdep hg hold hdone
  obtain rfl : o = o' := by rw [ho] at ho'; injection ho'
  refine ⟨fun _ => ?_, fun hn => (by unfold Region.wanted at hn; rw [hgd] at hn; cases hn)⟩
  unfold Oper.wp
  rw [hv d a w hdep hg hold hdone]
  exact ⟨v, rfl, .inr (hD d w hg), fun (h : o.dst = none) => (by rw [hd] at h; cases h), hG d w hg, fun _ _ _ h => h⟩
end
end Go.Proofs.YteofgpaceeibpaaGreat.Reg

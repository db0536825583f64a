/- array: gone, died. | array: Read. -/
import Derived.Test.YteofgpaceeibpaaGreatTkArrB
namespace Go.Proofs.YteofgpaceeibpaaGreat.ArrC
open Go.RowKit Gab Wr Geom Ref Nand NandA NandB NandC NandD NandE NandH RemapA RemapB VolA VolD VolE VolF MemA MemC ArrA ArrB
open Heap (cell_is heap_set fr_set1)
set_option linter.unusedVariables false
set_option linter.unusedSimpArgs false

/-- What is at hand of the array itself is turned. -/
theorem _root_.Go.Proofs.YteofgpaceeibpaaGreat.ArrA.ArAt.put {w w' : World} {σ : Ar} {K : ALay} (h : ArAt w σ K) (σ' : Ar) (hs : σ'.s = σ.s) (hv : σ'.vol = σ.vol) (hc : σ'.set.chips = σ.set.chips) (hok : σ'.Ok) (hf : Fr (fun b => b = K.x) w w') (hm : w'.heap[K.x]? = some (.cells (acells σ' K) AT (0, 0))) : ArAt w' σ' K := by
  have hne : ∀ {b : Nat} {cs : Array Value} {T : TypeId} {f : Nat × Nat}, w.heap[b]? = some (.cells cs T f) → T ≠ AT → ¬ b = K.x := fun hb hT => blk_ne hb h.main hT
  refine ⟨?_, hm, ?_, ?_, ?_, ?_, hok⟩
  · rw [hs]
    exact h.nand.one h.main hf ⟨⟨by decide, by decide, by decide, by decide, by decide⟩, by decide, by decide⟩
  · rw [hs]
    exact h.ccn
  · obtain ⟨cs, e, hcs⟩ := h.vols
    refine ⟨cs, hf.heap e (hne e (by decide)), fun c hcn => ?_⟩
    have h1 := hcs c (by rw [← hs]; exact hcn)
    unfold vptr at h1 ⊢
    rw [hv]
    exact h1
  · intro c t hcn e
    rw [hs]
    have h1 := h.vol c t (by rw [← hs]; exact hcn) (by rw [← hv]; exact e)
    exact ⟨h1.1.ty hf (fun b cs T f hb hT => hne hb (by rcases hT with rfl | rfl <;> decide)), h1.2⟩
  · obtain ⟨cs, e, hcs⟩ := h.chips
    refine ⟨cs, hf.heap e (hne e (by decide)), fun j hj => ?_⟩
    rw [hc]
    exact hcs j (by rw [← hs]; exact hj)
/-- A member is dead. -/
def _root_.Go.Proofs.YteofgpaceeibpaaGreat.ArrA.Ar.gone (σ : Ar) (m : Nat) : Ar × Int :=
  if σ.set.dead = (m : Int) then (σ, 0) else if σ.set.dead = 255 then ({ σ with set := { σ.set with dead := (m : Int), done := 0 } }, 0) else ({ σ with lost := true }, 74)
def GonePost (σ : Ar) (K : ALay) (m : Nat) (w : World) (e : Ending) (w' : World) : Prop := e = .returned (.int .i64 (σ.gone m).2) ∧ ArAt w' (σ.gone m).1 K ∧ Fr (fun b => b = K.x) w w'

set_option maxHeartbeats 4000000 in
set_option maxRecDepth 100000 in
theorem gone_calls (σ : Ar) (K : ALay) (m : Nat) (w : World) (h : ArAt w σ K) (hm : (m : Int) < σ.s.g.c) : Calls Tryz.prog 73 #[.pointer (some ⟨K.x, 0, none⟩), .int .i64 (m : Int)] w (GonePost σ K m w) := by
  have HA := As.mk h
  have hgc := h.nand.ok.c
  obtain ⟨_, _, _, _, _, _, _, _, c8, c9, c10, c11⟩ := h.cs
  have hm0 := h.main
  have f9 := free_of (i := 9) hm0
  have f10 := free_of (i := 10) hm0
  have f11 := free_of (i := 11) hm0
  have hb := h.nand.ok.b
  by_cases h1 : σ.set.dead = (m : Int)
  · have d1 : (σ.set.dead == (m : Int)) = true := beq_iff_eq.2 h1
    have HPost := As.mk (show ∀ (e : Ending) (w' : World), e = .returned (.int .i64 0) → ArAt w' σ K → Fr (fun b => b = K.x) w w' → GonePost σ K m w e w' from fun e w' k1 k2 k3 => by unfold GonePost Ar.gone; rw [if_pos h1]; exact ⟨k1, k2, k3⟩)
    clear h h1 hm0 hm
    go_enter Tryz.func73, Tryz.ntmps73
    go_wp2_with fail
    go_ret
    exact HPost.out _ _ rfl HA.out (Fr.refl _ _)
  · have d1 : (σ.set.dead == (m : Int)) = false := beq_eq_false_iff_ne.2 h1
    by_cases h2 : σ.set.dead = 255
    · have d2 : (σ.set.dead == 255) = true := beq_iff_eq.2 h2
      have HPost := As.mk (show ∀ (e : Ending) (w' : World), e = .returned (.int .i64 0) → ArAt w' { σ with set := { σ.set with dead := (m : Int), done := 0 } } K → Fr (fun b => b = K.x) w w' → GonePost σ K m w e w' from fun e w' k1 k2 k3 => by unfold GonePost Ar.gone; rw [if_neg h1, if_pos h2]; exact ⟨k1, k2, k3⟩)
      have hs1 := heap_set hm0 9 (.int .i64 (m : Int))
      have hs2 := heap_set hs1 10 (.int .i64 0)
      have hf1 := fr_set1 (w' := w) (b := K.x) (i := 9) (.int .i64 (m : Int))
      have hf2 := hf1.after (fr_set1 (w' := w.setCell ⟨K.x, 9, none⟩ (.int .i64 (m : Int))) (b := K.x) (i := 10) (.int .i64 0)) (fun _ _ h => h)
      have HN := As.mk (h.put { σ with set := { σ.set with dead := (m : Int), done := 0 } } rfl rfl rfl ⟨⟨h.ok.set.len, h.ok.set.seq, h.ok.set.inr, h.ok.set.nd, .inr ⟨by show (0 : Int) ≤ (m : Int); omega, hm⟩, ⟨Int.le_refl 0, by show (0 : Int) ≤ σ.s.g.b - 5; omega⟩, fun h => absurd h (Int.lt_irrefl 0)⟩, h.ok.more⟩ hf2 (by rw [hs2]; rfl))
      have HF2 := As.mk hf2
      clear h h1 h2 hm0 hs1 hs2 hf1 hf2 hm
      go_enter Tryz.func73, Tryz.ntmps73
      go_wp2_with fail
      go_ret
      exact HPost.out _ _ rfl HN.out HF2.out
    · have d2 : (σ.set.dead == 255) = false := beq_eq_false_iff_ne.2 h2
      have HPost := As.mk (show ∀ (e : Ending) (w' : World), e = .returned (.int .i64 74) → ArAt w' { σ with lost := true } K → Fr (fun b => b = K.x) w w' → GonePost σ K m w e w' from fun e w' k1 k2 k3 => by unfold GonePost Ar.gone; rw [if_neg h1, if_neg h2]; exact ⟨k1, k2, k3⟩)
      have hs1 := heap_set hm0 11 (.bool true)
      have hf1 := fr_set1 (w' := w) (b := K.x) (i := 11) (.bool true)
      have HN := As.mk (h.put { σ with lost := true } rfl rfl rfl ⟨h.ok.set, h.ok.more⟩ hf1 (by rw [hs1]; rfl))
      have HF1 := As.mk hf1
      clear h h1 h2 hm0 hs1 hf1 hm
      go_enter Tryz.func73, Tryz.ntmps73
      go_wp2_with fail
      go_ret
      exact HPost.out _ _ rfl HN.out HF1.out

/-! ### a chip that is dead -/
/-- A chip isn't there any longer. -/
def _root_.Go.Proofs.YteofgpaceeibpaaGreat.ArrA.Ar.drop (σ : Ar) (c : Nat) : Ar := { σ with vol := fun k => if k = c then none else σ.vol k, lost := σ.lost }
/-- Which member a chip is. -/
def idxOf (l : List Int) (c : Nat) : Option Nat := (List.range l.length).find? (fun j => l.getD j 0 == (c : Int))
theorem idx_none {l : List Int} {c : Nat} (h : ∀ j, j < l.length → l.getD j 0 ≠ (c : Int)) : idxOf l c = none := by
  unfold idxOf
  rw [List.find?_eq_none]
  intro j hj
  rw [List.mem_range] at hj
  simpa using h j hj
theorem idx_some {l : List Int} {c i : Nat} (hi : i < l.length) (h0 : l.getD i 0 = (c : Int)) (h : ∀ j, j < i → l.getD j 0 ≠ (c : Int)) : idxOf l c = some i := by
  unfold idxOf
  rw [List.find?_eq_some_iff_getElem]
  refine ⟨by simpa using h0, i, by simpa using hi, by simp, fun j hj => ?_⟩
  have := h j hj
  simpa using this
def _root_.Go.Proofs.YteofgpaceeibpaaGreat.ArrA.Ar.died (σ : Ar) (c : Nat) : Ar × Int :=
  if σ.set.spare = (c : Int) then ({ σ.drop c with set := { σ.set with spare := 255, done := 0 } }, 0) else match idxOf σ.set.chips c with
    | some m => (σ.drop c).gone m
    | none => (σ.drop c, 0)
theorem dropV {w : World} {σ : Ar} {K : ALay} (h : ArAt w σ K) (c : Nat) (hc : c < σ.s.n) : ArAt (w.setCell ⟨K.V, c, none⟩ (.pointer none)) (σ.drop c) K := by
  obtain ⟨cs, e, hcs⟩ := h.vols
  have hf := fr_set1 (w' := w) (b := K.V) (i := c) (.pointer none)
  have hne : ∀ {b : Nat} {cs : Array Value} {T : TypeId} {f : Nat × Nat}, w.heap[b]? = some (.cells cs T f) → T ≠ PV → ¬ b = K.V := fun hb hT => blk_ne hb e hT
  refine ⟨h.nand.one e hf ⟨⟨by decide, by decide, by decide, by decide, by decide⟩, by decide, by decide⟩, hf.heap h.main (hne h.main (by decide)), h.ccn, ⟨_, heap_set e _ _, fun k hk => ?_⟩, fun k t hk ek => ?_, ?_, ⟨h.ok.set, fun k t hk ek => ?_⟩⟩
  · by_cases ek : k = c
    · subst ek
      rw [Array.getElem?_setIfInBounds_self_of_lt (by have := hcs k hc; exact (Array.getElem?_eq_some_iff.1 this).1)]
      unfold vptr
      show some (Value.pointer none) = some (match (if k = k then none else σ.vol k) with | none => Value.pointer none | some _ => _)
      rw [if_pos rfl]
    · rw [Array.getElem?_setIfInBounds_ne (fun h => ek h.symm)]
      have h1 := hcs k hk
      rw [h1]
      unfold vptr
      show some (match σ.vol k with | none => Value.pointer none | some _ => _) = some (match (if k = c then none else σ.vol k) with | none => Value.pointer none | some _ => _)
      rw [if_neg ek]
  · have ek2 : (if k = c then none else σ.vol k) = some t := ek
    split at ek2
    · cases ek2
    · have h1 := h.vol k t hk ek2
      exact ⟨h1.1.ty hf (fun b cs T f hb hT => hne hb (by rcases hT with rfl | rfl <;> decide)), h1.2⟩
  · obtain ⟨ds, e2, hds⟩ := h.chips
    exact ⟨ds, hf.heap e2 (hne e2 (by decide)), hds⟩
  · have ek2 : (if k = c then none else σ.vol k) = some t := ek
    split at ek2
    · cases ek2
    · exact h.ok.more k t hk ek2
def DiedPost (σ : Ar) (K : ALay) (c : Nat) (w : World) (e : Ending) (w' : World) : Prop := e = .returned (.int .i64 (σ.died c).2) ∧ ArAt w' (σ.died c).1 K ∧ Fr (fun b => b = K.x ∨ b = K.V) w w'

set_option maxHeartbeats 4000000 in
set_option maxRecDepth 100000 in
theorem died_calls (σ : Ar) (K : ALay) (c : Nat) (w : World) (h : ArAt w σ K) (hc : c < σ.s.n) : Calls Tryz.prog 54 #[.pointer (some ⟨K.x, 0, none⟩), .int .i64 (c : Int)] w (DiedPost σ K c w) := by
  obtain ⟨v0, g0⟩ := h.volc hc
  obtain ⟨_, _, _, _, _, c5, _, _, _, _, _, _⟩ := h.cs
  have HD := As.mk (dropV h c hc)
  have HF1 := As.mk (fr_set1 (w' := w) (b := K.V) (i := c) (.pointer none))
  have hgc := h.nand.ok.c
  have hgb := h.nand.ok.b
  have hcI : (c : Int) < (σ.s.n : Int) := by omega
  have hct : Int.toNat (c : Int) = c := by omega
  have hlen := h.ok.set.len
  have HGO := As.mk (fun (m : Nat) (w' : World) (hA : ArAt w' (σ.drop c) K) (hm : (m : Int) < σ.s.g.c) => gone_calls (σ.drop c) K m w' hA hm)
  clear h
  go_enter Tryz.func54, Tryz.ntmps54
  go_upto_region 2 with fail
  generalize w.setCell ⟨K.V, c, none⟩ (.pointer none) = w1 at *
  obtain ⟨_, _, _, _, _, _, _, c7, c8, c9, c10, c11⟩ := HD.out.cs
  change w1.cell? ⟨K.x, 7, none⟩ = some (.slice (some ⟨K.cb, 0, none⟩) σ.s.g.c.toNat K.cc) at c7
  change w1.cell? ⟨K.x, 8, none⟩ = some (.int .i64 σ.set.spare) at c8
  change w1.cell? ⟨K.x, 10, none⟩ = some (.int .i64 σ.set.done) at c10
  have hm0 := HD.out.main
  have f8 := free_of (i := 8) hm0
  have f10 := free_of (i := 10) hm0
  clear v0 g0 c5 c9 c11
  by_cases hsp : σ.set.spare = (c : Int)
  · have d1 : ((c : Int) == σ.set.spare) = true := beq_iff_eq.2 hsp.symm
    have HPost := As.mk (show ∀ (e : Ending) (w' : World), e = .returned (.int .i64 0) → ArAt w' { σ.drop c with set := { σ.set with spare := 255, done := 0 } } K → Fr (fun b => b = K.x ∨ b = K.V) w w' → DiedPost σ K c w e w' from fun e w' k1 k2 k3 => by unfold DiedPost Ar.died; rw [if_pos hsp]; exact ⟨k1, k2, k3⟩)
    have hs1 := heap_set hm0 8 (.int .i64 255)
    have hs2 := heap_set hs1 10 (.int .i64 0)
    have hf1 := fr_set1 (w' := w1) (b := K.x) (i := 8) (.int .i64 255)
    have hf2 := hf1.after (fr_set1 (w' := w1.setCell ⟨K.x, 8, none⟩ (.int .i64 255)) (b := K.x) (i := 10) (.int .i64 0)) (fun _ _ h => h)
    have hinr : ∀ x ∈ ({ σ.set with spare := 255, done := 0 } : MS).all, x ∈ σ.set.all := fun x hx => by
      unfold MS.all at hx ⊢
      rw [if_pos rfl, List.append_nil] at hx
      exact List.mem_append_left _ hx
    have hnd : ({ σ.set with spare := 255, done := 0 } : MS).all.Nodup := by
      have := HD.out.ok.set.nd
      unfold MS.all at this ⊢
      rw [if_pos rfl, List.append_nil]
      exact (List.nodup_append.1 this).1
    have hoo := HD.out.ok
    have HN := As.mk (HD.out.put { σ.drop c with set := { σ.set with spare := 255, done := 0 } } rfl rfl rfl ⟨⟨hoo.set.len, hoo.set.seq, fun x hx => hoo.set.inr x (hinr x hx), hnd, hoo.set.dead, ⟨Int.le_refl 0, by show (0 : Int) ≤ σ.s.g.b - 5; omega⟩, fun h => absurd h (Int.lt_irrefl 0)⟩, hoo.more⟩ hf2 (by rw [hs2]; rfl))
    have HF2 := As.mk (HF1.out.trans hf2 (U := fun b => b = K.x ∨ b = K.V) (fun _ _ h => .inr h) (fun _ _ h => .inl h))
    clear hsp hm0 hs1 hs2 hf1 hf2 hinr hnd hoo
    go_wp2_with fail
    go_ret
    exact HPost.out _ _ rfl HN.out HF2.out
  · have d1 : ((c : Int) == σ.set.spare) = false := beq_eq_false_iff_ne.2 (fun h => hsp h.symm)
    have HDI := As.mk (show σ.died c = match idxOf σ.set.chips c with | some m => (σ.drop c).gone m | none => (σ.drop c, 0) from by unfold Ar.died; rw [if_neg hsp])
    have HLN := As.mk (show σ.set.chips.length = σ.s.g.c.toNat from by omega)
    have HRD := As.mk (show Rd .i64 w1 (some ⟨K.cb, 0, none⟩) σ.s.g.c.toNat σ.set.chips from HD.out.rd)
    have HGC := As.mk hgc
    clear hsp hm0 f8 f10 c10 hlen
    generalize hnc : σ.s.g.c.toNat = nc at *
    have HNC := As.mk hnc
    have hn16 : nc ≤ 16 := by omega
    clear hnc hgc
    go_wp2_with fail
    go_loopw [34] (fun v34 w' => ∃ i : Nat, v34 = .int .i64 (i : Int) ∧ i ≤ nc ∧ w' = w1 ∧ As (∀ j, j < i → σ.set.chips.getD j 0 ≠ (c : Int))) (fun v34 _ => nc - (intOf v34).toNat)
    case atStart => exact ⟨0, rfl, Nat.zero_le _, rfl, ⟨fun j hj => absurd hj (Nat.not_lt_zero _)⟩⟩
    case round =>
      obtain ⟨i, rfl, hi, rfl, HJ⟩ := hrel
      by_cases hlt : i < nc
      · have hltI : (i : Int) < (nc : Int) := by omega
        obtain ⟨ad, ea, hcc⟩ := HRD.out.at_ i (by omega) hltI
        injection ea with ea
        subst ea
        rw [Int.toNat_natCast, add_at] at hcc
        by_cases hx : σ.set.chips.getD i 0 = (c : Int)
        · have d2 : (σ.set.chips.getD i 0 == (c : Int)) = true := beq_iff_eq.2 hx
          have HID := As.mk (show σ.died c = (σ.drop c).gone i from by rw [HDI.out, idx_some (by have := HLN.out; omega) hx HJ.out])
          have HGI := As.mk (HGO.out i wr HD.out (by have := HNC.out; have := HGC.out; omega))
          unfold GonePost at HGI
          rw [← HID.out] at HGI
          have HPost := As.mk (show ∀ (e : Ending) (w' : World), e = .returned (.int .i64 (σ.died c).2) → ArAt w' (σ.died c).1 K → Fr (fun b => b = K.x) wr w' → DiedPost σ K c w e w' from fun e w' k1 k2 k3 => ⟨k1, k2, HF1.out.trans k3 (fun _ _ h => .inr h) (fun _ _ h => .inl h)⟩)
          generalize σ.set.chips.getD i 0 = y at *
          clear hx HJ
          go_wp2_with fail
          ((with_reducible refine (HGI.out).mono ?_); rintro e w2 ⟨rfl, ha2, hf2⟩)
          have HA2 := As.mk ha2
          have HF2 := As.mk hf2
          clear ha2 hf2
          generalize (σ.died c).2 = k at *
          go_wp2_with fail
          go_ret
          exact HPost.out _ _ rfl HA2.out HF2.out
        · have d2 : (σ.set.chips.getD i 0 == (c : Int)) = false := beq_eq_false_iff_ne.2 hx
          have HJ2 := As.mk (show ∀ j, j < i + 1 → σ.set.chips.getD j 0 ≠ (c : Int) from fun j hj => by
            by_cases e : j = i
            · rw [e]; exact hx
            · exact HJ.out j (by omega))
          generalize σ.set.chips.getD i 0 = y at *
          clear hx HJ
          go_wp2_with fail
          exact ⟨⟨i + 1, rfl, by omega, (by first | rfl | trivial), HJ2⟩, by simp [intOf]; omega⟩
      · have hltI : ¬ (i : Int) < (nc : Int) := by omega
        have HPost := As.mk (show ∀ (e : Ending) (w' : World), e = .returned (.int .i64 0) → ArAt w' (σ.drop c) K → Fr (fun b => b = K.x ∨ b = K.V) w w' → DiedPost σ K c w e w' from fun e w' k1 k2 k3 => by
          have : idxOf σ.set.chips c = none := idx_none (fun j hj => HJ.out j (by have := HLN.out; omega))
          unfold DiedPost
          rw [HDI.out, this]
          exact ⟨k1, k2, k3⟩)
        clear HJ
        go_wp2_with fail
        go_ret
        exact HPost.out _ _ rfl HD.out (HF1.out.mono (fun _ _ h => .inr h))
end Go.Proofs.YteofgpaceeibpaaGreat.ArrC
namespace Go.Proofs.YteofgpaceeibpaaGreat.ArrD
open Go.RowKit Gab Wr Geom Ref Nand NandA NandB NandC NandD NandE NandH RemapA RemapB VolA VolD VolE VolF MemA MemC ArrA ArrB ArrC
open Heap (cell_is heap_set fr_set1)
set_option linter.unusedVariables false
set_option linter.unusedSimpArgs false

/-- A chip's table. -/
def _root_.Go.Proofs.YteofgpaceeibpaaGreat.ArrA.Ar.tab (σ : Ar) (c : Nat) : Tab := (σ.vol c).getD ⟨0, [], [], 0, 0⟩
/-- A page of a member's block is read: the array behind it, and the error. -/
def _root_.Go.Proofs.YteofgpaceeibpaaGreat.ArrA.Ar.read (σ : Ar) (m : Nat) : Ar × Int :=
  if σ.lost then (σ, 74) else if σ.set.dead = (m : Int) then (σ, 71) else
    if (σ.s.read (σ.chip m)).2 = 71 then (if (Ar.died { σ with s := (σ.s.read (σ.chip m)).1 } (σ.chip m)).2 = 0 then ((Ar.died { σ with s := (σ.s.read (σ.chip m)).1 } (σ.chip m)).1, 71) else Ar.died { σ with s := (σ.s.read (σ.chip m)).1 } (σ.chip m))
    else ({ σ with s := (σ.s.read (σ.chip m)).1 }, (σ.s.read (σ.chip m)).2)
/-- A page's bytes, and those beside it. -/
def _root_.Go.Proofs.YteofgpaceeibpaaGreat.ArrA.Ar.bytes (σ : Ar) (m b q : Nat) : List Int × List Int := σ.s.bytes (σ.chip m) ((σ.tab (σ.chip m)).at b) q
def RdPost (σ : Ar) (K : ALay) (m b q : Nat) (w : World) (e : Ending) (w' : World) : Prop :=
  ∃ A n k B j i, e = .returned (.tuple #[.slice A n k, .slice B j i, .int .i64 (σ.read m).2]) ∧ ArAt w' (σ.read m).1 K ∧ Fr (AF K σ) w w' ∧
    ((σ.read m).2 = 0 → Row 5 .u8 w' w.heap.size (.slice A n k) (σ.bytes m b q).1 ∧ Row 5 .u8 w' w.heap.size (.slice B j i) (σ.bytes m b q).2) ∧ ((σ.read m).2 ≠ 0 → Value.slice A n k = .slice none 0 0 ∧ Value.slice B j i = .slice none 0 0)
theorem died_same (σ : Ar) (c : Nat) : (σ.died c).1.s = σ.s ∧ ((σ.died c).2 = 0 ∨ (σ.died c).2 = 74) := by
  unfold Ar.died
  split
  · exact ⟨rfl, .inl rfl⟩
  · split
    · unfold Ar.gone
      split
      · exact ⟨rfl, .inl rfl⟩
      · split
        · exact ⟨rfl, .inl rfl⟩
        · exact ⟨rfl, .inr rfl⟩
    · exact ⟨rfl, .inl rfl⟩
theorem read_same (σ : Ar) (m : Nat) : (σ.read m).1.s.g = σ.s.g := by
  have h := (read_g σ.s (σ.chip m)).1
  unfold Ar.read
  split
  · rfl
  · split
    · rfl
    · split
      · split
        · rw [(died_same _ _).1]; exact h
        · rw [(died_same _ _).1]; exact h
      · exact h
theorem AF.eq {K : ALay} {σ σ' : Ar} (h : σ'.s.g = σ.s.g) (b : Nat) : AF K σ' b ↔ AF K σ b := by
  unfold AF
  rw [(n_same h).1, (n_same h).2.1]

set_option maxHeartbeats 8000000 in
set_option maxRecDepth 100000 in
theorem Read_calls (σ : Ar) (K : ALay) (m b q : Nat) (w : World) (h : ArAt w σ K) (hth : σ.There) (hm : (m : Int) < σ.s.g.c) (hb : (b : Int) < σ.s.g.b - 5) (hq : q < σ.s.np) (n : Nat) (hs : σ.s.Safe (n + 1)) :
    Calls Tryz.prog 22 #[.pointer (some ⟨K.x, 0, none⟩), .int .i64 (m : Int), .int .i64 (b : Int), .int .i64 (q : Int)] w (RdPost σ K m b q w) := by
  have HA := As.mk h
  have HIN := As.mk (in_calls σ K m b w h hm hb)
  have hgc := h.nand.ok.c
  have HZ : As (∀ w' : World, Fr None_ w w' → w.heap.size ≤ w'.heap.size) := ⟨fun w' hf => hf.size⟩
  have hlk : (σ.lost = false ∧ σ.lostK = 0) ∨ (σ.lost = true ∧ σ.lostK = 74) := by unfold Ar.lostK; cases σ.lost <;> simp
  rcases hlk with ⟨hl, hk⟩ | ⟨hl, hk⟩
  · rw [hk] at HIN
    by_cases hd : σ.set.dead = (m : Int)
    · have hr : σ.read m = (σ, 71) := by unfold Ar.read; rw [hl, if_neg (by decide), if_pos hd]
      have HPost := As.mk (show ∀ (e : Ending) (w' : World), e = .returned (.tuple #[.slice none 0 0, .slice none 0 0, .int .i64 71]) → ArAt w' σ K → Fr None_ w w' → RdPost σ K m b q w e w' from fun e w' k1 k2 k3 => by
        unfold RdPost
        rw [hr]
        exact ⟨none, 0, 0, none, 0, 0, k1, k2, k3.mono (fun _ _ h => h.elim), fun h => (by cases h), fun _ => ⟨rfl, rfl⟩⟩)
      have d1 : ((m : Int) == σ.set.dead) = true := beq_iff_eq.2 hd.symm
      clear h hth hm hb hq hs hl hk hd hr
      go_enter Tryz.func22, Tryz.ntmps22
      go_wp2_with fail
      ((with_reducible refine (HIN.out).mono ?_); rintro e w1 ⟨rfl, hf1⟩)
      have HA1 := As.mk (HA.out.none_ hf1)
      have HF1 := As.mk hf1
      obtain ⟨_, _, _, _, _, _, _, _, _, c9, _, _⟩ := HA1.out.cs
      clear hf1
      go_wp2_with fail
      go_ret3
      exact HPost.out _ _ rfl HA1.out HF1.out
    · have d1 : ((m : Int) == σ.set.dead) = false := beq_eq_false_iff_ne.2 (fun e => hd e.symm)
      obtain ⟨t, ht⟩ := hth hl m hm (fun e => hd e.symm)
      obtain ⟨kc, hcn, hce⟩ := h.chipc hm
      have hvv := (h.vol (σ.chip m) t hcn ht)
      have htok := h.ok.more _ t hcn ht
      have hlt : b < t.place.length := by rw [htok.len]; omega
      have hbt : σ.bytes m b q = σ.s.bytes (σ.chip m) (t.at b) q := by unfold Ar.bytes Ar.tab; rw [ht]; rfl
      have HRD := As.mk (fun (w' : World) (hf : Fr None_ w w') => VolA.Read_calls K.p (σ.chip m) σ.s K.L t (K.v (σ.chip m)) b q w' (h.nand.none_ hf) (hvv.1.none_ hf) htok hcn hlt hq n hs)
      unfold ReadPost at HRD
      rw [← hbt] at HRD
      have HCC := As.mk (fun (w' : World) (hf : Fr None_ w w') => (show w'.cell? ⟨K.cb, m, none⟩ = some (.int .i64 (σ.chip m : Int)) ∧ w'.cell? ⟨K.V, σ.chip m, none⟩ = some (.pointer (some ⟨(K.v (σ.chip m)).vb, 0, none⟩)) from by
        have h1 := (h.none_ hf).chipc hm
        have h2 := ((h.none_ hf).volc hcn).1
        unfold vptr at h2
        rw [ht] at h2
        exact ⟨h1.1, h2⟩))
      have HDI := As.mk (fun (w' : World) (hA : ArAt w' { σ with s := (σ.s.read (σ.chip m)).1 } K) => died_calls { σ with s := (σ.s.read (σ.chip m)).1 } K (σ.chip m) w' hA (by show σ.chip m < St.n _; rw [(n_same (read_g σ.s (σ.chip m)).1).1]; exact hcn))
      have HTU := As.mk (fun (w1 w' : World) (hf : Fr None_ w w1) (hN : Nand w' K.p (σ.s.read (σ.chip m)).1 K.L) (hf2 : Fr (NF K.p K.L σ.s.n σ.s.nb) w1 w') => (h.none_ hf).turn hN (read_g σ.s (σ.chip m)).1 hf2)
      have HR := As.mk (show σ.read m = if (σ.s.read (σ.chip m)).2 = 71 then (if (Ar.died { σ with s := (σ.s.read (σ.chip m)).1 } (σ.chip m)).2 = 0 then ((Ar.died { σ with s := (σ.s.read (σ.chip m)).1 } (σ.chip m)).1, 71) else Ar.died { σ with s := (σ.s.read (σ.chip m)).1 } (σ.chip m)) else ({ σ with s := (σ.s.read (σ.chip m)).1 }, (σ.s.read (σ.chip m)).2) from by unfold Ar.read; rw [hl, if_neg (by decide), if_neg hd])
      have hcI : (σ.chip m : Int) < (σ.s.n : Int) := by omega
      have hmI : (m : Int) < (σ.s.g.c.toNat : Int) := by omega
      have hmn : m < σ.s.g.c.toNat := by omega
      have hct : Int.toNat (σ.chip m : Int) = σ.chip m := by omega
      have hmt : Int.toNat (m : Int) = m := by omega
      generalize σ.chip m = c at *
      clear h hth hm hb hq hs hl hk hd ht kc hce hvv htok hlt hbt
      go_enter Tryz.func22, Tryz.ntmps22
      go_wp2_with fail
      ((with_reducible refine (HIN.out).mono ?_); rintro e w1 ⟨rfl, hf1⟩)
      have HA1 := As.mk (HA.out.none_ hf1)
      have HF1 := As.mk hf1
      obtain ⟨_, _, _, _, _, c5, _, c7, _, c9, _, _⟩ := HA1.out.cs
      obtain ⟨k1, k2⟩ := HCC.out w1 hf1
      have HRD1 := As.mk (HRD.out w1 hf1)
      clear hf1
      go_wp2_with fail
      ((with_reducible refine (HRD1.out).mono ?_); rintro e w2 ⟨A2, n2, x2, B2, j2, i2, rfl, hn2, hf2, hok, hbad⟩)
      have HA2 := As.mk (HTU.out w1 w2 HF1.out hn2 hf2)
      have HF2 := As.mk (show Fr (AF K σ) w w2 from HF1.out.trans hf2 (fun _ _ h => h.elim) (fun _ _ h => .inl h))
      have HOK := As.mk hok
      have HBAD := As.mk hbad
      have HZ1 := As.mk HF1.out.size
      clear hn2 hf2 hok hbad c5 c7 c9 k1 k2 HRD1
      by_cases hk7 : (σ.s.read c).2 = 71
      · have hb2 := HBAD.out (by rw [hk7]; decide)
        obtain ⟨ea, eb⟩ := hb2
        injection ea with ea1 ea2 ea3
        injection eb with eb1 eb2 eb3
        subst ea1 ea2 ea3 eb1 eb2 eb3
        have HDD := As.mk (HDI.out w2 HA2.out)
        have HDS := As.mk (died_same { σ with s := (σ.s.read c).1 } c)
        have HG := As.mk (show ∀ b, (b = K.x ∨ b = K.V) → AF K σ b from fun b h => by rcases h with h | h; exact .inr (.inl h); exact .inr (.inr h))
        by_cases hd0 : (Ar.died { σ with s := (σ.s.read c).1 } c).2 = 0
        · have HR2 := As.mk (show σ.read m = ((Ar.died { σ with s := (σ.s.read c).1 } c).1, 71) from by rw [HR.out, if_pos hk7, if_pos hd0])
          have HPost := As.mk (show ∀ (e : Ending) (w' : World), e = .returned (.tuple #[.slice none 0 0, .slice none 0 0, .int .i64 71]) → ArAt w' (Ar.died { σ with s := (σ.s.read c).1 } c).1 K → Fr (AF K σ) w w' → RdPost σ K m b q w e w' from fun e w' k1 k2 k3 => by
            unfold RdPost
            rw [HR2.out]
            exact ⟨none, 0, 0, none, 0, 0, k1, k2, k3, fun h => (by cases h), fun _ => ⟨rfl, rfl⟩⟩)
          unfold DiedPost at HDD
          rw [hd0] at HDD
          rw [hk7]
          clear hk7 hd0
          go_wp2_with fail
          ((with_reducible refine (HDD.out).mono ?_); rintro e w3 ⟨rfl, ha3, hf3⟩)
          have HA3 := As.mk ha3
          have HF3 := As.mk (HF2.out.after hf3 (fun b _ h => HG.out b h))
          clear ha3 hf3
          go_wp2_with fail
          go_ret3
          exact HPost.out _ _ rfl HA3.out HF3.out
        · have hd4 : (Ar.died { σ with s := (σ.s.read c).1 } c).2 = 74 := by rcases HDS.out.2 with h | h; exact absurd h hd0; exact h
          have HR2 := As.mk (show σ.read m = Ar.died { σ with s := (σ.s.read c).1 } c from by rw [HR.out, if_pos hk7, if_neg hd0])
          have HPost := As.mk (show ∀ (e : Ending) (w' : World), e = .returned (.tuple #[.slice none 0 0, .slice none 0 0, .int .i64 74]) → ArAt w' (Ar.died { σ with s := (σ.s.read c).1 } c).1 K → Fr (AF K σ) w w' → RdPost σ K m b q w e w' from fun e w' k1 k2 k3 => by
            unfold RdPost
            rw [HR2.out, hd4]
            exact ⟨none, 0, 0, none, 0, 0, k1, k2, k3, fun h => (by cases h), fun _ => ⟨rfl, rfl⟩⟩)
          unfold DiedPost at HDD
          rw [hd4] at HDD
          rw [hk7]
          clear hk7 hd0 hd4
          go_wp2_with fail
          ((with_reducible refine (HDD.out).mono ?_); rintro e w3 ⟨rfl, ha3, hf3⟩)
          have HA3 := As.mk ha3
          have HF3 := As.mk (HF2.out.after hf3 (fun b _ h => HG.out b h))
          clear ha3 hf3
          go_wp2_with fail
          go_ret3
          exact HPost.out _ _ rfl HA3.out HF3.out
      · have d7 : ((σ.s.read c).2 == 71) = false := beq_eq_false_iff_ne.2 hk7
        have HR2 := As.mk (show σ.read m = ({ σ with s := (σ.s.read c).1 }, (σ.s.read c).2) from by rw [HR.out, if_neg hk7])
        have HPost := As.mk (show ∀ (e : Ending) (w' : World), e = .returned (.tuple #[.slice A2 n2 x2, .slice B2 j2 i2, .int .i64 (σ.s.read c).2]) → ArAt w' { σ with s := (σ.s.read c).1 } K → Fr (AF K σ) w w' → w' = w2 → RdPost σ K m b q w e w' from fun e w' k1 k2 k3 k4 => by
          subst k4
          unfold RdPost
          rw [HR2.out]
          exact ⟨A2, n2, x2, B2, j2, i2, k1, k2, k3, fun h => ⟨((HOK.out h).1).lower HZ1.out, ((HOK.out h).2).lower HZ1.out⟩, HBAD.out⟩)
        generalize (σ.s.read c).2 = k at *
        clear hk7
        go_wp2_with fail
        go_ret3
        exact HPost.out _ _ rfl HA2.out HF2.out rfl
  · rw [hk] at HIN
    have hr : σ.read m = (σ, 74) := by unfold Ar.read; rw [hl, if_pos rfl]
    have HPost := As.mk (show ∀ (e : Ending) (w' : World), e = .returned (.tuple #[.slice none 0 0, .slice none 0 0, .int .i64 74]) → ArAt w' σ K → Fr None_ w w' → RdPost σ K m b q w e w' from fun e w' k1 k2 k3 => by
      unfold RdPost
      rw [hr]
      exact ⟨none, 0, 0, none, 0, 0, k1, k2, k3.mono (fun _ _ h => h.elim), fun h => (by cases h), fun _ => ⟨rfl, rfl⟩⟩)
    clear h hth hm hb hq hs hl hk hr
    go_enter Tryz.func22, Tryz.ntmps22
    go_wp2_with fail
    ((with_reducible refine (HIN.out).mono ?_); rintro e w1 ⟨rfl, hf1⟩)
    have HA1 := As.mk (HA.out.none_ hf1)
    have HF1 := As.mk hf1
    clear hf1
    go_wp2_with fail
    go_ret3
    exact HPost.out _ _ rfl HA1.out HF1.out
end Go.Proofs.YteofgpaceeibpaaGreat.ArrD

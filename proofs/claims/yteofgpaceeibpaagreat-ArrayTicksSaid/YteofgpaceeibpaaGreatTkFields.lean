/- A header's fields: the bytes that are laid, in whatever order the region's slices are made. -/
import Derived.Test.YteofgpaceeibpaaGreatTkRead
import Derived.Test.YteofgpaceeibpaaGreatTkReg
import Derived.Outline
namespace Go.Proofs.YteofgpaceeibpaaGreat.Fields
open Go.RowKit Reg Gab Wr
set_option linter.unusedVariables false
set_option linter.unusedSimpArgs false

/-- A header: kind, epoch, batch, index, count, block, more. -/
structure Head where
  kind : Int
  epoch : Int
  batch : Int
  index : Int
  count : Int
  block : Int
  more : Int
deriving DecidableEq
def Head.vals (h : Head) : Array Value := #[.int .u8 h.kind, .int .u32 h.epoch, .int .u32 h.batch, .int .u16 h.index, .int .u16 h.count, .int .u32 h.block, .int .u32 h.more]
/-- Its numbers are of their kinds. -/
structure Head.Ok (h : Head) : Prop where
  kind : 0 ≤ h.kind ∧ h.kind < 256
  epoch : 0 ≤ h.epoch ∧ h.epoch < 4294967296
  batch : 0 ≤ h.batch ∧ h.batch < 4294967296
  index : 0 ≤ h.index ∧ h.index < 65536
  count : 0 ≤ h.count ∧ h.count < 65536
  block : 0 ≤ h.block ∧ h.block < 4294967296
  more : 0 ≤ h.more ∧ h.more < 4294967296

/-- A slice that was made ahead of a writer's call. -/
def Bx (w : World) (p : Nat) (v : Value) (e : TypeId) (k : IntKind) (l : List Int) : Prop :=
  ∃ g, v = .slice (some ⟨g, 0, none⟩) l.length l.length ∧ w.heap[g]? = some (.cells (nums k l).toArray e (0, 0)) ∧ g ≠ p ∧ rowOf w p ≠ some g
theorem Bx.step {w w' : World} {p : Nat} {v : Value} {e : TypeId} {k : IntKind} {l : List Int} (h : Bx w p v e k l) (hs : Step p w w') : Bx w' p v e k l := by
  obtain ⟨g, rfl, hg, hp, hr⟩ := h
  refine ⟨g, rfl, hs.fr.heap hg (by rintro (h | h); exact hp h; exact hr h), hp, fun h => ?_⟩
  rcases hs.row with h1 | h1
  · exact hr (h1 ▸ h)
  · have := h1 g h
    have := (Array.getElem?_eq_some_iff.1 hg).1
    omega
theorem rowOf_fr {w w' : World} {p : Nat} {S : Nat → Prop} (h : Fr S w w') (hp : p < w.heap.size) (hS : ¬ S p) : rowOf w' p = rowOf w p := by
  unfold rowOf
  rw [h.block p hp hS]
theorem Bx.alloc {w : World} {p : Nat} {v : Value} {e : TypeId} {k : IntKind} {l : List Int} (h : Bx w p v e k l) (hp : p < w.heap.size) (o : Obj) : Bx (w.alloc o) p v e k l := by
  obtain ⟨g, rfl, hg, hgp, hr⟩ := h
  have hf := (Fr.refl None_ w).alloc o
  exact ⟨g, rfl, hf.heap hg (fun h => h), hgp, by rw [rowOf_fr hf hp (fun h => h)]; exact hr⟩
theorem Bx.made {w : World} {p : Nat} (e : TypeId) (k : IntKind) (l : List Int) (hp : p < w.heap.size) (hr : ∀ g, rowOf w p = some g → g < w.heap.size) :
    Bx (w.alloc (.cells (nums k l).toArray e)) p (.slice (some ⟨w.heap.size, 0, none⟩) l.length l.length) e k l := by
  have hf := (Fr.refl None_ w).alloc (.cells (nums k l).toArray e)
  refine ⟨_, rfl, heap_alloc_new w _, by omega, ?_⟩
  rw [rowOf_fr hf hp (fun h => h)]
  intro h
  have := hr _ h
  omega
theorem Bx.rd {w : World} {p : Nat} {v : Value} {e : TypeId} {k : IntKind} {l : List Int} (h : Bx w p v e k l) (hl : l.length ≤ 9223372036854775807) :
    ∃ A, v = .slice A l.length l.length ∧ Rd k w A l.length l ∧ ∀ ad, A = some ad → 0 < l.length → ¬ (ad.block = p ∨ rowOf w p = some ad.block) := by
  obtain ⟨g, rfl, hg, hgp, hr⟩ := h
  refine ⟨_, rfl, ⟨rfl, hl, fun _ => ⟨_, rfl, fun j hj => ?_⟩⟩, fun ad e _ => by cases e; rintro (h | h); exact hgp h; exact hr h⟩
  rw [add_at, World.cell?]
  simp only [hg, Option.bind_some]
  have := nums_get (k := k) hj
  simpa using this

/-- A header's bytes. -/
def Head.bytes (h : Head) : List Int := les 2 [22356] ++ les 1 [h.kind, 0] ++ les 4 [h.epoch, h.batch] ++ les 2 [h.index, h.count] ++ les 4 [h.block, h.more]

/-- A row of one's own that is apart from a writer. -/
def Ap (w : World) (base p : Nat) (v : Value) (l : List Int) : Prop := Row 5 .u8 w base v l ∧ ∀ b, v.ownBlock = some b → b ≠ p ∧ rowOf w p ≠ some b
theorem Ap.step {w w' : World} {base p : Nat} {v : Value} {l : List Int} (h : Ap w base p v l) (hs : Step p w w') : Ap w' base p v l := by
  refine ⟨h.1.fr hs.fr (fun b hb => ?_), fun b hb => ⟨(h.2 b hb).1, fun h2 => ?_⟩⟩
  · rintro (h3 | h3)
    · exact (h.2 b hb).1 h3
    · exact (h.2 b hb).2 h3
  · rcases hs.row with h1 | h1
    · exact (h.2 b hb).2 (h1 ▸ h2)
    · have := h1 b h2
      have := (h.1.blk b hb).2.1
      omega
theorem Ap.alloc {w : World} {base p : Nat} {v : Value} {l : List Int} (h : Ap w base p v l) (hp : p < w.heap.size) (o : Obj) : Ap (w.alloc o) base p v l := by
  have hf := (Fr.refl None_ w).alloc o
  exact ⟨h.1.none_ hf, fun b hb => ⟨(h.2 b hb).1, by rw [rowOf_fr hf hp (fun h => h)]; exact (h.2 b hb).2⟩⟩
theorem Ap.none_ {w w' : World} {base p : Nat} {v : Value} {l : List Int} (h : Ap w base p v l) (hp : p < w.heap.size) (hf : Fr None_ w w') : Ap w' base p v l :=
  ⟨h.1.none_ hf, fun b hb => ⟨(h.2 b hb).1, by rw [rowOf_fr hf hp (fun h => h)]; exact (h.2 b hb).2⟩⟩
theorem Bx.none_ {w w' : World} {p : Nat} {v : Value} {e : TypeId} {k : IntKind} {l : List Int} (h : Bx w p v e k l) (hp : p < w.heap.size) (hf : Fr None_ w w') : Bx w' p v e k l := by
  obtain ⟨g, rfl, hg, hgp, hr⟩ := h
  exact ⟨g, rfl, hf.heap hg (fun h => h), hgp, by rw [rowOf_fr hf hp (fun h => h)]; exact hr⟩

/-- What each operation of the region leaves. -/
def D (h : Head) (w : World) (j : Nat) (v : Value) (w' : World) : Prop := match j with
  | 0 => v = .pointer (some ⟨w.heap.size + 1, 0, none⟩)
  | 3 => v = .pointer (some ⟨w.heap.size, 0, none⟩)
  | 4 => v = .int .u8 h.kind
  | 7 => v = .pointer (some ⟨w.heap.size, 1, none⟩)
  | 8 => v = .int .u32 h.epoch
  | 9 => v = .pointer (some ⟨w.heap.size, 2, none⟩)
  | 10 => v = .int .u32 h.batch
  | 13 => v = .pointer (some ⟨w.heap.size, 3, none⟩)
  | 14 => v = .int .u16 h.index
  | 15 => v = .pointer (some ⟨w.heap.size, 4, none⟩)
  | 16 => v = .int .u16 h.count
  | 19 => v = .pointer (some ⟨w.heap.size, 5, none⟩)
  | 20 => v = .int .u32 h.block
  | 21 => v = .pointer (some ⟨w.heap.size, 6, none⟩)
  | 22 => v = .int .u32 h.more
  | 1 => Bx w' (w.heap.size + 1) v 110 .u16 [22356]
  | 5 => Bx w' (w.heap.size + 1) v 5 .u8 [h.kind, 0]
  | 11 => Bx w' (w.heap.size + 1) v 37 .u32 [h.epoch, h.batch]
  | 17 => Bx w' (w.heap.size + 1) v 110 .u16 [h.index, h.count]
  | 23 => Bx w' (w.heap.size + 1) v 37 .u32 [h.block, h.more]
  | 2 => v = .pointer (some ⟨w.heap.size + 1, 0, none⟩)
  | 6 => v = .pointer (some ⟨w.heap.size + 1, 0, none⟩)
  | 12 => v = .pointer (some ⟨w.heap.size + 1, 0, none⟩)
  | 18 => v = .pointer (some ⟨w.heap.size + 1, 0, none⟩)
  | 24 => v = .pointer (some ⟨w.heap.size + 1, 0, none⟩)
  | 25 => Ap w' w.heap.size (w.heap.size + 1) v h.bytes
  | 26 => Ap w' w.heap.size (w.heap.size + 1) v h.bytes
  | _ => True
theorem D.step {h : Head} {w w1 w2 : World} (hs : Step (w.heap.size + 1) w1 w2) (j : Nat) (u : Value) (hd : D h w j u w1) : D h w j u w2 := by
  unfold D at hd ⊢
  split at hd <;> first | exact hd | exact Bx.step hd hs | exact Ap.step hd hs
theorem D.none_ {h : Head} {w w1 w2 : World} (hp : w.heap.size + 1 < w1.heap.size) (hf : Fr None_ w1 w2) (j : Nat) (u : Value) (hd : D h w j u w1) : D h w j u w2 := by
  unfold D at hd ⊢
  split at hd <;> first | exact hd | exact Bx.none_ hd hp hf | exact Ap.none_ hd hp hf
/-- How much is laid. -/
def X (h : Head) (d : Nat → Bool) : List Int :=
  if d 24 = true then les 2 [22356] ++ les 1 [h.kind, 0] ++ les 4 [h.epoch, h.batch] ++ les 2 [h.index, h.count] ++ les 4 [h.block, h.more] else if d 18 = true then les 2 [22356] ++ les 1 [h.kind, 0] ++ les 4 [h.epoch, h.batch] ++ les 2 [h.index, h.count] else if d 12 = true then les 2 [22356] ++ les 1 [h.kind, 0] ++ les 4 [h.epoch, h.batch] else if d 6 = true then les 2 [22356] ++ les 1 [h.kind, 0] else if d 2 = true then les 2 [22356] else []
structure G (h : Head) (w : World) (d : Nat → Bool) (w' : World) : Prop where
  fr : Fr None_ w w'
  head : w'.heap[w.heap.size]? = some (.cells h.vals 112 (0, 0))
  wr : Wr w' w.heap.size (w.heap.size + 1) (X h d)
  chain : (d 6 = true → d 2 = true) ∧ (d 12 = true → d 6 = true) ∧ (d 18 = true → d 12 = true) ∧ (d 24 = true → d 18 = true)
theorem G.size {h : Head} {w w' : World} {d : Nat → Bool} (hg : G h w d w') : w.heap.size + 1 < w'.heap.size := hg.wr.lt
theorem G.cell {h : Head} {w w' : World} {d : Nat → Bool} (hg : G h w d w') {k : Nat} {v : Value} (hk : h.vals[k]? = some v) : w'.cell? ⟨w.heap.size, k, none⟩ = some v := by
  simp [World.cell?, hg.head, hk]
theorem G.mark {h : Head} {w w' : World} {d : Nat → Bool} (hg : G h w d w') (i : Nat) (h2 : i ≠ 2) (h6 : i ≠ 6) (h12 : i ≠ 12) (h18 : i ≠ 18) (h24 : i ≠ 24) : G h w (doneSet d i) w' := by
  refine ⟨hg.fr, hg.head, ?_, ?_⟩
  · have hx : X h (doneSet d i) = X h d := by
      unfold X
      simp only [doneSet_ne d (Ne.symm h2), doneSet_ne d (Ne.symm h6), doneSet_ne d (Ne.symm h12), doneSet_ne d (Ne.symm h18), doneSet_ne d (Ne.symm h24)]
    rw [hx]
    exact hg.wr
  · simp only [doneSet_ne d (Ne.symm h2), doneSet_ne d (Ne.symm h6), doneSet_ne d (Ne.symm h12), doneSet_ne d (Ne.symm h18), doneSet_ne d (Ne.symm h24)]
    exact hg.chain
theorem G.alloc {h : Head} {w w' : World} {d : Nat → Bool} (hg : G h w d w') (o : Obj) : G h w d (w'.alloc o) := by
  have hf := (Fr.refl None_ w').alloc o
  exact ⟨hg.fr.alloc o, hf.heap hg.head (fun h => h), hg.wr.none_ hf, hg.chain⟩
theorem G.none_ {h : Head} {w w' w2 : World} {d : Nat → Bool} (hg : G h w d w') (hf : Fr None_ w' w2) : G h w d w2 :=
  ⟨hg.fr.after hf (fun _ _ h => h), hf.heap hg.head (fun h => h), hg.wr.none_ hf, hg.chain⟩
/-- A call of the chain. -/
theorem G.call {h : Head} {w w' w2 : World} {d : Nat → Bool} (hg : G h w d w') (hs : Step (w.heap.size + 1) w' w2) (i : Nat) (hw : Wr w2 w.heap.size (w.heap.size + 1) (X h (doneSet d i)))
    (hc : ((doneSet d i) 6 = true → (doneSet d i) 2 = true) ∧ ((doneSet d i) 12 = true → (doneSet d i) 6 = true) ∧ ((doneSet d i) 18 = true → (doneSet d i) 12 = true) ∧ ((doneSet d i) 24 = true → (doneSet d i) 18 = true)) :
    G h w (doneSet d i) w2 :=
  ⟨hg.wr.fr hs (Nat.le_refl _) hg.fr, hg.wr.heap hs hg.head (by omega) (by decide), hw, hc⟩

set_option maxHeartbeats 4000000 in
set_option maxRecDepth 100000 in
theorem fields_calls (h : Head) (w : World) (hh : h.Ok) :
    Calls Tryz.prog 111 #[.agg h.vals] w fun e w' => ∃ v, e = .returned v ∧ Row 5 .u8 w' w.heap.size v h.bytes ∧ Fr None_ w w' := by
  unfold Head.vals
  go_enter Tryz.func111, Tryz.ntmps111
  go_wp2
  refine wp_region_any (by kernel_rfl) ?_
  refine region_rule (n := 32) _ rfl (by rfl) (D h w) (G h w) ?_ ?_ _ ?_
  · intro i hi
    match i, hi with
    | 0, _ =>
      refine StepOk.of_pure rfl rfl rfl (.pointer (some ⟨w.heap.size + 1, 0, none⟩)) ?_ (fun _ _ _ => rfl) (fun _ _ hg => hg.mark 0 (by decide) (by decide) (by decide) (by decide) (by decide))
      intro d a w' hdep hG hold hdone
      have e : a.tmps[3]?.getD undef = .pointer (some ⟨w.heap.size + 1, 0, none⟩) := by simpa [Act.eval] using hold 3 (old_of (by rfl))
      go_simp
    | 1, _ =>
      refine StepOk.free rfl rfl ?_
      intro d a w' hi hdep hG hold hdone
      go_simp
      refine ⟨_, rfl, (Bx.made 110 .u16 [22356] hG.size hG.wr.row_lt), (hG.alloc _).mark 1 (by decide) (by decide) (by decide) (by decide) (by decide), fun j _ u hu => D.none_ hG.size ((Fr.refl None_ w').alloc _) j u hu⟩
    | 2, _ =>
      refine StepOk.free rfl rfl ?_
      intro d a w' hi hdep hG hold hdone
      have e : a.tmps[6]?.getD undef = .pointer (some ⟨w.heap.size + 1, 0, none⟩) := by have e0 : D h w 0 (a.eval (.tmp 6)) w' := hdone 0 (hdep 0 (by decide)); simpa [Act.eval, D] using e0
      have eb : Bx w' (w.heap.size + 1) (a.eval (.tmp 7)) 110 .u16 [22356] := hdone 1 (hdep 1 (by decide))
      obtain ⟨A, eA, hA, hS⟩ := eb.rd (by simp)
      have e2 : a.tmps[7]?.getD undef = .slice A 1 1 := by simpa [Act.eval] using eA
      have hX0 : X h d = [] := by have hc := hG.chain; unfold X; cases h2 : d 2 <;> cases h6 : d 6 <;> cases h12 : d 12 <;> cases h18 : d 18 <;> cases h24 : d 24 <;> simp_all
      have hX1 : X h (doneSet d 2) = les 2 [22356] := by have hc := hG.chain; unfold X doneSet; cases h2 : d 2 <;> cases h6 : d 6 <;> cases h12 : d 12 <;> cases h18 : d 18 <;> cases h24 : d 24 <;> simp_all
      have hwr : Wr w' w.heap.size (w.heap.size + 1) ([]) := hX0 ▸ hG.wr
      have hin2 : InR 65536 [22356] := by intro x hx; simp at hx; subst hx; decide
      have HX := As.mk hX1
      have HG := As.mk hG
      have HI := As.mk hi
      have HA : As (Rd .u16 w' A 1 [22356]) := ⟨hA⟩
      have HS : As (∀ ad, A = some ad → 0 < 1 → ¬ (ad.block = w.heap.size + 1 ∨ rowOf w' (w.heap.size + 1) = some ad.block)) := ⟨hS⟩
      have HW := As.mk hwr
      have hsz : w.heap.size ≤ w'.heap.size := hG.fr.size
      clear hX0 hX1 hA hS hwr hG eA eb hdone hdep hold hi
      go_simp
      ((with_reducible refine (U16_calls w.heap.size (w.heap.size + 1) ([]) [22356] A 1 1 w' HW.out hsz HA.out hin2 HS.out (by simp)).mono ?_); rintro e1 w2 ⟨rfl, hw2, hs2⟩)
      refine ⟨_, rfl, rfl, HG.out.call hs2 2 (by rw [HX.out]; exact hw2) ?_, fun j _ u hu => D.step hs2 j u hu⟩
      have hc := HG.out.chain
      have hi := HI.out
      unfold doneSet
      cases h2 : d 2 <;> cases h6 : d 6 <;> cases h12 : d 12 <;> cases h18 : d 18 <;> cases h24 : d 24 <;> simp_all
    | 3, _ =>
      refine StepOk.of_pure rfl rfl rfl (.pointer (some ⟨w.heap.size, 0, none⟩)) ?_ (fun _ _ _ => rfl) (fun _ _ hg => hg.mark 3 (by decide) (by decide) (by decide) (by decide) (by decide))
      intro d a w' hdep hG hold hdone
      have e : a.tmps[1]?.getD undef = .pointer (some ⟨w.heap.size, 0, none⟩) := by simpa [Act.eval] using hold 1 (old_of (by rfl))
      go_simp
    | 4, _ =>
      refine StepOk.of_pure rfl rfl rfl (.int .u8 h.kind) ?_ (fun _ _ _ => rfl) (fun _ _ hg => hg.mark 4 (by decide) (by decide) (by decide) (by decide) (by decide))
      intro d a w' hdep hG hold hdone
      have e0 : D h w 3 (a.eval (.tmp 9)) w' := hdone 3 (hdep 3 (by decide))
      have e : a.tmps[9]?.getD undef = .pointer (some ⟨w.heap.size, 0, none⟩) := by simpa [Act.eval, D] using e0
      have hc : w'.cell? ⟨w.heap.size, 0, none⟩ = some (.int .u8 h.kind) := hG.cell rfl
      go_simp
    | 5, _ =>
      refine StepOk.free rfl rfl ?_
      intro d a w' hi hdep hG hold hdone
      have e0 : a.tmps[10]?.getD undef = .int .u8 h.kind := by have e0 : D h w 4 (a.eval (.tmp 10)) w' := hdone 4 (hdep 4 (by decide)); simpa [Act.eval, D] using e0
      go_simp
      refine ⟨_, rfl, (Bx.made 5 .u8 [h.kind, 0] hG.size hG.wr.row_lt), (hG.alloc _).mark 5 (by decide) (by decide) (by decide) (by decide) (by decide), fun j _ u hu => D.none_ hG.size ((Fr.refl None_ w').alloc _) j u hu⟩
    | 6, _ =>
      refine StepOk.free rfl rfl ?_
      intro d a w' hi hdep hG hold hdone
      have e : a.tmps[8]?.getD undef = .pointer (some ⟨w.heap.size + 1, 0, none⟩) := by have e0 : D h w 2 (a.eval (.tmp 8)) w' := hdone 2 (hdep 2 (by decide)); simpa [Act.eval, D] using e0
      have eb : Bx w' (w.heap.size + 1) (a.eval (.tmp 11)) 5 .u8 [h.kind, 0] := hdone 5 (hdep 5 (by decide))
      obtain ⟨A, eA, hA, hS⟩ := eb.rd (by simp)
      have e2 : a.tmps[11]?.getD undef = .slice A 2 2 := by simpa [Act.eval] using eA
      have hpv : d 2 = true := hdep 2 (by decide)
      have hX0 : X h d = les 2 [22356] := by have hc := hG.chain; unfold X; cases h2 : d 2 <;> cases h6 : d 6 <;> cases h12 : d 12 <;> cases h18 : d 18 <;> cases h24 : d 24 <;> simp_all
      have hX1 : X h (doneSet d 6) = les 2 [22356] ++ les 1 [h.kind, 0] := by have hc := hG.chain; unfold X doneSet; cases h2 : d 2 <;> cases h6 : d 6 <;> cases h12 : d 12 <;> cases h18 : d 18 <;> cases h24 : d 24 <;> simp_all
      have hwr : Wr w' w.heap.size (w.heap.size + 1) (les 2 [22356]) := hX0 ▸ hG.wr
      have hin6 : InR 256 [h.kind, 0] := by intro x hx; simp at hx; rcases hx with rfl | rfl; exact hh.kind; decide
      have HX := As.mk hX1
      have HG := As.mk hG
      have HI := As.mk hi
      have HA : As (Rd .u8 w' A 2 [h.kind, 0]) := ⟨hA⟩
      have HS : As (∀ ad, A = some ad → 0 < 2 → ¬ (ad.block = w.heap.size + 1 ∨ rowOf w' (w.heap.size + 1) = some ad.block)) := ⟨hS⟩
      have HW := As.mk hwr
      have hsz : w.heap.size ≤ w'.heap.size := hG.fr.size
      clear hX0 hX1 hA hS hwr hG eA eb hdone hdep hold hi
      go_simp
      ((with_reducible refine (U8_calls w.heap.size (w.heap.size + 1) (les 2 [22356]) [h.kind, 0] A 2 2 w' HW.out hsz HA.out hin6 HS.out (by simp [les_length])).mono ?_); rintro e1 w2 ⟨rfl, hw2, hs2⟩)
      refine ⟨_, rfl, rfl, HG.out.call hs2 6 (by rw [HX.out]; exact hw2) ?_, fun j _ u hu => D.step hs2 j u hu⟩
      have hc := HG.out.chain
      have hi := HI.out
      unfold doneSet
      cases h2 : d 2 <;> cases h6 : d 6 <;> cases h12 : d 12 <;> cases h18 : d 18 <;> cases h24 : d 24 <;> simp_all
    | 7, _ =>
      refine StepOk.of_pure rfl rfl rfl (.pointer (some ⟨w.heap.size, 1, none⟩)) ?_ (fun _ _ _ => rfl) (fun _ _ hg => hg.mark 7 (by decide) (by decide) (by decide) (by decide) (by decide))
      intro d a w' hdep hG hold hdone
      have e : a.tmps[1]?.getD undef = .pointer (some ⟨w.heap.size, 0, none⟩) := by simpa [Act.eval] using hold 1 (old_of (by rfl))
      go_simp
    | 8, _ =>
      refine StepOk.of_pure rfl rfl rfl (.int .u32 h.epoch) ?_ (fun _ _ _ => rfl) (fun _ _ hg => hg.mark 8 (by decide) (by decide) (by decide) (by decide) (by decide))
      intro d a w' hdep hG hold hdone
      have e0 : D h w 7 (a.eval (.tmp 13)) w' := hdone 7 (hdep 7 (by decide))
      have e : a.tmps[13]?.getD undef = .pointer (some ⟨w.heap.size, 1, none⟩) := by simpa [Act.eval, D] using e0
      have hc : w'.cell? ⟨w.heap.size, 1, none⟩ = some (.int .u32 h.epoch) := hG.cell rfl
      go_simp
    | 9, _ =>
      refine StepOk.of_pure rfl rfl rfl (.pointer (some ⟨w.heap.size, 2, none⟩)) ?_ (fun _ _ _ => rfl) (fun _ _ hg => hg.mark 9 (by decide) (by decide) (by decide) (by decide) (by decide))
      intro d a w' hdep hG hold hdone
      have e : a.tmps[1]?.getD undef = .pointer (some ⟨w.heap.size, 0, none⟩) := by simpa [Act.eval] using hold 1 (old_of (by rfl))
      go_simp
    | 10, _ =>
      refine StepOk.of_pure rfl rfl rfl (.int .u32 h.batch) ?_ (fun _ _ _ => rfl) (fun _ _ hg => hg.mark 10 (by decide) (by decide) (by decide) (by decide) (by decide))
      intro d a w' hdep hG hold hdone
      have e0 : D h w 9 (a.eval (.tmp 15)) w' := hdone 9 (hdep 9 (by decide))
      have e : a.tmps[15]?.getD undef = .pointer (some ⟨w.heap.size, 2, none⟩) := by simpa [Act.eval, D] using e0
      have hc : w'.cell? ⟨w.heap.size, 2, none⟩ = some (.int .u32 h.batch) := hG.cell rfl
      go_simp
    | 11, _ =>
      refine StepOk.free rfl rfl ?_
      intro d a w' hi hdep hG hold hdone
      have e1 : a.tmps[14]?.getD undef = .int .u32 h.epoch := by have e0 : D h w 8 (a.eval (.tmp 14)) w' := hdone 8 (hdep 8 (by decide)); simpa [Act.eval, D] using e0
      have e2 : a.tmps[16]?.getD undef = .int .u32 h.batch := by have e0 : D h w 10 (a.eval (.tmp 16)) w' := hdone 10 (hdep 10 (by decide)); simpa [Act.eval, D] using e0
      go_simp
      refine ⟨_, rfl, (Bx.made 37 .u32 [h.epoch, h.batch] hG.size hG.wr.row_lt), (hG.alloc _).mark 11 (by decide) (by decide) (by decide) (by decide) (by decide), fun j _ u hu => D.none_ hG.size ((Fr.refl None_ w').alloc _) j u hu⟩
    | 12, _ =>
      refine StepOk.free rfl rfl ?_
      intro d a w' hi hdep hG hold hdone
      have e : a.tmps[12]?.getD undef = .pointer (some ⟨w.heap.size + 1, 0, none⟩) := by have e0 : D h w 6 (a.eval (.tmp 12)) w' := hdone 6 (hdep 6 (by decide)); simpa [Act.eval, D] using e0
      have eb : Bx w' (w.heap.size + 1) (a.eval (.tmp 17)) 37 .u32 [h.epoch, h.batch] := hdone 11 (hdep 11 (by decide))
      obtain ⟨A, eA, hA, hS⟩ := eb.rd (by simp)
      have e2 : a.tmps[17]?.getD undef = .slice A 2 2 := by simpa [Act.eval] using eA
      have hpv : d 6 = true := hdep 6 (by decide)
      have hX0 : X h d = les 2 [22356] ++ les 1 [h.kind, 0] := by have hc := hG.chain; unfold X; cases h2 : d 2 <;> cases h6 : d 6 <;> cases h12 : d 12 <;> cases h18 : d 18 <;> cases h24 : d 24 <;> simp_all
      have hX1 : X h (doneSet d 12) = les 2 [22356] ++ les 1 [h.kind, 0] ++ les 4 [h.epoch, h.batch] := by have hc := hG.chain; unfold X doneSet; cases h2 : d 2 <;> cases h6 : d 6 <;> cases h12 : d 12 <;> cases h18 : d 18 <;> cases h24 : d 24 <;> simp_all
      have hwr : Wr w' w.heap.size (w.heap.size + 1) (les 2 [22356] ++ les 1 [h.kind, 0]) := hX0 ▸ hG.wr
      have hin12 : InR 4294967296 [h.epoch, h.batch] := by intro x hx; simp at hx; rcases hx with rfl | rfl; exact hh.epoch; exact hh.batch
      have HX := As.mk hX1
      have HG := As.mk hG
      have HI := As.mk hi
      have HA : As (Rd .u32 w' A 2 [h.epoch, h.batch]) := ⟨hA⟩
      have HS : As (∀ ad, A = some ad → 0 < 2 → ¬ (ad.block = w.heap.size + 1 ∨ rowOf w' (w.heap.size + 1) = some ad.block)) := ⟨hS⟩
      have HW := As.mk hwr
      have hsz : w.heap.size ≤ w'.heap.size := hG.fr.size
      clear hX0 hX1 hA hS hwr hG eA eb hdone hdep hold hi
      go_simp
      ((with_reducible refine (U32_calls w.heap.size (w.heap.size + 1) (les 2 [22356] ++ les 1 [h.kind, 0]) [h.epoch, h.batch] A 2 2 w' HW.out hsz HA.out hin12 HS.out (by simp [les_length])).mono ?_); rintro e1 w2 ⟨rfl, hw2, hs2⟩)
      refine ⟨_, rfl, rfl, HG.out.call hs2 12 (by rw [HX.out]; exact hw2) ?_, fun j _ u hu => D.step hs2 j u hu⟩
      have hc := HG.out.chain
      have hi := HI.out
      unfold doneSet
      cases h2 : d 2 <;> cases h6 : d 6 <;> cases h12 : d 12 <;> cases h18 : d 18 <;> cases h24 : d 24 <;> simp_all
    | 13, _ =>
      refine StepOk.of_pure rfl rfl rfl (.pointer (some ⟨w.heap.size, 3, none⟩)) ?_ (fun _ _ _ => rfl) (fun _ _ hg => hg.mark 13 (by decide) (by decide) (by decide) (by decide) (by decide))
      intro d a w' hdep hG hold hdone
      have e : a.tmps[1]?.getD undef = .pointer (some ⟨w.heap.size, 0, none⟩) := by simpa [Act.eval] using hold 1 (old_of (by rfl))
      go_simp
    | 14, _ =>
      refine StepOk.of_pure rfl rfl rfl (.int .u16 h.index) ?_ (fun _ _ _ => rfl) (fun _ _ hg => hg.mark 14 (by decide) (by decide) (by decide) (by decide) (by decide))
      intro d a w' hdep hG hold hdone
      have e0 : D h w 13 (a.eval (.tmp 19)) w' := hdone 13 (hdep 13 (by decide))
      have e : a.tmps[19]?.getD undef = .pointer (some ⟨w.heap.size, 3, none⟩) := by simpa [Act.eval, D] using e0
      have hc : w'.cell? ⟨w.heap.size, 3, none⟩ = some (.int .u16 h.index) := hG.cell rfl
      go_simp
    | 15, _ =>
      refine StepOk.of_pure rfl rfl rfl (.pointer (some ⟨w.heap.size, 4, none⟩)) ?_ (fun _ _ _ => rfl) (fun _ _ hg => hg.mark 15 (by decide) (by decide) (by decide) (by decide) (by decide))
      intro d a w' hdep hG hold hdone
      have e : a.tmps[1]?.getD undef = .pointer (some ⟨w.heap.size, 0, none⟩) := by simpa [Act.eval] using hold 1 (old_of (by rfl))
      go_simp
    | 16, _ =>
      refine StepOk.of_pure rfl rfl rfl (.int .u16 h.count) ?_ (fun _ _ _ => rfl) (fun _ _ hg => hg.mark 16 (by decide) (by decide) (by decide) (by decide) (by decide))
      intro d a w' hdep hG hold hdone
      have e0 : D h w 15 (a.eval (.tmp 21)) w' := hdone 15 (hdep 15 (by decide))
      have e : a.tmps[21]?.getD undef = .pointer (some ⟨w.heap.size, 4, none⟩) := by simpa [Act.eval, D] using e0
      have hc : w'.cell? ⟨w.heap.size, 4, none⟩ = some (.int .u16 h.count) := hG.cell rfl
      go_simp
    | 17, _ =>
      refine StepOk.free rfl rfl ?_
      intro d a w' hi hdep hG hold hdone
      have e3 : a.tmps[20]?.getD undef = .int .u16 h.index := by have e0 : D h w 14 (a.eval (.tmp 20)) w' := hdone 14 (hdep 14 (by decide)); simpa [Act.eval, D] using e0
      have e4 : a.tmps[22]?.getD undef = .int .u16 h.count := by have e0 : D h w 16 (a.eval (.tmp 22)) w' := hdone 16 (hdep 16 (by decide)); simpa [Act.eval, D] using e0
      go_simp
      refine ⟨_, rfl, (Bx.made 110 .u16 [h.index, h.count] hG.size hG.wr.row_lt), (hG.alloc _).mark 17 (by decide) (by decide) (by decide) (by decide) (by decide), fun j _ u hu => D.none_ hG.size ((Fr.refl None_ w').alloc _) j u hu⟩
    | 18, _ =>
      refine StepOk.free rfl rfl ?_
      intro d a w' hi hdep hG hold hdone
      have e : a.tmps[18]?.getD undef = .pointer (some ⟨w.heap.size + 1, 0, none⟩) := by have e0 : D h w 12 (a.eval (.tmp 18)) w' := hdone 12 (hdep 12 (by decide)); simpa [Act.eval, D] using e0
      have eb : Bx w' (w.heap.size + 1) (a.eval (.tmp 23)) 110 .u16 [h.index, h.count] := hdone 17 (hdep 17 (by decide))
      obtain ⟨A, eA, hA, hS⟩ := eb.rd (by simp)
      have e2 : a.tmps[23]?.getD undef = .slice A 2 2 := by simpa [Act.eval] using eA
      have hpv : d 12 = true := hdep 12 (by decide)
      have hX0 : X h d = les 2 [22356] ++ les 1 [h.kind, 0] ++ les 4 [h.epoch, h.batch] := by have hc := hG.chain; unfold X; cases h2 : d 2 <;> cases h6 : d 6 <;> cases h12 : d 12 <;> cases h18 : d 18 <;> cases h24 : d 24 <;> simp_all
      have hX1 : X h (doneSet d 18) = les 2 [22356] ++ les 1 [h.kind, 0] ++ les 4 [h.epoch, h.batch] ++ les 2 [h.index, h.count] := by have hc := hG.chain; unfold X doneSet; cases h2 : d 2 <;> cases h6 : d 6 <;> cases h12 : d 12 <;> cases h18 : d 18 <;> cases h24 : d 24 <;> simp_all
      have hwr : Wr w' w.heap.size (w.heap.size + 1) (les 2 [22356] ++ les 1 [h.kind, 0] ++ les 4 [h.epoch, h.batch]) := hX0 ▸ hG.wr
      have hin18 : InR 65536 [h.index, h.count] := by intro x hx; simp at hx; rcases hx with rfl | rfl; exact hh.index; exact hh.count
      have HX := As.mk hX1
      have HG := As.mk hG
      have HI := As.mk hi
      have HA : As (Rd .u16 w' A 2 [h.index, h.count]) := ⟨hA⟩
      have HS : As (∀ ad, A = some ad → 0 < 2 → ¬ (ad.block = w.heap.size + 1 ∨ rowOf w' (w.heap.size + 1) = some ad.block)) := ⟨hS⟩
      have HW := As.mk hwr
      have hsz : w.heap.size ≤ w'.heap.size := hG.fr.size
      clear hX0 hX1 hA hS hwr hG eA eb hdone hdep hold hi
      go_simp
      ((with_reducible refine (U16_calls w.heap.size (w.heap.size + 1) (les 2 [22356] ++ les 1 [h.kind, 0] ++ les 4 [h.epoch, h.batch]) [h.index, h.count] A 2 2 w' HW.out hsz HA.out hin18 HS.out (by simp [les_length])).mono ?_); rintro e1 w2 ⟨rfl, hw2, hs2⟩)
      refine ⟨_, rfl, rfl, HG.out.call hs2 18 (by rw [HX.out]; exact hw2) ?_, fun j _ u hu => D.step hs2 j u hu⟩
      have hc := HG.out.chain
      have hi := HI.out
      unfold doneSet
      cases h2 : d 2 <;> cases h6 : d 6 <;> cases h12 : d 12 <;> cases h18 : d 18 <;> cases h24 : d 24 <;> simp_all
    | 19, _ =>
      refine StepOk.of_pure rfl rfl rfl (.pointer (some ⟨w.heap.size, 5, none⟩)) ?_ (fun _ _ _ => rfl) (fun _ _ hg => hg.mark 19 (by decide) (by decide) (by decide) (by decide) (by decide))
      intro d a w' hdep hG hold hdone
      have e : a.tmps[1]?.getD undef = .pointer (some ⟨w.heap.size, 0, none⟩) := by simpa [Act.eval] using hold 1 (old_of (by rfl))
      go_simp
    | 20, _ =>
      refine StepOk.of_pure rfl rfl rfl (.int .u32 h.block) ?_ (fun _ _ _ => rfl) (fun _ _ hg => hg.mark 20 (by decide) (by decide) (by decide) (by decide) (by decide))
      intro d a w' hdep hG hold hdone
      have e0 : D h w 19 (a.eval (.tmp 25)) w' := hdone 19 (hdep 19 (by decide))
      have e : a.tmps[25]?.getD undef = .pointer (some ⟨w.heap.size, 5, none⟩) := by simpa [Act.eval, D] using e0
      have hc : w'.cell? ⟨w.heap.size, 5, none⟩ = some (.int .u32 h.block) := hG.cell rfl
      go_simp
    | 21, _ =>
      refine StepOk.of_pure rfl rfl rfl (.pointer (some ⟨w.heap.size, 6, none⟩)) ?_ (fun _ _ _ => rfl) (fun _ _ hg => hg.mark 21 (by decide) (by decide) (by decide) (by decide) (by decide))
      intro d a w' hdep hG hold hdone
      have e : a.tmps[1]?.getD undef = .pointer (some ⟨w.heap.size, 0, none⟩) := by simpa [Act.eval] using hold 1 (old_of (by rfl))
      go_simp
    | 22, _ =>
      refine StepOk.of_pure rfl rfl rfl (.int .u32 h.more) ?_ (fun _ _ _ => rfl) (fun _ _ hg => hg.mark 22 (by decide) (by decide) (by decide) (by decide) (by decide))
      intro d a w' hdep hG hold hdone
      have e0 : D h w 21 (a.eval (.tmp 27)) w' := hdone 21 (hdep 21 (by decide))
      have e : a.tmps[27]?.getD undef = .pointer (some ⟨w.heap.size, 6, none⟩) := by simpa [Act.eval, D] using e0
      have hc : w'.cell? ⟨w.heap.size, 6, none⟩ = some (.int .u32 h.more) := hG.cell rfl
      go_simp
    | 23, _ =>
      refine StepOk.free rfl rfl ?_
      intro d a w' hi hdep hG hold hdone
      have e5 : a.tmps[26]?.getD undef = .int .u32 h.block := by have e0 : D h w 20 (a.eval (.tmp 26)) w' := hdone 20 (hdep 20 (by decide)); simpa [Act.eval, D] using e0
      have e6 : a.tmps[28]?.getD undef = .int .u32 h.more := by have e0 : D h w 22 (a.eval (.tmp 28)) w' := hdone 22 (hdep 22 (by decide)); simpa [Act.eval, D] using e0
      go_simp
      refine ⟨_, rfl, (Bx.made 37 .u32 [h.block, h.more] hG.size hG.wr.row_lt), (hG.alloc _).mark 23 (by decide) (by decide) (by decide) (by decide) (by decide), fun j _ u hu => D.none_ hG.size ((Fr.refl None_ w').alloc _) j u hu⟩
    | 24, _ =>
      refine StepOk.free rfl rfl ?_
      intro d a w' hi hdep hG hold hdone
      have e : a.tmps[24]?.getD undef = .pointer (some ⟨w.heap.size + 1, 0, none⟩) := by have e0 : D h w 18 (a.eval (.tmp 24)) w' := hdone 18 (hdep 18 (by decide)); simpa [Act.eval, D] using e0
      have eb : Bx w' (w.heap.size + 1) (a.eval (.tmp 29)) 37 .u32 [h.block, h.more] := hdone 23 (hdep 23 (by decide))
      obtain ⟨A, eA, hA, hS⟩ := eb.rd (by simp)
      have e2 : a.tmps[29]?.getD undef = .slice A 2 2 := by simpa [Act.eval] using eA
      have hpv : d 18 = true := hdep 18 (by decide)
      have hX0 : X h d = les 2 [22356] ++ les 1 [h.kind, 0] ++ les 4 [h.epoch, h.batch] ++ les 2 [h.index, h.count] := by have hc := hG.chain; unfold X; cases h2 : d 2 <;> cases h6 : d 6 <;> cases h12 : d 12 <;> cases h18 : d 18 <;> cases h24 : d 24 <;> simp_all
      have hX1 : X h (doneSet d 24) = les 2 [22356] ++ les 1 [h.kind, 0] ++ les 4 [h.epoch, h.batch] ++ les 2 [h.index, h.count] ++ les 4 [h.block, h.more] := by have hc := hG.chain; unfold X doneSet; cases h2 : d 2 <;> cases h6 : d 6 <;> cases h12 : d 12 <;> cases h18 : d 18 <;> cases h24 : d 24 <;> simp_all
      have hwr : Wr w' w.heap.size (w.heap.size + 1) (les 2 [22356] ++ les 1 [h.kind, 0] ++ les 4 [h.epoch, h.batch] ++ les 2 [h.index, h.count]) := hX0 ▸ hG.wr
      have hin24 : InR 4294967296 [h.block, h.more] := by intro x hx; simp at hx; rcases hx with rfl | rfl; exact hh.block; exact hh.more
      have HX := As.mk hX1
      have HG := As.mk hG
      have HI := As.mk hi
      have HA : As (Rd .u32 w' A 2 [h.block, h.more]) := ⟨hA⟩
      have HS : As (∀ ad, A = some ad → 0 < 2 → ¬ (ad.block = w.heap.size + 1 ∨ rowOf w' (w.heap.size + 1) = some ad.block)) := ⟨hS⟩
      have HW := As.mk hwr
      have hsz : w.heap.size ≤ w'.heap.size := hG.fr.size
      clear hX0 hX1 hA hS hwr hG eA eb hdone hdep hold hi
      go_simp
      ((with_reducible refine (U32_calls w.heap.size (w.heap.size + 1) (les 2 [22356] ++ les 1 [h.kind, 0] ++ les 4 [h.epoch, h.batch] ++ les 2 [h.index, h.count]) [h.block, h.more] A 2 2 w' HW.out hsz HA.out hin24 HS.out (by simp [les_length])).mono ?_); rintro e1 w2 ⟨rfl, hw2, hs2⟩)
      refine ⟨_, rfl, rfl, HG.out.call hs2 24 (by rw [HX.out]; exact hw2) ?_, fun j _ u hu => D.step hs2 j u hu⟩
      have hc := HG.out.chain
      have hi := HI.out
      unfold doneSet
      cases h2 : d 2 <;> cases h6 : d 6 <;> cases h12 : d 12 <;> cases h18 : d 18 <;> cases h24 : d 24 <;> simp_all
    | 25, _ =>
      refine StepOk.free rfl rfl ?_
      intro d a w' hi hdep hG hold hdone
      have e : a.tmps[30]?.getD undef = .pointer (some ⟨w.heap.size + 1, 0, none⟩) := by have e0 : D h w 24 (a.eval (.tmp 30)) w' := hdone 24 (hdep 24 (by decide)); simpa [Act.eval, D] using e0
      have hpv : d 24 = true := hdep 24 (by decide)
      have hwr : Wr w' w.heap.size (w.heap.size + 1) h.bytes := by have := hG.wr; unfold X at this; rw [if_pos hpv] at this; exact this
      have HG := As.mk hG
      have HW := As.mk hwr
      clear hwr hG hdone hdep hold hi hpv
      go_simp
      ((with_reducible refine (Bytes_calls w.heap.size (w.heap.size + 1) h.bytes w' HW.out (by simp [Head.bytes, les_length])).mono ?_); rintro e1 w2 ⟨v2, rfl, hr2, hf2⟩)
      have hsz := HG.out.size
      have hv2 := hr2.blk
      refine ⟨_, rfl, ⟨hr2.lower (by omega), fun b hb => ?_⟩, (HG.out.none_ hf2).mark 25 (by decide) (by decide) (by decide) (by decide) (by decide), fun j _ u hu => D.none_ hsz hf2 j u hu⟩
      have hb1 := (hv2 b hb).1
      refine ⟨by omega, fun h3 => ?_⟩
      rw [rowOf_fr hf2 hsz (fun h => h)] at h3
      have := HW.out.row_lt b h3
      omega
    | 26, _ =>
      refine StepOk.free rfl rfl ?_
      intro d a w' hi hdep hG hold hdone
      have e0 : Ap w' w.heap.size (w.heap.size + 1) (a.eval (.tmp 31)) h.bytes := hdone 25 (hdep 25 (by decide))
      have e1 : a.tmps[31]?.getD undef = a.eval (.tmp 31) := by simp [Act.eval]
      generalize a.eval (.tmp 31) = v at e0 e1
      go_simp
      exact ⟨v, rfl, e0, hG.mark 26 (by decide) (by decide) (by decide) (by decide) (by decide)⟩
    | i + 27, hx => exact absurd hx (Nat.not_lt.2 (Nat.le_add_left 27 i))
  · intro a w' hsz hdef hold hdone hG
    have e0 : Ap w' w.heap.size (w.heap.size + 1) (a.eval (.tmp 2)) h.bytes := hdone 26 (by decide)
    rename_i K hK
    refine hK a w' ?_
    go_wp2
    refine bodyPost_ret (v := a.eval (.tmp 2)) ?_ ?_ ⟨_, rfl, e0.1, hG.fr⟩
    · simp [results, Tryz.results111, go_sem, Act.eval]
    · exact hdef
  · have hG : G h w (fun _ => false) ((w.alloc (.cells h.vals 112)).alloc (.cells #[.slice none 0 0] 182)).drew := by
      have h1 : ((w.alloc (.cells h.vals 112)).alloc (.cells #[.slice none 0 0] 182)).drew.heap[w.heap.size + 1]? = some (.cells #[.slice none 0 0] 182 (0, 0)) := by
        have := heap_alloc_new (w.alloc (.cells h.vals 112)) (.cells #[.slice none 0 0] 182)
        rw [show (w.alloc (.cells h.vals 112)).heap.size = w.heap.size + 1 by simp] at this
        exact this
      refine ⟨(((Fr.refl None_ w).alloc _).alloc _).drew, ?_, Wr.new h1 _ (by omega), ⟨fun h => (by cases h), fun h => (by cases h), fun h => (by cases h), fun h => (by cases h)⟩⟩
      have h0 := heap_alloc_new w (.cells h.vals 112)
      have hf := (((Fr.refl None_ (w.alloc (.cells h.vals 112))).alloc (.cells #[.slice none 0 0] 182))).drew
      exact hf.heap h0 (fun h => h)
    exact hG
end Go.Proofs.YteofgpaceeibpaaGreat.Fields

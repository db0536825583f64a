/- gabionlaw13: what an array should hold, in memory. -/
import Derived.Test.YteofgpaceeibpaaGreatTkShape
namespace Go.Proofs.YteofgpaceeibpaaGreat.HeldA
open Go.RowKit Gab Geom Go.Proofs.YteofgpaceeibpaaGreat.Sum Ref Par Fields Nand NandA ArrA AWrA
open Heap (cell_is heap_set fr_set1)
open Str (pcells RowV.ne)
set_option linter.unusedVariables false
set_option linter.unusedSimpArgs false

abbrev HT : TypeId := 55
abbrev LP : TypeId := 34
abbrev SP : TypeId := 117
/-- What is held. -/
structure Held where
  rows : Nat → List (List (Head × List Int))
  staged : List (Head × List Int)
  lost : Int
/-- Where it lies. -/
structure HLay where
  hb : Nat
  r : Nat → Value
  rv : Nat → List Value
  st : Value
  sv : List Value
/-- A list of pages. -/
def PL (w : World) (base : Nat) (v : Value) (l : List (Head × List Int)) : Prop := ∃ vs, RowV SP 8 w base v l.length vs ∧ SPs None_ w vs l
theorem spsTy {S F : Nat → Prop} {w w' : World} {vs : List Value} {l : List (Head × List Int)} (h : SPs F w vs l) (hf : Fr S w w') (hS : ∀ b cs, w.heap[b]? = some (.cells cs 5 (0, 0)) → ¬ S b) : SPs F w' vs l :=
  ⟨h.1, fun j hj d => ⟨(h.2 j hj d).1, (h.2 j hj d).2.1.fr hf hS, (h.2 j hj d).2.2⟩⟩
theorem PL.fr {S : Nat → Prop} {w w' : World} {base : Nat} {v : Value} {l : List (Head × List Int)} (h : PL w base v l) (hf : Fr S w w') (h0 : ∀ b, v.ownBlock = some b → ¬ S b) (hS : ∀ b cs, w.heap[b]? = some (.cells cs 5 (0, 0)) → ¬ S b) : PL w' base v l := by
  obtain ⟨vs, h1, h2⟩ := h
  exact ⟨vs, h1.fr hf h0, spsTy h2 hf hS⟩
theorem PL.none_ {w w' : World} {base : Nat} {v : Value} {l : List (Head × List Int)} (h : PL w base v l) (hf : Fr None_ w w') : PL w' base v l := h.fr hf (fun _ _ h => h) (fun _ _ _ h => h)
theorem PL.blk {w : World} {base : Nat} {v : Value} {l : List (Head × List Int)} (h : PL w base v l) {b : Nat} (hb : v.ownBlock = some b) : base ≤ b ∧ b < w.heap.size ∧ ∃ cs, w.heap[b]? = some (.cells cs SP (0, 0)) := by
  obtain ⟨vs, h1, _⟩ := h
  exact RowV.blk h1 b hb
theorem PL.lower {w : World} {base base' : Nat} {v : Value} {l : List (Head × List Int)} (h : PL w base v l) (hb : base' ≤ base) : PL w base' v l := by
  obtain ⟨vs, h1, h2⟩ := h
  exact ⟨vs, h1.lower hb, h2⟩
structure HeldAt (w : World) (base : Nat) (H : Held) (Y : HLay) : Prop where
  main : w.heap[Y.hb]? = some (.cells #[Y.r 0, Y.r 1, Y.r 2, Y.r 3, Y.st, .int .i64 H.lost] HT (0, 0))
  low : base ≤ Y.hb
  rows : ∀ k, k < 4 → RowV LP 1 w base (Y.r k) (H.rows k).length (Y.rv k)
  page : ∀ k, k < 4 → ∀ n, n < (H.rows k).length → PL w base ((Y.rv k).getD n undef) ((H.rows k).getD n [])
  staged : RowV SP 8 w base Y.st H.staged.length Y.sv
  spg : SPs None_ w Y.sv H.staged
  apart : ∀ k k', k < 4 → k' < 4 → k ≠ k' → ∀ b, (Y.r k).ownBlock = some b → (Y.r k').ownBlock ≠ some b
  sep : ∀ k, k < 4 → ∀ n, n < (H.rows k).length → ∀ b, ((Y.rv k).getD n undef).ownBlock = some b → Y.st.ownBlock ≠ some b
def HTy (T : TypeId) : Prop := T = HT ∨ T = LP ∨ T = SP ∨ T = 5
theorem HeldAt.ty {S : Nat → Prop} {w w' : World} {base : Nat} {H : Held} {Y : HLay} (h : HeldAt w base H Y) (hf : Fr S w w') (hS : ∀ b cs T f, w.heap[b]? = some (.cells cs T f) → HTy T → ¬ S b) : HeldAt w' base H Y := by
  have hu : ∀ b cs, w.heap[b]? = some (.cells cs 5 (0, 0)) → ¬ S b := fun b cs hb => hS b cs _ _ hb (.inr (.inr (.inr rfl)))
  refine ⟨hf.heap h.main (hS _ _ _ _ h.main (.inl rfl)), h.low, fun k hk => (h.rows k hk).fr hf (fun b hb => ?_), fun k hk n hn => (h.page k hk n hn).fr hf (fun b hb => ?_) hu, h.staged.fr hf (fun b hb => ?_), spsTy h.spg hf hu, h.apart, h.sep⟩
  · obtain ⟨_, _, cs, hc⟩ := RowV.blk (h.rows k hk) b hb
    exact hS b cs _ _ hc (.inr (.inl rfl))
  · obtain ⟨_, _, cs, hc⟩ := (h.page k hk n hn).blk hb
    exact hS b cs _ _ hc (.inr (.inr (.inl rfl)))
  · obtain ⟨_, _, cs, hc⟩ := RowV.blk h.staged b hb
    exact hS b cs _ _ hc (.inr (.inr (.inl rfl)))
theorem HeldAt.none_ {w w' : World} {base : Nat} {H : Held} {Y : HLay} (h : HeldAt w base H Y) (hf : Fr None_ w w') : HeldAt w' base H Y := h.ty hf (fun _ _ _ _ _ _ h => h)
/-- An array's blocks are of other types. -/
theorem af_ty {w : World} {σ : Ar} {K : ALay} (h : ArAt w σ K) {b : Nat} {cs : Array Value} {T : TypeId} {f : Nat × Nat} (hb : w.heap[b]? = some (.cells cs T f)) (hT : HTy T) : ¬ AF K σ b := fun ha => by
  rcases ha with ha | ha | ha
  · exact h.nand.ne hb (by unfold HTy at hT; rcases hT with rfl | rfl | rfl | rfl <;> exact ⟨by decide, by decide, by decide, by decide, by decide⟩) ha
  · subst ha
    exact blk_ne hb h.main (by unfold HTy at hT; rcases hT with rfl | rfl | rfl | rfl <;> decide) rfl
  · subst ha
    obtain ⟨ds, e, _⟩ := h.vols
    exact blk_ne hb e (by unfold HTy at hT; rcases hT with rfl | rfl | rfl | rfl <;> decide) rfl
theorem HeldAt.af {w w' : World} {base : Nat} {H : Held} {Y : HLay} {σ : Ar} {K : ALay} (h : HeldAt w base H Y) (hA : ArAt w σ K) (hf : Fr (AF K σ) w w') : HeldAt w' base H Y := h.ty hf (fun _ _ _ _ hb hT => af_ty hA hb hT)
/-- Pages, apart from an array. -/
theorem sps_af {w : World} {σ : Ar} {K : ALay} (hA : ArAt w σ K) {vs : List Value} {l : List (Head × List Int)} (h : SPs None_ w vs l) : SPs (AF K σ) w vs l :=
  ⟨h.1, fun j hj d => ⟨(h.2 j hj d).1, ⟨(h.2 j hj d).2.1.1, fun b hb => by
    obtain ⟨_, cs, hc⟩ := (h.2 j hj d).2.1.2 b hb
    exact ⟨af_ty hA hc (.inr (.inr (.inr rfl))), cs, hc⟩⟩, (h.2 j hj d).2.2⟩⟩
/-- A block of what is held is written: an array keeps. -/
theorem keeps {w w' : World} {σ : Ar} {K : ALay} (h : ArAt w σ K) {S : Nat → Prop} (hf : Fr S w w') (hS : ∀ b, S b → b < w.heap.size → ∃ cs T f, w.heap[b]? = some (.cells cs T f) ∧ (T = HT ∨ T = LP ∨ T = SP)) : ArAt w' σ K := by
  have hne : ∀ {b : Nat} {cs : Array Value} {T : TypeId} {f : Nat × Nat}, w.heap[b]? = some (.cells cs T f) → (T ≠ HT ∧ T ≠ LP ∧ T ≠ SP) → ¬ S b := fun hb hT hs => by
    obtain ⟨cs', T', f', h1, h2⟩ := hS _ hs (Array.getElem?_eq_some_iff.1 hb).1
    rw [hb] at h1
    injection h1 with h1
    injection h1 with _ h1
    subst h1
    rcases h2 with h2 | h2 | h2
    · exact hT.1 h2
    · exact hT.2.1 h2
    · exact hT.2.2 h2
  refine ⟨?_, hf.heap h.main (hne h.main (by decide)), h.ccn, ?_, fun c t hc e => ⟨(h.vol c t hc e).1.ty hf (fun b cs T f hb hT => hne hb (by rcases hT with rfl | rfl <;> decide)), (h.vol c t hc e).2⟩, ?_, h.ok⟩
  · refine h.nand.typed hf (fun b cs T f hs hb => ?_)
    obtain ⟨cs', T', f', h1, h2⟩ := hS _ hs (Array.getElem?_eq_some_iff.1 hb).1
    rw [hb] at h1
    injection h1 with h1
    injection h1 with _ h1
    subst h1
    rcases h2 with rfl | rfl | rfl <;> exact ⟨⟨by decide, by decide, by decide, by decide, by decide⟩, by decide, by decide⟩
  · obtain ⟨ds, e, hds⟩ := h.vols
    exact ⟨ds, hf.heap e (hne e (by decide)), hds⟩
  · obtain ⟨ds, e, hds⟩ := h.chips
    exact ⟨ds, hf.heap e (hne e (by decide)), hds⟩
theorem getD_snoc {α : Type} (l : List α) (x d : α) (i : Nat) : (l ++ [x]).getD i d = if i < l.length then l.getD i d else if i = l.length then x else d := by
  simp only [List.getD_eq_getElem?_getD]
  by_cases h : i < l.length
  · rw [if_pos h, List.getElem?_append_left h]
  · rw [if_neg h, List.getElem?_append_right (by omega)]
    by_cases h2 : i = l.length
    · rw [if_pos h2, h2]; simp
    · rw [if_neg h2, List.getElem?_eq_none (by simp; omega)]; rfl
def Held.push (H : Held) (k : Nat) (l : List (Head × List Int)) : Held := { H with rows := fun j => if j = k then H.rows k ++ [l] else H.rows j }
def HLay.push (Y : HLay) (k : Nat) (v1 v : Value) : HLay := { Y with r := fun j => if j = k then v1 else Y.r j, rv := fun j => if j = k then Y.rv k ++ [v] else Y.rv j }
def Held.stage (H : Held) (h : Head) (d : List Int) : Held := { H with staged := H.staged ++ [(h, d)] }
theorem set_main {w : World} {b : Nat} {T : TypeId} {a0 a1 a2 a3 a4 a5 : Value} (h : w.heap[b]? = some (.cells #[a0, a1, a2, a3, a4, a5] T (0, 0))) (k : Nat) (v : Value) : (w.setCell ⟨b, k, none⟩ v).heap[b]? = some (.cells (#[a0, a1, a2, a3, a4, a5].setIfInBounds k v) T (0, 0)) ∧ Fr (fun i => i = b) w (w.setCell ⟨b, k, none⟩ v) := ⟨heap_set h k v, fr_set1 v⟩
/-- A stripe more is held. -/
theorem HeldAt.push {w w1 : World} {base k : Nat} {H : Held} {Y : HLay} (h : HeldAt w base H Y) (hk : k < 4) {v v1 : Value} {l : List (Head × List Int)} (hl : PL w base v l) (hv : ∀ b, v.ownBlock = some b → Y.st.ownBlock ≠ some b)
    (hr : RowV LP 1 w1 base v1 ((H.rows k).length + 1) (Y.rv k ++ [v])) (hf : Fr (fun b => (Y.r k).ownBlock = some b) w w1) (hn : v1.ownBlock = (Y.r k).ownBlock ∨ ∃ b, v1.ownBlock = some b ∧ w.heap.size ≤ b) :
    HeldAt (w1.setCell ⟨Y.hb, k, none⟩ v1) base (H.push k l) (Y.push k v1 v) ∧ Fr (fun b => b = Y.hb ∨ (Y.r k).ownBlock = some b) w (w1.setCell ⟨Y.hb, k, none⟩ v1) := by
  have hm1 := hf.heap h.main (RowV.ne (h.rows k hk) h.main (by decide))
  obtain ⟨hm2, hf2⟩ := set_main hm1 k v1
  have hfb : Fr (fun b => b = Y.hb ∨ (Y.r k).ownBlock = some b) w (w1.setCell ⟨Y.hb, k, none⟩ v1) := (hf.mono (fun _ _ h => .inr h)).after hf2 (fun _ _ h => .inl h)
  have hu : ∀ b cs, w.heap[b]? = some (.cells cs 5 (0, 0)) → ¬ (b = Y.hb ∨ (Y.r k).ownBlock = some b) := fun b cs hb e => by
    rcases e with e | e
    · exact blk_ne hb h.main (by decide) e
    · exact RowV.ne (h.rows k hk) hb (by decide) e
  have hsp : ∀ b cs, w.heap[b]? = some (.cells cs SP (0, 0)) → ¬ (b = Y.hb ∨ (Y.r k).ownBlock = some b) := fun b cs hb e => by
    rcases e with e | e
    · exact blk_ne hb h.main (by decide) e
    · exact RowV.ne (h.rows k hk) hb (by decide) e
  have hvl : (Y.rv k).length = (H.rows k).length := by have := (h.rows k hk).2; omega
  have hnew : ∀ b, v1.ownBlock = some b → (Y.r k).ownBlock = some b ∨ w.heap.size ≤ b := fun b hb => by
    rcases hn with e | ⟨b', e, hle⟩
    · exact .inl (e ▸ hb)
    · rw [e] at hb; injection hb with hb; subst hb; exact .inr hle
  refine ⟨⟨?_, h.low, fun j hj => ?_, fun j hj n hn' => ?_, h.staged.fr hfb (fun b hb => ?_), spsTy h.spg hfb hu, fun a a' ha ha' hne b hb => ?_, fun j hj n hn' b hb => ?_⟩, hfb⟩
  · show (w1.setCell ⟨Y.hb, k, none⟩ v1).heap[Y.hb]? = _
    rw [hm2]
    have : k = 0 ∨ k = 1 ∨ k = 2 ∨ k = 3 := by omega
    rcases this with rfl | rfl | rfl | rfl <;> rfl
  · show RowV LP 1 _ base (if j = k then v1 else Y.r j) (if j = k then H.rows k ++ [l] else H.rows j).length (if j = k then Y.rv k ++ [v] else Y.rv j)
    by_cases e : j = k
    · rw [if_pos e, if_pos e, if_pos e, List.length_append, List.length_singleton]
      exact hr.fr hf2 (fun b hb e9 => RowV.ne hr hm1 (by decide) (e9 ▸ hb))
    · rw [if_neg e, if_neg e, if_neg e]
      refine (h.rows j hj).fr hfb (fun b hb e9 => ?_)
      rcases e9 with e9 | e9
      · subst e9; exact RowV.ne (h.rows j hj) h.main (by decide) hb
      · exact h.apart j k hj hk e b hb e9
  · show PL _ base ((if j = k then Y.rv k ++ [v] else Y.rv j).getD n undef) ((if j = k then H.rows k ++ [l] else H.rows j).getD n [])
    by_cases e : j = k
    · rw [if_pos e, if_pos e, getD_snoc, getD_snoc, hvl]
      have hn2 : n < (H.rows k).length + 1 := by
        have : n < (if j = k then H.rows k ++ [l] else H.rows j).length := hn'
        rw [if_pos e, List.length_append, List.length_singleton] at this
        exact this
      by_cases e2 : n < (H.rows k).length
      · rw [if_pos e2, if_pos e2]
        exact (h.page k hk n e2).fr hfb (fun b hb => by obtain ⟨_, _, cs, hc⟩ := (h.page k hk n e2).blk hb; exact hsp b cs hc) hu
      · rw [if_neg e2, if_neg e2, if_pos (by omega), if_pos (by omega)]
        exact hl.fr hfb (fun b hb => by obtain ⟨_, _, cs, hc⟩ := hl.blk hb; exact hsp b cs hc) hu
    · rw [if_neg e, if_neg e]
      have hn2 : n < (H.rows j).length := by
        have : n < (if j = k then H.rows k ++ [l] else H.rows j).length := hn'
        rw [if_neg e] at this
        exact this
      exact (h.page j hj n hn2).fr hfb (fun b hb => by obtain ⟨_, _, cs, hc⟩ := (h.page j hj n hn2).blk hb; exact hsp b cs hc) hu
  · obtain ⟨_, _, cs, hc⟩ := RowV.blk h.staged b hb
    exact hsp b cs hc
  · show (if a' = k then v1 else Y.r a').ownBlock ≠ some b
    have hb' : (if a = k then v1 else Y.r a).ownBlock = some b := hb
    by_cases e : a = k
    · rw [if_pos e] at hb'
      rw [if_neg (fun e2 => hne (e.trans e2.symm))]
      intro h9
      rcases hnew b hb' with h8 | h8
      · exact h.apart k a' hk ha' (fun e2 => hne (e.trans e2)) b h8 h9
      · have := (RowV.blk (h.rows a' ha') b h9).2.1; omega
    · rw [if_neg e] at hb'
      by_cases e2 : a' = k
      · rw [if_pos e2]
        intro h9
        rcases hnew b h9 with h8 | h8
        · exact h.apart a k ha hk e b hb' h8
        · have := (RowV.blk (h.rows a ha) b hb').2.1; omega
      · rw [if_neg e2]
        exact h.apart a a' ha ha' hne b hb'
  · show Y.st.ownBlock ≠ some b
    have hb' : ((if j = k then Y.rv k ++ [v] else Y.rv j).getD n undef).ownBlock = some b := hb
    have hn2 : n < (if j = k then H.rows k ++ [l] else H.rows j).length := hn'
    by_cases e : j = k
    · rw [if_pos e, List.length_append, List.length_singleton] at hn2
      rw [if_pos e, getD_snoc, hvl] at hb'
      by_cases e2 : n < (H.rows k).length
      · rw [if_pos e2] at hb'
        exact h.sep k hk n e2 b hb'
      · rw [if_neg e2, if_pos (by omega)] at hb'
        exact hv b hb'
    · rw [if_neg e] at hn2 hb'
      exact h.sep j hj n hn2 b hb'
/-- A staged page more is held. -/
theorem HeldAt.stage {w w1 : World} {base : Nat} {H : Held} {Y : HLay} (h : HeldAt w base H Y) {hd : Head} {D v1 : Value} {d : List Int} (hs : SPs None_ w (Y.sv ++ (pcells hd D).toList) (H.staged ++ [(hd, d)]))
    (hr : RowV SP 8 w1 base v1 (H.staged.length + 1) (Y.sv ++ (pcells hd D).toList)) (hf : Fr (fun b => Y.st.ownBlock = some b) w w1) (hn : v1.ownBlock = Y.st.ownBlock ∨ ∃ b, v1.ownBlock = some b ∧ w.heap.size ≤ b) :
    HeldAt (w1.setCell ⟨Y.hb, 4, none⟩ v1) base (H.stage hd d) { Y with st := v1, sv := Y.sv ++ (pcells hd D).toList } ∧ Fr (fun b => b = Y.hb ∨ Y.st.ownBlock = some b) w (w1.setCell ⟨Y.hb, 4, none⟩ v1) := by
  have hm1 := hf.heap h.main (RowV.ne h.staged h.main (by decide))
  obtain ⟨hm2, hf2⟩ := set_main hm1 4 v1
  have hfb : Fr (fun b => b = Y.hb ∨ Y.st.ownBlock = some b) w (w1.setCell ⟨Y.hb, 4, none⟩ v1) := (hf.mono (fun _ _ h => .inr h)).after hf2 (fun _ _ h => .inl h)
  have hu : ∀ b cs, w.heap[b]? = some (.cells cs 5 (0, 0)) → ¬ (b = Y.hb ∨ Y.st.ownBlock = some b) := fun b cs hb e => by
    rcases e with e | e
    · exact blk_ne hb h.main (by decide) e
    · exact RowV.ne h.staged hb (by decide) e
  have hlp : ∀ b cs, w.heap[b]? = some (.cells cs LP (0, 0)) → ¬ (b = Y.hb ∨ Y.st.ownBlock = some b) := fun b cs hb e => by
    rcases e with e | e
    · exact blk_ne hb h.main (by decide) e
    · exact RowV.ne h.staged hb (by decide) e
  have hnew : ∀ b, v1.ownBlock = some b → Y.st.ownBlock = some b ∨ w.heap.size ≤ b := fun b hb => by
    rcases hn with e | ⟨b', e, hle⟩
    · exact .inl (e ▸ hb)
    · rw [e] at hb; injection hb with hb; subst hb; exact .inr hle
  refine ⟨⟨?_, h.low, fun j hj => (h.rows j hj).fr hfb (fun b hb => ?_), fun j hj n hn' => (h.page j hj n hn').fr hfb (fun b hb e => ?_) hu, ?_, ?_, h.apart, fun j hj n hn' b hb h9 => ?_⟩, hfb⟩
  · show (w1.setCell ⟨Y.hb, 4, none⟩ v1).heap[Y.hb]? = _
    rw [hm2]
    rfl
  · obtain ⟨_, _, cs, hc⟩ := RowV.blk (h.rows j hj) b hb
    exact hlp b cs hc
  · rcases e with e | e
    · obtain ⟨_, _, cs, hc⟩ := (h.page j hj n hn').blk hb
      exact blk_ne hc h.main (by decide) e
    · exact h.sep j hj n hn' b hb e
  · show RowV SP 8 _ base v1 (H.staged ++ [(hd, d)]).length _
    rw [List.length_append, List.length_singleton]
    exact hr.fr hf2 (fun b hb e9 => RowV.ne hr hm1 (by decide) (e9 ▸ hb))
  · exact spsTy hs hfb hu
  · rcases hnew b h9 with h8 | h8
    · exact h.sep j hj n hn' b hb h8
    · have := ((h.page j hj n hn').blk hb).2.1; omega
end Go.Proofs.YteofgpaceeibpaaGreat.HeldA

/- stripe.Write: its pages are sealed, the parity page is made of them, all are programmed. -/
import Derived.Test.YtlhgbamajabnfaaStr
import Derived.Test.YtlhgbamajabnfaaOrd
namespace Go.Proofs.Ytlhgbamajabnfaa.Write
open Go.RowKit Go.Proofs.Ytlhgbamajabnfaa.Gab Go.Proofs.Ytlhgbamajabnfaa.Map Go.Proofs.Ytlhgbamajabnfaa.Geom Go.Proofs.Ytlhgbamajabnfaa.Ref Go.Proofs.Ytlhgbamajabnfaa.Ram Go.Proofs.Ytlhgbamajabnfaa.Sum Go.Proofs.Ytlhgbamajabnfaa.Par Go.Proofs.Ytlhgbamajabnfaa.Fields Go.Proofs.Ytlhgbamajabnfaa.Seal Go.Proofs.Ytlhgbamajabnfaa.Ord
open Go.Proofs.Ytlhgbamajabnfaa.Wr (InR)
open Go.Proofs.Ytlhgbamajabnfaa.Str (pcells PPs parOf take_snoc add_next infoSl sealed_calls Of_calls)
set_option linter.unusedVariables false
set_option linter.unusedSimpArgs false

/-! ### what isn't theirs -/
/-- A value's row is one of bytes, and none of theirs. -/
def Own (w : World) (p : Nat) (v : Value) : Prop := ∀ b, v.ownBlock = some b → ¬ Foot w p b ∧ ∃ cs, w.heap[b]? = some (.cells cs 5 (0, 0))
theorem Own.step {w w' : World} {p : Nat} {v : Value} (h : Own w p v) (hs : Ram.Step p w w') : Own w' p v := fun b hb => by
  obtain ⟨h1, cs, h2⟩ := h b hb
  refine ⟨fun hF => ?_, cs, hs.fr.heap h2 h1⟩
  rcases hs.foot b hF with h3 | h3
  · exact h1 h3
  · have := (Array.getElem?_eq_some_iff.1 h2).1
    omega
theorem Own.fr {S : Nat → Prop} {w w' : World} {p : Nat} {v : Value} (h : Own w p v) (hf : Fr S w w') (hS : ∀ b cs, w.heap[b]? = some (.cells cs 5 (0, 0)) → ¬ S b) (hp : w'.heap[p]? = w.heap[p]?) : Own w' p v := fun b hb => by
  obtain ⟨h1, cs, h2⟩ := h b hb
  exact ⟨fun hF => h1 ((Foot.same hp b).1 hF), cs, hf.heap h2 (hS b cs h2)⟩
/-- A slice of bytes, none of theirs. -/
def SlO (w : World) (p : Nat) (v : Value) (xs : List Int) : Prop := Sl w v xs ∧ Own w p v
theorem SlO.rdO {w : World} {p : Nat} {v : Value} {xs : List Int} (h : SlO w p v xs) : ∃ A n c, v = .slice A n c ∧ As (n ≤ c) ∧ As (RdO .u8 w p A n xs) := by
  obtain ⟨⟨A, n, c, rfl, h1, h2⟩, h3⟩ := h
  exact ⟨A, n, c, rfl, ⟨h1⟩, ⟨h2, fun ad e _ => (h3 _ (by subst e; rfl)).1⟩⟩
theorem SlO.step {w w' : World} {p : Nat} {v : Value} {xs : List Int} (h : SlO w p v xs) (hs : Ram.Step p w w') : SlO w' p v xs :=
  ⟨h.1.fr hs.fr (fun b hb => (h.2 b hb).1), h.2.step hs⟩
theorem SlO.fr {S : Nat → Prop} {w w' : World} {p : Nat} {v : Value} {xs : List Int} (h : SlO w p v xs) (hf : Fr S w w') (hS : ∀ b cs, w.heap[b]? = some (.cells cs 5 (0, 0)) → ¬ S b) (hp : w'.heap[p]? = w.heap[p]?) : SlO w' p v xs :=
  ⟨h.1.fr hf (fun b hb => by obtain ⟨cs, h2⟩ := (h.2 b hb).2; exact hS b cs h2), h.2.fr hf hS hp⟩
theorem SlO.of_row {w w' : World} {p base : Nat} {s : Ram.St} {v : Value} {xs : List Int} (hR : RamE w p s) (hf : Fr None_ w w') (h : Row 5 .u8 w' base v xs) (hb : w.heap.size ≤ base) : SlO w' p v xs :=
  ⟨Row.sl h, fun b hv => ⟨(hR.off_new hf (Nat.le_trans hb (h.blk b hv).1) (h.blk b hv).2.1).2, (h.blk b hv).2.2⟩⟩
/-- Pages with what stands beside each, none of theirs. -/
def PPO (w : World) (p : Nat) (vs : List Value) (l : List (List Int × List Int)) : Prop := PPs w vs l ∧ ∀ v ∈ vs, Own w p v
theorem PPO.fr {S : Nat → Prop} {w w' : World} {p : Nat} {vs : List Value} {l : List (List Int × List Int)} (h : PPO w p vs l) (hf : Fr S w w') (hS : ∀ b cs, w.heap[b]? = some (.cells cs 5 (0, 0)) → ¬ S b) (hp : w'.heap[p]? = w.heap[p]?) : PPO w' p vs l := by
  have hm : ∀ k, k < vs.length → vs.getD k undef ∈ vs := fun k hk => by rw [List.getD_eq_getElem?_getD, List.getElem?_eq_getElem hk]; exact List.getElem_mem hk
  have hl := h.1.1
  refine ⟨⟨hl, fun j hj => ⟨?_, ?_⟩⟩, fun v hv => (h.2 v hv).fr hf hS hp⟩
  · exact (h.1.2 j hj).1.fr hf (fun b hb => by obtain ⟨cs, h2⟩ := (h.2 _ (hm (j * 2) (by omega)) b hb).2; exact hS b cs h2)
  · exact (h.1.2 j hj).2.fr hf (fun b hb => by obtain ⟨cs, h2⟩ := (h.2 _ (hm (j * 2 + 1) (by omega)) b hb).2; exact hS b cs h2)
theorem PPO.step {w w' : World} {p : Nat} {vs : List Value} {l : List (List Int × List Int)} (h : PPO w p vs l) (hs : Ram.Step p w w') : PPO w' p vs l := by
  have hm : ∀ k, k < vs.length → vs.getD k undef ∈ vs := fun k hk => by rw [List.getD_eq_getElem?_getD, List.getElem?_eq_getElem hk]; exact List.getElem_mem hk
  have hl := h.1.1
  refine ⟨⟨hl, fun j hj => ⟨?_, ?_⟩⟩, fun v hv => (h.2 v hv).step hs⟩
  · exact (h.1.2 j hj).1.fr hs.fr (fun b hb => (h.2 _ (hm (j * 2) (by omega)) b hb).1)
  · exact (h.1.2 j hj).2.fr hs.fr (fun b hb => (h.2 _ (hm (j * 2 + 1) (by omega)) b hb).1)
theorem PPO.none_ {w w' : World} {p : Nat} {vs : List Value} {l : List (List Int × List Int)} (h : PPO w p vs l) (hp : p < w.heap.size) (hf : Fr None_ w w') : PPO w' p vs l := h.fr hf (fun _ _ _ h => h) (hf.block p hp (fun h => h))
theorem PPO.nil (w : World) (p : Nat) : PPO w p [] [] := ⟨Go.Proofs.Ytlhgbamajabnfaa.Str.PPs.nil w, fun v hv => by cases hv⟩
theorem PPO.snoc {w : World} {p : Nat} {vs : List Value} {l : List (List Int × List Int)} (h : PPO w p vs l) {v u : Value} {xs ys : List Int} (hv : SlO w p v xs) (hu : SlO w p u ys) : PPO w p (vs ++ [v, u]) (l ++ [(xs, ys)]) :=
  ⟨Go.Proofs.Ytlhgbamajabnfaa.Str.PPs.snoc h.1 hv.1 hu.1, fun x hx => by
    rcases List.mem_append.1 hx with h1 | h1
    · exact h.2 x h1
    · simp at h1
      rcases h1 with rfl | rfl
      · exact hv.2
      · exact hu.2⟩
/-- Cells that are read, of a block that isn't theirs. -/
def RdCO (w : World) (p : Nat) (A : Option Addr) (m : Nat) (vs : List Value) : Prop := RdC w A m vs ∧ ∀ ad, A = some ad → 0 < m → ¬ Foot w p ad.block
theorem RdC.lt {w : World} {A : Option Addr} {m : Nat} {vs : List Value} (h : RdC w A m vs) : ∀ ad, A = some ad → 0 < m → ad.block < w.heap.size := by
  intro ad e hn
  obtain ⟨ad', e', hc⟩ := h.2 hn
  obtain rfl : ad = ad' := by rw [e] at e'; injection e'
  have := World.block_lt_of_cell? w _ (hc 0 hn)
  rwa [add_block] at this
theorem RdCO.step {w w' : World} {p : Nat} {A : Option Addr} {m : Nat} {vs : List Value} (h : RdCO w p A m vs) (hs : Ram.Step p w w') : RdCO w' p A m vs :=
  ⟨h.1.fr hs.fr h.2, fun ad e hn hF => by
    rcases hs.foot _ hF with h1 | h1
    · exact h.2 ad e hn h1
    · have := RdC.lt h.1 ad e hn
      omega⟩
theorem RdCO.of_rowV {w w' : World} {p base e size n : Nat} {s : Ram.St} {A : Option Addr} {c : Nat} {vs : List Value} (hR : RamE w p s) (hf : Fr None_ w w') (h : RowV e size w' base (.slice A n c) n vs) (hb : w.heap.size ≤ base) : RdCO w' p A (n * size) vs := by
  obtain ⟨A', c', e, _, h1, h2⟩ := h.rd
  injection e with e1 e2 e3
  subst e1
  exact ⟨h1.out, fun ad ea _ => by
    have hb2 := h2.out ad ea
    exact (hR.off_new hf (Nat.le_trans hb (RowV.blk h _ hb2).1) (RowV.blk h _ hb2).2.1).2⟩
theorem Foot.none_ {w w' : World} {p b : Nat} (hp : p < w.heap.size) (hf : Fr None_ w w') : Foot w' p b ↔ Foot w p b := Foot.same (hf.block p hp (fun h => h)) b
theorem SlO.none_ {w w' : World} {p : Nat} {v : Value} {xs : List Int} (h : SlO w p v xs) (hp : p < w.heap.size) (hf : Fr None_ w w') : SlO w' p v xs := h.fr hf (fun _ _ _ h => h) (hf.block p hp (fun h => h))
theorem RdCO.none_ {w w' : World} {p : Nat} {A : Option Addr} {m : Nat} {vs : List Value} (h : RdCO w p A m vs) (hp : p < w.heap.size) (hf : Fr None_ w w') : RdCO w' p A m vs := ⟨h.1.none_ hf, fun ad e hn hF => h.2 ad e hn ((Foot.none_ hp hf).1 hF)⟩

/-! ### pages -/
/-- Cells that are pages: each its header's cells, and its bytes (none of theirs). -/
def SPs (w : World) (p : Nat) (vs : List Value) (l : List (Head × List Int)) : Prop := vs.length = l.length * 8 ∧ ∀ j, j < l.length → ∀ d, (l.getD j d).1.Ok ∧ SlO w p (vs.getD (j * 8 + 7) undef) (l.getD j d).2 ∧ ∀ i, i < 7 → vs.getD (j * 8 + i) undef = (l.getD j d).1.vals.getD i undef
def noPage : Head × List Int := (⟨0, 0, 0, 0, 0, 0, 0⟩, [])
theorem SPs.none_ {w w' : World} {p : Nat} {vs : List Value} {l : List (Head × List Int)} (h : SPs w p vs l) (hp : p < w.heap.size) (hf : Fr None_ w w') : SPs w' p vs l := ⟨h.1, fun j hj d => ⟨(h.2 j hj d).1, (h.2 j hj d).2.1.none_ hp hf, (h.2 j hj d).2.2⟩⟩
theorem SPs.nil (w : World) (p : Nat) : SPs w p [] [] := ⟨rfl, fun j hj => absurd hj (by simp)⟩
theorem SPs.snoc {w : World} {p : Nat} {vs : List Value} {l : List (Head × List Int)} (h : SPs w p vs l) {v : Value} {hd : Head} {xs : List Int} (hv : SlO w p v xs) (hh : hd.Ok) : SPs w p (vs ++ (pcells hd v).toList) (l ++ [(hd, xs)]) := by
  have hl := h.1
  refine ⟨by simp [hl, pcells]; omega, fun j hj d => ?_⟩
  by_cases e : j < l.length
  · have h1 := h.2 j e d
    have e1 : ∀ i, i < 8 → (vs ++ (pcells hd v).toList).getD (j * 8 + i) undef = vs.getD (j * 8 + i) undef := fun i hi => by
      simp only [List.getD_eq_getElem?_getD]
      rw [List.getElem?_append_left (by omega)]
    have e2 : (l ++ [(hd, xs)]).getD j d = l.getD j d := by
      simp only [List.getD_eq_getElem?_getD]
      rw [List.getElem?_append_left e]
    rw [e2, e1 7 (by decide)]
    exact ⟨h1.1, h1.2.1, fun i hi => by rw [e1 i (by omega)]; exact h1.2.2 i hi⟩
  · have e2 : j = l.length := by simp at hj; omega
    subst e2
    have e1 : ∀ i, (vs ++ (pcells hd v).toList).getD (l.length * 8 + i) undef = (pcells hd v).toList.getD i undef := fun i => by
      simp only [List.getD_eq_getElem?_getD]
      rw [List.getElem?_append_right (by omega), hl, show l.length * 8 + i - l.length * 8 = i by omega]
    have e3 : (l ++ [(hd, xs)]).getD l.length d = (hd, xs) := by
      simp only [List.getD_eq_getElem?_getD]
      rw [List.getElem?_append_right (Nat.le_refl _)]
      simp
    rw [e3, e1]
    refine ⟨hh, hv, fun i hi => ?_⟩
    rw [e1]
    match i, hi with
    | 0, _ => rfl
    | 1, _ => rfl
    | 2, _ => rfl
    | 3, _ => rfl
    | 4, _ => rfl
    | 5, _ => rfl
    | 6, _ => rfl
/-- A page of them, where it lies. -/
theorem SPs.at_ {w : World} {p : Nat} {A : Option Addr} {n : Nat} {vs : List Value} {l : List (Head × List Int)} (hc : RdC w A (n * 8) vs) (h : SPs w p vs l) (i : Int) (h0 : 0 ≤ i) (h1 : i < n) :
    ∃ ad ax D nd cd, A = some ad ∧ ad.add (i.toNat * 8) = ax ∧ w.cell? ax = some (.int .u8 (l.getD i.toNat noPage).1.kind) ∧ w.cell? ⟨ax.block, ax.off + 1, none⟩ = some (.int .u32 (l.getD i.toNat noPage).1.epoch) ∧ w.cell? ⟨ax.block, ax.off + 2, none⟩ = some (.int .u32 (l.getD i.toNat noPage).1.batch) ∧ w.cell? ⟨ax.block, ax.off + 3, none⟩ = some (.int .u16 (l.getD i.toNat noPage).1.index) ∧ w.cell? ⟨ax.block, ax.off + 4, none⟩ = some (.int .u16 (l.getD i.toNat noPage).1.count) ∧ w.cell? ⟨ax.block, ax.off + 5, none⟩ = some (.int .u32 (l.getD i.toNat noPage).1.block) ∧ w.cell? ⟨ax.block, ax.off + 6, none⟩ = some (.int .u32 (l.getD i.toNat noPage).1.more) ∧ w.cell? ⟨ax.block, ax.off + 7, none⟩ = some (.slice D nd cd) ∧ As (nd ≤ cd ∧ RdO .u8 w p D nd (l.getD i.toNat noPage).2) ∧ As (SlO w p (.slice D nd cd) (l.getD i.toNat noPage).2) ∧ As ((l.getD i.toNat noPage).1.Ok) := by
  have hn : l.length * 8 = n * 8 := by rw [← h.1, hc.1]
  obtain ⟨ad, e, hcell⟩ := hc.2 (by omega)
  obtain ⟨ho, hs, hv⟩ := h.2 i.toNat (by omega) noPage
  obtain ⟨D, nd, cd, e1, a1, a2⟩ := hs.rdO
  have hcl : ∀ j, j < 8 → w.cell? (ad.add (i.toNat * 8 + j)) = some (vs.getD (i.toNat * 8 + j) undef) := fun j hj => hcell _ (by omega)
  have hc0 : w.cell? (ad.add (i.toNat * 8)) = some (vs.getD (i.toNat * 8 + 0) undef) := hcl 0 (by decide)
  have hcj : ∀ j, 0 < j → j < 8 → w.cell? ⟨(ad.add (i.toNat * 8)).block, (ad.add (i.toNat * 8)).off + j, none⟩ = some (vs.getD (i.toNat * 8 + j) undef) := fun j h0 hj => by rw [← add_next _ _ _ h0]; exact hcl j hj
  rw [hv 0 (by decide)] at hc0
  have hx : ∀ j, 0 < j → j < 7 → w.cell? ⟨(ad.add (i.toNat * 8)).block, (ad.add (i.toNat * 8)).off + j, none⟩ = some ((l.getD i.toNat noPage).1.vals.getD j undef) := fun j h0 hj => by rw [hcj j h0 (by omega), hv j hj]
  refine ⟨ad, _, D, nd, cd, e, rfl, hc0, hx 1 (by decide) (by decide), hx 2 (by decide) (by decide), hx 3 (by decide) (by decide), hx 4 (by decide) (by decide), hx 5 (by decide) (by decide), hx 6 (by decide) (by decide), ?_, ⟨a1.out, a2.out⟩, ⟨e1 ▸ hs⟩, ⟨ho⟩⟩
  rw [hcj 7 (by decide) (by decide), e1]

/-! ### what is written -/
def sealedOf (l : List (Head × List Int)) : List (List Int × List Int) := l.map fun q => (q.2, sealOf q.1 q.2 [])
def parHead (l : List (Head × List Int)) (seg row : Int) : Head := ⟨5, (l.getD 0 noPage).1.epoch, (l.getD 0 noPage).1.batch, row, seg, 0, 0⟩
def parPage (g : Geo) (l : List (Head × List Int)) (seg row : Int) : List Int × List Int := parOf g.s.toNat (parHead l seg row) (sealedOf l)
/-- What a member's page is, with what stands beside it. -/
def pageOf (g : Geo) (l : List (Head × List Int)) (seg row m : Int) : List Int × List Int := if g.isData seg row m = true then (sealedOf l).getD (g.slot seg row m).toNat ([], []) else parPage g l seg row
/-- A row of programs. -/
def _root_.Go.Proofs.Ytlhgbamajabnfaa.Ram.St.progs (s : Ram.St) (seg row : Int) (pg : Int → List Int) (ms : List Int) : Ram.St := ms.foldl (fun s m => s.prog m seg row (pg m)) s
def goneIn (s : Ram.St) (ms : List Int) : Int := ms.foldl (fun (k : Int) m => if 0 < s.gone m then k + 1 else k) 0
theorem goneIn_range (s : Ram.St) : ∀ (ms : List Int) (k : Int), k ≤ ms.foldl (fun (k : Int) m => if 0 < s.gone m then k + 1 else k) k ∧ ms.foldl (fun (k : Int) m => if 0 < s.gone m then k + 1 else k) k ≤ k + ms.length
  | [], k => by simp
  | m :: ms, k => by
    rw [List.foldl_cons]
    have h := goneIn_range s ms (if 0 < s.gone m then k + 1 else k)
    have h2 : k ≤ (if 0 < s.gone m then k + 1 else k) ∧ (if 0 < s.gone m then k + 1 else k) ≤ k + 1 := by split <;> omega
    rw [List.length_cons]
    omega
theorem prog_gone (s : Ram.St) (m b q : Int) (xs : List Int) : (s.prog m b q xs).gone = s.gone ∧ (s.prog m b q xs).g = s.g ∧ (s.prog m b q xs).first = s.first ∧ (s.prog m b q xs).order = s.order ++ [m] ∧ (s.prog m b q xs).cnt ≤ s.cnt + 2 := by
  unfold Ram.St.prog
  split
  · exact ⟨rfl, rfl, rfl, rfl, Nat.le_succ _⟩
  · exact ⟨rfl, rfl, rfl, rfl, Nat.le_refl _⟩
theorem progs_gone (seg row : Int) (pg : Int → List Int) : ∀ (ms : List Int) (s : Ram.St), (s.progs seg row pg ms).gone = s.gone ∧ (s.progs seg row pg ms).g = s.g ∧ (s.progs seg row pg ms).first = s.first ∧ (s.progs seg row pg ms).order = s.order ++ ms ∧ (s.progs seg row pg ms).cnt ≤ s.cnt + 2 * ms.length
  | [], s => ⟨rfl, rfl, rfl, by simp [Ram.St.progs], by simp [Ram.St.progs]⟩
  | m :: ms, s => by
    obtain ⟨a1, a2, a3, a4, a5⟩ := prog_gone s m seg row (pg m)
    obtain ⟨b1, b2, b3, b4, b5⟩ := progs_gone seg row pg ms (s.prog m seg row (pg m))
    unfold Ram.St.progs at *
    rw [List.foldl_cons]
    refine ⟨b1.trans a1, b2.trans a2, b3.trans a3, ?_, ?_⟩
    · rw [b4, a4]; simp
    · rw [List.length_cons]; omega
theorem orderOf_mem {first c : Int} (hc : 0 ≤ c) : ∀ m ∈ orderOf first c, 0 ≤ m ∧ m < c := by
  intro m hm
  unfold orderOf at hm
  rcases List.mem_append.1 hm with h | h
  · unfold pre at h
    split at h
    · rename_i hh
      rw [List.mem_singleton] at h
      subst h
      exact hh
    · cases h
  · have h1 := (List.mem_filter.1 h).1
    unfold upTo at h1
    obtain ⟨k, hk, rfl⟩ := List.mem_map.1 h1
    have := List.mem_range.1 hk
    simp only [Int.ofNat_eq_natCast]
    omega
theorem orderOf_len (first c : Int) : (orderOf first c).length ≤ c.toNat + 1 := by
  unfold orderOf
  rw [List.length_append]
  have h1 := List.length_filter_le (fun m => decide (m ≠ first)) (upTo c.toNat)
  have h2 : (upTo c.toNat).length = c.toNat := by simp [upTo]
  have h3 : (pre first c).length ≤ 1 := by unfold pre; split <;> simp
  omega
theorem sealOf_len (h : Head) (data beside : List Int) : (sealOf h data beside).length = 64 := by
  unfold sealOf
  rw [List.length_append, Wr.padTo_length]
  have h1 : h.bytes.length = 24 := by simp [Head.bytes, Wr.les_length]
  have h2 : (tailOf beside).length = 32 := by unfold tailOf; rw [Wr.padTo_length, List.length_take]; omega
  rw [List.length_append, h1, h2, Wr.le_length]
  rfl
theorem seal_range {h : Head} {data beside : List Int} (hb : InR 256 beside) : InR 256 (sealOf h data beside) := inR_append (pad_range (inR_append (bytes_range h) (le_range 4 _)) _) (tail_range hb)
theorem infoPP : (Try.prog.info? 110).map (fun i => (i.zero, i.size, i.bytes)) = some (some (.agg #[.slice none 0 0, .slice none 0 0]), 2, 48) := by kernel_rfl

theorem sealed_get {l : List (Head × List Int)} {j : Nat} (hj : j < l.length) : (sealedOf l).getD j ([], []) = ((l.getD j noPage).2, sealOf (l.getD j noPage).1 (l.getD j noPage).2 []) := by
  simp [sealedOf, List.getD_eq_getElem?_getD, List.getElem?_eq_getElem hj]
theorem slot_range {g : Geo} (h : g.Ok) {seg row m : Int} (hm0 : 0 ≤ m) (hm1 : m < g.c) (hd : g.isData seg row m = true) : 0 ≤ g.slot seg row m ∧ g.slot seg row m < g.c - 1 := by
  obtain ⟨h1, h2⟩ := par_range h seg row
  unfold Geo.isData at hd
  have hne : m ≠ g.par seg row := by simpa using hd
  unfold Geo.slot
  rw [if_neg hne]
  split <;> omega
theorem PPO.at_ {w : World} {p : Nat} {A : Option Addr} {n : Nat} {vs : List Value} {l : List (List Int × List Int)} (hc : RdC w A (n * 2) vs) (h : PPO w p vs l) (i : Int) (h0 : 0 ≤ i) (h1 : i < n) :
    ∃ ad ax D nd cd O no co, A = some ad ∧ ad.add (i.toNat * 2) = ax ∧ w.cell? ax = some (.slice D nd cd) ∧ w.cell? ⟨ax.block, ax.off + 1, none⟩ = some (.slice O no co) ∧ As (SlO w p (.slice D nd cd) (l.getD i.toNat ([], [])).1) ∧ As (SlO w p (.slice O no co) (l.getD i.toNat ([], [])).2) := by
  have hn : l.length * 2 = n * 2 := by rw [← h.1.1, hc.1]
  have hl := hc.1
  have hm : ∀ k, k < vs.length → vs.getD k undef ∈ vs := fun k hk => by rw [List.getD_eq_getElem?_getD, List.getElem?_eq_getElem hk]; exact List.getElem_mem hk
  obtain ⟨ad, e, hcell⟩ := hc.2 (by omega)
  have o1 := h.2 _ (hm (i.toNat * 2) (by omega))
  have o2 := h.2 _ (hm (i.toNat * 2 + 1) (by omega))
  obtain ⟨⟨D, nd, cd, e1, a1, a2⟩, ⟨O, no, co, e2, b1, b2⟩⟩ := h.1.2 i.toNat (by omega)
  rw [e1] at o1
  rw [e2] at o2
  refine ⟨ad, _, D, nd, cd, O, no, co, e, rfl, ?_, ?_, ⟨⟨D, nd, cd, rfl, a1, a2⟩, o1⟩, ⟨⟨O, no, co, rfl, b1, b2⟩, o2⟩⟩
  · rw [hcell _ (by omega), e1]
  · rw [← add_next _ _ _ (by decide), hcell _ (by omega), e2]
def errOf (k : Int) : Int := if 1 < k then 74 else 0
theorem progs_snoc (s : Ram.St) (seg row : Int) (pg : Int → List Int) (ms : List Int) (m : Int) : s.progs seg row pg (ms ++ [m]) = (s.progs seg row pg ms).prog m seg row (pg m) := by unfold Ram.St.progs; rw [List.foldl_append]; rfl
theorem goneIn_snoc (s : Ram.St) (ms : List Int) (m : Int) : goneIn s (ms ++ [m]) = if 0 < s.gone m then goneIn s ms + 1 else goneIn s ms := by unfold goneIn; rw [List.foldl_append]; rfl
/-- One program of a row. -/
theorem Prog_any (p : Nat) (s : Ram.St) (seg row m : Int) (pg : Int → List Int) (ms : List Int) (D O : Option Addr) (nd cd co : Nat) (data oob : List Int) (w : World) (e : Int) (he : (if 0 < s.gone m then (71 : Int) else 0) = e)
    (h : RamE w p (s.progs seg row pg ms)) (hi : In s.g m seg row) (hD : SlO w p (.slice D nd cd) data) (hO : SlO w p (.slice O 64 co) oob) (hpg : pg m = data ++ oob) (hl : (data.length : Int) = s.g.s) (hrd : InR 256 data) (hro : InR 256 oob) (hcnt : s.cnt + 2 * ms.length ≤ 1000000000) :
    Calls Try.prog 109 #[.pointer (some ⟨p, 0, none⟩), .int .i64 m, .int .i64 seg, .int .i64 row, .slice D nd cd, .slice O 64 co] w fun r w' => r = .returned (.int .i64 e) ∧ RamE w' p (s.progs seg row pg (ms ++ [m])) ∧ Ram.Step p w w' := by
  obtain ⟨a1, a2, a3, a4, a5⟩ := progs_gone seg row pg ms s
  obtain ⟨D', n', c', e1, h1, h2⟩ := hD.rdO
  injection e1 with e1 e2 e3
  subst e1 e2 e3
  obtain ⟨O', n'', c'', e1, h3, h4⟩ := hO.rdO
  injection e1 with e1 e2 e3
  subst e1 e2 e3
  have hnd : (nd : Int) = s.g.s := by rw [← hl, h2.out.1.1]
  refine (Program_calls p _ m seg row D O nd cd co data oob w h (by rw [a2]; exact hi) h2.out h4.out h1.out hrd hro (by rw [a2]; exact hnd) (by omega)).mono ?_
  rintro r w' ⟨hr, hw, hs⟩
  refine ⟨?_, ?_, hs⟩
  · rw [hr]
    unfold Ram.St.err
    rw [a1, he]
  · rw [progs_snoc, hpg]
    exact hw

set_option maxHeartbeats 8000000 in
set_option maxRecDepth 100000 in
theorem Write_calls (p : Nat) (s : Ram.St) (seg row : Int) (A : Option Addr) (n c : Nat) (vs : List Value) (l : List (Head × List Int)) (w : World) (hR : RamE w p s) (ha : s.g.At seg row) (hn : (n : Int) = s.g.c - 1) (hC : RdCO w p A (n * 8) vs) (hS : SPs w p vs l)
    (hl : ∀ q ∈ l, (q.2.length : Int) = s.g.s ∧ InR 256 q.2) (hcnt : s.cnt ≤ 500000000) :
    Calls Try.prog 18 #[dev p, .int .i64 seg, .int .i64 row, .slice A n c] w fun e w' => e = .returned (.int .i64 (errOf (goneIn s (orderOf s.first s.g.c)))) ∧ RamE w' p (s.progs seg row (fun m => (pageOf s.g l seg row m).1 ++ (pageOf s.g l seg row m).2) (orderOf s.first s.g.c)) ∧ Ram.Step p w w' := by
  have hok : s.g.Ok := by obtain ⟨_, _, _, _, _, h⟩ := hR; exact h.ok
  have hp : p < w.heap.size := hR.lt
  have HR := As.mk hR
  have HC := As.mk hC
  have HS := As.mk hS
  have HL := As.mk hl
  have HCN := As.mk hcnt
  have HLN : As (l.length = n) := ⟨by have h1 := hS.1; have h2 := hC.1.1; omega⟩
  have hc1 := hok.c
  have hb1 := hok.b
  have hp1 := hok.p
  have hs1 := hok.s
  have HG := As.mk (fun w' (hf : Fr None_ w w') => Geo_calls p s w' (hR.none_ hf))
  have HW := As.mk (fun w => Width_calls s.g w hok)
  have HV := As.mk (fun w => Virtual_calls s.g w hok)
  have HPX := As.mk (fun m (hm : 0 ≤ m ∧ m < s.g.c) w => Slot_calls s.g seg row m w hok ha hm.1 (by omega))
  have HAT := As.mk ha
  have hseg := ha.seg
  have hrow := ha.row
  have hb := hseg.2
  have HOK := As.mk hok
  unfold Geo.val at HG HW HV HPX
  have e1 : ((n : Int) != s.g.c - 1) = false := by rw [hn]; simp
  have e2 : decide (seg < 0) = false := decide_eq_false (by omega)
  have e3 : decide (s.g.b - 5 ≤ seg) = false := decide_eq_false (by omega)
  have e4 : decide (row < 0) = false := decide_eq_false (by omega)
  have e5 : decide (s.g.p ≤ row) = false := decide_eq_false (by omega)
  have HN := As.mk hn
  have hn1 : n ≤ 100 := by omega
  have HORD := As.mk (fun (w' : World) (h : RamE w' p s) => Order_calls p s s.g.c w' h ⟨by omega, by omega⟩)
  unfold dev at *
  clear hR hC hS hl hcnt ha hok hn
  go_enter Try.func18, Try.ntmps18
  go_wp2_with fail
  ((with_reducible refine (HG.out _ (Fr.refl _ _)).mono ?_); rintro e w1 ⟨rfl, hf1⟩)
  have HF1 := As.mk hf1
  clear hf1
  have hgeo := heap_alloc_new w1 (.cells #[.int .i64 s.g.c, .int .i64 s.g.b, .int .i64 s.g.p, .int .i64 s.g.s] 28)
  have HGEO := As.mk hgeo
  clear hgeo
  go_wp2_with fail
  ((with_reducible refine (HW.out _).mono ?_); rintro e w2 ⟨rfl, hf2⟩)
  have HGE2 := As.mk (hf2.heap HGEO.out (fun h => h))
  have HF2 := As.mk ((HF1.out.alloc _).after hf2 (fun _ _ h => h))
  have c0 := cell_is (i := 0) HGE2.out rfl
  have c1 := cell_is (i := 1) HGE2.out rfl
  have c2 := cell_is (i := 2) HGE2.out rfl
  have c3 := cell_is (i := 3) HGE2.out rfl
  clear hf2
  go_wp2_with fail
  ((with_reducible refine (HV.out _).mono ?_); rintro e w3 ⟨rfl, hf3⟩)
  have HGE3 := As.mk (hf3.heap HGE2.out (fun h => h))
  have HF3 := As.mk (HF2.out.after hf3 (fun _ _ h => h))
  clear c0 c1 c2 c3 hf3
  have c2 := cell_is (i := 2) HGE3.out rfl
  go_wp2_with fail
  clear c2
  have hzg : w.heap.size ≤ w1.heap.size := HF1.out.size
  generalize hg9 : w1.heap.size = g9 at *
  clear hg9
  have HSL : As (∀ i : Nat, i < l.length → (sealedOf l).take (i + 1) = (sealedOf l).take i ++ [((l.getD i noPage).2, sealOf (l.getD i noPage).1 (l.getD i noPage).2 [])]) := ⟨fun i hi => by
    have hi2 : i < (sealedOf l).length := by simp [sealedOf]; exact hi
    rw [take_snoc ([], []) hi2]
    congr 2
    simp [sealedOf, List.getD_eq_getElem?_getD, List.getElem?_eq_getElem hi]⟩
  go_loopw [10, 12, 53] (fun v10 v12 v53 w' => ∃ i : Int, ∃ vs10 : List Value, v53 = .int .i64 i ∧ 0 ≤ i ∧ i ≤ (n : Int) ∧ As (RowV 110 2 w' w.heap.size v10 i.toNat vs10) ∧ As (PPO w' p vs10 ((sealedOf l).take i.toNat)) ∧ As (Fr None_ w w' ∧ w'.heap[g9]? = some (.cells #[.int .i64 s.g.c, .int .i64 s.g.b, .int .i64 s.g.p, .int .i64 s.g.s] 28 (0, 0)))) (fun _ _ v53 _ => n - (intOf v53).toNat)
  case atStart => exact ⟨0, [], rfl, by omega, by omega, ⟨RowV.nil _ _ _ _⟩, ⟨PPO.nil _ _⟩, ⟨HF3.out, HGE3.out⟩⟩
  case round =>
    obtain ⟨i, vs10, rfl, hi0, hi, HX, HPP, HF⟩ := hrel
    obtain ⟨A1, cap1, e1, _, _, _⟩ := HX.out.rd
    subst e1
    by_cases hlt : i < (n : Int)
    · obtain ⟨ad, ax, D, nd, cd, rfl, hax, k0, k1, k2, k3, k4, k5, k6, k7, HD, HDS, HH⟩ := SPs.at_ (HC.out.none_ hp HF.out.1).1 (HS.out.none_ hp HF.out.1) i hi0 hlt
      have hil : i.toNat < l.length := by have := HLN.out; omega
      have HLI := As.mk (HL.out (l.getD i.toNat noPage) (by rw [List.getD_eq_getElem?_getD, List.getElem?_eq_getElem hil]; exact List.getElem_mem hil))
      have HTK := As.mk (HSL.out _ hil)
      have c3 := cell_is (i := 3) HF.out.2 rfl
      have hnd : ((nd : Int) != s.g.s) = false := by have h1 := HD.out.2.1.1; have h2 := HLI.out.1; rw [bne_eq_false_iff_eq]; omega
      clear hil
      generalize l.getD i.toNat noPage = q at *
      have hl9 : g9 < wr.heap.size := World.block_lt_of_cell? wr ⟨g9, 3, none⟩ c3
      have HSE := As.mk (fun (w' : World) (hf : Fr None_ wr w') => sealed_calls q.1 D nd cd q.2 w' HH.out (HD.out.2.1.none_ hf) HLI.out.2 HD.out.1)
      unfold pcells at HSE
      go_wp2_with (first | (go_at_call 46; (with_reducible refine (HSE.out _ ?_).mono ?_); (focus repeat (first | exact Fr.refl _ _ | apply Fr.drew | apply Fr.drewN | apply Fr.alloc)); rintro e w4 ⟨v4, rfl, hrow4, hf4⟩; have HR4 := As.mk hrow4; have HF4 := As.mk (((Fr.refl None_ wr).alloc _).after hf4 (fun _ _ h => h)); clear hrow4 hf4; obtain ⟨A4, n4, c4, e4, _, _, _⟩ := HR4.out.rd; subst e4) | (at_builtin; (with_reducible refine appendV w.heap.size rfl _ _ 108 110 (.agg #[.slice none 0 0, .slice none 0 0]) 2 48 rfl Try.underlying108 infoPP rfl (by decide) (by decide) (.slice A1 i.toNat cap1) i.toNat vs10 #[.slice D nd cd, .slice A4 n4 c4] _ rfl rfl rfl rfl ?o0 (HX.out.none_ HF4.out) ?o2 ?o3 ?_); (case o0 => intro u hu; simp at hu; rcases hu with rfl | rfl <;> rfl); (case o2 => have := HF.out.1.size; have := HF4.out.size; omega); (case o3 => omega); intro v1 w5 hrow1 hfr1 hat1; have HR1 := As.mk hrow1; have HF5 := As.mk hfr1; clear hrow1 hfr1 hat1; obtain ⟨A5, c5, e5, _, _, _⟩ := HR1.out.rd; subst e5))
      have hn1 : (i + 1).toNat = i.toNat + 1 := by omega
      have hF4 : Fr None_ w w4 := HF.out.1.after HF4.out (fun _ _ h => h)
      have hX4 := HX.out.none_ HF4.out
      have hF5 : Fr None_ w w5 := RowV.grow hX4 hF4 HF5.out
      have hp4 : p < w4.heap.size := Nat.lt_of_lt_of_le hp hF4.size
      have hR0 := (HR.out.none_ HF.out.1)
      have hsd : SlO w4 p (.slice D nd cd) q.2 := HDS.out.none_ (Nat.lt_of_lt_of_le hp HF.out.1.size) HF4.out
      have hso : SlO w4 p (.slice A4 n4 c4) (sealOf q.1 q.2 []) := SlO.of_row hR0 HF4.out HR4.out (by simp)
      have hpp := ((HPP.out.none_ (Nat.lt_of_lt_of_le hp HF.out.1.size) HF4.out).snoc hsd hso)
      refine ⟨⟨i + 1, vs10 ++ [.slice D nd cd, .slice A4 n4 c4], rfl, by omega, by omega, ⟨?_⟩, ⟨?_⟩, ⟨hF5, ?_⟩⟩, by simp [intOf]; omega⟩
      · rw [hn1]
        exact HR1.out
      · rw [hn1, HTK.out]
        refine hpp.fr HF5.out (fun b cs hb hb2 => ?_) ((hF5.block p hp (fun h => h)).trans (hF4.block p hp (fun h => h)).symm)
        exact Go.Proofs.Ytlhgbamajabnfaa.Str.RowV.ne hX4 hb (by decide) hb2
      · exact HF5.out.heap (HF4.out.heap HF.out.2 (fun h => h)) (Go.Proofs.Ytlhgbamajabnfaa.Str.RowV.ne hX4 (HF4.out.heap HF.out.2 (fun h => h)) (by decide))
    · have hin : i.toNat = n := by omega
      rw [hin] at HX HPP ⊢
      have hn0 : 0 < n := by have := HN.out; omega
      have HPA : As (PPO wr p vs10 (sealedOf l)) := ⟨by
        have h := HPP.out
        rw [List.take_of_length_le (by simp [sealedOf]; have := HLN.out; omega)] at h
        exact h⟩
      clear HSL HPP hin
      obtain ⟨ad, ax, D, nd, cd, hA, hax, k0, k1, k2, _, _, _, _, _, _, _, hh0⟩ := SPs.at_ (HC.out.none_ hp HF.out.1).1 (HS.out.none_ hp HF.out.1) 0 (Int.le_refl _) (by omega)
      subst hA
      have hax0 : ad = ax := by rw [← hax]; rfl
      subst hax0
      change wr.cell? ⟨ad.block, ad.off + 1, none⟩ = some (.int .u32 (parHead l seg row).epoch) at k1
      change wr.cell? ⟨ad.block, ad.off + 2, none⟩ = some (.int .u32 (parHead l seg row).batch) at k2
      have HPO : As ((parHead l seg row).Ok) := ⟨⟨by show (0 : Int) ≤ 5 ∧ (5 : Int) < 256; decide, hh0.out.epoch, hh0.out.batch, by show 0 ≤ row ∧ row < 65536; omega, by show 0 ≤ seg ∧ seg < 65536; omega, by show (0 : Int) ≤ 0 ∧ (0 : Int) < 4294967296; decide, by show (0 : Int) ≤ 0 ∧ (0 : Int) < 4294967296; decide⟩⟩
      clear k0 hax hh0
      have HPH : As (parHead l seg row = ⟨5, (parHead l seg row).epoch, (parHead l seg row).batch, row, seg, 0, 0⟩) := ⟨rfl⟩
      have HPG : As (parPage s.g l seg row = parOf s.g.s.toNat (parHead l seg row) (sealedOf l)) := ⟨rfl⟩
      have hr1 := HX.out.rd
      have HPC := As.mk (fun (w' : World) (hf : Fr None_ wr w') => Of_calls s.g.s.toNat (parHead l seg row) (sealedOf l) vs10 A1 n cap1 w' HPO.out (by
        obtain ⟨A', c', e, _, h3, _⟩ := hr1
        injection e with e1 e2 e3
        subst e1
        exact h3.out.none_ hf) (HPA.out.1.none_ hf) (fun q hq => by
          obtain ⟨q', hq', rfl⟩ := List.mem_map.1 hq
          have h1 := HL.out q' hq'
          exact ⟨by show q'.2.length = _; omega, sealOf_len _ _ _, h1.2, seal_range (fun x hx => by cases hx)⟩) hn0 (by omega) (by omega))
      unfold Head.vals at HPC
      rw [HPH.out] at HPC
      dsimp only at HPC
      generalize (parHead l seg row).epoch = ep at *
      generalize (parHead l seg row).batch = ba at *
      clear hr1
      have hwr : IntKind.u16.wrap row = row := by rw [IntKind.wrap_u16]; omega
      have hws : IntKind.u16.wrap seg = seg := by rw [IntKind.wrap_u16]; omega
      have hl9 : g9 < wr.heap.size := (Array.getElem?_eq_some_iff.1 HF.out.2).1
      go_upto_region 14 with fail
      go_region_held3 (fun w' => w'.cell? ⟨ad.block, ad.off + 1, none⟩ = some (.int .u32 ep) ∧ w'.cell? ⟨ad.block, ad.off + 2, none⟩ = some (.int .u32 ba)) (go_keep) (fail)
      go_wp2_with fail
      rw [← HPH.out] at HPC
      ((with_reducible refine (HPC.out _ ?_).mono ?_); (focus repeat (first | exact Fr.refl _ _ | apply Fr.drew | apply Fr.drewN | apply Fr.alloc)); rintro e w6 ⟨u1, u2, rfl, hrow1, hrow2, hf6⟩)
      rw [← HPG.out] at hrow1 hrow2
      have HRW1 := As.mk hrow1
      have HRW2 := As.mk hrow2
      have HF6 := As.mk ((((Fr.refl None_ wr).alloc _).drew).after hf6 (fun _ _ h => h))
      clear hrow1 hrow2 hf6
      obtain ⟨U1, n1, c1, e1', _, _, _⟩ := HRW1.out.rd
      obtain ⟨U2, n2, c2, e2', _, _, _⟩ := HRW2.out.rd
      subst e1' e2'
      have HGE6 := As.mk (HF6.out.heap HF.out.2 (fun h => h))
      have c0 := cell_is (i := 0) HGE6.out rfl
      have hl96 : g9 < w6.heap.size := (Array.getElem?_eq_some_iff.1 HGE6.out).1
      clear k1 k2 hl9
      have hwp : p < wr.heap.size := Nat.lt_of_lt_of_le hp HF.out.1.size
      have HR6 := As.mk ((HR.out.none_ HF.out.1).none_ HF6.out)
      go_wp2_with fail
      ((with_reducible refine (HORD.out _ ?k5).mono ?_); (case k5 => exact HR6.out.none_ ((Fr.refl None_ w6).alloc _)); rintro e w7 ⟨vo, rfl, hrowo, hf7⟩)
      have HF7 := As.mk (((HF.out.1.after HF6.out (fun _ _ h => h)).alloc _).after hf7 (fun _ _ h => h))
      have HZ6 : As (w.heap.size ≤ w6.heap.size) := ⟨(HF.out.1.after HF6.out (fun _ _ h => h)).size⟩
      have HGL := As.mk (hf7.heap (heap_alloc_new w6 (.cells #[.slice U1 n1 c1, .slice U2 n2 c2] 110)) (fun h => h))
      have HGE7 := As.mk (hf7.heap (at_old (.cells #[.slice U1 n1 c1, .slice U2 n2 c2] 110) HGE6.out) (fun h => h))
      have HR7 := As.mk (HR.out.none_ HF7.out)
      have HF67 := As.mk (((Fr.refl None_ w6).alloc (.cells #[.slice U1 n1 c1, .slice U2 n2 c2] 110)).after hf7 (fun _ _ h => h))
      have HU1 : As (SlO w7 p (.slice U1 n1 c1) (parPage s.g l seg row).1) := ⟨SlO.of_row HR.out HF7.out ((HRW1.out.none_ HF67.out)) (by have := HF.out.1.size; simp; omega)⟩
      have HU2 : As (SlO w7 p (.slice U2 n2 c2) (parPage s.g l seg row).2) := ⟨SlO.of_row HR.out HF7.out ((HRW2.out.none_ HF67.out)) (by have := HF.out.1.size; simp; omega)⟩
      have hn64 : n2 = 64 := by
        obtain ⟨A', n', c', e, _, h2⟩ := HU2.out.rdO
        injection e with e1 e2 e3
        rw [e2, ← h2.out.1.1]
        exact sealOf_len _ _ _
      subst hn64
      have HLP : As (((parPage s.g l seg row).1.length : Int) = s.g.s ∧ InR 256 (parPage s.g l seg row).1 ∧ InR 256 (parPage s.g l seg row).2) := ⟨by
        have hx : (parPage s.g l seg row).1.length = s.g.s.toNat := xorAll_len _ _ _ (by simp) (fun x hx => by
          obtain ⟨q, hq, rfl⟩ := List.mem_map.1 hx
          obtain ⟨q', hq', rfl⟩ := List.mem_map.1 hq
          have h1 := (HL.out q' hq').1
          show q'.2.length = _
          omega)
        exact ⟨by rw [hx]; omega, Go.Proofs.Ytlhgbamajabnfaa.Str.xor_range _ _, seal_range (Go.Proofs.Ytlhgbamajabnfaa.Str.xor_range _ _)⟩⟩
      have HA7 : As (RdCO w7 p A1 (n * 2) vs10) := ⟨RdCO.of_rowV (c := cap1) HR.out HF7.out ((HX.out.none_ HF6.out).none_ HF67.out) (Nat.le_refl _)⟩
      have HP7 : As (PPO w7 p vs10 (sealedOf l)) := ⟨(HPA.out.none_ hwp HF6.out).none_ (Nat.lt_of_lt_of_le hwp HF6.out.size) HF67.out⟩
      have HOG : As (Off w7 p g9 ∧ Off w7 p w6.heap.size) := ⟨HR.out.off_new HF7.out hzg (Array.getElem?_eq_some_iff.1 HGE7.out).1, HR.out.off_new HF7.out HZ6.out (Array.getElem?_eq_some_iff.1 HGL.out).1⟩
      have HZA : As (w.heap.size ≤ (w6.alloc (.cells #[.slice U1 n1 c1, .slice U2 64 c2] 110)).heap.size) := ⟨by have := HZ6.out; simp; omega⟩
      obtain ⟨Ao, no, co, eo, hmo, hdo, hao⟩ := hrowo.rd
      have HRO : As (RdO .i64 w7 p Ao no (orderOf s.first s.g.c)) := ⟨hdo.out, fun ad' e _ => (HR.out.off_new HF7.out (Nat.le_trans HZA.out (hrowo.blk _ (hao.out ad' e)).1) (hrowo.blk _ (hao.out ad' e)).2.1).2⟩
      have HNO := As.mk hdo.out.1
      have HMO := As.mk (orderOf_len s.first s.g.c)
      have hno : no ≤ 17 := by have h1 := HNO.out; have h2 := HMO.out; omega
      have HPGE : As (∀ m, (pageOf s.g l seg row m) = if s.g.isData seg row m = true then (sealedOf l).getD (s.g.slot seg row m).toNat ([], []) else parPage s.g l seg row) := ⟨fun _ => rfl⟩
      have HMEM := As.mk (fun m hm => orderOf_mem (first := s.first) (c := s.g.c) (by omega) m hm)
      subst eo
      generalize hord : orderOf s.first s.g.c = ms at *
      have HOR := As.mk hord
      clear hf7 hrowo hord hdo
      generalize hgl : w6.heap.size = gl at *
      clear hgl HRW1 HRW2
      clear HF67 HF6
      go_wp2_with fail
      clear c0 hl96
      go_loopw [15, 17, 18, 19, 20, 21, 92] (fun v15 v17 v18 v19 v20 v21 v92 w' => ∃ i : Int, v92 = .int .i64 i ∧ 0 ≤ i ∧ i ≤ (no : Int) ∧ (∃ k : Int, v15 = .int .i64 k ∧ As (k = goneIn s (ms.take i.toNat))) ∧ As (RamE w' p (s.progs seg row (fun m => (pageOf s.g l seg row m).1 ++ (pageOf s.g l seg row m).2) (ms.take i.toNat))) ∧ As (Ram.Step p w7 w')) (fun _ _ _ _ _ _ v92 _ => no - (intOf v92).toNat)
      case atStart => exact ⟨0, rfl, by omega, by omega, ⟨0, rfl, ⟨rfl⟩⟩, HR7, ⟨Ram.Step.refl _ _⟩⟩
      case round =>
        obtain ⟨i, rfl, hi0, hi, ⟨k, rfl, HK⟩, HX2, HST⟩ := hrel
        by_cases hlt : i < (no : Int)
        · obtain ⟨ado, eo, hco⟩ := (HRO.out.step HST.out).1.at_ i hi0 hlt
          subst eo
          have hil : i.toNat < ms.length := by have := HNO.out; omega
          have HTK : As (ms.take (i + 1).toNat = ms.take i.toNat ++ [ms.getD i.toNat 0]) := ⟨by rw [show (i + 1).toNat = i.toNat + 1 by omega]; exact take_snoc 0 hil⟩
          have hm := HMEM.out (ms.getD i.toNat 0) (by rw [List.getD_eq_getElem?_getD, List.getElem?_eq_getElem hil]; exact List.getElem_mem hil)
          have HTL : As ((ms.take i.toNat).length ≤ 17) := ⟨by have := List.length_take_le i.toNat ms; have := HMO.out; have := HNO.out; omega⟩
          generalize ms.getD i.toNat 0 = m at *
          obtain ⟨hm0, hm1⟩ := hm
          clear hil
          have HGLr := As.mk (HOG.out.2.blk HST.out HGL.out)
          have HGEr := As.mk (HOG.out.1.blk HST.out HGE7.out)
          have u0 := cell_is (i := 0) HGLr.out rfl
          have u1 := cell_is (i := 1) HGLr.out rfl
          have g0 := cell_is (i := 0) HGEr.out rfl
          have g1 := cell_is (i := 1) HGEr.out rfl
          have g2 := cell_is (i := 2) HGEr.out rfl
          have g3 := cell_is (i := 3) HGEr.out rfl
          have lgl : gl < wr.heap.size := (Array.getElem?_eq_some_iff.1 HGLr.out).1
          have lge : g9 < wr.heap.size := (Array.getElem?_eq_some_iff.1 HGEr.out).1
          have HMI : As (In s.g m seg row) := ⟨⟨⟨hm0, hm1⟩, HAT.out⟩⟩
          have HWP : As (p < wr.heap.size) := ⟨HX2.out.lt⟩
          have HPM := As.mk (HPGE.out m)
          have HPS := As.mk (HPX.out m ⟨hm0, hm1⟩)
          have HCT : As (s.cnt + 2 * (ms.take i.toNat).length ≤ 1000000000) := ⟨by have := HTL.out; have := HCN.out; omega⟩
          have hk : 0 ≤ k ∧ k ≤ 17 := by
            have h1 := goneIn_range s (ms.take i.toNat) 0
            have h2 := HK.out
            have h3 := HTL.out
            unfold goneIn at h2
            omega
          obtain ⟨hk0, hk1⟩ := hk
          by_cases hd : s.g.isData seg row m = true
          · rw [hd] at HPS HPM
            have hsr := slot_range HOK.out hm0 hm1 hd
            have HPM2 : As (pageOf s.g l seg row m = (sealedOf l).getD (s.g.slot seg row m).toNat ([], [])) := ⟨by rw [HPM.out]; rfl⟩
            clear hd HPM
            generalize s.g.slot seg row m = sl at *
            obtain ⟨hs0, hs1⟩ := hsr
            have hsn : sl < (n : Int) := by have := HN.out; omega
            obtain ⟨ad1, ax, D, nd, cd, O, no', co', eA1, hax, a1, a2, HD, HO⟩ := PPO.at_ (HA7.out.step HST.out).1 (HP7.out.step HST.out) sl hs0 hsn
            have hsl : sl.toNat < l.length := by have := HLN.out; omega
            have HQ := As.mk (sealed_get hsl)
            have HQL := As.mk (HL.out (l.getD sl.toNat noPage) (by rw [List.getD_eq_getElem?_getD, List.getElem?_eq_getElem hsl]; exact List.getElem_mem hsl))
            rw [HQ.out] at HD HO HPM2
            have hno64 : no' = 64 := by
              obtain ⟨A', n', c', e, _, h2⟩ := HO.out.rdO
              injection e with e1 e2 e3
              rw [e2, ← h2.out.1.1]
              exact sealOf_len _ _ _
            subst hno64
            subst eA1
            clear hsl
            have HPA1 := As.mk (fun (e : Int) (he : (if 0 < s.gone m then (71 : Int) else 0) = e) (w8 : World) (hf : Fr None_ wr w8) => Prog_any p s seg row m (fun m => (pageOf s.g l seg row m).1 ++ (pageOf s.g l seg row m).2) (ms.take i.toNat) D O nd cd co' _ _ w8 e he (HX2.out.none_ hf) HMI.out (HD.out.none_ HWP.out hf) (HO.out.none_ HWP.out hf) (by show (pageOf s.g l seg row m).1 ++ (pageOf s.g l seg row m).2 = _; rw [HPM2.out]) HQL.out.1 HQL.out.2 (seal_range (fun x hx => by cases hx)) HCT.out)
            by_cases hgo : 0 < s.gone m
            · have HP71 := As.mk (HPA1.out 71 (if_pos hgo))
              have HKG : As (k + 1 = goneIn s (ms.take (i + 1).toNat)) := ⟨by rw [HTK.out, goneIn_snoc, if_pos hgo, HK.out]⟩
              clear hgo
              go_wp2_with (first | (go_at_call 49; (with_reducible refine (HPS.out _).mono ?_); rintro e w8 ⟨rfl, hf8⟩; have hgx := hf8.heap (heap_alloc_new wr _) (fun h => h); have x0 := cell_is (i := 0) hgx rfl; have x1 := cell_is (i := 1) hgx rfl; have y0 := free_of (i := 0) hgx; have y1 := free_of (i := 1) hgx; have HF8 := As.mk (((Fr.refl None_ wr).alloc _).after hf8 (fun _ _ h => h)); have HF9 := As.mk ((HF8.out.setCell (p := ⟨wr.heap.size, 0, none⟩) (fun h => absurd h (Nat.lt_irrefl _)) (.slice D nd cd)).setCell (p := ⟨wr.heap.size, 1, none⟩) (fun h => absurd h (Nat.lt_irrefl _)) (.slice O 64 co')); have b1 := HF8.out.cell a1 (fun h => h); have b2 := HF8.out.cell a2 (fun h => h); clear hgx hf8) | (go_at_call 109; (with_reducible refine (HP71.out _ HF9.out).mono ?_); rintro e w9 ⟨rfl, hR9, hS9⟩; have HR9 := As.mk hR9; have HS9 := As.mk hS9; clear hR9 hS9))
              exact ⟨⟨i + 1, rfl, by omega, by omega, ⟨_, rfl, HKG⟩, ⟨by rw [HTK.out]; exact HR9.out⟩, ⟨HST.out.trans ((Ram.Step.none_ HWP.out HF9.out).trans HS9.out)⟩⟩, by simp [intOf]; omega⟩
            · have HP0 := As.mk (HPA1.out 0 (if_neg hgo))
              have HKG : As (k = goneIn s (ms.take (i + 1).toNat)) := ⟨by rw [HTK.out, goneIn_snoc, if_neg hgo, HK.out]⟩
              clear hgo
              go_wp2_with (first | (go_at_call 49; (with_reducible refine (HPS.out _).mono ?_); rintro e w8 ⟨rfl, hf8⟩; have hgx := hf8.heap (heap_alloc_new wr _) (fun h => h); have x0 := cell_is (i := 0) hgx rfl; have x1 := cell_is (i := 1) hgx rfl; have y0 := free_of (i := 0) hgx; have y1 := free_of (i := 1) hgx; have HF8 := As.mk (((Fr.refl None_ wr).alloc _).after hf8 (fun _ _ h => h)); have HF9 := As.mk ((HF8.out.setCell (p := ⟨wr.heap.size, 0, none⟩) (fun h => absurd h (Nat.lt_irrefl _)) (.slice D nd cd)).setCell (p := ⟨wr.heap.size, 1, none⟩) (fun h => absurd h (Nat.lt_irrefl _)) (.slice O 64 co')); have b1 := HF8.out.cell a1 (fun h => h); have b2 := HF8.out.cell a2 (fun h => h); clear hgx hf8) | (go_at_call 109; (with_reducible refine (HP0.out _ HF9.out).mono ?_); rintro e w9 ⟨rfl, hR9, hS9⟩; have HR9 := As.mk hR9; have HS9 := As.mk hS9; clear hR9 hS9))
              exact ⟨⟨i + 1, rfl, by omega, by omega, ⟨_, rfl, HKG⟩, ⟨by rw [HTK.out]; exact HR9.out⟩, ⟨HST.out.trans ((Ram.Step.none_ HWP.out HF9.out).trans HS9.out)⟩⟩, by simp [intOf]; omega⟩
          · have hdf : s.g.isData seg row m = false := by simpa using hd
            rw [hdf] at HPS HPM
            have HPM2 : As (pageOf s.g l seg row m = parPage s.g l seg row) := ⟨by rw [HPM.out]; rfl⟩
            clear hd hdf HPM
            have HPA1 := As.mk (fun (e : Int) (he : (if 0 < s.gone m then (71 : Int) else 0) = e) (w8 : World) (hf : Fr None_ wr w8) => Prog_any p s seg row m (fun m => (pageOf s.g l seg row m).1 ++ (pageOf s.g l seg row m).2) (ms.take i.toNat) U1 U2 n1 c1 c2 _ _ w8 e he (HX2.out.none_ hf) HMI.out ((HU1.out.step HST.out).none_ HWP.out hf) ((HU2.out.step HST.out).none_ HWP.out hf) (by show (pageOf s.g l seg row m).1 ++ (pageOf s.g l seg row m).2 = _; rw [HPM2.out]) HLP.out.1 HLP.out.2.1 HLP.out.2.2 HCT.out)
            by_cases hgo : 0 < s.gone m
            · have HP71 := As.mk (HPA1.out 71 (if_pos hgo))
              have HKG : As (k + 1 = goneIn s (ms.take (i + 1).toNat)) := ⟨by rw [HTK.out, goneIn_snoc, if_pos hgo, HK.out]⟩
              clear hgo
              go_wp2_with (first | (go_at_call 49; (with_reducible refine (HPS.out _).mono ?_); rintro e w8 ⟨rfl, hf8⟩; have hgx := hf8.heap (heap_alloc_new wr _) (fun h => h); have x0 := cell_is (i := 0) hgx rfl; have x1 := cell_is (i := 1) hgx rfl; have HF8 := As.mk (((Fr.refl None_ wr).alloc _).after hf8 (fun _ _ h => h)); clear hgx hf8) | (go_at_call 109; (with_reducible refine (HP71.out _ HF8.out).mono ?_); rintro e w9 ⟨rfl, hR9, hS9⟩; have HR9 := As.mk hR9; have HS9 := As.mk hS9; clear hR9 hS9))
              exact ⟨⟨i + 1, rfl, by omega, by omega, ⟨_, rfl, HKG⟩, ⟨by rw [HTK.out]; exact HR9.out⟩, ⟨HST.out.trans ((Ram.Step.none_ HWP.out HF8.out).trans HS9.out)⟩⟩, by simp [intOf]; omega⟩
            · have HP0 := As.mk (HPA1.out 0 (if_neg hgo))
              have HKG : As (k = goneIn s (ms.take (i + 1).toNat)) := ⟨by rw [HTK.out, goneIn_snoc, if_neg hgo, HK.out]⟩
              clear hgo
              go_wp2_with (first | (go_at_call 49; (with_reducible refine (HPS.out _).mono ?_); rintro e w8 ⟨rfl, hf8⟩; have hgx := hf8.heap (heap_alloc_new wr _) (fun h => h); have x0 := cell_is (i := 0) hgx rfl; have x1 := cell_is (i := 1) hgx rfl; have HF8 := As.mk (((Fr.refl None_ wr).alloc _).after hf8 (fun _ _ h => h)); clear hgx hf8) | (go_at_call 109; (with_reducible refine (HP0.out _ HF8.out).mono ?_); rintro e w9 ⟨rfl, hR9, hS9⟩; have HR9 := As.mk hR9; have HS9 := As.mk hS9; clear hR9 hS9))
              exact ⟨⟨i + 1, rfl, by omega, by omega, ⟨_, rfl, HKG⟩, ⟨by rw [HTK.out]; exact HR9.out⟩, ⟨HST.out.trans ((Ram.Step.none_ HWP.out HF8.out).trans HS9.out)⟩⟩, by simp [intOf]; omega⟩
        · have hte : ms.take i.toNat = ms := List.take_of_length_le (by have := HNO.out; omega)
          have HKE : As (k = goneIn s ms) := ⟨by rw [HK.out, hte]⟩
          have HXE : As (RamE wr p (s.progs seg row (fun m => (pageOf s.g l seg row m).1 ++ (pageOf s.g l seg row m).2) ms)) := ⟨by have h := HX2.out; rw [hte] at h; exact h⟩
          have HFS := As.mk ((Ram.Step.none_ hp HF7.out).trans HST.out)
          clear hte
          by_cases hk1 : 1 < k
          · have HEE : As (errOf (goneIn s (orderOf s.first s.g.c)) = 74) := ⟨by rw [HOR.out, ← HKE.out]; exact if_pos hk1⟩
            go_wp2
            go_ret
            exact ⟨by rw [HEE.out]; rfl, by rw [HOR.out]; exact HXE.out, HFS.out⟩
          · have HEE : As (errOf (goneIn s (orderOf s.first s.g.c)) = 0) := ⟨by rw [HOR.out, ← HKE.out]; exact if_neg hk1⟩
            go_wp2
            go_ret
            exact ⟨by rw [HEE.out]; rfl, by rw [HOR.out]; exact HXE.out, HFS.out⟩
end Go.Proofs.Ytlhgbamajabnfaa.Write

/- Cells of a block: read, written. No program in it. -/
import Derived.Test.YteofgpaceeibpaaGreatGab
namespace Go.Proofs.YteofgpaceeibpaaGreat.Heap
open Go.RowKit Go.Proofs.YteofgpaceeibpaaGreat.Gab
set_option linter.unusedVariables false
set_option linter.unusedSimpArgs false
theorem cell_is {w : World} {p i : Nat} {cs : Array Value} {T : TypeId} {fr : Nat × Nat} {v : Value} (h : w.heap[p]? = some (.cells cs T fr)) (hv : cs[i]? = some v) : w.cell? ⟨p, i, none⟩ = some v := by simp [World.cell?, h, hv]
theorem heap_set {w : World} {b : Nat} {cs : Array Value} {T : TypeId} {fr : Nat × Nat} (h : w.heap[b]? = some (.cells cs T fr)) (i : Nat) (v : Value) : (w.setCell ⟨b, i, none⟩ v).heap[b]? = some (.cells (cs.setIfInBounds i v) T fr) := by
  simp [World.setCell, Array.getElem?_modify, h]
theorem fr_set7 {S : Nat → Prop} {w w' : World} (h : Fr S w w') {b : Nat} (hb : b < w.heap.size → S b) (v0 v1 v2 v3 v4 v5 v6 : Value) : Fr S w (((((((w'.setCell ⟨b, 0, none⟩ v0).setCell ⟨b, 1, none⟩ v1).setCell ⟨b, 2, none⟩ v2).setCell ⟨b, 3, none⟩ v3).setCell ⟨b, 4, none⟩ v4).setCell ⟨b, 5, none⟩ v5).setCell ⟨b, 6, none⟩ v6) :=
  ((((((h.setCell (p := ⟨b, 0, none⟩) hb v0).setCell (p := ⟨b, 1, none⟩) hb v1).setCell (p := ⟨b, 2, none⟩) hb v2).setCell (p := ⟨b, 3, none⟩) hb v3).setCell (p := ⟨b, 4, none⟩) hb v4).setCell (p := ⟨b, 5, none⟩) hb v5).setCell (p := ⟨b, 6, none⟩) hb v6
theorem heap_set7 {w : World} {b : Nat} {T : TypeId} {fr : Nat × Nat} {a0 a1 a2 a3 a4 a5 a6 : Value} (h : w.heap[b]? = some (.cells #[a0, a1, a2, a3, a4, a5, a6] T fr)) (v0 v1 v2 v3 v4 v5 v6 : Value) :
    (((((((w.setCell ⟨b, 0, none⟩ v0).setCell ⟨b, 1, none⟩ v1).setCell ⟨b, 2, none⟩ v2).setCell ⟨b, 3, none⟩ v3).setCell ⟨b, 4, none⟩ v4).setCell ⟨b, 5, none⟩ v5).setCell ⟨b, 6, none⟩ v6).heap[b]? = some (.cells #[v0, v1, v2, v3, v4, v5, v6] T fr) := by
  have h0 := heap_set h 0 v0
  have h1 := heap_set h0 1 v1
  have h2 := heap_set h1 2 v2
  have h3 := heap_set h2 3 v3
  have h4 := heap_set h3 4 v4
  have h5 := heap_set h4 5 v5
  have h6 := heap_set h5 6 v6
  rw [h6]
  simp
theorem fr_set1 {w' : World} {b i : Nat} (v : Value) : Fr (fun j => j = b) w' (w'.setCell ⟨b, i, none⟩ v) := (Fr.refl (fun j => j = b) w').setCell (p := ⟨b, i, none⟩) (fun _ => rfl) v
theorem set4 {w w' : World} {b : Nat} {T : TypeId} {a0 a1 a2 a3 : Value} (hf : Fr None_ w w') (hb : w.heap.size ≤ b) (h : w'.heap[b]? = some (.cells #[a0, a1, a2, a3] T (0, 0))) (v0 v1 v2 v3 : Value) :
    Fr None_ w ((((w'.setCell ⟨b, 0, none⟩ v0).setCell ⟨b, 1, none⟩ v1).setCell ⟨b, 2, none⟩ v2).setCell ⟨b, 3, none⟩ v3) ∧ ((((w'.setCell ⟨b, 0, none⟩ v0).setCell ⟨b, 1, none⟩ v1).setCell ⟨b, 2, none⟩ v2).setCell ⟨b, 3, none⟩ v3).heap[b]? = some (.cells #[v0, v1, v2, v3] T (0, 0)) ∧
    Fr (fun i => i = b) w' ((((w'.setCell ⟨b, 0, none⟩ v0).setCell ⟨b, 1, none⟩ v1).setCell ⟨b, 2, none⟩ v2).setCell ⟨b, 3, none⟩ v3) := by
  have h0 := heap_set h 0 v0
  have h1 := heap_set h0 1 v1
  have h2 := heap_set h1 2 v2
  have h3 := heap_set h2 3 v3
  refine ⟨(((hf.setCell (p := ⟨b, 0, none⟩) (fun h => absurd h (Nat.not_lt.2 hb)) v0).setCell (p := ⟨b, 1, none⟩) (fun h => absurd h (Nat.not_lt.2 hb)) v1).setCell (p := ⟨b, 2, none⟩) (fun h => absurd h (Nat.not_lt.2 hb)) v2).setCell (p := ⟨b, 3, none⟩) (fun h => absurd h (Nat.not_lt.2 hb)) v3, ?_,
    ((((Fr.refl (fun i => i = b) w').setCell (p := ⟨b, 0, none⟩) (fun _ => rfl) v0).setCell (p := ⟨b, 1, none⟩) (fun _ => rfl) v1).setCell (p := ⟨b, 2, none⟩) (fun _ => rfl) v2).setCell (p := ⟨b, 3, none⟩) (fun _ => rfl) v3⟩
  rw [h3]
  simp
end Go.Proofs.YteofgpaceeibpaaGreat.Heap

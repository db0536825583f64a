/- An argument that is a slice of segments, opened: its length, that it fits memory, and each segment's three cells with their ranges. -/
import Derived.Test.YtmcooidoemcaoaaRows
import Derived.Test.YtmcooidoemcaoaaWWords
import Derived.Deep.Slices
import Derived.Deep.Fields
import Derived.ChangeSame
import Derived.SizedLaws
namespace Go.Proofs.Ytmcooidoemcaoaa.Segs
open Go.ChangeShapes Go.WideShapes Go.Deep Go.RowKit
section
variable {H : Type} {enc : TypeId × Value → H} {P : Program} {w : World} {base : Nat} {spare : Nat → Bool} {held : Bool}
theorem open_slice_fields {t e : TypeId} {fs : Array Field} {fuel : Nat} {cs : List Value} {x : DataW H × List MemPlace} (ht : P.underlying t = some (.slice e)) (he : P.underlying e = some (.struct fs))
    (hone : oneCellFields P fs = true) (hC : P.cellsOf e = fs.size) (h : DataW.trod enc P w base spare held fuel t cs = some x) :
    (cs = [.slice none 0 0] ∧ x = (.nil, [])) ∨
    ∃ (a : Addr) (len cap m : Nat) (D : Nat → DataW H) (Pl : Nat → List MemPlace), cs = [.slice (some a) len cap] ∧ base ≤ a.block ∧ len ≤ cap ∧ cap ≤ maxLen ∧ m = (if spare a.block then cap else len) ∧
      x = (.slice ((List.range len).map D) ((List.range (m - len)).map fun j => D (len + j)), MemPlace.row a (m * fs.size) ++ (List.range m).flatMap Pl) ∧
      ∀ i, i < m → ∃ (ys : List (DataW H × List MemPlace)) (n : Nat), D i = .agg (ys.map (·.1)) ∧ Pl i = ys.flatMap (·.2) ∧ ys.length = fs.size ∧
        ∀ (j : Nat) (f : Field), fs[j]? = some f → ∃ (v : Value) (y : DataW H × List MemPlace), w.cell? (a.add (i * fs.size + j)) = some v ∧ ys[j]? = some y ∧ DataW.trod enc P w base spare held n f.type [v] = some y := by
  rcases open_slice ht h with h0 | ⟨a, len, cap, m, n, D, Pl, hcs, hb, hl, hm, hmm, hx, hi⟩
  · exact .inl h0
  · refine .inr ⟨a, len, cap, m, D, Pl, hcs, hb, hl, hm, hmm, by rw [hC] at hx; exact hx, fun i him => ?_⟩
    obtain ⟨cs', hc, ht'⟩ := hi i him
    rw [hC] at hc
    obtain ⟨ys, n', hn', hy, hlen, hyl, hf⟩ := DataW.trod_struct he ht'
    obtain ⟨_, hcl, hat⟩ := World.cells?_some hc
    simp only [Prod.mk.injEq] at hy
    refine ⟨ys, n', hy.1, hy.2, hyl, fun j f hj => ?_⟩
    obtain ⟨ho, hk⟩ := hone_of hone j f hj
    have hjl : j < fs.size := (Array.getElem?_eq_some_iff.1 hj).1
    have hcell := hat j hjl
    have hv : cs'[j]? = some (cs'[j]'(by omega)) := List.getElem?_eq_getElem (by omega)
    have h1 := hf j f hj
    rw [ho, hk] at h1
    have hone' : (cs'.drop j).take 1 = [cs'[j]'(by omega)] := by
      rw [List.drop_eq_getElem_cons (by omega)]
      rfl
    rw [hone'] at h1
    have hys : ys[j]? = some (ys[j]'(by omega)) := List.getElem?_eq_getElem (by omega)
    refine ⟨_, _, ?_, hys, h1.trans hys⟩
    rw [← Go.Deep.add_add, hcell, hv]
end

/-- A list of segments (three numbers each) that a slice holds. -/
def SegRow (W : World) (a : Option Addr) (len cap : Nat) (zs : List (Int × Int × Int)) : Prop :=
  zs.length = len ∧ len ≤ cap ∧ len ≤ 9223372036854775807 ∧ len * 24 ≤ 140737488351232 ∧ (∀ z ∈ zs, 0 ≤ z.2.2 ∧ z.2.2 < 4294967296) ∧
  (0 < len → ∃ ad, a = some ad ∧ ∀ j z, zs[j]? = some z → W.cell? (ad.add (j * 3 + 0)) = some (.int .i64 z.1) ∧ W.cell? (ad.add (j * 3 + 1)) = some (.int .i64 z.2.1) ∧ W.cell? (ad.add (j * 3 + 2)) = some (.int .u32 z.2.2))
theorem open_segs {H : Type} {enc : TypeId × Value → H} {W : World} {base : Nat} {spare : Nat → Bool} {held : Bool} {ts : List TypeId} {ds : List (DataW H)} {j0 : Nat} {a : Option Addr} {len cap : Nat} {d : DataW H} {ps : List MemPlace}
    (hsz : (DataW.weightsEach Try.prog ts ds).all (· ≤ reachBytes) = true) (ht : ts[j0]? = some 22) (hd : ds[j0]? = some d)
    (h : DataW.Trod enc Try.prog W base spare held 22 (.slice a len cap) d ps) : ∃ zs, SegRow W a len cap zs := by
  obtain ⟨fuel, hf⟩ := h
  rcases open_slice_fields Try.underlying22 Try.underlying34 (by kernel_rfl) (by kernel_rfl) hf with ⟨hcs, _⟩ | ⟨x, l, c, m, D, Pl, hcs, _, hl, hm, hmm, hx, hi⟩
  · simp [Value.cells] at hcs
    obtain ⟨rfl, rfl, rfl⟩ := hcs
    exact ⟨[], rfl, Nat.le_refl _, by omega, by omega, fun z hz => by simp at hz, fun h => by omega⟩
  · simp [Value.cells] at hcs
    obtain ⟨rfl, rfl, rfl⟩ := hcs
    obtain ⟨hx, _⟩ := Prod.mk.inj hx
    subst hx
    have z := sized_slice hsz ht hd Try.underlying22
    have hB : Try.prog.bytesOf 34 = 24 := by kernel_rfl
    rw [hB] at z
    have hlm : len ≤ m := by rw [hmm]; split <;> omega
    have hlen : len * 24 ≤ 140737488351232 := by
      simp only [List.length_map, List.length_range] at z
      have z' : (len + (m - len)) * 24 ≤ 140737488351232 := z
      omega
    have hall : ∀ i, i < len → ∃ z : Int × Int × Int, (0 ≤ z.2.2 ∧ z.2.2 < 4294967296) ∧ W.cell? (x.add (i * 3 + 0)) = some (.int .i64 z.1) ∧ W.cell? (x.add (i * 3 + 1)) = some (.int .i64 z.2.1) ∧ W.cell? (x.add (i * 3 + 2)) = some (.int .u32 z.2.2) := by
      intro i hil
      obtain ⟨ys, n, _, _, _, hf⟩ := hi i (by omega)
      obtain ⟨v0, y0, c0, _, t0⟩ := hf 0 _ rfl
      obtain ⟨v1, y1, c1, _, t1⟩ := hf 1 _ rfl
      obtain ⟨v2, y2, c2, _, t2⟩ := hf 2 _ rfl
      obtain ⟨n0, e0, _, _⟩ := DataW.trod_int Try.underlying3 t0
      obtain ⟨n1, e1, _, _⟩ := DataW.trod_int Try.underlying3 t1
      obtain ⟨n2, e2, _, w2⟩ := DataW.trod_int Try.underlying32 t2
      obtain rfl : v0 = .int .i64 n0 := by simpa using e0
      obtain rfl : v1 = .int .i64 n1 := by simpa using e1
      obtain rfl : v2 = .int .u32 n2 := by simpa using e2
      refine ⟨(n0, n1, n2), ?_, c0, c1, c2⟩
      have w2' := w2
      simp [Lit.wf, IntKind.min, IntKind.max, IntKind.bits, IntKind.signed] at w2'
      show 0 ≤ n2 ∧ n2 < 4294967296
      exact ⟨by omega, by omega⟩
    refine ⟨(List.range len).map fun i => if h : i < len then (hall i h).choose else (0, 0, 0), by simp, hl, by unfold maxLen at hm; omega, hlen, ?_, fun _ => ⟨x, rfl, ?_⟩⟩
    · intro z hz
      obtain ⟨i, hi', rfl⟩ := List.mem_map.1 hz
      have hi' : i < len := by simpa using hi'
      rw [dif_pos hi']
      exact (hall i hi').choose_spec.1
    · intro j z hz
      have hj : j < len := by
        have := (List.getElem?_eq_some_iff.1 hz).1
        simpa using this
      rw [List.getElem?_map, List.getElem?_range hj] at hz
      simp only [Option.map_some, Option.some.injEq, dif_pos hj] at hz
      subst hz
      exact (hall j hj).choose_spec.2
end Go.Proofs.Ytmcooidoemcaoaa.Segs

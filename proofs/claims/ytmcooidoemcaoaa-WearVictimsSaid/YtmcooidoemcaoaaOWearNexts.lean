/- The document's segments of the program's: WearNexts's own copy. -/
import Derived.Test.YtmcooidoemcaoaaCWearNexts
namespace Go.Proofs.Ytmcooidoemcaoaa.PureWearNexts
open Go.RowKit Go.Proofs.Ytmcooidoemcaoaa.PWearNexts Go.Proofs.YtmcooidoemcaoaaW.PrintWords Go.Proofs.YtmcooidoemcaoaaW.PrintLast

def conv (x : S34) : S43 := ⟨x.f0, x.f1, x.f2⟩
theorem rd_conv (l : List S34) (i : Nat) : rd_T43 (l.map conv) (i : Int) = conv (at_ l i) := by
  unfold rd_T43 at_
  rw [List.getD_eq_getElem?_getD, List.getD_eq_getElem?_getD, List.getElem?_map]
  show ((l[i]?).map conv).getD z43 = _
  cases l[i]? <;> rfl
theorem of_loop (l : List S34) (hn : l.length < 5864062014805) (hw : ∀ x ∈ l, Wf x) (d : Nat) : ∀ (k i : Nat), i ≤ l.length → l.length - i = d → d < k →
    gabionlaw15_of.l0 k l ((l.take i).map conv) (i : Int) = some (l.map conv) := by
  induction d with
  | zero =>
    intro k i h0 h1 hk
    obtain ⟨k, rfl⟩ : ∃ m, k = m + 1 := ⟨k - 1, by omega⟩
    obtain rfl : i = l.length := by omega
    simp only [gabionlaw15_of.l0]; rw [if_neg (by omega), List.take_length]
  | succ d ih =>
    intro k i h0 h1 hk
    obtain ⟨k, rfl⟩ : ∃ m, k = m + 1 := ⟨k - 1, by omega⟩
    have hg := ih k (i + 1) (by omega) (by omega) (by omega)
    have hwi := wf_at hw i
    have he : wrap64 (at_ l i).f2 = (at_ l i).f2 := by unfold Wf at hwi; unfold wrap64; omega
    have hl : (l.take i).length ≤ i := List.length_take_le _ _
    simp only [gabionlaw15_of.l0]
    rw [if_pos (by omega), if_pos (by omega), if_pos (by rw [List.length_map]; omega), w64 (i := i) (by omega), rd_at, he]
    have ht : (l.take (i + 1)).map conv = (l.take i).map conv ++ [conv (at_ l i)] := by
      have hi : i < l.length := by omega
      rw [List.take_succ_eq_append_getElem hi, List.map_append]
      congr 2
      unfold at_
      rw [List.getD_eq_getElem?_getD, List.getElem?_eq_getElem hi]; rfl
    rw [ht] at hg
    exact hg
theorem of_is (l : List S34) (hn : l.length < 5864062014805) (hw : ∀ x ∈ l, Wf x) (k : Nat) (hk : l.length < k) : gabionlaw15_of.f k l = some (l.map conv) :=
  of_loop l hn hw l.length k 0 (by omega) (by omega) hk
/-- There is one first of the best. -/
theorem best_one {P : S34 → Prop} {R : S34 → S34 → Prop} {l : List S34} {n : Nat} {a b : Int} (h : BestInv P R l n a) (g : BestInv P R l n b) : a = b := by
  rcases h with ⟨rfl, h⟩ | ⟨m, rfl, hm, hP, h⟩ <;> rcases g with ⟨rfl, g⟩ | ⟨m', rfl, hm', hP', g⟩
  · rfl
  · exact absurd hP' (h m' hm')
  · exact absurd hP (g m hm)
  · rcases Nat.lt_trichotomy m m' with c | c | c
    · exact absurd ((g m hm hP).2 c) (h m' hm' hP').1
    · rw [c]
    · exact absurd ((h m' hm' hP').2 c) (g m hm hP).1

end Go.Proofs.Ytmcooidoemcaoaa.PureWearNexts

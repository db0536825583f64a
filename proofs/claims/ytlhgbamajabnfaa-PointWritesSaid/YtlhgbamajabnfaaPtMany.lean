/- Points that are written one behind the other (plain): which is the last. A slice of points. -/
import Derived.Test.YtlhgbamajabnfaaPtAgain
namespace Go.Proofs.Ytlhgbamajabnfaa.PtMany
open Go.RowKit Go.Proofs.Ytlhgbamajabnfaa.Ord Go.Proofs.Ytlhgbamajabnfaa.Write Go.Proofs.Ytlhgbamajabnfaa.Gab Go.Proofs.Ytlhgbamajabnfaa.Wr Go.Proofs.Ytlhgbamajabnfaa.Geom Go.Proofs.Ytlhgbamajabnfaa.Fields Go.Proofs.Ytlhgbamajabnfaa.Ref Go.Proofs.Ytlhgbamajabnfaa.Last Go.Proofs.Ytlhgbamajabnfaa.Stripe Go.Proofs.Ytlhgbamajabnfaa.Point1 Go.Proofs.Ytlhgbamajabnfaa.Point4 Go.Proofs.Ytlhgbamajabnfaa.Point7 Go.Proofs.Ytlhgbamajabnfaa.PtLaw Go.Proofs.Ytlhgbamajabnfaa.Kept Go.Proofs.Ytlhgbamajabnfaa.Written
open Go.Proofs.Ytlhgbamajabnfaa.Ram (RamE)
open Go.Proofs.Ytlhgbamajabnfaa.Str (add_next)
set_option linter.unusedVariables false
set_option linter.unusedSimpArgs false

/-! ### a slice of points -/
def noPt : Pt × List Int × List Int := (⟨0, 0, none, 0, 0, none, 0, 0⟩, [], [])
def Pts (w : World) (A : Option Addr) (n : Nat) (l : List (Pt × List Int × List Int)) : Prop :=
  l.length = n ∧ (∀ q ∈ l, PtAt w q.1 q.2.1 q.2.2) ∧ (0 < n → ∃ ad, A = some ad ∧ ∀ j, j < n → ∀ i, i < 4 → w.cell? (ad.add (j * 4 + i)) = some ((l.getD j noPt).1.cells.getD i undef))
theorem Pts.none_ {w w' : World} {A : Option Addr} {n : Nat} {l : List (Pt × List Int × List Int)} (h : Pts w A n l) (hf : Fr None_ w w') : Pts w' A n l := ⟨h.1, fun q hq => (h.2.1 q hq).none_ hf, fun hn => by
  obtain ⟨ad, e, hc⟩ := h.2.2 hn
  exact ⟨ad, e, fun j hj i hi => hf.cell (hc j hj i hi) (fun h => h)⟩⟩
theorem Pts.at_ {w : World} {A : Option Addr} {n : Nat} {l : List (Pt × List Int × List Int)} (h : Pts w A n l) (i : Nat) (h1 : i < n) :
    ∃ ad ax x m er, A = some ad ∧ ad.add (i * 4) = ax ∧ PtAt w x m er ∧ w.cell? ax = some (.int .u32 x.seq) ∧ w.cell? ⟨ax.block, ax.off + 1, none⟩ = some (.int .u32 x.batch) ∧ w.cell? ⟨ax.block, ax.off + 2, none⟩ = some (.slice x.MA x.mn x.mc) ∧ w.cell? ⟨ax.block, ax.off + 3, none⟩ = some (.slice x.EA x.en x.ec) := by
  obtain ⟨ad, e, hc⟩ := h.2.2 (by omega)
  have hl := h.1
  have hcl := hc i h1
  have hx : ∀ j, 0 < j → j < 4 → w.cell? ⟨(ad.add (i * 4)).block, (ad.add (i * 4)).off + j, none⟩ = some ((l.getD i noPt).1.cells.getD j undef) := fun j h0 hj => by rw [← add_next _ _ _ h0]; exact hcl j hj
  exact ⟨ad, _, (l.getD i noPt).1, (l.getD i noPt).2.1, (l.getD i noPt).2.2, e, rfl, h.2.1 _ (getD_mem (by omega) _), hcl 0 (by decide), hx 1 (by decide) (by decide), hx 2 (by decide) (by decide), hx 3 (by decide) (by decide)⟩

/-! ### which is the last -/
def zeroN : Num := ⟨0, 0, [], []⟩
structure Inv (o : Int → Option Num) (sm : Bool) (last : Num) : Prop where
  no : sm = false → (∀ i, o i = none) ∧ last = zeroN
  yes : sm = true → o (last.seq % 2) = some last ∧ ∀ z, o (1 - last.seq % 2) = some z → z.seq < last.seq
  ok : ∀ i z, o i = some z → z.Ok
  lok : last.Ok
theorem zero_ok : zeroN.Ok := ⟨by decide, by decide, in32 rfl, in32 rfl, by decide, by decide⟩
theorem Inv.init : Inv (fun _ => none) false zeroN := ⟨fun _ => ⟨fun _ => rfl, rfl⟩, fun h => Bool.noConfusion h, fun i z h => (by cases h), zero_ok⟩
theorem Inv.put {o : Int → Option Num} {sm : Bool} {last : Num} (h : Inv o sm last) {x : Num} (hx : x.Ok) {k : Int} (hk : 0 ≤ k) (hs : x.seq = last.seq + 1 + 2 * k) : Inv (putO o x) true x := by
  have h0 := h.lok.seq
  refine ⟨fun h => Bool.noConfusion h, fun _ => ⟨by unfold putO; rw [if_pos rfl], fun z hz => ?_⟩, fun i z hz => ?_, hx⟩
  · unfold putO at hz
    rw [if_neg (by omega)] at hz
    rcases hsm : sm with _ | _
    · rw [(h.no hsm).1] at hz
      cases hz
    · have h1 := (h.yes hsm).1
      rw [show 1 - x.seq % 2 = last.seq % 2 by omega, h1] at hz
      injection hz with hz
      subst hz
      omega
  · unfold putO at hz
    split at hz
    · injection hz with hz
      subst hz
      exact hx
    · exact h.ok i z hz
/-- What is read of all that was written. -/
def found (sm : Bool) (last : Num) : Res := ⟨sm, last.seq, last.seq, last.batch, last.m, last.er⟩
theorem Inv.read {o : Int → Option Num} {sm : Bool} {last : Num} (h : Inv o sm last) : resO (o (last.seq % 2)) = found sm last := by
  rcases hsm : sm with _ | _
  · rw [(h.no hsm).1, (h.no hsm).2]
    rfl
  · rw [(h.yes hsm).1]
    rfl
theorem Inv.last {o : Int → Option Num} {sm : Bool} {last : Num} (h : Inv o sm last) : lastOf o = found sm last := by
  unfold lastOf
  show (Res.step (Res.step Res.none (resO (o ((0 : Nat) : Int)))) (resO (o ((1 : Nat) : Int)))) = _
  rcases hsm : sm with _ | _
  · rw [(h.no hsm).1, (h.no hsm).1, (h.no hsm).2]
    rfl
  · have h1 := (h.yes hsm).1
    have h2 := (h.yes hsm).2
    have h0 := h.lok.seq
    rcases (show last.seq % 2 = 0 ∨ last.seq % 2 = 1 by omega) with e | e
    · rw [e] at h1 h2
      rw [show (((0 : Nat) : Int)) = 0 from rfl, show (((1 : Nat) : Int)) = 1 - 0 from rfl, h1, step_yes (P := Res.none) (q := resO (some last)) rfl]
      have hq : resO (o (1 - 0)) = Res.none ∨ ∃ z, o (1 - 0) = some z ∧ resO (o (1 - 0)) = z.res := by
        rcases ho : o (1 - 0) with _ | z
        · exact .inl rfl
        · exact .inr ⟨z, rfl, rfl⟩
      rcases hq with hq | ⟨z, hz, hq⟩
      · rw [hq, step_no (by rfl)]
        show Res.mk true (if (if (0 : Int) < last.seq then last.seq else 0) < 0 then 0 else (if (0 : Int) < last.seq then last.seq else 0)) last.seq last.batch last.m last.er = _
        have : (if (if (0 : Int) < last.seq then last.seq else 0) < 0 then 0 else (if (0 : Int) < last.seq then last.seq else 0)) = last.seq := by (repeat' split) <;> omega
        rw [this]
        rfl
      · have h3 := h2 z hz
        have h4 := (h.ok _ z hz).seq
        rw [hq, step_no (by show (true && (!true || decide (last.seq < z.seq))) = false; rw [decide_eq_false (by omega)]; rfl)]
        show Res.mk true (if (if (0 : Int) < last.seq then last.seq else 0) < z.seq then z.seq else (if (0 : Int) < last.seq then last.seq else 0)) last.seq last.batch last.m last.er = _
        have : (if (if (0 : Int) < last.seq then last.seq else 0) < z.seq then z.seq else (if (0 : Int) < last.seq then last.seq else 0)) = last.seq := by (repeat' split) <;> omega
        rw [this]
        rfl
    · rw [e] at h1 h2
      rw [show (((1 : Nat) : Int)) = 1 from rfl, show (((0 : Nat) : Int)) = 1 - 1 from rfl, h1]
      have hq : resO (o (1 - 1)) = Res.none ∨ ∃ z, o (1 - 1) = some z ∧ resO (o (1 - 1)) = z.res := by
        rcases ho : o (1 - 1) with _ | z
        · exact .inl rfl
        · exact .inr ⟨z, rfl, rfl⟩
      rcases hq with hq | ⟨z, hz, hq⟩
      · rw [hq, step_no (P := Res.none) (q := Res.none) rfl, step_yes (q := resO (some last)) (by rfl)]
        show Res.mk true (if (if (0 : Int) < 0 then (0 : Int) else 0) < last.seq then last.seq else (if (0 : Int) < 0 then (0 : Int) else 0)) last.seq last.batch last.m last.er = _
        have : (if (if (0 : Int) < 0 then (0 : Int) else 0) < last.seq then last.seq else (if (0 : Int) < 0 then (0 : Int) else 0)) = last.seq := by split <;> omega
        rw [this]
        rfl
      · have h3 := h2 z hz
        have h4 := (h.ok _ z hz).seq
        rw [hq, step_yes (P := Res.none) (q := z.res) rfl, step_yes (q := resO (some last)) (by show (true && (!true || decide (z.seq < last.seq))) = true; rw [decide_eq_true h3]; rfl)]
        show Res.mk true (if (if (0 : Int) < z.seq then z.seq else 0) < last.seq then last.seq else (if (0 : Int) < z.seq then z.seq else 0)) last.seq last.batch last.m last.er = _
        have : (if (if (0 : Int) < z.seq then z.seq else 0) < last.seq then last.seq else (if (0 : Int) < z.seq then z.seq else 0)) = last.seq := by (repeat' split) <;> omega
        rw [this]
        rfl
theorem both_kill {s : Ram.St} {g : Geo} {S W k : Nat} {o : Int → Option Num} (h : Both s g S W (-1) o k) (d : Int) : Both (s.kill d) g S W d o (k + 1) :=
  ⟨h.geo, by have := h.cnt; show s.cnt + 1 ≤ _; omega, h.zero.kill d, h.one.kill d⟩
theorem both_more {s : Ram.St} {g : Geo} {S W k : Nat} {d : Int} {o : Int → Option Num} (h : Both s g S W d o k) : Both s g S W d o (k + 1) := ⟨h.geo, by have := h.cnt; omega, h.zero, h.one⟩
end Go.Proofs.Ytlhgbamajabnfaa.PtMany

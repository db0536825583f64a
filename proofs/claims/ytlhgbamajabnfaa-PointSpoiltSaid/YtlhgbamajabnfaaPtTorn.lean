/- Two points, the greater one torn (plain). -/
import Derived.Test.YtlhgbamajabnfaaPtAgain
import Derived.Test.YtlhgbamajabnfaaOpens
namespace Go.Proofs.Ytlhgbamajabnfaa.PtTorn
open Go.RowKit Go.Proofs.Ytlhgbamajabnfaa.Ord Go.Proofs.Ytlhgbamajabnfaa.Write Go.Proofs.Ytlhgbamajabnfaa.Gab Go.Proofs.Ytlhgbamajabnfaa.Wr Go.Proofs.Ytlhgbamajabnfaa.Geom Go.Proofs.Ytlhgbamajabnfaa.Fields Go.Proofs.Ytlhgbamajabnfaa.Ref Go.Proofs.Ytlhgbamajabnfaa.Last Go.Proofs.Ytlhgbamajabnfaa.Stripe Go.Proofs.Ytlhgbamajabnfaa.Point1 Go.Proofs.Ytlhgbamajabnfaa.Point4 Go.Proofs.Ytlhgbamajabnfaa.Point7 Go.Proofs.Ytlhgbamajabnfaa.PtLaw Go.Proofs.Ytlhgbamajabnfaa.Kept
open Go.Proofs.Ytlhgbamajabnfaa.Ram (RamE)
open Go.Proofs.Ytlhgbamajabnfaa.Open (openOf)
open Go.Proofs.Ytlhgbamajabnfaa.Again (pD pO)
set_option linter.unusedVariables false
set_option linter.unusedSimpArgs false

theorem last_of {mo : Int} (h0 : 0 ≤ mo) {x : Num} (hx : 0 ≤ x.seq) (R : Nat → Res) (hR0 : R 0 = x.res) (hR1 : R 1 = ⟨false, mo, 0, 0, [], []⟩) : ∃ m', x.seq ≤ m' ∧ lastTo R 2 = ⟨true, m', x.seq, x.batch, x.m, x.er⟩ := by
  refine ⟨if (if (0 : Int) < x.seq then x.seq else 0) < mo then mo else (if (0 : Int) < x.seq then x.seq else 0), ?_, ?_⟩
  · split <;> split at * <;> omega
  · show (Res.step (Res.step Res.none (R 0)) (R 1)) = _
    rw [hR0, hR1, step_yes (P := Res.none) (q := x.res) rfl, step_no (by rfl)]
    rfl
/-- A page that is another one leaves what stands elsewhere. -/
theorem lay_stands {s : Ram.St} {l : List (Head × List Int)} {seg row d : Int} (h : Stands s l seg row d) {m seg' row' : Int} (xs : List Int) (hne : ¬ (seg = seg' ∧ row = row')) : Stands (s.lay m seg' row' xs) l seg row d :=
  ⟨h.ok, h.at_, h.lok, h.gone, fun m' m0 m1 hm => by
    show (if m' = m ∧ seg = seg' ∧ row = row' then xs else s.pages m' seg row) = _
    rw [if_neg (fun h => hne h.2)]
    exact h.pages m' m0 m1 hm⟩
theorem lay_page {s : Ram.St} {m seg' row' : Int} (xs : List Int) {n seg row : Int} (hne : ¬ (seg = seg' ∧ row = row')) : (s.lay m seg' row' xs).pages n seg row = s.pages n seg row := by
  show (if n = m ∧ seg = seg' ∧ row = row' then xs else s.pages n seg row) = _
  rw [if_neg (fun h => hne h.2)]
theorem o_two {x y : Num} (hx : x.seq = 4) (hy : y.seq = 5) : putO (putO (fun _ => none) x) y 0 = some x ∧ putO (putO (fun _ => none) x) y 1 = some y := by
  unfold putO
  rw [hx, hy]
  exact ⟨rfl, rfl⟩
theorem torn_last (p : Nat) (s : Ram.St) (g : Geo) (Wd : Nat) (w : World) (x y : Num) (m : Int) (r0 : Nat) (xs : List Int) (hB : Both s g 256 Wd (-1) (putO (putO (fun _ => none) x) y) 2) (hok : g.Ok) (hS : g.s = 256) (hWd : (Wd : Int) = g.c - 1)
    (hxs : x.seq = 4) (hys : y.seq = 5) (hg : ∀ m, ¬ 0 < s.gone m) (hm : 0 ≤ m ∧ m < g.c) (hr0 : r0 < rowsOf Wd (y.n 256)) (hl : (xs.length : Int) = 320) (ho : (openOf (xs.take 256) (xs.drop 256)).2 = false) (hR : RamE w p (s.lay m 3 r0 xs)) :
    ∃ mo, 4 ≤ mo ∧ Calls Try.prog 40 #[dev p] w (ReadIs ⟨true, mo, x.seq, x.batch, x.m, x.er⟩ w) := by
  have hgeo := hB.geo
  have h0 := hB.zero
  have h1 := hB.one
  rw [(o_two hxs hys).1] at h0
  rw [(o_two hxs hys).2] at h1
  have hd : SRow3.Dead (s.lay m 3 r0 xs) (-1) := dead_none hg (by show 3 ≤ s.g.c; rw [hgeo]; exact hok.c.1)
  have hSx : (s.lay m 3 r0 xs).g.s = 256 := by show s.g.s = 256; rw [hgeo]; exact hS
  have hWx : (Wd : Int) = (s.lay m 3 r0 xs).g.c - 1 := by show (Wd : Int) = s.g.c - 1; rw [hgeo]; exact hWd
  have hh : Holds (s.lay m 3 r0 xs) 256 Wd 2 x (-1) :=
    ⟨fun r hr => lay_stands (h0.1.rows r hr) xs (fun h => by have := h.1; omega), fun r hr hr1 n n0 n1 hn => by rw [lay_page xs (fun h => by have := h.1; omega)]; exact h0.1.rest r hr hr1 n n0 n1 hn, h0.1.fits⟩
  have hbad := Reads.Bad.lay (h1.1.rows r0 hr0) m xs (by rw [hgeo, hS]; omega) (by rw [hgeo, hS]; exact ho)
  have hst : Stands (s.lay m 3 r0 xs) (y.row 256 Wd r0) 3 r0 m := by
    have h := h1.1.rows r0 hr0
    refine ⟨h.ok, h.at_, h.lok, fun m' m0 m1 hm' => h.gone m' m0 m1 (by omega), fun m' m0 m1 hm' => ?_⟩
    show (if m' = m ∧ (3 : Int) = 3 ∧ (r0 : Int) = r0 then xs else s.pages m' 3 r0) = _
    rw [if_neg (fun h => hm' h.1)]
    exact h.pages m' m0 m1 (by omega)
  have hop : (openOf (pD (s.lay m 3 r0 xs) 3 r0 m) (pO (s.lay m 3 r0 xs) 3 r0 m)).2 = false := by
    have hpg : (s.lay m 3 r0 xs).pages m 3 r0 = xs.take 256 ++ xs.drop 256 := by
      show (if m = m ∧ (3 : Int) = 3 ∧ (r0 : Int) = r0 then xs else s.pages m 3 r0) = _
      rw [if_pos ⟨rfl, rfl, rfl⟩, List.take_append_drop]
    obtain ⟨e1, e2⟩ := parts_of (s := s.lay m 3 r0 xs) (m := m) (seg := 3) (row := r0) hpg (by rw [hSx, List.length_take]; omega) (by rw [List.length_drop]; omega)
    rw [e1, e2]
    exact ho
  obtain ⟨mo, m0, m1, hT⟩ := Read_torn p (s.lay m 3 r0 xs) 1 256 Wd w y m r0 hR hSx hWx (.inr rfl) hd h1.2 (by show 0 ≤ m ∧ m < s.g.c; rw [hgeo]; exact hm) hr0 h1.1.fits
    (fun r hr hne => lay_stands (h1.1.rows r hr) xs (fun h => hne (by have := h.2; omega))) hst hop (fun r hr hr1 n n0 n1 => by rw [lay_page xs (fun h => by have := h.2; omega)]; exact h1.1.rest r hr hr1 n n0 n1 (by omega))
  obtain ⟨mo', h4, he⟩ := last_of m0 (x := x) (by omega) (fun j => if j = 0 then x.res else ⟨false, mo, 0, 0, [], []⟩) rfl rfl
  refine ⟨mo', by omega, ?_⟩
  rw [← he]
  refine Last_calls p _ w (fun j hj w' hf => ?_) (fun j => ?_)
  · rcases (show j = 0 ∨ j = 1 by omega) with rfl | rfl
    · exact Read_holds p (s.lay m 3 r0 xs) 0 256 Wd w' x (-1) (hR.none_ hf) hSx hWx (.inl rfl) hd h0.2 hh
    · exact hT w' hf
  · by_cases e : j = 0
    · rw [if_pos e]
      exact ⟨h0.2.seq⟩
    · rw [if_neg e]
      exact ⟨⟨m0, m1⟩⟩
end Go.Proofs.Ytlhgbamajabnfaa.PtTorn

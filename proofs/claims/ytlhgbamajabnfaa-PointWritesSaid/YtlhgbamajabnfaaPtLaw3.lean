import Derived.Test.YtlhgbamajabnfaaLast
import Derived.Test.YtlhgbamajabnfaaPoint8
/- What Read finds of a point that was written (plain). -/
namespace Go.Proofs.Ytlhgbamajabnfaa.PtLaw
open Go.RowKit Go.Proofs.Ytlhgbamajabnfaa.Gab Go.Proofs.Ytlhgbamajabnfaa.Wr Go.Proofs.Ytlhgbamajabnfaa.Geom Go.Proofs.Ytlhgbamajabnfaa.Ref Go.Proofs.Ytlhgbamajabnfaa.Fields Go.Proofs.Ytlhgbamajabnfaa.Ord Go.Proofs.Ytlhgbamajabnfaa.Write Go.Proofs.Ytlhgbamajabnfaa.Stripe Go.Proofs.Ytlhgbamajabnfaa.PRead1 Go.Proofs.Ytlhgbamajabnfaa.PRead2 Go.Proofs.Ytlhgbamajabnfaa.Last Go.Proofs.Ytlhgbamajabnfaa.Point1 Go.Proofs.Ytlhgbamajabnfaa.Point4 Go.Proofs.Ytlhgbamajabnfaa.Point6 Go.Proofs.Ytlhgbamajabnfaa.Point7 Go.Proofs.Ytlhgbamajabnfaa.SRow3
open Go.Proofs.Ytlhgbamajabnfaa.Ram (RamE)
open Go.Proofs.Ytlhgbamajabnfaa.Dec3 (nb nbs nb_range nbs_len nbs_get)
open Go.Proofs.Ytlhgbamajabnfaa.Dec5 (IsPt)
set_option linter.unusedVariables false
set_option linter.unusedSimpArgs false

/-! ### a point's bytes, behind them zeros -/
theorem les_get : ∀ (ns zs : List Int) (j : Nat), j < ns.length → ((les 4 ns ++ zs).drop (4 * j)).take 4 = le (ns.getD j 0) 4
  | [], _, _, h => absurd h (Nat.not_lt_zero _)
  | v :: ns, zs, 0, _ => by
    have e : les 4 (v :: ns) = le v 4 ++ les 4 ns := by simp [les]
    rw [e, Nat.mul_zero, List.drop_zero, List.append_assoc]
    exact List.take_left' (le_length 4 v)
  | v :: ns, zs, j + 1, h => by
    have e : les 4 (v :: ns) = le v 4 ++ les 4 ns := by simp [les]
    have h1 : (le v 4 ++ (les 4 ns ++ zs)).drop 4 = les 4 ns ++ zs := List.drop_left' (le_length 4 v)
    rw [e, List.append_assoc, show 4 * (j + 1) = 4 + 4 * j by omega, ← List.drop_drop, h1]
    exact les_get ns zs j (by simpa using h)
theorem nb_num {ns zs : List Int} (hz : InR 256 zs) {j : Nat} (hj : j < ns.length) (h0 : 0 ≤ ns.getD j 0) (h1 : ns.getD j 0 < 4294967296) : nb (les 4 ns ++ zs) (4 * j) = ns.getD j 0 := by
  have hr : InR 256 (les 4 ns ++ zs) := fun x hx => by
    rcases List.mem_append.1 hx with hx | hx
    · exact Point4.les_range 4 ns x hx
    · exact hz x hx
  refine (OpenLaw.numAt_iff hr (4 * j) 4 (by decide) ?_ _ h0 h1).2 (les_get ns zs j hj)
  rw [List.length_append, les_length]
  omega
theorem encB_is (seq batch : Int) (m er : List Int) : encB seq batch m er = les 4 ([seq, batch, (m.length : Int), (er.length : Int)] ++ m ++ er) := by unfold encB les; simp
theorem encB_pt {seq batch : Int} {m er : List Int} (z : Nat) (hs : 0 ≤ seq ∧ seq < 4294967296) (hb : 0 ≤ batch ∧ batch < 4294967296) (hm : InR 4294967296 m) (he : InR 4294967296 er) (hml : m.length ≤ 100000) (hel : er.length ≤ 100000) :
    IsPt (encB seq batch m er ++ List.replicate z 0) ∧ nb (encB seq batch m er ++ List.replicate z 0) 0 = seq ∧ nb (encB seq batch m er ++ List.replicate z 0) 4 = batch ∧
    nbs (encB seq batch m er ++ List.replicate z 0) 16 (nb (encB seq batch m er ++ List.replicate z 0) 8).toNat = m ∧ nbs (encB seq batch m er ++ List.replicate z 0) (16 + 4 * (nb (encB seq batch m er ++ List.replicate z 0) 8).toNat) (nb (encB seq batch m er ++ List.replicate z 0) 12).toNat = er := by
  have hz : InR 256 (List.replicate z (0 : Int)) := fun x hx => by
    obtain ⟨_, rfl⟩ := List.mem_replicate.1 hx
    decide
  have hl := encB_len seq batch m er
  have hnl : ([seq, batch, (m.length : Int), (er.length : Int)] ++ m ++ er).length = 4 + m.length + er.length := by simp; omega
  have hns : ∀ j, 0 ≤ ([seq, batch, (m.length : Int), (er.length : Int)] ++ m ++ er).getD j 0 ∧ ([seq, batch, (m.length : Int), (er.length : Int)] ++ m ++ er).getD j 0 < 4294967296 := fun j => by
    by_cases hj : j < ([seq, batch, (m.length : Int), (er.length : Int)] ++ m ++ er).length
    · have := getD_mem hj (0 : Int)
      generalize ([seq, batch, (m.length : Int), (er.length : Int)] ++ m ++ er).getD j 0 = y at *
      simp only [List.mem_append, List.mem_cons, List.mem_nil_iff, or_false] at this
      rcases this with ((rfl | rfl | rfl | rfl) | h) | h
      · exact hs
      · exact hb
      · omega
      · omega
      · exact hm y h
      · exact he y h
    · rw [List.getD_eq_getElem?_getD, List.getElem?_eq_none (by omega)]
      decide
  have hnum : ∀ j, j < 4 + m.length + er.length → nb (encB seq batch m er ++ List.replicate z 0) (4 * j) = ([seq, batch, (m.length : Int), (er.length : Int)] ++ m ++ er).getD j 0 := fun j hj => by
    rw [encB_is]
    exact nb_num hz (by omega) (hns j).1 (hns j).2
  have n0 := hnum 0 (by omega)
  have n1 := hnum 1 (by omega)
  have n2 := hnum 2 (by omega)
  have n3 := hnum 3 (by omega)
  have hgm : ∀ j, j < m.length → ([seq, batch, (m.length : Int), (er.length : Int)] ++ m ++ er).getD (4 + j) 0 = m.getD j 0 := fun j hj => by
    rw [List.getD_eq_getElem?_getD, List.getD_eq_getElem?_getD, List.getElem?_append_left (by simp; omega), List.getElem?_append_right (by simp)]
    simp
  have hge : ∀ j, j < er.length → ([seq, batch, (m.length : Int), (er.length : Int)] ++ m ++ er).getD (4 + m.length + j) 0 = er.getD j 0 := fun j hj => by
    rw [List.getD_eq_getElem?_getD, List.getD_eq_getElem?_getD, List.getElem?_append_right (by simp; omega)]
    congr 2
    simp
    omega
  change nb _ 0 = seq at n0
  change nb _ 4 = batch at n1
  change nb _ 8 = (m.length : Int) at n2
  change nb _ 12 = (er.length : Int) at n3
  have hlen : (encB seq batch m er ++ List.replicate z 0).length = 16 + 4 * m.length + 4 * er.length + z := by rw [List.length_append, hl, List.length_replicate]
  refine ⟨⟨⟨by omega, by rw [n2, hlen]; omega, by rw [n2, n3, hlen]; omega⟩, ?_⟩, n0, n1, ?_, ?_⟩
  · rw [n2, n3, Int.toNat_natCast, Int.toNat_natCast, ← hl, List.drop_left' rfl]
    simp
  · rw [n2, Int.toNat_natCast]
    refine List.ext_getElem (nbs_len _ _ _) (fun j h1 h2 => ?_)
    have h3 := nbs_get (encB seq batch m er ++ List.replicate z 0) 16 m.length j h2
    rw [show 16 + 4 * j = 4 * (4 + j) by omega, hnum (4 + j) (by omega), hgm j h2] at h3
    simpa [List.getD_eq_getElem?_getD, h1, h2] using h3
  · rw [n2, n3, Int.toNat_natCast, Int.toNat_natCast]
    refine List.ext_getElem (nbs_len _ _ _) (fun j h1 h2 => ?_)
    have h3 := nbs_get (encB seq batch m er ++ List.replicate z 0) (16 + 4 * m.length) er.length j h2
    rw [show 16 + 4 * m.length + 4 * j = 4 * (4 + m.length + j) by omega, hnum (4 + m.length + j) (by omega), hge j h2] at h3
    simpa [List.getD_eq_getElem?_getD, h1, h2] using h3

/-! ### the rows of a point -/
/-- Behind t pages. -/
def ptSt (S N : Nat) (seq : Int) (B : List Int) (t : Nat) : RSt := ⟨if t = 0 then 1 else N, true, if t = 0 then 0 else seq, (padTo B (N * S)).take (min t N * S)⟩
theorem pt_step {S N : Nat} {seq : Int} {B : List Int} (hN : 1 ≤ N) (hq : 0 ≤ seq) (t : Nat) : stepPage (t : Int) (ptPage S N seq B t) (ptSt S N seq B t) = ptSt S N seq B (t + 1) := by
  by_cases ht : t < N
  · have hp : ptPage S N seq B t = (⟨3, seq, 0, t, N, 0, 0⟩, ((padTo B (N * S)).drop (t * S)).take S) := by unfold ptPage; rw [if_pos ht]
    have hn : nOf (t : Int) (ptPage S N seq B t) (ptSt S N seq B t) = N := by
      unfold nOf
      rw [hp]
      by_cases h0 : t = 0
      · rw [if_pos (by omega)]
      · rw [if_neg (by omega)]
        show (if t = 0 then (1 : Int) else N) = N
        rw [if_neg h0]
    unfold stepPage
    rw [hn, if_neg (by omega), hp]
    have hb : (padTo B (N * S)).take (min t N * S) ++ ((padTo B (N * S)).drop (t * S)).take S = (padTo B (N * S)).take (min (t + 1) N * S) := by
      rw [Nat.min_eq_left (by omega), Nat.min_eq_left (by omega), Nat.add_mul, Nat.one_mul, List.take_add]
    show RSt.mk (N : Int) (true && goodHead _ _ _) (max (if t = 0 then 0 else seq) seq) _ = RSt.mk (if t + 1 = 0 then 1 else (N : Int)) true (if t + 1 = 0 then 0 else seq) _
    simp only [if_neg (show ¬ t + 1 = 0 by omega)]
    congr 1
    · unfold goodHead
      simp
    · split <;> omega
  · have hp : ptPage S N seq B t = (fillHead seq 0, List.replicate S 0) := by unfold ptPage; rw [if_neg ht]
    have hn : nOf (t : Int) (ptPage S N seq B t) (ptSt S N seq B t) = N := by
      unfold nOf
      rw [if_neg (by omega)]
      show (if t = 0 then (1 : Int) else N) = N
      rw [if_neg (by omega)]
    unfold stepPage
    rw [hn, if_pos (by omega), hp]
    show RSt.mk (N : Int) true (max (if t = 0 then 0 else seq) seq) ((padTo B (N * S)).take (min t N * S)) = RSt.mk (if t + 1 = 0 then 1 else (N : Int)) true (if t + 1 = 0 then 0 else seq) ((padTo B (N * S)).take (min (t + 1) N * S))
    rw [if_neg (by omega), if_neg (by omega), if_neg (by omega), Nat.min_eq_right (by omega), Nat.min_eq_right (by omega), Int.max_self]
theorem pt_pages {S N : Nat} {seq : Int} {B : List Int} (hN : 1 ≤ N) (hq : 0 ≤ seq) (W k : Nat) : ∀ j, j ≤ W → pagesTo W k (ptRow S N seq B W k) j (ptSt S N seq B (k * W)) = ptSt S N seq B (k * W + j)
  | 0, _ => rfl
  | j + 1, hj => by
    show stepPage ((k * W + j : Nat) : Int) _ _ = _
    rw [pt_pages hN hq W k j (by omega), ptRow_get (by omega)]
    exact pt_step hN hq _
theorem pt_rows {S N : Nat} {seq : Int} {B : List Int} (hN : 1 ≤ N) (hq : 0 ≤ seq) (W : Nat) : ∀ R, rowsSt W (ptRow S N seq B W) (List.range R) = ptSt S N seq B (R * W)
  | 0 => by
    rw [Nat.zero_mul]
    show RSt.init = ptSt S N seq B 0
    unfold ptSt RSt.init
    simp
  | R + 1 => by
    rw [List.range_succ, rowsSt_snoc, pt_rows hN hq W R]
    unfold rowStep
    rw [ptRow_len, pt_pages hN hq W R W (Nat.le_refl _), Nat.add_mul, Nat.one_mul]
end Go.Proofs.Ytlhgbamajabnfaa.PtLaw

/- What Read finds: of a segment that holds a point; that holds nothing; of which one page is spoilt. -/
namespace Go.Proofs.Ytlhgbamajabnfaa.PtLaw
open Go.RowKit Go.Proofs.Ytlhgbamajabnfaa.Gab Go.Proofs.Ytlhgbamajabnfaa.Wr Go.Proofs.Ytlhgbamajabnfaa.Geom Go.Proofs.Ytlhgbamajabnfaa.Ref Go.Proofs.Ytlhgbamajabnfaa.Fields Go.Proofs.Ytlhgbamajabnfaa.Ord Go.Proofs.Ytlhgbamajabnfaa.Write Go.Proofs.Ytlhgbamajabnfaa.Stripe Go.Proofs.Ytlhgbamajabnfaa.PRead1 Go.Proofs.Ytlhgbamajabnfaa.PRead2 Go.Proofs.Ytlhgbamajabnfaa.Last Go.Proofs.Ytlhgbamajabnfaa.Point1 Go.Proofs.Ytlhgbamajabnfaa.Point4 Go.Proofs.Ytlhgbamajabnfaa.Point6 Go.Proofs.Ytlhgbamajabnfaa.Point7 Go.Proofs.Ytlhgbamajabnfaa.SRow3 Go.Proofs.Ytlhgbamajabnfaa.SRead
open Go.Proofs.Ytlhgbamajabnfaa.Ram (RamE)
open Go.Proofs.Ytlhgbamajabnfaa.Open (openOf)
open Go.Proofs.Ytlhgbamajabnfaa.Again (pD pO)
open Go.Proofs.Ytlhgbamajabnfaa.Dec3 (nb nbs nb_range nbs_len nbs_get)
open Go.Proofs.Ytlhgbamajabnfaa.Dec5 (IsPt)
set_option linter.unusedVariables false
set_option linter.unusedSimpArgs false

def rowsOf (W N : Nat) : Nat := (N + W - 1) / W
theorem rows_ge {W N : Nat} (h : 0 < W) : N ≤ rowsOf W N * W := by
  unfold rowsOf
  have h1 := Nat.div_add_mod (N + W - 1) W
  have h2 := Nat.mod_lt (N + W - 1) h
  rw [Nat.mul_comm]
  omega
theorem rows_lt {W N r : Nat} (h : 0 < W) (hr : r < rowsOf W N) : r * W < N := by
  unfold rowsOf at hr
  have h1 := Nat.div_add_mod (N + W - 1) W
  have h3 : (r + 1) * W ≤ (N + W - 1) / W * W := Nat.mul_le_mul_right _ hr
  rw [Nat.add_mul, Nat.one_mul, Nat.mul_comm ((N + W - 1) / W)] at h3
  omega
/-- A point, as its numbers. -/
structure Num where
  seq : Int
  batch : Int
  m : List Int
  er : List Int
structure Num.Ok (x : Num) : Prop where
  seq : 0 ≤ x.seq ∧ x.seq < 4294967296
  batch : 0 ≤ x.batch ∧ x.batch < 4294967296
  m : InR 4294967296 x.m
  er : InR 4294967296 x.er
  ml : x.m.length ≤ 100000
  el : x.er.length ≤ 100000
def Num.b (x : Num) : List Int := encB x.seq x.batch x.m x.er
def Num.n (x : Num) (S : Nat) : Nat := pagesOf S x.b.length
def Num.row (x : Num) (S W r : Nat) : List (Head × List Int) := ptRow S (x.n S) x.seq x.b W r
def Num.res (x : Num) : Res := ⟨true, x.seq, x.seq, x.batch, x.m, x.er⟩
theorem Num.n_pos (x : Num) {S : Nat} (hS : 0 < S) : 1 ≤ x.n S := by
  have h1 := encB_len x.seq x.batch x.m x.er
  have h2 := pages_le (len := x.b.length) hS
  unfold Num.n
  rcases Nat.eq_zero_or_pos (pagesOf S x.b.length) with h | h
  · rw [h, Nat.zero_mul] at h2
    unfold Num.b at h2
    omega
  · exact h
/-- A segment that holds a point; one member may be bad. -/
structure Holds (s : Ram.St) (S W : Nat) (seg : Int) (x : Num) (d : Int) : Prop where
  rows : ∀ r : Nat, r < rowsOf W (x.n S) → Stands s (x.row S W r) seg r d
  rest : ∀ r : Nat, rowsOf W (x.n S) ≤ r → (r : Int) < s.g.p → ∀ n, 0 ≤ n → n < s.g.c → n ≠ d → s.pages n seg r = []
  fits : (rowsOf W (x.n S) : Int) ≤ s.g.p
/-- What Read hands back, where it is known how far the rows are whole. -/
theorem post_at {Wd S P r : Nat} {is : Nat → Bool} {L : Nat → List (Head × List Int)} {w w' : World} {e : Ending} (h : ReadPost Wd S P is L w e w') (hr : r ≤ P) (h1 : ∀ k, k < r → is k = true) (h2 : r < P → is r = false) :
    (¬ (PRead2.Good S (rowsSt Wd L (List.range r)) ∧ IsPt (rowsSt Wd L (List.range r)).b ∧ nb (rowsSt Wd L (List.range r)).b 0 = (rowsSt Wd L (List.range r)).most) → ReadIs ⟨false, (rowsSt Wd L (List.range r)).most, 0, 0, [], []⟩ w e w') ∧
    ((PRead2.Good S (rowsSt Wd L (List.range r)) ∧ IsPt (rowsSt Wd L (List.range r)).b ∧ nb (rowsSt Wd L (List.range r)).b 0 = (rowsSt Wd L (List.range r)).most) → ReadIs ⟨true, (rowsSt Wd L (List.range r)).most, (rowsSt Wd L (List.range r)).most, nb (rowsSt Wd L (List.range r)).b 4, nbs (rowsSt Wd L (List.range r)).b 16 (nb (rowsSt Wd L (List.range r)).b 8).toNat, nbs (rowsSt Wd L (List.range r)).b (16 + 4 * (nb (rowsSt Wd L (List.range r)).b 8).toNat) (nb (rowsSt Wd L (List.range r)).b 12).toNat⟩ w e w') := by
  obtain ⟨m, st, hm, ha, hb, hst, hc⟩ := h
  have hmr : m = r := by
    rcases Nat.lt_trichotomy m r with hl | hl | hl
    · have := hb (by omega)
      rw [h1 m hl] at this
      cases this
    · exact hl
    · have := h2 (by omega)
      rw [ha r hl] at this
      cases this
  subst hmr
  rw [← hst]
  clear hst
  refine ⟨fun hn => ?_, fun hg => ?_⟩
  · rcases hc with ⟨_, rfl, hf⟩ | ⟨hg, _⟩
    · exact ⟨_, _, rfl, Row.nil _ _ _ _, Row.nil _ _ _ _, hf⟩
    · exact absurd hg hn
  · rcases hc with ⟨hn, _⟩ | ⟨_, vM, vE, rfl, h3, h4, h5⟩
    · exact absurd hg hn
    · exact ⟨vM, vE, rfl, h3, h4, h5⟩
theorem row_whole {p : Nat} {s : Ram.St} {seg d : Int} {w : World} {l : List (Head × List Int)} {r : Nat} (hR : RamE w p s) (hd : Dead s d) (hst : Stands s l seg r d) : ∀ w', Fr None_ w w' → Calls Try.prog 26 #[dev p, .int .i64 seg, .int .i64 (r : Int)] w' (SRow2.RowPost2 s p l w') :=
  fun w' hf => Row_whole_at p s seg r d w' l (hR.none_ hf) hd hst
theorem row_blank {p : Nat} {s : Ram.St} {seg d : Int} {w : World} {r : Nat} (hR : RamE w p s) (ha : s.g.At seg r) (hd : Dead s d) (hpn : ∀ n, 0 ≤ n → n < s.g.c → n ≠ d → s.pages n seg r = []) : ∀ w', Fr None_ w w' → Calls Try.prog 26 #[dev p, .int .i64 seg, .int .i64 (r : Int)] w' fun e w'' => ∃ c : Int, c ≠ 2 ∧ e = .returned (.tuple #[.slice none 0 0, .int .i64 c, .int .i64 0]) ∧ Fr None_ w' w'' :=
  fun w' hf => (Row_blank_at p s seg r d w' (hR.none_ hf) ha hd hpn).mono fun e w'' h => ⟨0, by decide, h.1, h.2⟩
theorem seg_at {s : Ram.St} (hok : s.g.Ok) {which : Int} (hw : which = 0 ∨ which = 1) {r : Nat} (hr : (r : Int) < s.g.p) : s.g.At (2 + which) r :=
  ⟨by have := hok.b; omega, by omega⟩

theorem Read_holds (p : Nat) (s : Ram.St) (which : Int) (S Wd : Nat) (w : World) (x : Num) (d : Int) (hR : RamE w p s) (hS : s.g.s = S) (hWd : (Wd : Int) = s.g.c - 1) (hw : which = 0 ∨ which = 1) (hd : Dead s d) (hx : x.Ok) (hh : Holds s S Wd (2 + which) x d) :
    Calls Try.prog 41 #[dev p, .int .i64 which] w (ReadIs x.res w) := by
  have hok : s.g.Ok := by obtain ⟨_, _, _, _, _, h⟩ := hR; exact h.ok
  have hc := hok.c
  have hs := hok.s
  have hfit := hh.fits
  have hN := x.n_pos (S := S) (by omega)
  have hA : RowsAre s p (2 + which) (fun k => decide (k < rowsOf Wd (x.n S))) (x.row S Wd) w := by
    refine ⟨fun k hk hi => ?_, fun k hk hi => ?_, fun k hk hi => ?_⟩
    · exact (hh.rows k (of_decide_eq_true hi)).lok
    · exact row_whole hR hd (hh.rows k (of_decide_eq_true hi))
    · exact row_blank hR (seg_at hok hw hk) hd (hh.rest k (by have := of_decide_eq_false hi; omega) hk)
  refine (PRead3.Read_calls p s which S Wd w _ _ hR hS hWd hw hA).mono fun e w' h => ?_
  have h2 := (post_at h (r := rowsOf Wd (x.n S)) (by omega) (fun k hk => decide_eq_true hk) (fun _ => decide_eq_false (by omega))).2
  have hst : rowsSt Wd (x.row S Wd) (List.range (rowsOf Wd (x.n S))) = ⟨x.n S, true, x.seq, padTo x.b (x.n S * S)⟩ := by
    show rowsSt Wd (ptRow S (x.n S) x.seq x.b Wd) _ = _
    rw [pt_rows hN hx.seq.1 Wd (rowsOf Wd (x.n S))]
    have h3 := rows_ge (N := x.n S) (show 0 < Wd by omega)
    have hpl : x.b.length ≤ x.n S * S := pages_le (by omega)
    unfold ptSt
    rw [if_neg (by omega), if_neg (by omega), Nat.min_eq_right h3, List.take_of_length_le (by rw [padTo_len hpl]; exact Nat.le_refl _)]
  have hpl : x.b.length ≤ x.n S * S := pages_le (by omega)
  have hpe : padTo x.b (x.n S * S) = encB x.seq x.batch x.m x.er ++ List.replicate (x.n S * S - x.b.length) 0 := rfl
  obtain ⟨e1, e2, e3, e4, e5⟩ := encB_pt (x.n S * S - x.b.length) hx.seq hx.batch hx.m hx.er hx.ml hx.el
  rw [← hpe] at e1 e2 e3 e4 e5
  rw [hst] at h2
  dsimp only at h2
  rw [e2, e3, e4, e5] at h2
  exact h2 ⟨⟨rfl, by show (1 : Int) ≤ (x.n S : Int); omega, by show ((padTo x.b (x.n S * S)).length : Int) = (x.n S : Int) * S; rw [padTo_len hpl]; push_cast; rfl⟩, e1, rfl⟩
/-- Where nothing was written. -/
theorem Read_none (p : Nat) (s : Ram.St) (which : Int) (S Wd : Nat) (w : World) (d : Int) (hR : RamE w p s) (hS : s.g.s = S) (hWd : (Wd : Int) = s.g.c - 1) (hw : which = 0 ∨ which = 1) (hd : Dead s d) (hh : ∀ r : Nat, (r : Int) < s.g.p → ∀ n, 0 ≤ n → n < s.g.c → n ≠ d → s.pages n (2 + which) r = []) :
    Calls Try.prog 41 #[dev p, .int .i64 which] w (ReadIs Res.none w) := by
  have hok : s.g.Ok := by obtain ⟨_, _, _, _, _, h⟩ := hR; exact h.ok
  have hs := hok.s
  have hA : RowsAre s p (2 + which) (fun k => false) (fun _ => []) w := by
    refine ⟨fun k hk hi => Bool.noConfusion hi, fun k hk hi => Bool.noConfusion hi, fun k hk hi => ?_⟩
    exact row_blank hR (seg_at hok hw hk) hd (hh k hk)
  refine (PRead3.Read_calls p s which S Wd w _ _ hR hS hWd hw hA).mono fun e w' h => ?_
  have h2 := (post_at h (r := 0) (by omega) (fun k hk => by omega) (fun _ => rfl)).1
  refine h2 (fun hg => ?_)
  have h3 := hg.1.2.2
  have h4 : ((0 : Nat) : Int) = 1 * (S : Int) := h3
  omega
/-- Where one page of a row is spoilt. -/
theorem Read_torn (p : Nat) (s : Ram.St) (which : Int) (S Wd : Nat) (w : World) (x : Num) (y : Int) (r0 : Nat) (hR : RamE w p s) (hS : s.g.s = S) (hWd : (Wd : Int) = s.g.c - 1) (hw : which = 0 ∨ which = 1) (hd : Dead s (-1)) (hx : x.Ok) (hy : 0 ≤ y ∧ y < s.g.c) (hr0 : r0 < rowsOf Wd (x.n S)) (hfit : (rowsOf Wd (x.n S) : Int) ≤ s.g.p)
    (hrows : ∀ r : Nat, r < rowsOf Wd (x.n S) → r ≠ r0 → Stands s (x.row S Wd r) (2 + which) r (-1)) (hrow : Stands s (x.row S Wd r0) (2 + which) r0 y) (ho : (openOf (pD s (2 + which) r0 y) (pO s (2 + which) r0 y)).2 = false)
    (hrest : ∀ r : Nat, rowsOf Wd (x.n S) ≤ r → (r : Int) < s.g.p → ∀ n, 0 ≤ n → n < s.g.c → s.pages n (2 + which) r = []) :
    ∃ mo, 0 ≤ mo ∧ mo < 4294967296 ∧ ∀ w', Fr None_ w w' → Calls Try.prog 41 #[dev p, .int .i64 which] w' (ReadIs ⟨false, mo, 0, 0, [], []⟩ w') := by
  have hok : s.g.Ok := by obtain ⟨_, _, _, _, _, h⟩ := hR; exact h.ok
  have hc := hok.c
  have hs := hok.s
  have hN := x.n_pos (S := S) (by omega)
  have hA : ∀ w', Fr None_ w w' → RowsAre s p (2 + which) (fun k => decide (k < rowsOf Wd (x.n S) ∧ k ≠ r0)) (x.row S Wd) w' := fun w' hfw => by
    have hR := hR.none_ hfw
    refine ⟨fun k hk hi => ?_, fun k hk hi => ?_, fun k hk hi => ?_⟩
    · have h := of_decide_eq_true hi
      exact (hrows k h.1 h.2).lok
    · have h := of_decide_eq_true hi
      exact row_whole hR hd (hrows k h.1 h.2)
    · have h := of_decide_eq_false hi
      by_cases e : k = r0
      · subst e
        exact fun w' hf => (SRow3.Row_torn_at p s (2 + which) k y w' _ (hR.none_ hf) hrow hy (fun hg => by have := (hd.gone y hy.1 hy.2).1 hg; omega) ho).mono fun e w'' h => ⟨1, by decide, h.1, h.2⟩
      · exact row_blank hR (seg_at hok hw hk) hd (fun n n0 n1 _ => hrest k (by omega) hk n n0 n1)
  refine ⟨(rowsSt Wd (x.row S Wd) (List.range r0)).most, ?_, ?_, fun w1 hf1 => (PRead3.Read_calls p s which S Wd w1 _ _ (hR.none_ hf1) hS hWd hw (hA w1 hf1)).mono fun e w' h => ?_⟩
  · rw [show rowsSt Wd (x.row S Wd) (List.range r0) = _ from pt_rows hN hx.seq.1 Wd r0]
    show 0 ≤ (if r0 * Wd = 0 then (0 : Int) else x.seq)
    have := hx.seq
    split <;> omega
  · rw [show rowsSt Wd (x.row S Wd) (List.range r0) = _ from pt_rows hN hx.seq.1 Wd r0]
    show (if r0 * Wd = 0 then (0 : Int) else x.seq) < 4294967296
    have := hx.seq
    split <;> omega
  · refine (post_at h (r := r0) (by omega) (fun k hk => decide_eq_true ⟨by omega, by omega⟩) (fun _ => decide_eq_false (fun h => h.2 rfl))).1 (fun hg => ?_)
    have h3 := hg.1.2.2
    rw [show rowsSt Wd (x.row S Wd) (List.range r0) = _ from pt_rows hN hx.seq.1 Wd r0] at h3
    have hpl : x.b.length ≤ x.n S * S := pages_le (by omega)
    have hlt := rows_lt (N := x.n S) (show 0 < Wd by omega) hr0
    have hm1 : r0 * Wd * S ≤ x.n S * S := Nat.mul_le_mul_right _ (by omega)
    have h4 : (((padTo x.b (x.n S * S)).take (min (r0 * Wd) (x.n S) * S)).length : Int) = (if r0 * Wd = 0 then (1 : Int) else (x.n S : Int)) * S := h3
    rw [List.length_take, padTo_len hpl, Nat.min_eq_left (show r0 * Wd ≤ x.n S by omega), Nat.min_eq_left hm1] at h4
    split at h4
    · rename_i h0
      rw [h0] at h4
      simp at h4
      omega
    · have h5 : (r0 * Wd * S : Nat) = x.n S * S := by exact_mod_cast h4
      have := Nat.eq_of_mul_eq_mul_right (show 0 < S by omega) h5
      omega
end Go.Proofs.Ytlhgbamajabnfaa.PtLaw

/- Members whose two segments each may hold a point: New, Write, Last. -/
namespace Go.Proofs.Ytlhgbamajabnfaa.PtLaw
open Go.RowKit Go.Proofs.Ytlhgbamajabnfaa.Gab Go.Proofs.Ytlhgbamajabnfaa.Wr Go.Proofs.Ytlhgbamajabnfaa.Geom Go.Proofs.Ytlhgbamajabnfaa.Ref Go.Proofs.Ytlhgbamajabnfaa.Fields Go.Proofs.Ytlhgbamajabnfaa.Ord Go.Proofs.Ytlhgbamajabnfaa.Write Go.Proofs.Ytlhgbamajabnfaa.Stripe Go.Proofs.Ytlhgbamajabnfaa.PRead1 Go.Proofs.Ytlhgbamajabnfaa.PRead2 Go.Proofs.Ytlhgbamajabnfaa.Last Go.Proofs.Ytlhgbamajabnfaa.Point1 Go.Proofs.Ytlhgbamajabnfaa.Point4 Go.Proofs.Ytlhgbamajabnfaa.Point6 Go.Proofs.Ytlhgbamajabnfaa.Point7 Go.Proofs.Ytlhgbamajabnfaa.Point8 Go.Proofs.Ytlhgbamajabnfaa.SRow3 Go.Proofs.Ytlhgbamajabnfaa.SRead Go.Proofs.Ytlhgbamajabnfaa.Kept
open Go.Proofs.Ytlhgbamajabnfaa.Ram (RamE)
set_option linter.unusedVariables false
set_option linter.unusedSimpArgs false

def HoldsO (s : Ram.St) (S W : Nat) (seg : Int) (d : Int) : Option Num → Prop
  | some x => Holds s S W seg x d ∧ x.Ok
  | none => ∀ r : Nat, (r : Int) < s.g.p → ∀ n, 0 ≤ n → n < s.g.c → n ≠ d → s.pages n seg r = []
def resO : Option Num → Res
  | some x => x.res
  | none => Res.none
theorem resO_ok {o : Option Num} (h : ∀ x, o = some x → x.Ok) : (resO o).Ok := by
  cases o with
  | none => exact ⟨by show (0 : Int) ≤ 0 ∧ (0 : Int) < 4294967296; decide⟩
  | some x => exact ⟨(h x rfl).seq⟩
theorem holds_new (g : Geo) (S W : Nat) (seg : Int) : HoldsO (Ram.St.new g) S W seg (-1) none := fun _ _ _ _ _ _ => rfl
theorem dead_none {s : Ram.St} (hg : ∀ m, ¬ 0 < s.gone m) (hc : 3 ≤ s.g.c) : Dead s (-1) := ⟨Int.le_refl _, by omega, fun m m0 m1 => ⟨fun h => absurd h (hg m), fun e => by omega⟩⟩
theorem dead_kill {s : Ram.St} (hg : ∀ m, ¬ 0 < s.gone m) {d : Int} (h0 : 0 ≤ d) (h1 : d < s.g.c) : Dead (s.kill d) d :=
  ⟨by omega, h1, fun m m0 m1 => by
    show 0 < (if m = d then (1 : Int) else s.gone m) ↔ m = d
    by_cases e : m = d
    · rw [if_pos e]; exact ⟨fun _ => e, fun _ => by decide⟩
    · rw [if_neg e]; exact ⟨fun h => absurd h (hg m), fun h => absurd h e⟩⟩
theorem HoldsO.kill {s : Ram.St} {S W : Nat} {seg : Int} {o : Option Num} (h : HoldsO s S W seg (-1) o) (d : Int) : HoldsO (s.kill d) S W seg d o := by
  cases o with
  | none => exact fun r hr n n0 n1 _ => h r hr n n0 n1 (by omega)
  | some x => exact ⟨⟨fun r hr => Stands.kill (h.1.rows r hr) d, fun r hr hr1 n n0 n1 _ => h.1.rest r hr hr1 n n0 n1 (by omega), h.1.fits⟩, h.2⟩
/-- What another segment holds stays when a point is written. -/
theorem HoldsO.other {s s' : Ram.St} {S W R : Nat} {seg seg' : Int} {L : Nat → List (Head × List Int)} {o : Option Num} (h : HoldsO s S W seg (-1) o) (hw : Wrote s s' seg' L R) (hne : seg ≠ seg') : HoldsO s' S W seg (-1) o := by
  cases o with
  | none => exact fun r hr n n0 n1 hn => by rw [hw.other n seg r hne]; rw [hw.geo] at hr n1; exact h r hr n n0 n1 hn
  | some x =>
    refine ⟨⟨fun r hr => ?_, fun r hr hr1 n n0 n1 hn => ?_, by rw [hw.geo]; exact h.1.fits⟩, h.2⟩
    · have h1 := h.1.rows r hr
      exact ⟨by rw [hw.geo]; exact h1.ok, by rw [hw.geo]; exact h1.at_, by rw [hw.geo]; exact h1.lok, fun m m0 m1 hm => by rw [hw.gone]; rw [hw.geo] at m1; exact h1.gone m m0 m1 hm, fun m m0 m1 hm => by rw [hw.other m seg r hne, hw.geo]; rw [hw.geo] at m1; exact h1.pages m m0 m1 hm⟩
    · rw [hw.other n seg r hne]
      rw [hw.geo] at hr1 n1
      exact h.1.rest r hr hr1 n n0 n1 hn
theorem rows_fit {W N : Nat} {p : Int} (hW : 0 < W) (hp : 0 ≤ p) (h : (N : Int) ≤ p * W) : (rowsOf W N : Int) ≤ p := by
  obtain ⟨P, rfl⟩ := Int.eq_ofNat_of_zero_le hp
  have h1 : N ≤ P * W := by exact_mod_cast h
  have h2 : rowsOf W N ≤ P := by
    rcases Nat.lt_or_ge P (rowsOf W N) with h3 | h3
    · have := rows_lt hW h3
      omega
    · exact h3
  exact_mod_cast h2
/-- What was written stands. -/
theorem holds_wrote {s s' : Ram.St} {S W : Nat} {x : Num} (hok : s.g.Ok) (hS : s.g.s = S) (hW : (W : Int) = s.g.c - 1) (hx : x.Ok) (hgn : ∀ m, ¬ 0 < s.gone m) (hfit : (x.n S : Int) ≤ s.g.p * (s.g.c - 1)) (hw : Wrote s s' (2 + x.seq % 2) (x.row S W) (rowsOf W (x.n S))) : HoldsO s' S W (2 + x.seq % 2) (-1) (some x) := by
  have hc := hok.c
  have hb := hok.b
  have hp := hok.p
  have hs := hok.s
  have hq : s.g.p * (s.g.c - 1) ≤ 32 * 15 := Int.mul_le_mul (by omega) (by omega) (by omega) (by omega)
  have hrf := rows_fit (W := W) (N := x.n S) (p := s.g.p) (by omega) (by omega) (by rw [hW]; exact hfit)
  have hN : x.n S < 65536 := by omega
  have hpl : x.b.length ≤ x.n S * S := pages_le (by omega)
  refine ⟨⟨fun r hr => ?_, fun r hr hr1 n n0 n1 _ => ?_, by rw [hw.geo]; exact hrf⟩, hx⟩
  · refine ⟨by rw [hw.geo]; exact hok, by rw [hw.geo]; exact ⟨by omega, by omega⟩, by rw [hw.geo]; exact ptRow_ok hS hx.seq (encB_range _ _ _ _) hpl hN hW r, fun m m0 m1 _ => by rw [hw.gone]; exact hgn m, fun m m0 m1 _ => ?_⟩
    rw [hw.geo]
    rw [hw.geo] at m1
    exact hw.done r hr m m0 m1
  · rw [hw.geo] at hr1 n1
    exact hw.todo r (by omega) hr1 n n0 n1
/-- The members, as this layer sees them. -/
structure Both (s : Ram.St) (g : Geo) (S W : Nat) (d : Int) (o : Int → Option Num) (k : Nat) : Prop where
  geo : s.g = g
  cnt : s.cnt ≤ 100000 * k
  zero : HoldsO s S W 2 d (o 0)
  one : HoldsO s S W 3 d (o 1)
theorem Both.new (g : Geo) (S W : Nat) : Both (Ram.St.new g) g S W (-1) (fun _ => none) 0 := ⟨rfl, Nat.zero_le _, holds_new g S W 2, holds_new g S W 3⟩
def putO (o : Int → Option Num) (x : Num) : Int → Option Num := fun i => if i = x.seq % 2 then some x else o i
theorem Both.write {s s' : Ram.St} {g : Geo} {S W k : Nat} {o : Int → Option Num} {x : Num} (h : Both s g S W (-1) o k) (hok : g.Ok) (hS : g.s = S) (hW : (W : Int) = g.c - 1) (hx : x.Ok) (hgn : ∀ m, ¬ 0 < s.gone m) (hfit : (x.n S : Int) ≤ g.p * (g.c - 1)) (hw : Wrote s s' (2 + x.seq % 2) (x.row S W) (rowsOf W (x.n S))) :
    Both s' g S W (-1) (putO o x) (k + 1) ∧ ∀ m, ¬ 0 < s'.gone m := by
  have hgeo := h.geo
  have hwr := holds_wrote (by rw [hgeo]; exact hok) (by rw [hgeo]; exact hS) (by rw [hgeo]; exact hW) hx hgn (by rw [hgeo]; exact hfit) hw
  have hp := hok.p
  have hrf := rows_fit (W := W) (N := x.n S) (p := g.p) (by have := hok.c; omega) (by omega) (by rw [hW]; exact hfit)
  refine ⟨⟨hw.geo.trans hgeo, by have h1 := hw.cnt; have h2 := h.cnt; omega, ?_, ?_⟩, fun m => by rw [hw.gone]; exact hgn m⟩
  · show HoldsO s' S W 2 (-1) (if (0 : Int) = x.seq % 2 then some x else o 0)
    by_cases e : (0 : Int) = x.seq % 2
    · rw [if_pos e]
      rw [← e] at hwr
      exact hwr
    · rw [if_neg e]
      exact h.zero.other hw (by omega)
  · show HoldsO s' S W 3 (-1) (if (1 : Int) = x.seq % 2 then some x else o 1)
    by_cases e : (1 : Int) = x.seq % 2
    · rw [if_pos e]
      rw [← e] at hwr
      exact hwr
    · rw [if_neg e]
      exact h.one.other hw (by omega)
theorem Read_any (p : Nat) (s : Ram.St) (which : Int) (S Wd : Nat) (w : World) (o : Option Num) (d : Int) (hR : RamE w p s) (hS : s.g.s = S) (hWd : (Wd : Int) = s.g.c - 1) (hw : which = 0 ∨ which = 1) (hd : Dead s d) (hh : HoldsO s S Wd (2 + which) d o) :
    Calls Try.prog 41 #[dev p, .int .i64 which] w (ReadIs (resO o) w) := by
  cases o with
  | none => exact Read_none p s which S Wd w d hR hS hWd hw hd hh
  | some x => exact Read_holds p s which S Wd w x d hR hS hWd hw hd hh.2 hh.1
def lastOf (o : Int → Option Num) : Res := lastTo (fun j => resO (o j)) 2
theorem Last_any (p : Nat) (s : Ram.St) (g : Geo) (S Wd k : Nat) (w : World) (o : Int → Option Num) (d : Int) (hR : RamE w p s) (hB : Both s g S Wd d o k) (hS : g.s = S) (hWd : (Wd : Int) = g.c - 1) (hd : Dead s d) (ho : ∀ i x, o i = some x → x.Ok) :
    Calls Try.prog 40 #[dev p] w (ReadIs (lastOf o) w) := by
  have hgeo := hB.geo
  refine Last_calls p (fun j => resO (o j)) w (fun j hj w' hf => ?_) (fun j => resO_ok (ho _))
  have h01 : (j : Int) = 0 ∨ (j : Int) = 1 := by omega
  refine Read_any p s j S Wd w' (o j) d (hR.none_ hf) (by rw [hgeo]; exact hS) (by rw [hgeo]; exact hWd) h01 hd ?_
  rcases h01 with e | e
  · rw [e]; exact hB.zero
  · rw [e]; exact hB.one
/-- Write, where the point fits. -/
theorem Write_fits (p : Nat) (s : Ram.St) (g : Geo) (S Wd k : Nat) (y : Pt) (m er : List Int) (w : World) (o : Int → Option Num) (hR : RamE w p s) (hB : Both s g S Wd (-1) o k) (hok : g.Ok) (hS : g.s = S) (hWd : (Wd : Int) = g.c - 1) (hx : PtAt w y m er) (hm : y.mn ≤ 100000) (he : y.en ≤ 100000) (hgn : ∀ m, ¬ 0 < s.gone m) (hk : k ≤ 4000)
    (hfit : ((Num.mk y.seq y.batch m er).n S : Int) ≤ g.p * (g.c - 1)) :
    Calls Try.prog 39 #[dev p, .agg y.cells] w fun e w' => e = .returned (.int .i64 0) ∧ ∃ s', RamE w' p s' ∧ Both s' g S Wd (-1) (putO o (Num.mk y.seq y.batch m er)) (k + 1) ∧ (∀ m, ¬ 0 < s'.gone m) ∧ Ram.Step p w w' := by
  have hgeo := hB.geo
  have hcn := hB.cnt
  refine (Write_calls p s y m er w S (by rw [hgeo]; exact hS) hR hx hm he hgn (by omega)).mono fun e w' h => ?_
  rcases h with ⟨hn, _⟩ | ⟨_, s', R, rfl, hRr, hR', hw, hst⟩
  · rw [hgeo] at hn
    exact absurd hfit hn
  · rw [hgeo] at hRr hw
    rw [show (g.c - 1).toNat = Wd by omega] at hRr hw
    subst hRr
    obtain ⟨h1, h2⟩ := Both.write (x := Num.mk y.seq y.batch m er) hB hok hS hWd ⟨hx.seq, hx.batch, hx.mapR, hx.ersR, by have := hx.map.1; show m.length ≤ 100000; omega, by have := hx.ers.1; show er.length ≤ 100000; omega⟩ hgn hfit hw
    exact ⟨rfl, s', hR', h1, h2, hst⟩
/-- Write, where it doesn't. -/
theorem Write_over (p : Nat) (s : Ram.St) (g : Geo) (S Wd k : Nat) (y : Pt) (m er : List Int) (w : World) (o : Int → Option Num) (hR : RamE w p s) (hB : Both s g S Wd (-1) o k) (hS : g.s = S) (hx : PtAt w y m er) (hm : y.mn ≤ 100000) (he : y.en ≤ 100000) (hgn : ∀ m, ¬ 0 < s.gone m) (hk : k ≤ 4000)
    (hfit : ¬ ((Num.mk y.seq y.batch m er).n S : Int) ≤ g.p * (g.c - 1)) :
    Calls Try.prog 39 #[dev p, .agg y.cells] w fun e w' => e = .returned (.int .i64 28) ∧ Fr None_ w w' := by
  have hgeo := hB.geo
  have hcn := hB.cnt
  refine (Write_calls p s y m er w S (by rw [hgeo]; exact hS) hR hx hm he hgn (by omega)).mono fun e w' h => ?_
  rcases h with ⟨_, h⟩ | ⟨hn, _⟩
  · exact h
  · rw [hgeo] at hn
    exact absurd hn hfit
end Go.Proofs.Ytlhgbamajabnfaa.PtLaw

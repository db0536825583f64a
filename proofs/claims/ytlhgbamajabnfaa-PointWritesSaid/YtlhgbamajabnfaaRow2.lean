/- stripe.Row: whatever stands there, at most one member gone. -/
import Derived.Test.YtlhgbamajabnfaaRow
namespace Go.Proofs.Ytlhgbamajabnfaa.SRow2
open Go.RowKit Go.Proofs.Ytlhgbamajabnfaa.Gab Go.Proofs.Ytlhgbamajabnfaa.Map Go.Proofs.Ytlhgbamajabnfaa.Geom Go.Proofs.Ytlhgbamajabnfaa.Ram Go.Proofs.Ytlhgbamajabnfaa.Par Go.Proofs.Ytlhgbamajabnfaa.Fields Go.Proofs.Ytlhgbamajabnfaa.Ord Go.Proofs.Ytlhgbamajabnfaa.Write Go.Proofs.Ytlhgbamajabnfaa.Stripe Go.Proofs.Ytlhgbamajabnfaa.Ref Go.Proofs.Ytlhgbamajabnfaa.Case Go.Proofs.Ytlhgbamajabnfaa.SRead Go.Proofs.Ytlhgbamajabnfaa.Again Go.Proofs.Ytlhgbamajabnfaa.Kept Go.Proofs.Ytlhgbamajabnfaa.Blank Go.Proofs.Ytlhgbamajabnfaa.SRow
open Go.Proofs.Ytlhgbamajabnfaa.Wr (InR)
open Go.Proofs.Ytlhgbamajabnfaa.Open (openOf okB headOf numAt)
open Go.Proofs.Ytlhgbamajabnfaa.Str (pcells take_snoc add_next)
set_option linter.unusedVariables false
set_option linter.unusedSimpArgs false

/-- What member n adds to the counts: blank ones, right ones; which is dead. -/
def Tick (s : Ram.St) (seg row : Int) (bl rt dd : Int → Int) (n : Int) : Prop :=
  (0 < s.gone n ∧ dd n < 0 ∧ bl (n + 1) = bl n ∧ rt (n + 1) = rt n ∧ dd (n + 1) = n) ∨
  (¬ 0 < s.gone n ∧ dd (n + 1) = dd n ∧ (((allFF (pD s seg row n) ∧ allFF (pO s seg row n)) ∧ bl (n + 1) = bl n + 1 ∧ rt (n + 1) = rt n) ∨
    (¬ (allFF (pD s seg row n) ∧ allFF (pO s seg row n)) ∧ bl (n + 1) = bl n ∧ ∃ h ok, openOf (pD s seg row n) (pO s seg row n) = (h, ok) ∧ rt (n + 1) = if ok = true then rt n + 1 else rt n)))
structure Tally (s : Ram.St) (seg row : Int) (bl rt dd : Int → Int) : Prop where
  b0 : bl 0 = 0
  r0 : rt 0 = 0
  d0 : dd 0 = -1
  tick : ∀ n, 0 ≤ n → n < s.g.c → Tick s seg row bl rt dd n
theorem Tally.bounds {s : Ram.St} {seg row : Int} {bl rt dd : Int → Int} (h : Tally s seg row bl rt dd) : ∀ k : Nat, (k : Int) ≤ s.g.c → (0 ≤ bl k ∧ bl k ≤ k) ∧ (0 ≤ rt k ∧ rt k ≤ k) ∧ (-1 ≤ dd k ∧ dd k < k)
  | 0, _ => ⟨by have := h.b0; constructor <;> (simp only [Int.natCast_zero]; omega), by have := h.r0; constructor <;> (simp only [Int.natCast_zero]; omega), by have := h.d0; constructor <;> (simp only [Int.natCast_zero]; omega)⟩
  | k + 1, hk => by
    obtain ⟨h1, h2, h3⟩ := Tally.bounds h k (by omega)
    push_cast
    rcases h.tick k (by omega) (by omega) with ⟨_, _, e1, e2, e3⟩ | ⟨_, e3, ⟨_, e1, e2⟩ | ⟨_, e1, _, ok, _, e2⟩⟩
    · omega
    · omega
    · split at e2 <;> omega
/-- How many live members there are. -/
def live (c d : Int) : Int := if 0 ≤ d then c - 1 else c
/-- Pages' bytes are new. -/
def Fresh (w : World) (vs : List Value) (n : Nat) : Prop := ∀ k, k < n → ∀ b, (vs.getD (k * 8 + 7) undef).ownBlock = some b → w.heap.size ≤ b
theorem Fresh.nil (w : World) : Fresh w [] 0 := fun k h => absurd h (Nat.not_lt_zero k)
theorem Fresh.snoc {w : World} {vs : List Value} {n : Nat} (h : Fresh w vs n) (hl : vs.length = n * 8) (hd : Head) (v : Value) (hv : ∀ b, v.ownBlock = some b → w.heap.size ≤ b) : Fresh w (vs ++ (pcells hd v).toList) (n + 1) := fun k hk b hb => by
  by_cases e : k < n
  · refine h k e b ?_
    rwa [List.getD_eq_getElem?_getD, List.getElem?_append_left (by omega), ← List.getD_eq_getElem?_getD] at hb
  · obtain rfl : k = n := by omega
    rw [List.getD_eq_getElem?_getD, List.getElem?_append_right (by omega), show k * 8 + 7 - vs.length = 7 by omega] at hb
    exact hv b hb
/-- What Row answers of a stripe that is whole: its pages lie in new memory. -/
def RowPost2 (s : Ram.St) (p : Nat) (l : List (Head × List Int)) (w : World) (e : Ending) (w' : World) : Prop := ∃ A c n vs, e = .returned (.tuple #[.slice A n c, .int .i64 2, .int .i64 0]) ∧ (n : Int) = s.g.c - 1 ∧ RdC w' A (n * 8) vs ∧ SPs w' p vs l ∧ Fresh w vs n ∧ (∀ ad, A = some ad → w.heap.size ≤ ad.block ∧ ∃ cs, w'.heap[ad.block]? = some (.cells cs 56 (0, 0))) ∧ Fr None_ w w'
/-- What Row answers. -/
def RowAns (s : Ram.St) (p : Nat) (l : List (Head × List Int)) (b r n : Int) (w : World) (e : Ending) (w' : World) : Prop :=
  (b = n ∧ e = .returned (.tuple #[.slice none 0 0, .int .i64 0, .int .i64 0]) ∧ Fr None_ w w') ∨
  (b ≠ n ∧ r < n ∧ e = .returned (.tuple #[.slice none 0 0, .int .i64 1, .int .i64 0]) ∧ Fr None_ w w') ∨
  (b ≠ n ∧ ¬ r < n ∧ RowPost2 s p l w e w')

set_option maxHeartbeats 8000000 in
set_option maxRecDepth 100000 in
theorem Row_any (p : Nat) (s : Ram.St) (seg row : Int) (w : World) (l : List (Head × List Int)) (bl rt dd : Int → Int) (hR : RamE w p s) (ha : s.g.At seg row) (ht : Tally s seg row bl rt dd) (hlk : LOk s.g l)
    (hrd : bl s.g.c ≠ live s.g.c (dd s.g.c) → ¬ rt s.g.c < live s.g.c (dd s.g.c) → ∀ j : Nat, (j : Int) < s.g.c - 1 → Reads s seg row j (l.getD j noPage).1 (l.getD j noPage).2) :
    Calls Try.prog 26 #[dev p, .int .i64 seg, .int .i64 row] w (RowAns s p l (bl s.g.c) (rt s.g.c) (live s.g.c (dd s.g.c)) w) := by
  have hok : s.g.Ok := by obtain ⟨_, _, _, _, _, h⟩ := hR; exact h.ok
  have hp : p < w.heap.size := hR.lt
  have HR := As.mk hR
  have hc1 := hok.c
  have HG := As.mk (fun w' (hf : Fr None_ w w') => Geo_calls p s w' (hR.none_ hf))
  have HNU := As.mk (fun w => Number_calls s.g seg row 0 w hok ha (by decide) (by omega))
  have HWD := As.mk (fun w => Width_calls s.g w hok)
  have hnum : 1 ≤ s.g.num seg row 0 := by
    have h1 : 0 ≤ (seg * s.g.p + row) * (s.g.c - 1) := Int.mul_nonneg (by have := mul_range hok ha; have := ha.row; omega) (by omega)
    unfold Geo.num
    omega
  have hnb : (s.g.num seg row 0 == 0) = false := by rw [beq_eq_false_iff_ne]; omega
  have HPF := As.mk (page_facts hR seg row)
  have HRT := As.mk (fun (n : Int) (h0 : 0 ≤ n) (h1 : n < s.g.c) (hg : ¬ 0 < s.gone n) (w' : World) (hf : Fr None_ w w') => Read_there p s n seg row w' (hR.none_ hf) ⟨⟨h0, h1⟩, ha⟩ hg)
  change As (∀ n, 0 ≤ n → n < s.g.c → ¬ 0 < s.gone n → ∀ (w' : World), Fr None_ w w' → Calls Try.prog 110 #[.pointer (some ⟨p, 0, none⟩), .int .i64 n, .int .i64 seg, .int .i64 row] w' fun e w'' => ∃ v1 v2, e = .returned (.tuple #[v1, v2, .int .i64 0]) ∧ Row 5 .u8 w'' w'.heap.size v1 (pD s seg row n) ∧ Row 5 .u8 w'' w'.heap.size v2 (pO s seg row n) ∧ Fr None_ w' w'') at HRT
  have HRG := As.mk (fun (n : Int) (h0 : 0 ≤ n) (h1 : n < s.g.c) (hg : 0 < s.gone n) (w' : World) (hf : Fr None_ w w') => Read_gone p s n seg row w' (hR.none_ hf) ⟨⟨h0, h1⟩, ha⟩ hg)
  have HLK := As.mk hlk
  have HTL := As.mk ht
  have HRS := As.mk (fun (hb : bl s.g.c ≠ live s.g.c (dd s.g.c)) (hr : ¬ rt s.g.c < live s.g.c (dd s.g.c)) (j : Nat) (h1 : (j : Int) < s.g.c - 1) (w' : World) (hf : Fr None_ w w') => SRead.Read_calls p s seg row j w' (l.getD j noPage).1 (l.getD j noPage).2 (hR.none_ hf) ha (by omega) h1 (hrd hb hr j h1))
  unfold Geo.val at HG HNU HWD
  generalize s.g.num seg row 0 = num at *
  clear hR hok hnum ha hlk ht hrd
  unfold dev at *
  go_enter Try.func26, Try.ntmps26
  go_wp2_with fail
  ((with_reducible refine (HG.out _ (Fr.refl _ _)).mono ?_); rintro e w1 ⟨rfl, hf1⟩)
  have HF1 := As.mk hf1
  clear hf1
  go_wp2_with fail
  ((with_reducible refine (HNU.out _).mono ?_); rintro e w2 ⟨rfl, hf2⟩)
  have HGE := As.mk (hf2.heap (heap_alloc_new w1 (.cells #[.int .i64 s.g.c, .int .i64 s.g.b, .int .i64 s.g.p, .int .i64 s.g.s] 28)) (fun h => h))
  have HF2 := As.mk ((HF1.out.alloc _).after hf2 (fun _ _ h => h))
  clear hf2
  generalize hg8 : w1.heap.size = g8 at *
  clear hg8
  have c0 := cell_is (i := 0) HGE.out rfl
  go_wp2_with fail
  go_loopw [10, 11, 12, 13, 14, 15, 16, 17, 18, 36] (fun v10 v11 v12 v13 v14 v15 v16 v17 v18 v36 w' => ∃ i : Nat, v36 = .int .i64 (i : Int) ∧ (i : Int) ≤ s.g.c ∧ v10 = .int .i64 (bl i) ∧ v11 = .int .i64 (rt i) ∧ v12 = .int .i64 (dd i) ∧ As (Fr None_ w w' ∧ w'.heap[g8]? = some (.cells #[.int .i64 s.g.c, .int .i64 s.g.b, .int .i64 s.g.p, .int .i64 s.g.s] 28 (0, 0)))) (fun _ _ _ _ _ _ _ _ _ v36 _ => (s.g.c - intOf v36).toNat)
  case atStart => exact ⟨0, rfl, by simp only [Int.natCast_zero]; omega, by rw [Int.natCast_zero, HTL.out.b0], by rw [Int.natCast_zero, HTL.out.r0], by rw [Int.natCast_zero, HTL.out.d0], ⟨HF2.out, HGE.out⟩⟩
  case round =>
    obtain ⟨i, rfl, hi, rfl, rfl, rfl, HF⟩ := hrel
    have d0 := cell_is (i := 0) HF.out.2 rfl
    have d1 := cell_is (i := 1) HF.out.2 rfl
    have d2 := cell_is (i := 2) HF.out.2 rfl
    have d3 := cell_is (i := 3) HF.out.2 rfl
    obtain ⟨⟨hb0, hb1⟩, ⟨hr0, hr1⟩, hd0, hd1⟩ := Tally.bounds HTL.out i hi
    by_cases hlt : (i : Int) < s.g.c
    · have hi0 : (0 : Int) ≤ (i : Int) := by omega
      clear d1 d2 d3
      rcases HTL.out.tick i hi0 hlt with ⟨hg, hdn, e1, e2, e3⟩ | ⟨hg, e3, hx⟩
      · have HRD := As.mk (HRG.out i hi0 hlt hg wr HF.out.1)
        have HE := As.mk (And.intro e1 (And.intro e2 e3))
        have dz : decide (0 ≤ dd i) = false := decide_eq_false (by omega)
        clear e1 e2 e3 hg
        generalize bl i = b at *
        generalize rt i = r at *
        generalize dd i = d at *
        go_wp2_with fail
        ((with_reducible refine HRD.out.mono ?_); rintro e w4 ⟨rfl, hf4⟩)
        have HF4 := As.mk hf4
        clear hf4
        go_wp2_with fail
        refine ⟨⟨i + 1, rfl, by omega, by rw [Int.natCast_succ, HE.out.1], by rw [Int.natCast_succ, HE.out.2.1], by rw [Int.natCast_succ, HE.out.2.2], ⟨HF.out.1.after HF4.out (fun _ _ h => h), HF4.out.heap HF.out.2 (fun h => h)⟩⟩, by simp [intOf]; omega⟩
      · have HRD := As.mk (HRT.out i hi0 hlt (Int.not_lt.1 hg) wr HF.out.1)
        have hpf := HPF.out i
        rcases hx with ⟨hff, e1, e2⟩ | ⟨hff, e1, h, ok, ho, e2⟩
        · have HBL := As.mk (fun (D1 O1 : Option Addr) (nd1 cd1 no1 co1 : Nat) (w' : World) (h1 : Rd .u8 w' O1 no1 (pO s seg row i)) (h2 : Rd .u8 w' D1 nd1 (pD s seg row i)) => Blank_calls D1 O1 nd1 cd1 no1 co1 (pD s seg row i) (pO s seg row i) w' h2 h1 true ⟨fun _ => hff, fun _ => rfl⟩)
          have HE := As.mk (And.intro e1 (And.intro e2 e3))
          clear e1 e2 e3 hg hff hpf
          generalize bl i = b at *
          generalize rt i = r at *
          generalize dd i = d at *
          generalize pD s seg row i = fd at *
          generalize pO s seg row i = fo at *
          go_wp2_with fail
          ((with_reducible refine HRD.out.mono ?_); rintro e w4 ⟨v1, v2, rfl, hr1, hr2, hf4⟩)
          obtain ⟨A3, n3, c3, e3, hn3, hd3, _⟩ := hr1.rd
          subst e3
          obtain ⟨A4, n4, c4, e4, hn4, hd4, _⟩ := hr2.rd
          subst e4
          have HF4 := As.mk hf4
          clear hr1 hr2 hf4
          go_wp2_with fail
          ((with_reducible refine (HBL.out A3 A4 n3 c3 n4 c4 w4 hd4.out hd3.out).mono ?_); rintro e w5 ⟨rfl, hf5⟩)
          have HF5 := As.mk (HF4.out.after hf5 (fun _ _ h => h))
          clear hf5
          go_wp2_with fail
          refine ⟨⟨i + 1, rfl, by omega, by rw [Int.natCast_succ, HE.out.1], by rw [Int.natCast_succ, HE.out.2.1], by rw [Int.natCast_succ, HE.out.2.2], ⟨HF.out.1.after HF5.out (fun _ _ h => h), HF5.out.heap HF.out.2 (fun h => h)⟩⟩, by simp [intOf]; omega⟩
        · have HBL := As.mk (fun (D1 O1 : Option Addr) (nd1 cd1 no1 co1 : Nat) (w' : World) (h1 : Rd .u8 w' O1 no1 (pO s seg row i)) (h2 : Rd .u8 w' D1 nd1 (pD s seg row i)) => Blank_calls D1 O1 nd1 cd1 no1 co1 (pD s seg row i) (pO s seg row i) w' h2 h1 false ⟨fun h => (by cases h), fun h => absurd h hff⟩)
          have HOP := As.mk (fun (D1 O1 : Option Addr) (nd1 cd1 no1 co1 : Nat) (w' : World) (h1 : Rd .u8 w' O1 no1 (pO s seg row i)) (h2 : Rd .u8 w' D1 nd1 (pD s seg row i)) (h3 : no1 ≤ co1) (h4 : nd1 ≤ cd1) => Open.Open_calls O1 D1 no1 co1 nd1 cd1 (pO s seg row i) (pD s seg row i) w' h1 h2 hpf.2.2.2 hpf.2.2.1 h3 h4)
          rw [ho] at HOP
          unfold Head.vals at HOP
          dsimp only at HOP
          have HE := As.mk (And.intro e1 (And.intro e2 e3))
          clear e1 e2 e3 hg hff hpf ho
          generalize bl i = b at *
          generalize rt i = r at *
          generalize dd i = d at *
          generalize pD s seg row i = fd at *
          generalize pO s seg row i = fo at *
          go_wp2_with fail
          ((with_reducible refine HRD.out.mono ?_); rintro e w4 ⟨v1, v2, rfl, hr1, hr2, hf4⟩)
          obtain ⟨A3, n3, c3, e3, hn3, hd3, _⟩ := hr1.rd
          subst e3
          obtain ⟨A4, n4, c4, e4, hn4, hd4, _⟩ := hr2.rd
          subst e4
          have HF4 := As.mk hf4
          clear hr1 hr2 hf4
          go_wp2_with fail
          ((with_reducible refine (HBL.out A3 A4 n3 c3 n4 c4 w4 hd4.out hd3.out).mono ?_); rintro e w5 ⟨rfl, hf5⟩)
          have hd35 := hd3.out.none_ hf5
          have hd45 := hd4.out.none_ hf5
          have HF5 := As.mk (HF4.out.after hf5 (fun _ _ h => h))
          clear hf5
          go_wp2_with fail
          ((with_reducible refine (HOP.out A3 A4 n3 c3 n4 c4 w5 hd45 hd35 hn4.out hn3.out).mono ?_); rintro e w6 ⟨rfl, hf6⟩)
          have HF6 := As.mk (HF5.out.after hf6 (fun _ _ h => h))
          clear hf6 hd35 hd45
          rcases ok with _ | _
          · go_wp2_with fail
            refine ⟨⟨i + 1, rfl, by omega, by rw [Int.natCast_succ, HE.out.1], by rw [Int.natCast_succ, HE.out.2.1]; rfl, by rw [Int.natCast_succ, HE.out.2.2], ⟨(HF.out.1.after HF6.out (fun _ _ h => h)).alloc _, at_old _ (HF6.out.heap HF.out.2 (fun h => h))⟩⟩, by simp [intOf]; omega⟩
          · go_wp2_with fail
            refine ⟨⟨i + 1, rfl, by omega, by rw [Int.natCast_succ, HE.out.1], by rw [Int.natCast_succ, HE.out.2.1]; rfl, by rw [Int.natCast_succ, HE.out.2.2], ⟨(HF.out.1.after HF6.out (fun _ _ h => h)).alloc _, at_old _ (HF6.out.heap HF.out.2 (fun h => h))⟩⟩, by simp [intOf]; omega⟩
    · have hic : (i : Int) = s.g.c := by omega
      rw [hic]
      rw [hic] at hb0 hb1 hr0 hr1 hd0 hd1
      clear hi hlt hic
      generalize bl s.g.c = b at *
      generalize rt s.g.c = r at *
      generalize dd s.g.c = d at *
      go_upto_if 82 with fail
      go_cut [19] (fun v19 wx => v19 = .int .i64 (live s.g.c d) ∧ As (Fr None_ w wx ∧ wx.heap[g8]? = some (.cells #[.int .i64 s.g.c, .int .i64 s.g.b, .int .i64 s.g.p, .int .i64 s.g.s] 28 (0, 0))))
      case first =>
        by_cases hdd : 0 ≤ d
        · have dz : decide (0 ≤ d) = true := decide_eq_true hdd
          go_wp2_with fail
          go_meet
          case rel => exact ⟨by unfold live; rw [if_pos (by omega)], HF⟩
        · have dz : decide (0 ≤ d) = false := decide_eq_false hdd
          go_wp2_with fail
          go_meet
          case rel => exact ⟨by unfold live; rw [if_neg (by omega)], HF⟩
      case rest =>
        obtain ⟨rfl, HFx⟩ := hcut
        clear d0 d1 d2 d3 HF
        have HF := HFx
        clear HFx
        rename World => wr
        have d0 := cell_is (i := 0) HF.out.2 rfl
        have d1 := cell_is (i := 1) HF.out.2 rfl
        have d2 := cell_is (i := 2) HF.out.2 rfl
        have d3 := cell_is (i := 3) HF.out.2 rfl
        generalize live s.g.c d = N at *
        by_cases hbn : b = N
        · have dz : (b == N) = true := by simp [hbn]
          have HB := As.mk hbn
          clear hbn
          go_wp2_with fail
          go_ret3
          exact .inl ⟨HB.out, rfl, HF.out.1⟩
        · have dz : (b == N) = false := by simp [hbn]
          by_cases hrn : r < N
          · have dr : decide (r < N) = true := decide_eq_true hrn
            have HB := As.mk hbn
            clear hbn
            go_wp2_with fail
            go_ret3
            exact .inr (.inl ⟨HB.out, hrn, rfl, HF.out.1⟩)
          · have dr : decide (r < N) = false := decide_eq_false hrn
            have HRS2 := As.mk (fun (j : Nat) (h1 : (j : Int) < s.g.c - 1) (w' : World) (hf : Fr None_ w w') => HRS.out hbn (Int.not_lt.1 hrn) j h1 w' hf)
            have HB := As.mk (And.intro hbn hrn)
            clear hbn hrn HRS
            go_wp2_with fail
            ((with_reducible refine (HWD.out _).mono ?_); rintro e w3 ⟨rfl, hf3⟩)
            have HF3 := As.mk (HF.out.1.after hf3 (fun _ _ h => h))
            clear hf3 d0 d1 d2 d3
            have hln : (l.length : Int) = s.g.c - 1 := HLK.out.len
            go_wp2_with fail
            go_loopw [20, 21, 22, 23, 95] (fun v20 v21 v22 v23 v95 w' => ∃ i : Nat, ∃ vs : List Value, v95 = .int .i64 (i : Int) ∧ (i : Int) ≤ s.g.c - 1 ∧ As (RowV 56 8 w' w.heap.size v20 i vs) ∧ As (SPs w' p vs (l.take i)) ∧ As (Fr None_ w w') ∧ As (Fresh w vs i)) (fun _ _ _ _ v95 _ => (s.g.c - 1 - intOf v95).toNat)
            case atStart => exact ⟨0, [], rfl, by simp only [Int.natCast_zero]; omega, ⟨RowV.nil _ _ _ _⟩, ⟨SPs.nil _ _⟩, HF3, ⟨Fresh.nil _⟩⟩
            case round =>
              obtain ⟨i, vs, rfl, hi, HX, HP, HQ, HFS⟩ := hrel
              obtain ⟨A1, cap1, e1, _, _, _⟩ := HX.out.rd
              subst e1
              by_cases hlt : (i : Int) < s.g.c - 1
              · have hil : i < l.length := by omega
                have HRD := As.mk (HRS2.out i hlt wr HQ.out)
                have HTK := As.mk (take_snoc noPage hil)
                have HHD := As.mk (HLK.out.head _ (getD_mem hil noPage)).1
                generalize l.getD i noPage = q at *
                clear hil
                unfold pcells at HRD
                go_wp2_with fail
                ((with_reducible refine HRD.out.mono ?_); rintro e w4 ⟨v4, rfl, hr4, hf4⟩)
                obtain ⟨A4, n4, c4, e4, _, _, _⟩ := hr4.rd
                subst e4
                have HR4 := As.mk hr4
                have HF4 := As.mk hf4
                have hz4 := hf4.size
                clear hr4 hf4
                go_wp2_with (at_builtin; (with_reducible refine appendV w.heap.size rfl _ _ 34 56 (.agg #[.int .u8 0, .int .u32 0, .int .u32 0, .int .u16 0, .int .u16 0, .int .u32 0, .int .u32 0, .slice none 0 0]) 8 48 rfl Try.underlying34 infoSP rfl (by decide) (by decide) (.slice A1 i cap1) i vs #[.int .u8 q.1.kind, .int .u32 q.1.epoch, .int .u32 q.1.batch, .int .u16 q.1.index, .int .u16 q.1.count, .int .u32 q.1.block, .int .u32 q.1.more, .slice A4 n4 c4] (w4.heap.size + 1) ?og rfl rfl rfl ?o0 ((HX.out.none_ HF4.out).none_ ((Fr.refl None_ w4).alloc _)) ?o2 ?o3 ?_); (case og => simp); (case o0 => intro u hu; simp at hu; rcases hu with rfl | rfl | rfl | rfl | rfl | rfl | rfl | rfl <;> rfl); (case o2 => have := HQ.out.size; simp; omega); (case o3 => omega); intro v6 w6 hrow6 hfr6 hat6; have HR6 := As.mk hrow6; have HF6 := As.mk hfr6; clear hrow6 hfr6 hat6; obtain ⟨A6, c6, e6, _, _, _⟩ := HR6.out.rd; subst e6)
                have hFa : Fr None_ wr _ := HF4.out.alloc (.cells #[.int .u8 q.1.kind, .int .u32 q.1.epoch, .int .u32 q.1.batch, .int .u16 q.1.index, .int .u16 q.1.count, .int .u32 q.1.block, .int .u32 q.1.more, .slice A4 n4 c4] 56)
                have hXa := HX.out.none_ hFa
                have hFw := HQ.out.after hFa (fun _ _ h => h)
                have hlt4 : p < wr.heap.size := Nat.lt_of_lt_of_le hp HQ.out.size
                have hsd : SlO w4 p (.slice A4 n4 c4) q.2 := SlO.of_row (HR.out.none_ HQ.out) HF4.out HR4.out (Nat.le_refl _)
                have hsd2 := hsd.none_ (Nat.lt_of_lt_of_le hlt4 HF4.out.size) ((Fr.refl None_ w4).alloc (.cells #[.int .u8 q.1.kind, .int .u32 q.1.epoch, .int .u32 q.1.batch, .int .u16 q.1.index, .int .u16 q.1.count, .int .u32 q.1.block, .int .u32 q.1.more, .slice A4 n4 c4] 56))
                have hpp := (HP.out.none_ hlt4 hFa).snoc (hd := q.1) hsd2 HHD.out
                refine ⟨⟨i + 1, vs ++ (pcells q.1 (.slice A4 n4 c4)).toList, rfl, by omega, ⟨?_⟩, ⟨?_⟩, ⟨RowV.grow hXa hFw HF6.out⟩, ⟨HFS.out.snoc HX.out.2 q.1 (.slice A4 n4 c4) (fun b hb => Nat.le_trans HQ.out.size (HR4.out.blk b hb).1)⟩⟩, by simp [intOf]; omega⟩
                · exact HR6.out
                · rw [HTK.out]
                  exact Case.SPs.fr hpp HF6.out (fun b cs hb hb2 => Go.Proofs.Ytlhgbamajabnfaa.Str.RowV.ne hXa hb (by decide) hb2) (by
                    obtain ⟨bp, bg, vo, f, fg, h9⟩ := HR.out
                    have hb := hFw.heap h9.blk (fun h => h)
                    rw [hb]
                    exact HF6.out.heap hb (Go.Proofs.Ytlhgbamajabnfaa.Str.RowV.ne hXa hb (by decide)))
              · have hin : i = l.length := by omega
                have HP2 : As (SPs wr p vs l) := ⟨by have h := HP.out; rwa [hin, List.take_length] at h⟩
                obtain ⟨_, _, e9, _, hrd, hown9⟩ := HX.out.rd
                injection e9 with e9 _ _
                subst e9
                have HIN := As.mk hin
                have HRD : As (RdC wr A1 (l.length * 8) vs) := ⟨by rw [← hin]; exact hrd.out⟩
                go_wp2_with fail
                go_ret3
                exact .inr (.inr ⟨HB.out.1, Int.not_lt.2 HB.out.2, _, _, _, _, rfl, hln, HRD.out, HP2.out, by rw [← HIN.out]; exact HFS.out, fun ad ea => by have hb := hown9.out ad ea; have := HX.out.blk _ hb; exact ⟨this.1, this.2.2⟩, HQ.out⟩)
end Go.Proofs.Ytlhgbamajabnfaa.SRow2

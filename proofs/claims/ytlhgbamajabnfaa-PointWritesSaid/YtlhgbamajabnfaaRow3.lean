/- stripe.Row where one member is dead, or one page is spoilt. -/
import Derived.Test.YtlhgbamajabnfaaRow2
namespace Go.Proofs.Ytlhgbamajabnfaa.SRow3
open Go.RowKit Go.Proofs.Ytlhgbamajabnfaa.Gab Go.Proofs.Ytlhgbamajabnfaa.Map Go.Proofs.Ytlhgbamajabnfaa.Geom Go.Proofs.Ytlhgbamajabnfaa.Ram Go.Proofs.Ytlhgbamajabnfaa.Par Go.Proofs.Ytlhgbamajabnfaa.Fields Go.Proofs.Ytlhgbamajabnfaa.Ord Go.Proofs.Ytlhgbamajabnfaa.Write Go.Proofs.Ytlhgbamajabnfaa.Stripe Go.Proofs.Ytlhgbamajabnfaa.Ref Go.Proofs.Ytlhgbamajabnfaa.Case Go.Proofs.Ytlhgbamajabnfaa.SRead Go.Proofs.Ytlhgbamajabnfaa.Again Go.Proofs.Ytlhgbamajabnfaa.Kept Go.Proofs.Ytlhgbamajabnfaa.Blank Go.Proofs.Ytlhgbamajabnfaa.SRow Go.Proofs.Ytlhgbamajabnfaa.SRow2
open Go.Proofs.Ytlhgbamajabnfaa.Wr (InR)
open Go.Proofs.Ytlhgbamajabnfaa.Open (openOf)
set_option linter.unusedVariables false

/-- Just member x is gone; none, if x is below 0. -/
structure Dead (s : Ram.St) (x : Int) : Prop where
  lo : -1 ≤ x
  hi : x < s.g.c
  gone : ∀ m, 0 ≤ m → m < s.g.c → (0 < s.gone m ↔ m = x)
def upD (x n : Int) : Int := if 0 ≤ x ∧ x < n then x else -1
def one (x n : Int) : Int := if 0 ≤ x ∧ x < n then 1 else 0
theorem one_0 {x : Int} (h : -1 ≤ x) : one x 0 = 0 ∧ upD x 0 = -1 := by
  unfold one upD
  rw [if_neg (by omega), if_neg (by omega)]
  exact ⟨rfl, rfl⟩
theorem one_next {x n : Int} (h0 : 0 ≤ n) : (n = x → one x n = 0 ∧ one x (n + 1) = 1 ∧ upD x n = -1 ∧ upD x (n + 1) = x) ∧ (n ≠ x → one x (n + 1) = one x n ∧ upD x (n + 1) = upD x n) := by
  unfold one upD
  constructor
  · intro e
    rw [if_neg (by omega), if_pos (by omega), if_neg (by omega), if_pos (by omega)]
    exact ⟨rfl, rfl, rfl, rfl⟩
  · intro e
    by_cases h : 0 ≤ x ∧ x < n
    · rw [if_pos h, if_pos (by omega), if_pos (by omega), if_pos h]
      exact ⟨rfl, rfl⟩
    · rw [if_neg h, if_neg (by omega), if_neg (by omega), if_neg h]
      exact ⟨rfl, rfl⟩
theorem live_one {x c : Int} (h : -1 ≤ x) (hx : x < c) : live c (upD x c) = c - one x c := by
  unfold live upD one
  by_cases e : 0 ≤ x ∧ x < c
  · rw [if_pos e, if_pos e, if_pos (by omega)]
  · rw [if_neg e, if_neg e, if_neg (by omega)]
    omega
theorem one_range (x n : Int) : 0 ≤ one x n ∧ one x n ≤ 1 := by
  unfold one
  split <;> omega
theorem opens_there {s : Ram.St} {p : Nat} {w : World} (hR : RamE w p s) {seg row : Int} {l : List (Head × List Int)} {x : Int} (h : Stands s l seg row x) {m : Int} (h0 : 0 ≤ m) (h1 : m < s.g.c) (hx : m ≠ x) :
    ¬ (allFF (pD s seg row m) ∧ allFF (pO s seg row m)) ∧ ∃ hh, openOf (pD s seg row m) (pO s seg row m) = (hh, true) := by
  obtain ⟨_, _, hh, ho⟩ := page_ok h.ok h.lok h.at_ h0 h1 (seg := seg) (row := row)
  have hp := h.parts h0 h1 hx
  have hr := (page_facts hR seg row m).2.2.2
  rw [hp.1, hp.2]
  rw [hp.2] at hr
  exact ⟨fun hf => not_blank hr ho hf.2, hh, ho⟩
theorem blank_there {s : Ram.St} {seg row n : Int} (h : s.pages n seg row = []) : allFF (pD s seg row n) ∧ allFF (pO s seg row n) := by
  have hpg : s.page n seg row = List.replicate (s.g.s + 64).toNat 255 := by unfold Ram.St.page; rw [if_pos h]
  unfold pD pO
  rw [hpg]
  exact ⟨fun b hb => (List.mem_replicate.1 (List.mem_of_mem_take hb)).2, fun b hb => (List.mem_replicate.1 (List.mem_of_mem_drop hb)).2⟩

theorem Row_whole_at (p : Nat) (s : Ram.St) (seg row x : Int) (w : World) (l : List (Head × List Int)) (hR : RamE w p s) (hd : Dead s x) (hst : Stands s l seg row x) :
    Calls Try.prog 26 #[dev p, .int .i64 seg, .int .i64 row] w (RowPost2 s p l w) := by
  have hc := hst.ok.c
  have h0 := one_0 hd.lo
  have ht : Tally s seg row (fun _ => 0) (fun n => n - one x n) (upD x) := ⟨rfl, by rw [h0.1]; rfl, h0.2, fun n n0 n1 => by
    by_cases e : n = x
    · obtain ⟨e1, e2, e3, e4⟩ := (one_next n0).1 e
      exact .inl ⟨(hd.gone n n0 n1).2 e, by omega, rfl, by show n + 1 - one x (n + 1) = n - one x n; rw [e1, e2]; omega, by rw [e4, e]⟩
    · obtain ⟨e1, e2⟩ := (one_next n0).2 e
      obtain ⟨hf, hh, ho⟩ := opens_there hR hst n0 n1 e
      exact .inr ⟨fun hg => e ((hd.gone n n0 n1).1 hg), e2, .inr ⟨hf, rfl, hh, true, ho, by rw [if_pos rfl]; show n + 1 - one x (n + 1) = n - one x n + 1; rw [e1]; omega⟩⟩⟩
  have hlv := live_one hd.lo hd.hi
  have h1 := one_range x s.g.c
  refine (Row_any p s seg row w l _ _ _ hR hst.at_ ht hst.lok (fun _ _ j hj => ?_)).mono fun e w' h => ?_
  · have hlen := hst.lok.len
    exact Stripe.reads (by omega) hst (fun e => .inl ((hd.gone x (by have := mem_range hst.ok seg row j (by omega) hj; omega) hd.hi).2 rfl))
  · rw [hlv] at h
    rcases h with ⟨h, _⟩ | ⟨_, h, _⟩ | ⟨_, _, h⟩
    · have h' : (0 : Int) = s.g.c - one x s.g.c := h
      omega
    · have h' : s.g.c - one x s.g.c < s.g.c - one x s.g.c := h
      omega
    · exact h

theorem Row_blank_at (p : Nat) (s : Ram.St) (seg row x : Int) (w : World) (hR : RamE w p s) (ha : s.g.At seg row) (hd : Dead s x) (hpn : ∀ n, 0 ≤ n → n < s.g.c → n ≠ x → s.pages n seg row = []) :
    Calls Try.prog 26 #[dev p, .int .i64 seg, .int .i64 row] w (fun e w' => e = .returned (.tuple #[.slice none 0 0, .int .i64 0, .int .i64 0]) ∧ Fr None_ w w') := by
  have hok : s.g.Ok := by obtain ⟨_, _, _, _, _, h⟩ := hR; exact h.ok
  have hc := hok.c
  have h0 := one_0 hd.lo
  have ht : Tally s seg row (fun n => n - one x n) (fun _ => 0) (upD x) := ⟨by show (0 : Int) - one x 0 = 0; rw [h0.1]; rfl, rfl, h0.2, fun n n0 n1 => by
    by_cases e : n = x
    · obtain ⟨e1, e2, e3, e4⟩ := (one_next n0).1 e
      exact .inl ⟨(hd.gone n n0 n1).2 e, by omega, by show n + 1 - one x (n + 1) = n - one x n; rw [e1, e2]; omega, rfl, by rw [e4, e]⟩
    · obtain ⟨e1, e2⟩ := (one_next n0).2 e
      exact .inr ⟨fun hg => e ((hd.gone n n0 n1).1 hg), e2, .inl ⟨blank_there (hpn n n0 n1 e), by show n + 1 - one x (n + 1) = n - one x n + 1; rw [e1]; omega, rfl⟩⟩⟩
  have hlv := live_one hd.lo hd.hi
  have h1 := one_range x s.g.c
  let l0 : List (Head × List Int) := List.replicate (s.g.c - 1).toNat (⟨1, 0, 0, 0, 0, 0, 0⟩, List.replicate s.g.s.toNat 0)
  have hlk : LOk s.g l0 := ⟨by show ((List.replicate (s.g.c - 1).toNat _).length : Int) = _; rw [List.length_replicate]; omega, fun q hq => by
      obtain ⟨_, rfl⟩ := List.mem_replicate.1 hq
      exact ⟨⟨by show (0 : Int) ≤ 1 ∧ (1 : Int) < 256; decide, by show (0 : Int) ≤ 0 ∧ (0 : Int) < 4294967296; decide, by show (0 : Int) ≤ 0 ∧ (0 : Int) < 4294967296; decide, by show (0 : Int) ≤ 0 ∧ (0 : Int) < 65536; decide, by show (0 : Int) ≤ 0 ∧ (0 : Int) < 65536; decide, by show (0 : Int) ≤ 0 ∧ (0 : Int) < 4294967296; decide, by show (0 : Int) ≤ 0 ∧ (0 : Int) < 4294967296; decide⟩, by show (1 : Int) ≤ 1; decide, by show (1 : Int) ≤ 6; decide⟩, fun q hq => by
      obtain ⟨_, rfl⟩ := List.mem_replicate.1 hq
      have := hok.s
      refine ⟨by show ((List.replicate s.g.s.toNat (0 : Int)).length : Int) = s.g.s; rw [List.length_replicate]; omega, fun y hy => ?_⟩
      obtain ⟨_, rfl⟩ := List.mem_replicate.1 hy
      decide⟩
  have hb : s.g.c - one x s.g.c = live s.g.c (upD x s.g.c) := hlv.symm
  refine (Row_any p s seg row w l0 _ _ _ hR ha ht hlk (fun hne _ _ _ => absurd hb hne)).mono fun e w' h => ?_
  rcases h with ⟨_, h⟩ | ⟨h, _⟩ | ⟨h, _⟩
  · exact h
  · exact absurd hb h
  · exact absurd hb h

theorem Row_torn_at (p : Nat) (s : Ram.St) (seg row y : Int) (w : World) (l : List (Head × List Int)) (hR : RamE w p s) (hst : Stands s l seg row y) (hy : 0 ≤ y ∧ y < s.g.c) (hg : ¬ 0 < s.gone y) (ho : (openOf (pD s seg row y) (pO s seg row y)).2 = false) :
    Calls Try.prog 26 #[dev p, .int .i64 seg, .int .i64 row] w (fun e w' => e = .returned (.tuple #[.slice none 0 0, .int .i64 1, .int .i64 0]) ∧ Fr None_ w w') := by
  have hc := hst.ok.c
  have h0 := one_0 (x := y) (by omega)
  have hng : ∀ m, 0 ≤ m → m < s.g.c → ¬ 0 < s.gone m := fun m m0 m1 => by
    by_cases e : m = y
    · rw [e]; exact hg
    · exact hst.gone m m0 m1 e
  obtain ⟨k, hk, hbl⟩ : ∃ k : Int, (k = 0 ∨ k = 1) ∧ ((allFF (pD s seg row y) ∧ allFF (pO s seg row y)) ∧ k = 1 ∨ ¬ (allFF (pD s seg row y) ∧ allFF (pO s seg row y)) ∧ k = 0) := by
    by_cases e : allFF (pD s seg row y) ∧ allFF (pO s seg row y)
    · exact ⟨1, .inr rfl, .inl ⟨e, rfl⟩⟩
    · exact ⟨0, .inl rfl, .inr ⟨e, rfl⟩⟩
  have ht : Tally s seg row (fun n => k * one y n) (fun n => n - one y n) (fun _ => -1) := ⟨by show k * one y 0 = 0; rw [h0.1, Int.mul_zero], by show (0 : Int) - one y 0 = 0; rw [h0.1]; rfl, rfl, fun n n0 n1 => by
    by_cases e : n = y
    · obtain ⟨e1, e2, e3, e4⟩ := (one_next n0).1 e
      subst e
      rcases hbl with ⟨hf, rfl⟩ | ⟨hf, rfl⟩
      · exact .inr ⟨hng n n0 n1, rfl, .inl ⟨hf, by show (1 : Int) * one n (n + 1) = 1 * one n n + 1; rw [e1, e2]; rfl, by show n + 1 - one n (n + 1) = n - one n n; rw [e1, e2]; omega⟩⟩
      · exact .inr ⟨hng n n0 n1, rfl, .inr ⟨hf, by show (0 : Int) * one n (n + 1) = 0 * one n n; omega, _, false, Prod.ext rfl ho, by rw [if_neg (by decide)]; show n + 1 - one n (n + 1) = n - one n n; rw [e1, e2]; omega⟩⟩
    · obtain ⟨e1, e2⟩ := (one_next n0).2 e
      obtain ⟨hf, hh, ho⟩ := opens_there hR hst n0 n1 e
      exact .inr ⟨hng n n0 n1, rfl, .inr ⟨hf, by show k * one y (n + 1) = k * one y n; rw [e1], hh, true, ho, by rw [if_pos rfl]; show n + 1 - one y (n + 1) = n - one y n + 1; rw [e1]; omega⟩⟩⟩
  have h1 : one y s.g.c = 1 := by unfold one; rw [if_pos hy]
  have hb : k * one y s.g.c ≠ live s.g.c (-1) := by rw [h1]; unfold live; rw [if_neg (by decide)]; omega
  have hr : s.g.c - one y s.g.c < live s.g.c (-1) := by rw [h1]; unfold live; rw [if_neg (by decide)]; omega
  refine (Row_any p s seg row w l _ _ _ hR hst.at_ ht hst.lok (fun _ hne _ _ => absurd hr hne)).mono fun e w' h => ?_
  rcases h with ⟨h, _⟩ | ⟨_, _, h⟩ | ⟨_, h, _⟩
  · exact absurd h hb
  · exact h
  · exact absurd hr h
end Go.Proofs.Ytlhgbamajabnfaa.SRow3

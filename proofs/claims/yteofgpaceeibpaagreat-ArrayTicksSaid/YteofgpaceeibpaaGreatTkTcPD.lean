/- array.Tick. | Plain law of ArrayTicks: a page of the dead member is what stood there. | Plain law of ArrayTicks: who is a member is written; a block of the dead member is made anew. -/
import Derived.Test.YteofgpaceeibpaaGreatTkTckF
import Derived.Test.YteofgpaceeibpaaGreatTkTcPB
namespace Go.Proofs.YteofgpaceeibpaaGreat.TckG
open Go.RowKit Gab Wr Geom Ref Nand NandA NandC NandD NandH RemapA VolA MemA MemC ArrA ArrC ArrD ArrG ArrI TckD TckE TckF
open Heap (cell_is heap_set fr_set1)
set_option linter.unusedVariables false
set_option linter.unusedSimpArgs false

theorem msv {w : World} {σ : Ar} {K : ALay} (h : ArAt w σ K) : MSV w (.agg #[.int .u32 σ.set.seq, .slice (some ⟨K.cb, 0, none⟩) σ.s.g.c.toNat K.cc, .int .i64 σ.set.spare, .int .i64 σ.set.dead, .int .i64 σ.set.done]) σ.set :=
  ⟨_, _, _, rfl, h.ccn, h.rd⟩

set_option maxHeartbeats 4000000 in
set_option maxRecDepth 100000 in
theorem Tick_full (σ : Ar) (K : ALay) (w : World) (hR : ArAt w σ K) (hl : σ.lost = false) (hd : σ.set.dead = 255) :
    Calls Tryz.prog 21 #[.pointer (some ⟨K.x, 0, none⟩)] w fun e w' => e = .returned (.tuple #[.bool true, .int .i64 0]) ∧ Fr None_ w w' := by
  have HFU := As.mk (fun (w' : World) (hf : Fr None_ w w') => Full_calls _ _ w' (msv (hR.none_ hf)))
  have hlx : K.x < w.heap.size := (Array.getElem?_eq_some_iff.1 hR.main).1
  obtain ⟨c0, c1, c2, c3, c4, c5, c6, c7, c8, c9, c10, c11⟩ := hR.cs
  rw [hl] at c11
  have HDB := As.mk (show (σ.set.dead == 255) = true from beq_iff_eq.2 hd)
  rw [HDB.out] at HFU
  clear hR hl hd
  go_enter Tryz.func21, Tryz.ntmps21
  go_wp2_with fail
  ((with_reducible refine (HFU.out _ (Fr.refl None_ w)).mono ?_); rintro e w1 ⟨rfl, hf1⟩)
  have HF1 := As.mk hf1
  clear hf1
  go_wp2_with fail
  go_ret2
  exact ⟨rfl, HF1.out⟩

set_option maxHeartbeats 4000000 in
set_option maxRecDepth 100000 in
theorem Tick_none (σ : Ar) (K : ALay) (w : World) (hR : ArAt w σ K) (hl : σ.lost = false) (hd : σ.set.dead ≠ 255) (hsp : σ.set.spare = 255) :
    Calls Tryz.prog 21 #[.pointer (some ⟨K.x, 0, none⟩)] w fun e w' => e = .returned (.tuple #[.bool false, .int .i64 61]) ∧ Fr None_ w w' := by
  have HFU := As.mk (fun (w' : World) (hf : Fr None_ w w') => Full_calls _ _ w' (msv (hR.none_ hf)))
  have HR := As.mk hR
  have hlx : K.x < w.heap.size := (Array.getElem?_eq_some_iff.1 hR.main).1
  obtain ⟨c0, c1, c2, c3, c4, c5, c6, c7, c8, c9, c10, c11⟩ := hR.cs
  rw [hl] at c11
  have HDB := As.mk (show (σ.set.dead == 255) = false from beq_eq_false_iff_ne.2 hd)
  have HSP := As.mk hsp
  rw [HDB.out] at HFU
  clear hR hl hd hsp
  go_enter Tryz.func21, Tryz.ntmps21
  go_wp2_with fail
  ((with_reducible refine (HFU.out _ (Fr.refl None_ w)).mono ?_); rintro e w1 ⟨rfl, hf1⟩)
  have HF1 := As.mk hf1
  have y8 := (HR.out.none_ hf1).cs.2.2.2.2.2.2.2.2.1
  rw [HSP.out] at y8
  clear hf1 c0 c1 c2 c3 c4 c5 c6 c7 c8 c9 c10 c11
  go_wp2_with fail
  go_ret2
  exact ⟨rfl, HF1.out⟩

/-- What a Tick leaves, when a step was made. -/
def TickPost (Φ : Ar → ALay → Prop) (F : Nat → Prop) (w : World) (e : Ending) (w' : World) : Prop :=
  ∃ τ K, Φ τ K ∧ e = .returned (.tuple #[.bool (τ.set.dead == 255), .int .i64 0]) ∧ ArAt w' τ.save.1 K ∧ Fr F w w'

set_option maxHeartbeats 4000000 in
set_option maxRecDepth 100000 in
theorem Tick_step (σ : Ar) (K : ALay) (w : World) (Φ : Ar → ALay → Prop) (F : Nat → Prop) (hR : ArAt w σ K) (hl : σ.lost = false) (hd : σ.set.dead ≠ 255) (hsp : σ.set.spare ≠ 255)
    (hst : ∀ w', Fr None_ w w' → Calls Tryz.prog 53 #[.pointer (some ⟨K.x, 0, none⟩)] w' fun e w'' => e = .returned (.int .i64 0) ∧ ∃ τ K', Φ τ K' ∧ ArAt w'' τ K' ∧ Fr F w w'')
    (hΦ : ∀ τ K', Φ τ K' → K'.x = K.x ∧ τ.set.seq < 4294967295 ∧ (∃ n, τ.s.Safe (n + 34)) ∧ τ.save.2 = 0 ∧ ∀ i, AF K' τ i → F i) :
    Calls Tryz.prog 21 #[.pointer (some ⟨K.x, 0, none⟩)] w (TickPost Φ F w) := by
  have HFU := As.mk (fun (w' : World) (hf : Fr None_ w w') => Full_calls _ _ w' (msv (hR.none_ hf)))
  have HFU2 := As.mk (fun (τ : Ar) (K' : ALay) (w' : World) (hA : ArAt w' τ K') => Full_calls _ _ w' (msv hA))
  have HSV := As.mk (fun (τ : Ar) (K' : ALay) (w' : World) (hA : ArAt w' τ K') (h : Φ τ K') => by
    obtain ⟨h1, h2, ⟨n, h3⟩, h4, h5⟩ := hΦ τ K' h
    exact (save_calls τ K' w' hA h2 n h3).mono (R' := fun e w'' => e = .returned (.int .i64 0) ∧ ArAt w'' τ.save.1 K' ∧ Fr F w' w'') (fun e w'' h => ⟨by rw [← h4]; exact h.1, h.2.1, h.2.2.mono (fun i _ hi => h5 i hi)⟩))
  have HR := As.mk hR
  have HST := As.mk hst
  have HKX := As.mk (fun τ K' h => (hΦ τ K' h).1)
  have hlx : K.x < w.heap.size := (Array.getElem?_eq_some_iff.1 hR.main).1
  obtain ⟨c0, c1, c2, c3, c4, c5, c6, c7, c8, c9, c10, c11⟩ := hR.cs
  rw [hl] at c11
  have HDB := As.mk (show (σ.set.dead == 255) = false from beq_eq_false_iff_ne.2 hd)
  have hsb : (σ.set.spare == 255) = false := beq_eq_false_iff_ne.2 hsp
  rw [HDB.out] at HFU
  clear hR hl hd hsp hst hΦ
  go_enter Tryz.func21, Tryz.ntmps21
  go_wp2_with fail
  ((with_reducible refine (HFU.out _ (Fr.refl None_ w)).mono ?_); rintro e w1 ⟨rfl, hf1⟩)
  have HST1 := As.mk (HST.out w1 hf1)
  have y8 := (HR.out.none_ hf1).cs.2.2.2.2.2.2.2.2.1
  have hl1 : K.x < w1.heap.size := Nat.lt_of_lt_of_le hlx hf1.size
  clear hf1 c0 c1 c2 c3 c4 c5 c6 c7 c8 c9 c10 c11
  go_wp2_with fail
  ((with_reducible refine (HST1.out).mono ?_); rintro e w2 ⟨rfl, τ, K', hφ, hA2, hf2⟩)
  have HF2 := As.mk hf2
  have HPH := As.mk hφ
  have HA2 := As.mk hA2
  have hkx := HKX.out τ K' hφ
  obtain ⟨_, _, _, _, _, _, d6, d7, d8, d9, d10, _⟩ := hA2.cs
  have HFU3 := As.mk (HFU2.out τ K' w2 hA2)
  rw [hkx] at d6 d7 d8 d9 d10
  clear hf2 hφ hA2 y8 HFU2 HFU HST1
  go_wp2_with fail
  ((with_reducible refine (HFU3.out).mono ?_); rintro e w3 ⟨rfl, hf3⟩)
  have HSV3 := As.mk (HSV.out τ K' w3 (HA2.out.none_ hf3) HPH.out)
  rw [hkx] at HSV3
  have HF3 := As.mk (HF2.out.after hf3 (fun _ _ h => h.elim))
  clear hf3 d6 d7 d8 d9 d10 HFU3
  go_wp2_with fail
  ((with_reducible refine (HSV3.out).mono ?_); rintro e w4 ⟨rfl, hA4, hf4⟩)
  have HA4 := As.mk hA4
  have HF4 := As.mk (HF3.out.after hf4 (fun _ _ h => h))
  clear hA4 hf4
  go_wp2_with fail
  go_ret2
  unfold TickPost
  exact ⟨τ, K', HPH.out, rfl, HA4.out, HF4.out⟩
end Go.Proofs.YteofgpaceeibpaaGreat.TckG
namespace Go.Proofs.YteofgpaceeibpaaGreat.TcPC
open Go.RowKit Gab Geom Par Fields Seal Nand NandC NandH RemapA VolA MemA MemC ArrA ArrC ArrD AOrd AWrA StgA ARead AGet Miss AAgn AMade HeldA AllA PlA AStr TcPA TcPB TckA TckB TckC
open Wr (InR)
open Go.Proofs.YteofgpaceeibpaaGreat.Open (openOf)
open Blank (allFF)
open PlB (blank_not)
set_option linter.unusedVariables false
set_option linter.unusedSimpArgs false

theorem ff_is {xs : List Int} (h : allFF xs) : xs = List.replicate xs.length 255 := List.eq_replicate_iff.2 ⟨rfl, h⟩
theorem rep_ff (n : Nat) : allFF (List.replicate n 255) := fun b hb => (List.mem_replicate.1 hb).2
theorem rep_in (n : Nat) : InR 256 (List.replicate n 255) := fun x hx => by obtain ⟨_, rfl⟩ := List.mem_replicate.1 hx; decide
theorem not_ff {g : Geo} {x : List Int × List Int} {h : Head} (h1 : x.1.length = g.s.toNat) (h2 : x.2.length = 64) (ho : openOf x.1 x.2 = (h, true)) : ¬ (allFF x.1 ∧ allFF x.2) := fun hf => by
  have e1 := ff_is hf.1
  have e2 := ff_is hf.2
  rw [h1] at e1
  rw [h2] at e2
  have h3 := blank_not g
  rw [e1, e2] at ho
  rw [ho] at h3
  cases h3
theorem PgS.any {σ τ : Ar} {K : ALay} {x y : List Int × List Int} {w : World} {e : Ending} {w' : World} (h : PgS σ τ K x false w e w') : PgS σ τ K y false w e w' := by
  obtain ⟨⟨A, n, c, B, k, j, h1, _⟩, h2, h3⟩ := h
  exact ⟨⟨A, n, c, B, k, j, h1, fun e => by cases e⟩, h2, h3⟩
/-- All pages of a stripe are read, one behind the other. -/
theorem rows_ok {σ : Ar} {g : Geo} {V : View} {ch : Nat → Nat} {dm seg row : Int} {l : List (Head × List Int)} (K : ALay) (h : Rdy σ g V ch dm) (hr : RowIs g V ch dm seg row l) (k0 n0 : Nat) : ∀ n, n ≤ l.length → σ.s.Safe (n0 + k0 + (n + 1) * g.c.toNat) →
    ∃ ex : Nat → Nat, ex 0 = k0 ∧ (∀ s, s < n → RdOk K (adv σ (ex s)) (adv σ (ex (s + 1))) seg row s (l.getD s noPage)) ∧ ex n ≤ k0 + n * g.c.toNat
  | 0, _, _ => ⟨fun _ => k0, rfl, fun s hs => absurd hs (Nat.not_lt_zero _), by simp⟩
  | n + 1, hn, hs => by
    have e1 : (n + 1 + 1) * g.c.toNat = (n + 1) * g.c.toNat + g.c.toNat := Nat.succ_mul _ _
    have e2 : (n + 1) * g.c.toNat = n * g.c.toNat + g.c.toNat := Nat.succ_mul _ _
    obtain ⟨ex, x0, x1, x2⟩ := rows_ok K h hr k0 n0 n (by omega) (hs.le (by omega))
    obtain ⟨k, hk, hrd⟩ := row_ok K (h.adv (ex n)) hr (sl := n) (by omega) n0 (h.safe (ex n) (hs.le (by omega)))
    refine ⟨fun i => if i ≤ n then ex i else ex n + k, by show (if 0 ≤ n then ex 0 else _) = k0; rw [if_pos (Nat.zero_le _), x0], fun s hs2 => ?_, ?_⟩
    · by_cases e : s < n
      · show RdOk K (adv σ (if s ≤ n then ex s else _)) (adv σ (if s + 1 ≤ n then ex (s + 1) else _)) seg row s _
        rw [if_pos (by omega), if_pos (by omega)]
        exact x1 s e
      · obtain rfl : s = n := by omega
        show RdOk K (adv σ (if s ≤ s then ex s else _)) (adv σ (if s + 1 ≤ s then _ else ex s + k)) seg row s _
        rw [if_pos (Nat.le_refl _), if_neg (by omega), ← adv_adv]
        exact hrd
    · show (if n + 1 ≤ n then _ else ex n + k) ≤ _
      rw [if_neg (by omega)]
      omega
theorem ideal_mate {g : Geo} {H : Held} {m : Int} (h0 : 0 ≤ m) (h1 : m < 2 * g.pairs) (b q : Nat) (hb : b = 4 ∨ b = 5) : ideal g H (mate m).toNat b q = ideal g H m.toNat b q := by
  unfold ideal
  rcases hb with rfl | rfl
  · rw [if_pos rfl, if_pos rfl]
    have e1 : (mate m).toNat / 2 = m.toNat / 2 := by unfold mate; omega
    rw [e1]
    have e2 : (((mate m).toNat : Nat) : Int) < 2 * g.pairs ↔ ((m.toNat : Nat) : Int) < 2 * g.pairs := by unfold mate; omega
    simp only [e2]
  · rfl
theorem ideal_else (g : Geo) (H : Held) (n b q : Nat) (hb : ¬ (b = 4 ∨ 6 ≤ b ∧ b < 10 ∧ q < (H.rows (b - 6)).length)) : ideal g H n b q = none := by
  unfold ideal
  rw [if_neg (fun e => hb (.inl e))]
  split
  · rename_i h
    rw [if_neg (fun e => hb (.inr ⟨h.1, h.2, e⟩))]
  · rfl
/-- A page that stands is sealed. -/
theorem ideal_ok {g : Geo} (hg : g.Ok) {H : Held} (hH : HOk g H) {n b q : Nat} (hn : (n : Int) < g.c) {x : List Int × List Int} (hx : ideal g H n b q = some x) : (x.1.length : Int) = g.s ∧ x.2.length = 64 ∧ InR 256 x.1 ∧ InR 256 x.2 ∧ ∃ h, openOf x.1 x.2 = (h, true) := by
  unfold ideal at hx
  have hb := hg.b
  have hp := hg.p
  by_cases h4 : b = 4
  · rw [if_pos h4] at hx
    by_cases hj : (n : Int) < 2 * g.pairs ∧ q * g.pairs.toNat + n / 2 < H.staged.length
    · rw [if_pos hj] at hx
      injection hx with hx
      subst hx
      obtain ⟨q1, q2, q3, q4, q5⟩ := hH.st _ hj.2
      exact ⟨q4, sealOf_len _ _ _, q5, seal_range nil_range, _, OS.open_seal q1 q2 q3 nil_range⟩
    · rw [if_neg hj] at hx
      cases hx
  · rw [if_neg h4] at hx
    by_cases h6 : 6 ≤ b ∧ b < 10
    · rw [if_pos h6] at hx
      by_cases hq : q < (H.rows (b - 6)).length
      · rw [if_pos hq] at hx
        injection hx with hx
        subst hx
        have hl := hH.row (b - 6) (by omega) q hq
        have hlen := hH.len (b - 6) (by omega)
        obtain ⟨a1, a2, a3⟩ := page_ok hg hl (seg := b) (row := q) (m := n) ⟨by omega, by omega⟩ (by omega) hn
        obtain ⟨b1, b2⟩ := page_range hg hl (seg := b) (row := q) (m := n) (by omega) hn
        exact ⟨a1, a2, b1, b2, a3⟩
      · rw [if_neg hq] at hx
        cases hx
    · rw [if_neg h6] at hx
      cases hx
/-- The page of the dead member at a row. -/
def pgd (g : Geo) (H : Held) (m b q : Nat) : List Int × List Int := (ideal g H m b q).getD ([], [])

theorem page_law {τ : Ar} {g : Geo} {V : View} {H : Held} {m : Nat} {ch : Nat → Nat} (K : ALay) (h : Rdy τ g V ch m) (hS : Stand g V ch m H) (hH : HOk g H) {b q : Nat} (hb2 : 2 ≤ b) (hb : (b : Int) < g.b - 5) (hq : (q : Int) < g.p) (n0 : Nat) (hs : τ.s.Safe (n0 + 400)) (w : World) (hA : ArAt w τ K) :
    Calls Tryz.prog 114 #[.pointer (some ⟨K.x, 0, none⟩), .int .i64 (b : Int), .int .i64 (q : Int)] w fun e w' => ∃ k, k ≤ 300 ∧ PgS τ (adv τ k) K (pgd g H m b q) (ideal g H m b q).isSome w e w' := by
  have hg := h.sees.g
  have hgb := h.ok.b
  have hgc := h.ok.c
  have hgs := h.ok.s
  have hdm := h.dead
  rw [if_neg (by omega)] at hdm
  have hm1 := h.rng.2
  obtain ⟨h1, h2, h3⟩ := pairs_is h.ok
  have hat : τ.s.g.At b q := by rw [hg]; exact ⟨⟨by omega, hb⟩, ⟨by omega, hq⟩⟩
  have hat' : g.At b q := ⟨⟨by omega, hb⟩, ⟨by omega, hq⟩⟩
  by_cases h45 : b = 4 ∨ b = 5
  · have h45I : (b : Int) = 4 ∨ (b : Int) = 5 := by omega
    by_cases hmp : 2 * g.pairs ≤ (m : Int)
    · have hn : ideal g H m b q = none := by
        rcases h45 with rfl | rfl
        · unfold ideal
          rw [if_pos rfl, if_neg (fun e => by omega)]
        · exact ideal_else _ _ _ _ _ (by omega)
      rw [hn]
      exact (page_none τ K b q w hA h45I (by rw [hg, hdm]; exact hmp)).mono (fun e w' h => ⟨0, by decide, PgS.any h⟩)
    · have hmt : 0 ≤ mate (m : Int) ∧ mate (m : Int) < 2 * g.pairs ∧ mate (m : Int) ≠ m := by unfold mate; omega
      have hmn : (((mate (m : Int)).toNat : Nat) : Int) < g.c := by omega
      have hmne : (((mate (m : Int)).toNat : Nat) : Int) ≠ m := by omega
      have hid := hS (mate (m : Int)).toNat hmn hmne b hb2 hb q
      rw [ideal_mate (by omega) (by omega) b q h45, Int.toNat_natCast] at hid
      rcases hx : ideal g H m b q with _ | x
      · rw [hx] at hid
        have hby := h.sees.blank hid
        have hop : openOf (List.replicate g.s.toNat 255) (List.replicate 64 255) = ((openOf (List.replicate g.s.toNat 255) (List.replicate 64 255)).1, false) := by rw [← blank_not g]
        have hpg := page_staged τ (adv τ 1) K b q (List.replicate g.s.toNat 255, List.replicate 64 255) _ false w hA h.there hat h45I (by rw [hdm]; omega) (by rw [hdm, hg]; omega) (by rw [hdm]; exact h.one q 0 hmn hmne hb hby ⟨rep_in _, rep_in _⟩) hop 0 (hs.le (by omega))
        exact hpg.mono (fun e w' h => ⟨1, by decide, PgS.any h⟩)
      · rw [hx] at hid
        have hby := h.sees.bytes hid
        obtain ⟨a1, a2, a3, a4, hh, a5⟩ := ideal_ok h.ok hH (by omega) hx
        have hpg := page_staged τ (adv τ 1) K b q x hh true w hA h.there hat h45I (by rw [hdm]; omega) (by rw [hdm, hg]; omega) (by rw [hdm]; exact h.one q 0 hmn hmne hb hby ⟨a3, a4⟩) a5 0 (hs.le (by omega))
        exact hpg.mono (fun e w' h => ⟨1, by decide, by unfold pgd; rw [hx]; exact h⟩)
  · have h45I : ¬ ((b : Int) = 4 ∨ (b : Int) = 5) := by omega
    by_cases hrow : 6 ≤ b ∧ b < 10 ∧ q < (H.rows (b - 6)).length
    · obtain ⟨h6, h10, hql⟩ := hrow
      have hri := hS.rowIs h.ok hH (k := b - 6) (by omega) hql
      rw [show (6 : Int) + ((b - 6 : Nat) : Int) = (b : Int) by omega] at hri
      have hi := ideal_row (g := g) (H := H) (n := m) (k := b - 6) (by omega) hql
      rw [show 6 + (b - 6) = b by omega, show (6 : Int) + ((b - 6 : Nat) : Int) = (b : Int) by omega] at hi
      rw [hi]
      unfold pgd
      rw [hi]
      generalize hlx : (H.rows (b - 6)).getD q [] = l at *
      have hlen := hri.ok.len
      have hfit : (l.length + 1) * g.c.toNat ≤ 17 * 16 := Nat.mul_le_mul (by omega) (by omega)
      have hfit2 : l.length * g.c.toNat ≤ 16 * 16 := Nat.mul_le_mul (by omega) (by omega)
      have hrd := rdn_le m g.c.toNat
      obtain ⟨ex, x0, x1, x2⟩ := rows_ok K h hri (rdn m g.c.toNat) n0 l.length (Nat.le_refl _) (hs.le (by omega))
      have hsc := scan_of (seg := (b : Int)) (row := (q : Int)) true h hat' n0 (hs.le (by omega)) (fun n hn hne => by
        obtain ⟨a1, a2, hh, a3⟩ := page_ok h.ok hri.ok hat' (m := n) (by omega) hn
        refine ⟨_, fun s hs => hs.bytes (hri.pg n hn hne), page_range h.ok hri.ok (by omega) hn, fun _ => ⟨by rw [a3], not_ff (g := g) (by omega) a2 a3⟩, fun e => by cases e⟩)
      have hpw := page_whole τ K b q m (fun i => adv τ (rdn m i)) (fun s => adv τ (ex s)) l w hA hat h45I hsc ⟨by rw [hg]; exact hlen, fun s _ => (adv_same τ _).2.2.2, fun s hs => x1 s hs, fun s hs => (hri.ok.head _ (getD_mem hs noPage)).1⟩ (by show adv τ (ex 0) = adv τ (rdn m τ.s.g.c.toNat); rw [x0, hg]) ((adv_same τ _).2.2.2) hdm (by omega) (fun q hq => by rw [hg]; exact hri.ok.data q hq)
      rw [hg] at hpw
      refine hpw.mono (fun e w' h => ⟨ex (g.c - 1).toNat, ?_, h⟩)
      rw [show (g.c - 1).toNat = l.length by omega]
      omega
    · have hn : ideal g H m b q = none := ideal_else _ _ _ _ _ (by omega)
      rw [hn]
      have hsc := scan_of (seg := (b : Int)) (row := (q : Int)) false h hat' n0 (hs.le (by omega)) (fun n hn hne => by
        refine ⟨_, fun s hs => hs.blank (?_ : V.pg (ch n) ((b : Int).toNat + 2) (q : Int).toNat = none), ⟨rep_in _, rep_in _⟩, fun e => (by cases e), fun _ => ⟨rep_ff _, rep_ff _⟩⟩
        rw [Int.toNat_natCast, Int.toNat_natCast, hS n hn hne b hb2 hb q]
        exact ideal_else _ _ _ _ _ (by omega))
      have hpb := page_blank τ K b q m (fun i => adv τ (rdn m i)) (fun i => adv τ i) w hA hat h45I hsc
      have hrd := rdn_le m τ.s.g.c.toNat
      rw [hg] at hrd
      exact hpb.mono (fun e w' h => ⟨_, by rw [hg]; omega, PgS.any h⟩)
end Go.Proofs.YteofgpaceeibpaaGreat.TcPC
namespace Go.Proofs.YteofgpaceeibpaaGreat.TcPD
open Go.RowKit Gab Geom Par Fields Seal Nand NandC NandH RemapA VolA MemA MemB MemC ArrA ArrC ArrD ArrG AOrd AWrA StgA HeldA PlA AStr TcPA TcPB TcPC TckB
set_option linter.unusedVariables false
set_option linter.unusedSimpArgs false

/-! ### who is a member is written -/
/-- The blocks behind the tables and the sets are as they were. -/
structure Off (V W : View) : Prop where
  dead : ∀ c, W.dead c = V.dead c
  pg : ∀ c b q, 4 ≤ b → W.pg c b q = V.pg c b q
  nx : ∀ c b, 4 ≤ b → W.nx c b = V.nx c b
theorem Off.refl (V : View) : Off V V := ⟨fun _ => rfl, fun _ _ _ _ => rfl, fun _ _ _ => rfl⟩
theorem Off.trans {U V W : View} (h : Off U V) (k : Off V W) : Off U W := ⟨fun c => (k.dead c).trans (h.dead c), fun c b q hb => (k.pg c b q hb).trans (h.pg c b q hb), fun c b hb => (k.nx c b hb).trans (h.nx c b hb)⟩
theorem Off.put (V : View) (c b : Nat) (x : List Int × List Int) (hb : b < 4) : Off V (V.put c b x) :=
  ⟨fun _ => rfl, fun c' b' q h => by show (if c' = c ∧ b' = b then _ else V.pg c' b' q) = _; rw [if_neg (by omega)], fun c' b' h => by show (if c' = c ∧ b' = b then _ else V.nx c' b') = _; rw [if_neg (by omega)]⟩
theorem saveN_any {σ : Ar} {g : Geo} {V : View} (hs : Sees σ.s g V) (hg : g.Ok) (hv : ∀ c, σ.vol c = none ∨ (σ.vol c = some (tb g) ∧ V.dead c = false)) (b : Nat) (d o : List Int) (hb : b < 2) : ∀ i, ∃ s' V', Sees s' g V' ∧ σ.saveN b d o i = ({ σ with s := s' }, 0) ∧ Off V V'
  | 0 => ⟨σ.s, V, hs, rfl, Off.refl V⟩
  | i + 1 => by
    have hgb := hg.b
    obtain ⟨s1, V1, h1, e1, o1⟩ := saveN_any hs hg hv b d o hb i
    unfold Ar.saveN
    rw [e1]
    dsimp only
    rw [if_pos rfl]
    unfold Ar.save1
    dsimp only
    rcases hv i with hn | ⟨hn, hd⟩
    · rw [hn]
      exact ⟨s1, V1, h1, rfl, o1⟩
    · obtain ⟨s2, h2, e2⟩ := h1.put (c := i) (b + 2) d o ((o1.dead i).trans hd)
      rw [hn]
      dsimp only
      rw [at_fmt hg (by omega), e2]
      exact ⟨s2, _, h2, rfl, o1.trans (Off.put V1 i (b + 2) (d, o) (by omega))⟩
theorem save_any {σ : Ar} {g : Geo} {V : View} (hs : Sees σ.s g V) (hg : g.Ok) (hv : ∀ c, σ.vol c = none ∨ (σ.vol c = some (tb g) ∧ V.dead c = false)) (hq : 0 ≤ σ.set.seq) (n : Nat) (hsf : σ.s.Safe (n + 34)) :
    ∃ s' V', Sees s' g V' ∧ σ.save = ({ σ.up with s := s' }, 0) ∧ Off V V' ∧ s'.Safe n := by
  have hgc := hg.c
  obtain ⟨s', V', h1, e1, o1⟩ := saveN_any (σ := σ.up) hs hg hv (σ.up.set.seq % 2).toNat (σ.up.set.page σ.s.g) (σ.up.set.oob σ.s.g) (by omega) σ.s.n
  have hn : σ.s.n ≤ 17 := by unfold St.n; rw [hs.g]; omega
  have hf := safe_saveN (σ := σ.up) (σ.up.set.seq % 2).toNat (σ.up.set.page σ.s.g) (σ.up.set.oob σ.s.g) σ.s.n n (hsf.le (by omega))
  rw [e1] at hf
  exact ⟨s', V', h1, e1, o1, hf⟩
theorem Rdy.off {σ : Ar} {g : Geo} {V W : View} {ch : Nat → Nat} {dm : Int} (h : Rdy σ g V ch dm) {s' : St} (hs : Sees s' g W) (ho : Off V W) : Rdy { σ.up with s := s' } g W ch dm :=
  ⟨hs, h.ok, h.lost, h.dead, h.rng, h.chip, h.vol, fun n h1 h2 => (ho.dead _).trans (h.live n h1 h2)⟩
theorem Stand.off {g : Geo} {V W : View} {ch : Nat → Nat} {dm : Int} {H : Held} (h : Stand g V ch dm H) (ho : Off V W) : Stand g W ch dm H :=
  fun n hn hne b hb2 hb q => (ho.pg _ _ _ (by omega)).trans (h n hn hne b hb2 hb q)

/-! ### a block is filled -/
def fillV (V : View) (c b r : Nat) (f : Nat → Option (List Int × List Int)) : View :=
  ⟨V.dead, fun c' b' q => if c' = c ∧ b' = b then (if q < r then f q else none) else V.pg c' b' q, fun c' b' => if c' = c ∧ b' = b then (r : Int) else V.nx c' b'⟩
theorem fill_zero {s : St} {g : Geo} {V : View} {c b : Nat} (f : Nat → Option (List Int × List Int)) (h : Sees s g (V.erase c b)) : Sees s g (fillV V c b 0 f) :=
  h.as (fun _ => rfl) (fun c' b' q => by
    show (if c' = c ∧ b' = b then none else V.pg c' b' q) = if c' = c ∧ b' = b then (if q < 0 then f q else none) else V.pg c' b' q
    split
    · rw [if_neg (Nat.not_lt_zero _)]
    · rfl) (fun c' b' => rfl)
theorem fill_prog {s : St} {g : Geo} {V : View} {c b r : Nat} {f : Nat → Option (List Int × List Int)} (h : Sees s g (fillV V c b r f)) (hd : V.dead c = false) {x : List Int × List Int} (hf : f r = some x) : ∃ s', Sees s' g (fillV V c b (r + 1) f) ∧ s.prog c b r x.1 x.2 = (s', 0) := by
  obtain ⟨s', h1, e1⟩ := h.prog (c := c) b r x.1 x.2 hd (by show (if c = c ∧ b = b then (r : Int) else _) = r; rw [if_pos ⟨rfl, rfl⟩])
  refine ⟨s', h1.as (fun _ => rfl) (fun c' b' q => ?_) (fun c' b' => ?_), e1⟩
  · show (if c' = c ∧ b' = b ∧ q = r then some (x.1, x.2) else if c' = c ∧ b' = b then (if q < r then f q else none) else V.pg c' b' q) = if c' = c ∧ b' = b then (if q < r + 1 then f q else none) else V.pg c' b' q
    by_cases hcb : c' = c ∧ b' = b
    · rw [if_pos hcb, if_pos hcb]
      by_cases hq : q = r
      · subst hq
        rw [if_pos ⟨hcb.1, hcb.2, rfl⟩, if_pos (Nat.lt_succ_self _), hf]
      · rw [if_neg (fun h => hq h.2.2)]
        by_cases hl : q < r
        · rw [if_pos hl, if_pos (by omega)]
        · rw [if_neg hl, if_neg (by omega)]
    · rw [if_neg hcb, if_neg hcb, if_neg (fun h => hcb ⟨h.1, h.2.1⟩)]
  · show (if c' = c ∧ b' = b then (r : Int) + 1 else if c' = c ∧ b' = b then (r : Int) else V.nx c' b') = if c' = c ∧ b' = b then ((r + 1 : Nat) : Int) else V.nx c' b'
    split
    · push_cast; rfl
    · rfl
theorem fill_wrong {s : St} {g : Geo} {V : View} {c b r q : Nat} {f : Nat → Option (List Int × List Int)} (h : Sees s g (fillV V c b r f)) (hd : V.dead c = false) (hq : q ≠ r) (d o : List Int) : (s.prog c b q d o).2 ≠ 0 := by
  have hn : (s.blk c b).next = (r : Int) := by
    rw [h.nx]
    show (if c = c ∧ b = b then (r : Int) else _) = r
    rw [if_pos ⟨rfl, rfl⟩]
  unfold St.prog
  rw [h.start_ok hd, hn]
  dsimp only
  rw [if_pos rfl, if_neg (by omega)]
  show (73 : Int) ≠ 0
  decide
theorem fill_stand {g : Geo} {V : View} {H : Held} {m c b r : Nat} {f : Nat → Option (List Int × List Int)} (h : Stand g V (fun n => n) m H) (hc : g.c ≤ c) : Stand g (fillV V c b r f) (fun n => n) m H := fun n hn hne b' hb2 hb q => by
  show (if n = c ∧ b' + 2 = b then _ else V.pg n (b' + 2) q) = _
  rw [if_neg (by omega)]
  exact h n hn hne b' hb2 hb q
/-- How many rows there are. -/
theorem count (p : Nat → Prop) [DecidablePred p] (hd : ∀ q, p (q + 1) → p q) : ∀ P, ¬ p P → ∃ N, N ≤ P ∧ ∀ q, p q ↔ q < N
  | 0, h => ⟨0, Nat.le_refl _, fun q => ⟨fun hp => by
      have : ∀ k, p k → p 0 := fun k => by
        induction k with
        | zero => exact fun h => h
        | succ k ih => exact fun h => ih (hd k h)
      exact absurd (this q hp) h, fun h => absurd h (Nat.not_lt_zero _)⟩⟩
  | P + 1, h => by
    by_cases hP : p P
    · have hdown : ∀ k j, p (j + k) → p j := fun k => by
        induction k with
        | zero => exact fun j h => h
        | succ k ih => exact fun j h => ih j (hd _ h)
      refine ⟨P + 1, Nat.le_refl _, fun q => ⟨fun hq => ?_, fun hq => ?_⟩⟩
      · by_cases hl : q < P + 1
        · exact hl
        · exact absurd (hdown (q - (P + 1)) (P + 1) (by rw [show P + 1 + (q - (P + 1)) = q by omega]; exact hq)) h
      · exact hdown (P - q) q (by rw [show q + (P - q) = P by omega]; exact hP)
    · obtain ⟨N, h1, h2⟩ := count p hd P hP
      exact ⟨N, by omega, h2⟩
theorem ideal_count {g : Geo} (hg : g.Ok) {H : Held} (hH : HOk g H) (m b : Nat) : ∃ N, N ≤ g.p.toNat ∧ ∀ q, (ideal g H m b q).isSome = decide (q < N) := by
  have hp := hg.p
  obtain ⟨h1, h2, h3⟩ := pairs_is hg
  have hone : ∀ k, 1 * 1 ≤ (k + 1) * g.pairs.toNat := fun k => Nat.mul_le_mul (by omega) (by omega)
  have key : ∃ N, N ≤ g.p.toNat ∧ ∀ q, ((ideal g H m b q).isSome = true) ↔ q < N := by
    refine count (fun q => (ideal g H m b q).isSome = true) (fun q hq => ?_) g.p.toNat ?_
    · have hq' : (ideal g H m b (q + 1)).isSome = true := hq
      show (ideal g H m b q).isSome = true
      unfold ideal at hq' ⊢
      by_cases h4 : b = 4
      · rw [if_pos h4] at hq' ⊢
        by_cases hj : (m : Int) < 2 * g.pairs ∧ (q + 1) * g.pairs.toNat + m / 2 < H.staged.length
        · rw [if_pos ⟨hj.1, by have := hj.2; rw [Nat.succ_mul] at this; omega⟩]
          rfl
        · rw [if_neg hj] at hq'
          cases hq'
      · rw [if_neg h4] at hq' ⊢
        by_cases h6 : 6 ≤ b ∧ b < 10
        · rw [if_pos h6] at hq' ⊢
          by_cases hl : q + 1 < (H.rows (b - 6)).length
          · rw [if_pos (by omega)]
            rfl
          · rw [if_neg hl] at hq'
            cases hq'
        · rw [if_neg h6] at hq'
          cases hq'
    · intro hq
      have hq' : (ideal g H m b g.p.toNat).isSome = true := hq
      unfold ideal at hq'
      by_cases h4 : b = 4
      · rw [if_pos h4] at hq'
        by_cases hj : (m : Int) < 2 * g.pairs ∧ g.p.toNat * g.pairs.toNat + m / 2 < H.staged.length
        · have hf := hH.few
          unfold Geo.room at hf
          have e : ((g.p.toNat * g.pairs.toNat : Nat) : Int) = g.p * g.pairs := by
            push_cast
            rw [show ((g.p.toNat : Nat) : Int) = g.p by omega, show ((g.pairs.toNat : Nat) : Int) = g.pairs by omega]
          omega
        · rw [if_neg hj] at hq'
          cases hq'
      · rw [if_neg h4] at hq'
        by_cases h6 : 6 ≤ b ∧ b < 10
        · rw [if_pos h6] at hq'
          by_cases hl : g.p.toNat < (H.rows (b - 6)).length
          · have := hH.len (b - 6) (by omega)
            omega
          · rw [if_neg hl] at hq'
            cases hq'
        · rw [if_neg h6] at hq'
          cases hq'
  obtain ⟨N, hN, h⟩ := key
  exact ⟨N, hN, fun q => by
    by_cases hq : q < N
    · rw [decide_eq_true hq]; exact (h q).2 hq
    · rw [decide_eq_false hq]
      cases hx : (ideal g H m b q).isSome
      · rfl
      · exact absurd ((h q).1 hx) hq⟩

/-! ### the rows of a block -/
def LikeP (σ : Ar) (g : Geo) (V : View) (H : Held) (m b n0 : Nat) (r : Nat) (τ : Ar) : Prop :=
  Rdy τ g (fillV V g.c.toNat (b + 2) r (ideal g H m b)) (fun n => n) m ∧ τ.s.Safe (n0 + (g.p.toNat - r) * 500) ∧ τ.set = σ.set ∧ τ.vol = σ.vol
def MidP (σ : Ar) (g : Geo) (V : View) (H : Held) (m b n0 : Nat) (r : Nat) (τ : Ar) : Prop :=
  Rdy τ g (fillV V g.c.toNat (b + 2) r (ideal g H m b)) (fun n => n) m ∧ τ.s.Safe (n0 + (g.p.toNat - (r + 1)) * 500 + 1) ∧ τ.set = σ.set ∧ τ.vol = σ.vol
theorem steps_of {σ : Ar} {g : Geo} {V : View} {H : Held} {m b n0 N : Nat} (K : ALay) (h : LikeP σ g V H m b n0 0 σ) (hS : Stand g V (fun n => n) m H) (hH : HOk g H) (hb2 : 2 ≤ b) (hb : (b : Int) < g.b - 5) (hlive : V.dead g.c.toNat = false) (hvol : σ.vol g.c.toNat = some (tb g)) (hN : N ≤ g.p.toNat) (hid : ∀ q, (ideal g H m b q).isSome = decide (q < N)) :
    TckD.Steps σ K b g.c.toNat (tb g) N (LikeP σ g V H m b n0) (MidP σ g V H m b n0) (pgd g H m b) := by
  have hok := h.1.ok
  have hg := h.1.sees.g
  have hgc := hok.c
  have hgp := hok.p
  have hmr := h.1.rng
  have hsome : ∀ q, q < N → ideal g H m b q = some (pgd g H m b q) := fun q hq => by
    have h1 := hid q
    rw [decide_eq_true hq] at h1
    unfold pgd
    cases hx : ideal g H m b q with
    | none => rw [hx] at h1; cases h1
    | some x => rfl
  have hprog : ∀ r q τ, MidP σ g V H m b n0 r τ → q < N → (τ.s.prog g.c.toNat (b + 2) q (pgd g H m b q).1 (pgd g H m b q).2).2 = 0 → LikeP σ g V H m b n0 (r + 1) { τ with s := (τ.s.prog g.c.toNat (b + 2) q (pgd g H m b q).1 (pgd g H m b q).2).1 } := fun r q τ hm hq hk => by
    by_cases e : q = r
    · subst e
      obtain ⟨s', h1, e1⟩ := fill_prog hm.1.sees hlive (hsome q hq)
      have hsf := hm.2.1.prog g.c.toNat (b + 2) q (pgd g H m b q).1 (pgd g H m b q).2
      rw [e1] at hsf ⊢
      exact ⟨hm.1.seen h1 (fun _ => rfl), hsf, hm.2.2.1, hm.2.2.2⟩
    · exact absurd hk (fill_wrong hm.1.sees hlive e _ _)
  refine ⟨h, by rw [hg]; exact hN, fun r τ hl => ?_, fun r τ hl => ?_, fun r q τ hl hr hq w hA => ?_, fun r τ hl => ?_, fun q hq => ?_, fun r τ hl => ⟨_, hl.2.1⟩, fun r q τ hl hq hk => ?_, fun r τ hl hr => ?_⟩
  · rw [hl.1.sees.g, hg]
  · rw [hl.1.sees.g, hg]
  · rw [hg] at hr hq
    have h500 : (g.p.toNat - r) * 500 = (g.p.toNat - (r + 1)) * 500 + 500 := by
      rw [show g.p.toNat - r = (g.p.toNat - (r + 1)) + 1 by omega, Nat.succ_mul]
    have hpl := page_law K hl.1 (fill_stand hS (by omega)) hH hb2 hb (q := q) (by omega) (n0 + (g.p.toNat - (r + 1)) * 500 + 1) (hl.2.1.le (by omega)) w hA
    rw [hid q] at hpl
    refine hpl.mono (fun e w' hx => ?_)
    obtain ⟨k, hk, hps⟩ := hx
    refine ⟨adv τ k, ⟨hl.1.adv k, hl.1.safe k (hl.2.1.le (by omega)), ?_, ?_⟩, hps⟩
    · rw [(adv_same τ k).2.1]; exact hl.2.2.1
    · rw [(adv_same τ k).1]; exact hl.2.2.2
  · rw [hl.2.2.2]; exact hvol
  · obtain ⟨a1, a2, a3, a4, _⟩ := ideal_ok hok hH hmr.2 (hsome q hq)
    rw [hg]
    exact ⟨a1, a2, a3, a4⟩
  · rw [at_fmt hok hb] at hk ⊢
    exact hprog r q τ hl hq hk
  · obtain ⟨s', h1, e1⟩ := fill_prog hl.1.sees hlive (hsome r hr)
    rw [at_fmt hok hb, e1]
end Go.Proofs.YteofgpaceeibpaaGreat.TcPD

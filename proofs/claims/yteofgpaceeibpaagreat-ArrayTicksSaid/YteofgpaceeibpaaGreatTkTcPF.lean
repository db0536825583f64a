/- Plain law of ArrayTicks: Ticks. | Plain law of ArrayTicks: operations on a whole array. -/
import Derived.Test.YteofgpaceeibpaaGreatTkTcPD
import Derived.Test.YteofgpaceeibpaaGreatTkActB
namespace Go.Proofs.YteofgpaceeibpaaGreat.TcPE
open Go.RowKit Gab Geom Par Fields Seal Nand NandC NandH RemapA VolA VolF MemA MemB MemC ArrA ArrC ArrD ArrG ArrI AOrd AWrA StgA HeldA PlA AStr TcPA TcPB TcPC TcPD TckE TckF TckG
set_option linter.unusedVariables false
set_option linter.unusedSimpArgs false

def idc : Nat → Nat := fun n => n
/-- A dead member is being made anew; so far. -/
structure Reb (σ : Ar) (g : Geo) (V : View) (H : Held) (m : Nat) (q : Int) (d : Nat) : Prop where
  rdy : Rdy σ g V (fun n => n) m
  stand : Stand g V (fun n => n) m H
  hok : HOk g H
  set : σ.set = { first g with seq := q, dead := m, done := d }
  q0 : 0 ≤ q
  vol : ∀ c, σ.vol c = none ∨ (σ.vol c = some (tb g) ∧ V.dead c = false)
  live : V.dead g.c.toNat = false
  made : ∀ b : Nat, 2 ≤ b → b < d → ∀ k, V.pg g.c.toNat (b + 2) k = ideal g H m b k
  raw : d = 0 → (∀ b k, V.pg g.c.toNat b k = none) ∧ ∀ b, V.nx g.c.toNat b = 0
  spare : 0 < d → σ.vol g.c.toNat = some (tb g)
/-- The chips, the one that was in reserve for the member. -/
def sw (g : Geo) (m n : Nat) : Nat := if n = m then g.c.toNat else n
/-- It was made anew. -/
structure Mad (σ : Ar) (g : Geo) (V : View) (H : Held) (m : Nat) (q : Int) : Prop where
  rdy : Rdy σ g V (sw g m) (-1)
  stand : Stand g V (sw g m) (-1) H
  hok : HOk g H
  set : σ.set = ⟨q, (first g).chips.set m g.c, 255, 255, 0⟩
  mm : (m : Int) < g.c
/-- Where an array lies, but for its volumes. -/
structure KSame (K K' : ALay) : Prop where
  x : K'.x = K.x
  p : K'.p = K.p
  L : K'.L = K.L
  V : K'.V = K.V
  cb : K'.cb = K.cb
theorem KSame.refl (K : ALay) : KSame K K := ⟨rfl, rfl, rfl, rfl, rfl⟩
theorem KSame.trans {K K' K'' : ALay} (h : KSame K K') (k : KSame K' K'') : KSame K K'' := ⟨k.x.trans h.x, k.p.trans h.p, k.L.trans h.L, k.V.trans h.V, k.cb.trans h.cb⟩
def KF (K : ALay) (σ : Ar) (i : Nat) : Prop := AF K σ i ∨ i = K.cb
theorem kf_same {K K' : ALay} {σ σ' : Ar} (h : KSame K K') (hg : σ'.s.g = σ.s.g) (i : Nat) : KF K' σ' i ↔ KF K σ i := by
  unfold KF
  rw [AF.eq hg i]
  unfold AF
  rw [h.x, h.p, h.L, h.V, h.cb]
theorem stand_put {g : Geo} {V W : View} {dm : Int} {H : Held} (h : Stand g V (fun n => n) dm H) (hp : ∀ n b q, n < g.c.toNat → W.pg n b q = V.pg n b q) : Stand g W (fun n => n) dm H :=
  fun n hn hne b hb2 hb q => (hp n _ q (by omega)).trans (h n hn hne b hb2 hb q)
/-- The array when the chip in reserve is ready, ahead of its being written. -/
theorem ready_law {σ : Ar} {g : Geo} {V : View} {H : Held} {m : Nat} {q : Int} (h : Reb σ g V H m q 0) : ∃ W, Reb (σ.ready g.c.toNat) g W H m q 2 ∧ (σ.s.fmt g.c.toNat).2 = 0 := by
  have hg := h.rdy.sees.g
  obtain ⟨r1, r2⟩ := h.raw rfl
  obtain ⟨s1, h1, e1⟩ := h.rdy.sees.fmt (c := g.c.toNat) h.live (fun b k => r1 b k) (fun b => r2 b)
  have hm := h.rdy.rng
  have hc := h.rdy.ok.c
  have hb := h.rdy.ok.b
  have hs : (σ.ready g.c.toNat).s = s1 := by show (σ.s.fmt g.c.toNat).1 = s1; rw [e1]
  have hv : ∀ c, (σ.ready g.c.toNat).vol c = if c = g.c.toNat then some (tb g) else σ.vol c := fun c => by
    show (if c = g.c.toNat then some (tabOf σ.s.g).up else σ.vol c) = _
    rw [hg]
    rfl
  refine ⟨V.put g.c.toNat 1 (tpage g), ⟨⟨by rw [hs]; exact h1, h.rdy.ok, h.rdy.lost, h.rdy.dead, hm, h.rdy.chip, fun n hn hne => ?_, h.rdy.live⟩, ?_, h.hok, ?_, h.q0, fun c => ?_, h.live, fun b b2 bd k => by omega, fun e => absurd e (by decide), fun _ => ?_⟩, by rw [e1]⟩
  · rw [hv, if_neg (by omega)]
    exact h.rdy.vol n hn hne
  · refine stand_put h.stand (fun n b k hn => ?_)
    show (if n = g.c.toNat ∧ b = 1 then _ else V.pg n b k) = _
    rw [if_neg (by omega)]
  · show ({ σ.set with done := 2 } : MS) = _
    rw [h.set]
    rfl
  · rw [hv]
    split
    · rename_i e
      exact .inr ⟨rfl, by rw [e]; exact h.live⟩
    · exact h.vol c
  · rw [hv, if_pos rfl]
/-- Who is a member is written while a member is being made anew. -/
theorem reb_save {σ : Ar} {g : Geo} {V : View} {H : Held} {m d : Nat} {q : Int} (h : Reb σ g V H m q d) (hd : 0 < d) (n : Nat) (hs : σ.s.Safe (n + 34)) : ∃ s' W, σ.save = ({ σ.up with s := s' }, 0) ∧ Reb { σ.up with s := s' } g W H m (q + 1) d ∧ s'.Safe n := by
  obtain ⟨s', W, h1, e1, o1, f1⟩ := save_any h.rdy.sees h.rdy.ok h.vol (by rw [h.set]; exact h.q0) n hs
  refine ⟨s', W, e1, ⟨Rdy.off h.rdy h1 o1, Stand.off h.stand o1, h.hok, ?_, by have := h.q0; omega, fun c => ?_, (o1.dead _).trans h.live, fun b b2 bd k => (o1.pg _ _ _ (by omega)).trans (h.made b b2 bd k), fun e => absurd e (by omega), h.spare⟩, f1⟩
  · show ({ σ.set with seq := σ.set.seq + 1 } : MS) = _
    rw [h.set]
  · rcases h.vol c with h2 | h2
    · exact .inl h2
    · exact .inr ⟨h2.1, (o1.dead c).trans h2.2⟩
def TickA (g : Geo) (H : Held) (m : Nat) (q : Int) (σ : Ar) (K : ALay) (n0 : Nat) (w : World) (e : Ending) (w' : World) : Prop :=
  e = .returned (.tuple #[.bool false, .int .i64 0]) ∧ ∃ σ' V' K', Reb σ' g V' H m (q + 1) 2 ∧ σ'.s.Safe n0 ∧ ArAt w' σ' K' ∧ KSame K K' ∧ Fr (KF K σ) w w'
theorem dead_ne {g : Geo} (hg : g.Ok) {m : Nat} (hm : (m : Int) < g.c) : ((m : Int) == 255) = false := by have := hg.c; rw [beq_eq_false_iff_ne]; omega
/-- The first Tick. -/
theorem tick_a {σ : Ar} {g : Geo} {V : View} {H : Held} {m : Nat} {q : Int} (K : ALay) (h : Reb σ g V H m q 0) (hq : q < 4294967295) (n0 : Nat) (hs : σ.s.Safe (n0 + 100)) (w : World) (hA : ArAt w σ K) :
    Calls Tryz.prog 21 #[.pointer (some ⟨K.x, 0, none⟩)] w (TickA g H m q σ K n0 w) := by
  have hg := h.rdy.sees.g
  have hc := h.rdy.ok.c
  have hm := h.rdy.rng
  have hcI : ((g.c.toNat : Nat) : Int) = g.c := by omega
  obtain ⟨W, hW, hk⟩ := ready_law h
  have hdd : σ.set.dead ≠ 255 := by rw [h.set]; show (m : Int) ≠ 255; omega
  have hsp : σ.set.spare = ((g.c.toNat : Nat) : Int) := by rw [h.set]; show g.c = _; omega
  have hsafe : (σ.ready g.c.toNat).s.Safe (n0 + 34) := safe_fmt (n := n0 + 34) g.c.toNat (by rw [hg]; exact h.rdy.ok) (hs.le (by omega))
  obtain ⟨s', W', e1, hR, hf⟩ := reb_save hW (by decide) n0 hsafe
  refine (Tick_step σ K w (fun τ K' => τ = σ.ready g.c.toNat ∧ KSame K K') (KF K σ) hA h.rdy.lost hdd (by rw [hsp]; omega) (fun w' hf => ?_) (fun τ K' hΦ => ?_)).mono (fun e w' hp => ?_)
  · refine (stepA_calls σ K g.c.toNat w' (hA.none_ hf) (by rw [h.set]; rfl) hsp (by omega) hdd (by unfold St.n; rw [hg]; omega) (n0 + 34) (hs.le (by omega)) hk).mono (fun e w'' hx => ?_)
    obtain ⟨he, v, hA2, hf2⟩ := hx
    exact ⟨he, σ.ready g.c.toNat, K.vput g.c.toNat v, ⟨rfl, ⟨rfl, rfl, rfl, rfl, rfl⟩⟩, hA2, hf.trans hf2 (fun _ _ h => h.elim) (fun _ _ h => .inl h)⟩
  · obtain ⟨rfl, hks⟩ := hΦ
    refine ⟨hks.x, by rw [hW.set]; exact hq, ⟨n0, hsafe⟩, by rw [e1], fun i hi => (kf_same hks (σ := σ) (σ' := σ.ready g.c.toNat) (by rw [hW.rdy.sees.g, hg]) i).1 (.inl hi)⟩
  · obtain ⟨τ, K', ⟨rfl, hks⟩, he, hA', hf'⟩ := hp
    rw [e1] at hA'
    refine ⟨?_, _, W', K', hR, hf, hA', hks, hf'⟩
    rw [he, hW.set]
    show Ending.returned (.tuple #[.bool ((m : Int) == 255), .int .i64 0]) = _
    rw [dead_ne h.rdy.ok hm.2]
def TickB (g : Geo) (H : Held) (m : Nat) (q : Int) (b : Nat) (σ : Ar) (K : ALay) (n0 : Nat) (w : World) (e : Ending) (w' : World) : Prop :=
  e = .returned (.tuple #[.bool (decide ((b : Int) + 1 = g.b - 5)), .int .i64 0]) ∧ ∃ σ' V', ((b : Int) + 1 < g.b - 5 → Reb σ' g V' H m (q + 1) (b + 1)) ∧ ((b : Int) + 1 = g.b - 5 → Mad σ' g V' H m (q + 1)) ∧ σ'.s.Safe n0 ∧ ArAt w' σ' K ∧ Fr (KF K σ) w w'
/-- The array behind a block, ahead of its being written who is a member. -/
def Done (σ : Ar) (g : Geo) (V : View) (H : Held) (m b n0 : Nat) (τ : Ar) : Prop :=
  Rdy τ g V (fun n => n) m ∧ τ.s.Safe n0 ∧ τ.set = σ.set ∧ τ.vol = σ.vol
theorem sw_chip {g : Geo} {m n : Nat} (hm : (m : Int) < g.c) (hn : (n : Int) < g.c) : (((first g).chips.set m g.c).getD n 0).toNat = sw g m n := by
  have hl : (first g).chips.length = g.c.toNat := by simp [first]
  unfold sw
  by_cases e : n = m
  · subst e
    rw [if_pos rfl, List.getD_eq_getElem?_getD, List.getElem?_set_self (by omega)]
    rfl
  · rw [if_neg e, List.getD_eq_getElem?_getD, List.getElem?_set_ne (fun h => e h.symm)]
    show (((List.range g.c.toNat).map Int.ofNat)[n]?.getD 0).toNat = n
    rw [List.getElem?_map, List.getElem?_range (by omega)]
    rfl
/-- The last block is made: written, the chip is the member's. -/
theorem mad_of {τ : Ar} {g : Geo} {V : View} {H : Held} {m d : Nat} {q : Int} (h : Reb τ g V H m q d) (hd : 0 < d) (hlast : (d : Int) = g.b - 5) (n : Nat) (hs : τ.s.Safe (n + 34)) : ∃ s' W, τ.whole.save = ({ τ.whole.up with s := s' }, 0) ∧ Mad { τ.whole.up with s := s' } g W H m (q + 1) ∧ s'.Safe n := by
  have hm := h.rdy.rng
  have hc := h.rdy.ok.c
  have hset : τ.whole.set = ⟨q, (first g).chips.set m g.c, 255, 255, 0⟩ := by
    unfold Ar.whole
    rw [h.set]
    rfl
  obtain ⟨s', W, h1, e1, o1, f1⟩ := save_any (σ := τ.whole) h.rdy.sees h.rdy.ok h.vol (by rw [hset]; exact h.q0) n hs
  refine ⟨s', W, e1, ⟨⟨h1, h.rdy.ok, h.rdy.lost, ?_, by omega, fun n hn => ?_, fun n hn hne => ?_, fun n hn hne => ?_⟩, ?_, h.hok, ?_, hm.2⟩, f1⟩
  · show (τ.whole.set).dead = _
    rw [hset]
    rfl
  · show ((τ.whole.set).chips.getD n 0).toNat = _
    rw [hset]
    exact sw_chip hm.2 hn
  · show τ.vol (sw g m n) = _
    unfold sw
    split
    · exact h.spare hd
    · exact h.rdy.vol n hn (by omega)
  · rw [o1.dead]
    unfold sw
    split
    · exact h.live
    · exact h.rdy.live n hn (by omega)
  · intro n hn hne b hb2 hb k
    rw [o1.pg _ _ _ (by omega)]
    unfold sw
    split
    · rename_i e
      rw [e]
      exact h.made b hb2 (by omega) k
    · rename_i e
      exact h.stand n hn (by omega) b hb2 hb k
  · show ({ τ.whole.set with seq := τ.whole.set.seq + 1 } : MS) = _
    rw [hset]
/-- A Tick that makes a block anew. -/
theorem tick_b {σ : Ar} {g : Geo} {V : View} {H : Held} {m b : Nat} {q : Int} (K : ALay) (h : Reb σ g V H m q b) (hb2 : 2 ≤ b) (hb : (b : Int) < g.b - 5) (hq : q < 4294967295) (n0 : Nat) (hs : σ.s.Safe (n0 + 20000)) (w : World) (hA : ArAt w σ K) :
    Calls Tryz.prog 21 #[.pointer (some ⟨K.x, 0, none⟩)] w (TickB g H m q b σ K n0 w) := by
  have hg := h.rdy.sees.g
  have hok := h.rdy.ok
  have hc := hok.c
  have hp := hok.p
  have hm := h.rdy.rng
  have hgb := hok.b
  have hcI : ((g.c.toNat : Nat) : Int) = g.c := by omega
  have hdd : σ.set.dead = (m : Int) := by rw [h.set]
  have hsp : σ.set.spare = ((g.c.toNat : Nat) : Int) := by rw [h.set]; show g.c = _; omega
  have hvol := h.spare (by omega)
  obtain ⟨N, hN, hid⟩ := ideal_count hok h.hok m b
  obtain ⟨s1, h1, e1⟩ := h.rdy.sees.erase (b + 2) h.live
  have hsf1 : s1.Safe (n0 + 19999) := by
    have := (show σ.s.Safe (n0 + 19999 + 1) from hs).erase g.c.toNat (b + 2)
    rw [e1] at this
    exact this
  have hat : (tb g).at b = b + 2 := at_fmt hok hb
  have hL0 : LikeP { σ with s := s1 } g V H m b (n0 + 100) 0 { σ with s := s1 } := ⟨h.rdy.seen (fill_zero _ h1) (fun _ => rfl), hsf1.le (by have e : (g.p.toNat - 0) * 500 ≤ 32 * 500 := Nat.mul_le_mul (by omega) (Nat.le_refl _); omega), rfl, rfl⟩
  have hSt := steps_of (N := N) K hL0 h.stand h.hok hb2 hb h.live hvol hN hid
  have hend : ∀ τ, LikeP { σ with s := s1 } g V H m b (n0 + 100) N τ ∨ MidP { σ with s := s1 } g V H m b (n0 + 100) N τ → Done σ g (fillV V g.c.toNat (b + 2) N (ideal g H m b)) H m b (n0 + 100) τ := fun τ ht => by
    rcases ht with ht | ht
    · exact ⟨ht.1, ht.2.1.le (by omega), ht.2.2.1, ht.2.2.2⟩
    · exact ⟨ht.1, ht.2.1.le (by omega), ht.2.2.1, ht.2.2.2⟩
  have hreb : ∀ τ, Done σ g (fillV V g.c.toNat (b + 2) N (ideal g H m b)) H m b (n0 + 100) τ → Reb (τ.upto ((b : Int) + 1)) g (fillV V g.c.toNat (b + 2) N (ideal g H m b)) H m q (b + 1) := fun τ ht => by
    obtain ⟨hr, _, ht2, ht3⟩ := ht
    refine ⟨⟨hr.sees, hr.ok, hr.lost, hr.dead, hr.rng, hr.chip, hr.vol, hr.live⟩, fill_stand h.stand (by omega), h.hok, ?_, h.q0, fun c => ?_, h.live, fun b' b2 bd k => ?_, fun e => absurd e (by omega), fun _ => ?_⟩
    · show ({ τ.set with done := (b : Int) + 1 } : MS) = _
      rw [ht2, h.set]
      rfl
    · show τ.vol c = none ∨ (τ.vol c = some (tb g) ∧ V.dead c = false)
      rw [ht3]
      exact h.vol c
    · show (if g.c.toNat = g.c.toNat ∧ b' + 2 = b + 2 then (if k < N then ideal g H m b k else none) else V.pg g.c.toNat (b' + 2) k) = _
      by_cases e : b' = b
      · subst e
        rw [if_pos ⟨rfl, rfl⟩]
        have h2 := hid k
        by_cases hk : k < N
        · rw [if_pos hk]
        · rw [if_neg hk]
          rw [decide_eq_false hk] at h2
          cases hx : ideal g H m b' k with
          | none => rfl
          | some x => rw [hx] at h2; cases h2
      · rw [if_neg (fun hh => e (by omega))]
        exact h.made b' b2 (by omega) k
    · show τ.vol g.c.toNat = _
      rw [ht3]
      exact hvol
  have hmore : ∀ τ, Done σ g (fillV V g.c.toNat (b + 2) N (ideal g H m b)) H m b (n0 + 100) τ → τ.more b = if (b : Int) + 1 = g.b - 5 then τ.whole else τ.upto ((b : Int) + 1) := fun τ ht => by unfold Ar.more; rw [ht.1.sees.g]
  have hwh : ∀ τ : Ar, (τ.upto ((b : Int) + 1)).whole = τ.whole := fun τ => rfl
  have hout : ∀ τ, Done σ g (fillV V g.c.toNat (b + 2) N (ideal g H m b)) H m b (n0 + 100) τ → (τ.more b).set.seq = q ∧ (τ.more b).s.Safe (n0 + 34) ∧ (τ.more b).s.g = g ∧ ((τ.more b).set.dead == 255) = decide ((b : Int) + 1 = g.b - 5) ∧ ∃ σ' W, (τ.more b).save = (σ', 0) ∧ ((b : Int) + 1 < g.b - 5 → Reb σ' g W H m (q + 1) (b + 1)) ∧ ((b : Int) + 1 = g.b - 5 → Mad σ' g W H m (q + 1)) ∧ σ'.s.Safe n0 := fun τ ht => by
    have hR := hreb τ ht
    have hsf : τ.s.Safe (n0 + 34) := ht.2.1.le (by omega)
    rw [hmore τ ht]
    by_cases hl : (b : Int) + 1 = g.b - 5
    · rw [if_pos hl]
      obtain ⟨s', W, e2, hM, f2⟩ := mad_of hR (by omega) (by omega) n0 hsf
      rw [hwh] at e2 hM
      refine ⟨?_, hsf, ht.1.sees.g, ?_, _, W, e2, fun hh => absurd hl (by omega), fun _ => hM, f2⟩
      · show τ.set.seq = q
        rw [ht.2.2.1, h.set]
      · rw [decide_eq_true hl]
        rfl
    · rw [if_neg hl]
      obtain ⟨s', W, e2, hR2, f2⟩ := reb_save hR (by omega) n0 hsf
      refine ⟨by rw [hR.set], hsf, ht.1.sees.g, ?_, _, W, e2, fun _ => hR2, fun hh => absurd hh hl, f2⟩
      rw [hR.set, decide_eq_false hl]
      exact dead_ne hok hm.2
  refine (Tick_step σ K w (fun τ' K' => K' = K ∧ ∃ τ, τ' = τ.more b ∧ Done σ g (fillV V g.c.toNat (b + 2) N (ideal g H m b)) H m b (n0 + 100) τ) (KF K σ) hA h.rdy.lost (by rw [hdd]; omega) (by rw [hsp]; omega) (fun w' hf => ?_) (fun τ' K' hΦ => ?_)).mono (fun e w' hp => ?_)
  · refine (stepB_calls σ K b g.c.toNat (tb g) N _ _ _ w' (hA.none_ hf) (by omega) (by rw [hg]; exact hb) (by unfold St.n; rw [hg]; omega) (by rw [h.set]) hsp (by omega) (by rw [hdd, hg]; omega) hvol (n0 + 19999) hs (by rw [hat, e1]) (by rw [hat, e1]; exact hSt) (fun τ ht => by
        rcases ht with ht | ht
        · exact (hend τ (.inr ht)).2.2.1
        · exact (hend τ (.inl ht)).2.2.1)).mono (fun e w'' hx => ?_)
    obtain ⟨he, τ, hor, hA2, hf2⟩ := hx
    have hD : Done σ g (fillV V g.c.toNat (b + 2) N (ideal g H m b)) H m b (n0 + 100) τ := by
      rcases hor with ht | ht
      · exact hend τ (.inr ht.2)
      · exact hend τ (.inl ht.2)
    exact ⟨he, τ.more b, K, ⟨rfl, τ, rfl, hD⟩, hA2, hf.trans hf2 (fun _ _ h => h.elim) (fun _ _ h => h)⟩
  · obtain ⟨rfl, τ, rfl, hD⟩ := hΦ
    obtain ⟨o1, o2, o3, o4, σ', W, o5, o6, o7, o8⟩ := hout τ hD
    refine ⟨rfl, by rw [o1]; exact hq, ⟨n0, o2⟩, by rw [o5], fun i hi => .inl ((AF.eq (K := K') (by rw [o3, hg]) i).1 hi)⟩
  · obtain ⟨τ', K', ⟨rfl, τ, rfl, hD⟩, he, hA', hf'⟩ := hp
    obtain ⟨o1, o2, o3, o4, σ', W, o5, o6, o7, o8⟩ := hout τ hD
    rw [o5] at hA'
    rw [o4] at he
    exact ⟨he, σ', W, o6, o7, o8, hA', hf'⟩
end Go.Proofs.YteofgpaceeibpaaGreat.TcPE
namespace Go.Proofs.YteofgpaceeibpaaGreat.TcPF
open Go.RowKit Gab Geom Par Fields Seal Nand NandC NandH RemapA VolA VolF MemA MemB MemC ArrA ArrC ArrD ArrE ArrF ArrG ArrI AOrd AOrdB AWrA AWrB StgA LawA HeldA ActA PlA PlB AStr TcPA TcPB TcPC TcPD TcPE
open Wr (InR)
set_option linter.unusedVariables false
set_option linter.unusedSimpArgs false

/-- A whole array: what is held stands on all members. -/
structure Std (σ : Ar) (g : Geo) (V : View) (H : Held) (q : Int) : Prop where
  whole : PlA.Whole σ g V q
  ok : g.Ok
  s256 : g.s = 256
  live : ∀ c, V.dead c = false
  q0 : 0 ≤ q
  hok : HOk g H
  pg : ∀ n : Nat, (n : Int) < g.c → ∀ b : Nat, 2 ≤ b → (b : Int) < g.b - 5 → ∀ k, V.pg n (b + 2) k = ideal g H n b k
  nx : ∀ n : Nat, (n : Int) < g.c → ∀ b : Nat, 2 ≤ b → (b : Int) < g.b - 5 → ∃ N : Nat, V.nx n (b + 2) = (N : Int) ∧ ∀ k, (ideal g H n b k).isSome = decide (k < N)
  raw : (∀ b k, V.pg g.c.toNat b k = none) ∧ ∀ b, V.nx g.c.toNat b = 0
theorem only {p : Nat → Bool} {N M : Nat} (h1 : ∀ k, p k = decide (k < N)) (h2 : ∀ k, p k = decide (k < M)) : N = M := by
  have h3 : ∀ k, k < N ↔ k < M := fun k => by
    have := (h1 k).symm.trans (h2 k)
    rwa [decide_eq_decide] at this
  have := h3 N
  have := h3 M
  omega
theorem order_none (c : Int) : orderOf (-1) c = upTo c.toNat := by
  unfold orderOf pre
  rw [if_neg (by omega), List.nil_append]
  refine List.filter_eq_self.2 (fun m hm => ?_)
  obtain ⟨j, _, rfl⟩ := List.mem_map.1 hm
  simp only [Int.ofNat_eq_natCast, ne_eq, decide_eq_true_eq]
  omega
theorem mem_upTo {c : Int} {m : Int} : m ∈ upTo c.toNat ↔ 0 ≤ m ∧ m < c := by
  unfold upTo
  constructor
  · intro h
    obtain ⟨j, hj, rfl⟩ := List.mem_map.1 h
    have := List.mem_range.1 hj
    simp only [Int.ofNat_eq_natCast]
    omega
  · rintro ⟨h0, h1⟩
    exact List.mem_map.2 ⟨m.toNat, List.mem_range.2 (by omega), by simp only [Int.ofNat_eq_natCast]; omega⟩
theorem nodup_upTo (k : Nat) : (upTo k).Nodup := List.Pairwise.map _ (fun a b h e => h (Int.ofNat.inj e)) List.nodup_range
theorem orderAt_none {lo : Int} (h : 0 ≤ lo) : orderAt (-1) lo 2 = [lo, lo + 1] := by
  unfold orderAt preAt
  rw [if_neg (by omega), List.nil_append]
  show ([lo + ((0 : Nat) : Int), lo + ((1 : Nat) : Int)]).filter _ = _
  rw [List.filter_eq_self.2 (fun m hm => by
    simp only [List.mem_cons, List.not_mem_nil, or_false] at hm
    simp only [ne_eq, decide_eq_true_eq]
    omega)]
  simp
theorem pgs_ok {g : Geo} (hg : g.Ok) (hs : g.s = 256) (n : Nat) (hn : n ≤ 64) {c : Int} (h0 : 0 ≤ c) (h1 : c < 256) : LOk g (pgs n c (g.c - 1).toNat) := by
  have hc := hg.c
  have hmem : ∀ q ∈ pgs n c (g.c - 1).toNat, ∃ j : Nat, j < (g.c - 1).toNat ∧ q = (phead (j + n) c, pdat (j + n) c) := fun q hq => by
    obtain ⟨j, hj, rfl⟩ := List.mem_map.1 hq
    exact ⟨j, List.mem_range.1 hj, rfl⟩
  refine ⟨by rw [pgs_len]; omega, fun q hq => ?_, fun q hq => ?_⟩
  · obtain ⟨j, hj, rfl⟩ := hmem q hq
    exact ⟨phead_ok (by omega) (by omega) h0 h1, by show (1 : Int) ≤ 4; decide, by show (4 : Int) ≤ 6; decide⟩
  · obtain ⟨j, hj, rfl⟩ := hmem q hq
    exact ⟨by show ((pdat _ _).length : Int) = g.s; rw [pdat_len, hs]; rfl, pdat_range _ _⟩
theorem ideal_push {g : Geo} {H : Held} {k : Nat} (hk : k < 4) (l : List (Head × List Int)) (n b q : Nat) : ideal g (H.push k l) n b q = if b = 6 + k ∧ q = (H.rows k).length then some (pageOf g l b q n) else ideal g H n b q := by
  by_cases hb : b = 6 + k
  · subst hb
    unfold ideal
    simp only [if_neg (show ¬ (6 + k = 4) by omega), if_pos (show 6 ≤ 6 + k ∧ 6 + k < 10 from ⟨by omega, by omega⟩), show 6 + k - 6 = k by omega]
    have e : (H.push k l).rows k = H.rows k ++ [l] := by show (if k = k then _ else _) = _; rw [if_pos rfl]
    rw [e, List.length_append, List.length_singleton, getD_snoc]
    by_cases h1 : q = (H.rows k).length
    · subst h1
      simp
    · by_cases h2 : q < (H.rows k).length
      · simp only [h1, if_pos h2, if_pos (show q < (H.rows k).length + 1 by omega), and_false, if_false]
      · simp only [h1, if_neg h2, if_neg (show ¬ q < (H.rows k).length + 1 by omega), and_false, if_false]
  · rw [if_neg (fun h => hb h.1)]
    unfold ideal
    by_cases h4 : b = 4
    · rw [if_pos h4, if_pos h4]
      rfl
    · rw [if_neg h4, if_neg h4]
      by_cases h6 : 6 ≤ b ∧ b < 10
      · rw [if_pos h6, if_pos h6]
        have e : (H.push k l).rows (b - 6) = H.rows (b - 6) := by show (if b - 6 = k then _ else _) = _; rw [if_neg (by omega)]
        rw [e]
      · rw [if_neg h6, if_neg h6]
theorem hok_push {g : Geo} {H : Held} {k : Nat} {l : List (Head × List Int)} (h : HOk g H) (hk : k < 4) (hn : (H.rows k).length < g.p.toNat) (hl : LOk g l) : HOk g (H.push k l) := by
  refine ⟨fun j hj => ?_, fun j hj r hr => ?_, h.few, h.st⟩
  · show (if j = k then H.rows k ++ [l] else H.rows j).length ≤ _
    split
    · rw [List.length_append, List.length_singleton]; omega
    · exact h.len j hj
  · have hr' : r < (if j = k then H.rows k ++ [l] else H.rows j).length := hr
    show LOk g ((if j = k then H.rows k ++ [l] else H.rows j).getD r [])
    by_cases e : j = k
    · rw [if_pos e] at hr' ⊢
      rw [List.length_append, List.length_singleton] at hr'
      rw [getD_snoc]
      by_cases e2 : r < (H.rows k).length
      · rw [if_pos e2]; exact h.row k hk r e2
      · rw [if_neg e2, if_pos (by omega)]; exact hl
    · rw [if_neg e] at hr' ⊢
      exact h.row j hj r hr'
/-- A stripe more. -/
theorem std_push {σ : Ar} {g : Geo} {V : View} {H : Held} {q : Int} (h : Std σ g V H q) {k : Nat} (hk : k < 4) (hn : (H.rows k).length < g.p.toNat) {c : Int} (c0 : 0 ≤ c) (c1 : c < 256) :
    ∃ s' V', σ.progs (6 + k) (H.rows k).length (fun m => pageOf g (pgs (H.rows k).length c (g.c - 1).toNat) (6 + k) (H.rows k).length m) (orderOf σ.ahead g.c) = ({ σ with s := s' }, 0, 0) ∧ Std { σ with s := s' } g V' (H.push k (pgs (H.rows k).length c (g.c - 1).toNat)) q ∧ ∀ n, σ.s.Safe (n + 20) → s'.Safe n := by
  have hgc := h.ok.c
  have hgb := h.ok.b
  have hgp := h.ok.p
  have hl := pgs_ok h.ok h.s256 (H.rows k).length (by omega) c0 c1
  generalize pgs (H.rows k).length c (g.c - 1).toNat = l at *
  have e6 : (6 + (k : Int)).toNat = 6 + k := by omega
  have e7 : (((H.rows k).length : Nat) : Int).toNat = (H.rows k).length := by omega
  have hnx : ∀ n : Nat, (n : Int) < g.c → V.nx n (6 + k + 2) = (((H.rows k).length : Nat) : Int) := fun n hng => by
    obtain ⟨N, h1, h2⟩ := h.nx n hng (6 + k) (by omega) (by omega)
    rw [h1, only h2 (M := (H.rows k).length) (fun j => by
      unfold ideal
      rw [if_neg (by omega), if_pos ⟨by omega, by omega⟩, show 6 + k - 6 = k by omega]
      by_cases e : j < (H.rows k).length
      · rw [if_pos e, decide_eq_true e]; rfl
      · rw [if_neg e, decide_eq_false e]; rfl)]
  obtain ⟨s', h1, e1, f1⟩ := whole_progs (seg := 6 + k) (row := (H.rows k).length) h.ok ⟨by omega, by omega⟩ (fun m => pageOf g l (6 + k) (H.rows k).length m) (upTo g.c.toNat) σ V 0 h.whole (nodup_upTo _) (fun m hm => by
    obtain ⟨m0, m1⟩ := mem_upTo.1 hm
    exact ⟨m0, m1, h.live _, by rw [e6]; exact hnx _ (by omega)⟩)
  rw [e6, e7] at h1
  refine ⟨s', _, by rw [ahead_none h.whole, order_none]; exact e1, ⟨h.whole.turn h1, h.ok, h.s256, h.live, h.q0, hok_push h.hok hk hn hl, fun n hng b hb2 hb j => ?_, fun n hng b hb2 hb => ?_, ⟨fun b j => ?_, fun b => ?_⟩⟩, fun n hs => f1 n (hs.le (by rw [show (upTo g.c.toNat).length = g.c.toNat by simp [upTo]]; omega))⟩
  · rw [ideal_push hk]
    show (if (n : Int) ∈ upTo g.c.toNat ∧ b + 2 = 6 + k + 2 ∧ j = (H.rows k).length then some (pageOf g l (6 + k) (H.rows k).length n) else V.pg n (b + 2) j) = _
    by_cases e : b = 6 + k ∧ j = (H.rows k).length
    · rw [if_pos ⟨mem_upTo.2 ⟨by omega, hng⟩, by omega, e.2⟩, if_pos e, e.1, e.2]
      rw [show (((6 + k : Nat) : Int)) = 6 + (k : Int) by omega]
    · rw [if_neg (fun hh => e ⟨by omega, hh.2.2⟩), if_neg e]
      exact h.pg n hng b hb2 hb j
  · show ∃ N : Nat, (if (n : Int) ∈ upTo g.c.toNat ∧ b + 2 = 6 + k + 2 then (((H.rows k).length : Nat) : Int) + 1 else V.nx n (b + 2)) = (N : Int) ∧ _
    obtain ⟨N, h2, h3⟩ := h.nx n hng b hb2 hb
    by_cases e : b = 6 + k
    · refine ⟨(H.rows k).length + 1, by rw [if_pos ⟨mem_upTo.2 ⟨by omega, hng⟩, by omega⟩]; push_cast; rfl, fun j => ?_⟩
      have e9 := hnx n hng
      rw [e] at h2
      rw [h2] at e9
      have hN : N = (H.rows k).length := by omega
      rw [ideal_push hk]
      by_cases e2 : j = (H.rows k).length
      · rw [if_pos ⟨e, e2⟩, decide_eq_true (by omega)]; rfl
      · rw [if_neg (fun hh => e2 hh.2), h3 j, hN, decide_eq_decide]
        omega
    · refine ⟨N, by rw [if_neg (fun hh => e (by omega))]; exact h2, fun j => ?_⟩
      rw [ideal_push hk, if_neg (fun hh => e hh.1)]
      exact h3 j
  · show (if ((g.c.toNat : Nat) : Int) ∈ upTo g.c.toNat ∧ _ then _ else V.pg g.c.toNat b j) = none
    rw [if_neg (fun hh => by have := (mem_upTo.1 hh.1).2; omega)]
    exact h.raw.1 b j
  · show (if ((g.c.toNat : Nat) : Int) ∈ upTo g.c.toNat ∧ _ then _ else V.nx g.c.toNat b) = 0
    rw [if_neg (fun hh => by have := (mem_upTo.1 hh.1).2; omega)]
    exact h.raw.2 b
end Go.Proofs.YteofgpaceeibpaaGreat.TcPF

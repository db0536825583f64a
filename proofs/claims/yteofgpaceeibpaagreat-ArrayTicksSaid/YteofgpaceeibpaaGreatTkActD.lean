/- Plain law of ArrayTicks: a fresh array; a member's chip dies; Ticks, one behind the other. | gabionlaw13.act on a whole array: any operation. -/
import Derived.Test.YteofgpaceeibpaaGreatTkActC
import Derived.Test.YteofgpaceeibpaaGreatTkFmtd
namespace Go.Proofs.YteofgpaceeibpaaGreat.TcPH
open Go.RowKit Gab Geom Par Fields Seal Nand NandC NandH RemapA VolA VolF MemA MemB MemC ArrA ArrC ArrD ArrE ArrF ArrG ArrI AOrd AOrdB AWrA AWrB StgA LawA HeldA ActA PlA PlB AStr TcPA TcPB TcPC TcPD TcPE TcPF TcPG
open Kpt (H0)
open Wr (InR)
set_option linter.unusedVariables false
set_option linter.unusedSimpArgs false

/-- A fresh array holds nothing. -/
theorem std_new {g : Geo} (hg : g.Ok) (h256 : g.s = 256) {σ : Ar} (h : PlA.Whole σ g (V1 g) 1) : Std σ g (V1 g) H0 1 := by
  have hgc := hg.c
  have hgp := hg.p
  obtain ⟨p1, p2, p3⟩ := pairs_is hg
  have hid : ∀ n b k, ideal g H0 n b k = none := fun n b k => by
    unfold ideal
    split
    · rw [if_neg (fun h => absurd h.2 (Nat.not_lt_zero _))]
    · split
      · rw [if_neg (show ¬ k < (H0.rows (b - 6)).length from Nat.not_lt_zero _)]
      · rfl
  refine ⟨h, hg, h256, fun c => rfl, by decide, ⟨fun k hk => Nat.zero_le _, fun k hk r hr => absurd hr (Nat.not_lt_zero _), ?_, fun j hj => absurd hj (Nat.not_lt_zero _)⟩, fun n hn b hb2 hb k => ?_, fun n hn b hb2 hb => ⟨0, ?_, fun k => ?_⟩, ⟨fun b k => ?_, fun b => ?_⟩⟩
  · show (0 : Int) ≤ g.room
    unfold Geo.room
    exact Int.mul_nonneg (by omega) (by omega)
  · rw [hid]; exact V1_pg n (by omega) k
  · exact V1_nx n (by omega)
  · rw [hid]; simp
  · show (if g.c.toNat < g.c.toNat ∧ b = 3 then _ else if g.c.toNat < g.c.toNat ∧ b = 1 then _ else none) = none
    rw [if_neg (fun h => absurd h.1 (Nat.lt_irrefl _)), if_neg (fun h => absurd h.1 (Nat.lt_irrefl _))]
  · show (if g.c.toNat < g.c.toNat ∧ b = 3 then (1 : Int) else if g.c.toNat < g.c.toNat ∧ b = 1 then 1 else 0) = 0
    rw [if_neg (fun h => absurd h.1 (Nat.lt_irrefl _)), if_neg (fun h => absurd h.1 (Nat.lt_irrefl _))]

/-! ### a chip dies, and it is noticed -/
def dd (σ : Ar) (m c : Nat) : Ar := { s := σ.s.more, vol := fun k => if k = c then none else σ.vol k, set := { σ.set with dead := m, done := 0 }, lost := σ.lost }
theorem read_dies {σ : Ar} {g : Geo} {V : View} (hs : Sees σ.s g V) {m c : Nat} (hl : σ.lost = false) (hd : σ.set.dead = 255) (hm : (m : Int) < 255) (hc : σ.chip m = c) (hv : V.dead c = true) (hsp : σ.set.spare ≠ (c : Int)) (hidx : idxOf σ.set.chips c = some m) : σ.read m = (dd σ m c, 71) := by
  have hr : σ.s.read c = (σ.s.more, 71) := by rw [hs.read c, hv]; rfl
  have hdied : Ar.died { σ with s := σ.s.more } c = (dd σ m c, 0) := by
    unfold Ar.died
    show (if σ.set.spare = (c : Int) then _ else _) = _
    rw [if_neg hsp]
    show (match idxOf σ.set.chips c with
      | some m => (Ar.drop { σ with s := σ.s.more } c).gone m
      | none => (Ar.drop { σ with s := σ.s.more } c, 0)) = _
    rw [hidx]
    show Ar.gone (Ar.drop { σ with s := σ.s.more } c) m = _
    unfold Ar.gone
    show (if σ.set.dead = (m : Int) then _ else if σ.set.dead = 255 then _ else _) = _
    rw [hd, if_neg (by omega), if_pos rfl]
    rfl
  unfold Ar.read
  rw [if_neg (by rw [hl]; decide), hd, if_neg (by omega), hc, hr]
  dsimp only
  rw [if_pos rfl, hdied]
  rfl
theorem first_idx {g : Geo} {m : Nat} (hm : (m : Int) < g.c) : idxOf (first g).chips m = some m := by
  have hl : (first g).chips.length = g.c.toNat := by simp [first]
  have hat : ∀ j : Nat, j < g.c.toNat → (first g).chips.getD j 0 = (j : Int) := fun j hj => by
    show ((List.range g.c.toNat).map Int.ofNat).getD j 0 = _
    rw [List.getD_eq_getElem?_getD, List.getElem?_map, List.getElem?_range hj]
    rfl
  exact idx_some (by omega) (hat m (by omega)) (fun j hj => by rw [hat j (by omega)]; omega)
theorem set_idx {g : Geo} (hg : g.Ok) {m : Nat} (hm : (m : Int) < g.c) : idxOf ((first g).chips.set m g.c) g.c.toNat = some m := by
  have hgc := hg.c
  have hl : (first g).chips.length = g.c.toNat := by simp [first]
  refine idx_some (by rw [List.length_set]; omega) ?_ (fun j hj => ?_)
  · rw [List.getD_eq_getElem?_getD, List.getElem?_set_self (by omega)]
    show g.c = _
    omega
  · rw [List.getD_eq_getElem?_getD, List.getElem?_set_ne (by omega)]
    show (((List.range g.c.toNat).map Int.ofNat)[j]?.getD 0) ≠ _
    rw [List.getElem?_map, List.getElem?_range (by omega)]
    show (j : Int) ≠ _
    omega
/-- A member's chip dies. -/
theorem std_kill {σ : Ar} {g : Geo} {V : View} {H : Held} {q : Int} (h : Std σ g V H q) {m : Nat} (hm : (m : Int) < g.c) :
    ∃ τ, Ar.There { σ with s := σ.s.kill m } ∧ Ar.read { σ with s := σ.s.kill m } m = (τ, 71) ∧ Reb τ g (V.kill m) H m q 0 ∧ ∀ n, σ.s.Safe (n + 1) → τ.s.Safe n := by
  have hgc := h.ok.c
  have hw : PlA.Whole { σ with s := σ.s.kill m } g (V.kill m) q := h.whole.turn (h.whole.sees.kill m)
  have hset : σ.set = { first g with seq := q } := h.whole.set
  have hch := first_chip σ hset hm
  have hv : (V.kill m).dead m = true := by show (if m = m then true else V.dead m) = true; rw [if_pos rfl]
  have hvn : ∀ c, c ≠ m → (V.kill m).dead c = false := fun c hc => by show (if c = m then true else V.dead c) = false; rw [if_neg hc]; exact h.live c
  refine ⟨dd { σ with s := σ.s.kill m } m m, hw.there, ?_, ?_, fun n hs => PlC.safe_more hw.sees (safe_kill hs m)⟩
  · exact read_dies hw.sees hw.lost (by show σ.set.dead = 255; rw [hset]; rfl) (by omega) hch hv (by show σ.set.spare ≠ _; rw [hset]; show g.c ≠ _; omega) (by show idxOf σ.set.chips m = _; rw [hset]; exact first_idx hm)
  · refine ⟨⟨hw.sees.more, h.ok, hw.lost, ?_, by omega, fun n hn => ?_, fun n hn hne => ?_, fun n hn hne => hvn n (by omega)⟩, fun n hn hne b hb2 hb k => ?_, h.hok, ?_, h.q0, fun c => ?_, hvn _ (by omega), fun b b2 bd k => by omega, fun _ => h.raw, fun hd => absurd hd (Nat.lt_irrefl _)⟩
    · show ((m : Nat) : Int) = _
      rw [if_neg (by omega)]
    · exact first_chip σ hset hn
    · show (if n = m then none else σ.vol n) = _
      rw [if_neg (by omega), h.whole.vol, if_pos (by omega)]
    · exact h.pg n hn b hb2 hb k
    · show ({ σ.set with dead := (m : Int), done := 0 } : MS) = _
      rw [hset]
      rfl
    · show (if c = m then none else σ.vol c) = none ∨ ((if c = m then none else σ.vol c) = some (tb g) ∧ _)
      by_cases e : c = m
      · rw [if_pos e]; exact .inl rfl
      · rw [if_neg e, h.whole.vol]
        by_cases e2 : c < g.c.toNat
        · rw [if_pos e2]; exact .inr ⟨rfl, hvn c e⟩
        · rw [if_neg e2]; exact .inl rfl
/-! ### reads leave it so -/
theorem Reb.adv {σ : Ar} {g : Geo} {V : View} {H : Held} {m d : Nat} {q : Int} (h : Reb σ g V H m q d) (k : Nat) : Reb (TcPA.adv σ k) g V H m q d := by
  obtain ⟨a1, a2, a3, a4⟩ := adv_same σ k
  exact ⟨h.rdy.adv k, h.stand, h.hok, a2.trans h.set, h.q0, fun c => by rw [a1]; exact h.vol c, h.live, h.made, h.raw, fun hd => by rw [a1]; exact h.spare hd⟩
theorem Mad.adv {σ : Ar} {g : Geo} {V : View} {H : Held} {m : Nat} {q : Int} (h : Mad σ g V H m q) (k : Nat) : Mad (TcPA.adv σ k) g V H m q :=
  ⟨h.rdy.adv k, h.stand, h.hok, (adv_same σ k).2.1.trans h.set, h.mm⟩
/-- The chip that was in reserve dies, too. -/
theorem mad_kill {σ : Ar} {g : Geo} {V : View} {H : Held} {m : Nat} {q : Int} (h : Mad σ g V H m q) :
    ∃ τ, Ar.There { σ with s := σ.s.kill g.c.toNat } ∧ Ar.read { σ with s := σ.s.kill g.c.toNat } m = (τ, 71) ∧ Rdy τ g (V.kill g.c.toNat) (sw g m) m ∧ Stand g (V.kill g.c.toNat) (sw g m) m H ∧ τ.set.spare = 255 ∧ τ.set.dead = m ∧ ∀ n, σ.s.Safe (n + 1) → τ.s.Safe n := by
  have hok := h.rdy.ok
  have hgc := hok.c
  have hm := h.mm
  have hs := h.rdy.sees.kill g.c.toNat
  have hv : (V.kill g.c.toNat).dead g.c.toNat = true := by show (if g.c.toNat = g.c.toNat then true else V.dead _) = true; rw [if_pos rfl]
  have hsw : sw g m m = g.c.toNat := if_pos rfl
  have hd : σ.set.dead = 255 := by rw [h.set]
  have hsp : σ.set.spare = 255 := by rw [h.set]
  refine ⟨dd { σ with s := σ.s.kill g.c.toNat } m g.c.toNat, fun _ n hn hne => ?_, ?_, ?_, ?_, hsp, rfl, fun n hs' => PlC.safe_more hs (safe_kill hs' _)⟩
  · have hn' : (n : Int) < g.c := by
      have h1 : (n : Int) < σ.s.g.c := hn
      rw [h.rdy.sees.g] at h1
      exact h1
    exact ⟨tb g, by
      show σ.vol (σ.chip n) = _
      rw [h.rdy.chip n hn']
      exact h.rdy.vol n hn' (by omega)⟩
  · exact read_dies hs h.rdy.lost hd (by omega) ((h.rdy.chip m hm).trans hsw) hv (by show σ.set.spare ≠ _; rw [hsp]; omega) (by show idxOf σ.set.chips _ = _; rw [h.set]; exact set_idx hok hm)
  · refine ⟨hs.more, hok, h.rdy.lost, ?_, by omega, fun n hn => h.rdy.chip n hn, fun n hn hne => ?_, fun n hn hne => ?_⟩
    · show ((m : Nat) : Int) = _
      rw [if_neg (by omega)]
    · have e : sw g m n = n := if_neg (by omega)
      have h1 := h.rdy.vol n hn (by omega)
      rw [e] at h1 ⊢
      show (if n = g.c.toNat then none else σ.vol n) = _
      rw [if_neg (by omega)]
      exact h1
    · have e : sw g m n = n := if_neg (by omega)
      have h1 := h.rdy.live n hn (by omega)
      rw [e] at h1 ⊢
      show (if n = g.c.toNat then true else V.dead n) = false
      rw [if_neg (by omega)]
      exact h1
  · exact fun n hn hne b hb2 hb k => h.stand n hn (by omega) b hb2 hb k

/-! ### Ticks -/
/-- The array ahead of its i-th Tick. -/
def TS (g : Geo) (H : Held) (m i : Nat) (σ : Ar) : Prop :=
  ∃ V, (i = 1 ∧ Reb σ g V H m 1 0) ∨ (2 ≤ i ∧ (i : Int) < g.b - 5 ∧ Reb σ g V H m i i) ∨ ((i : Int) = g.b - 5 ∧ Mad σ g V H m i)
theorem TS.adv {g : Geo} {H : Held} {m i : Nat} {σ : Ar} (h : TS g H m i σ) (k : Nat) : TS g H m i (adv σ k) := by
  obtain ⟨V, h | h | h⟩ := h
  · exact ⟨V, .inl ⟨h.1, Reb.adv h.2 k⟩⟩
  · exact ⟨V, .inr (.inl ⟨h.1, h.2.1, Reb.adv h.2.2 k⟩)⟩
  · exact ⟨V, .inr (.inr ⟨h.1, Mad.adv h.2 k⟩)⟩
theorem TS.rdy {g : Geo} {H : Held} {m i : Nat} {σ : Ar} (h : TS g H m i σ) : HOk g H ∧ σ.s.g = g ∧ ∃ V ch dm, Rdy σ g V ch dm ∧ Stand g V ch dm H := by
  obtain ⟨V, h | h | h⟩ := h
  · exact ⟨h.2.hok, h.2.rdy.sees.g, V, _, _, h.2.rdy, h.2.stand⟩
  · exact ⟨h.2.2.hok, h.2.2.rdy.sees.g, V, _, _, h.2.2.rdy, h.2.2.stand⟩
  · exact ⟨h.2.hok, h.2.rdy.sees.g, V, _, _, h.2.rdy, h.2.stand⟩
def TickAny (g : Geo) (H : Held) (m i : Nat) (σ : Ar) (K : ALay) (n0 : Nat) (w : World) (e : Ending) (w' : World) : Prop :=
  e = .returned (.tuple #[.bool (decide ((i : Int) = g.b - 5 - 1)), .int .i64 0]) ∧ ∃ σ' K', TS g H m (i + 1) σ' ∧ σ'.s.Safe n0 ∧ ArAt w' σ' K' ∧ KSame K K' ∧ Fr (KF K σ) w w'
theorem tick_any {g : Geo} {H : Held} {m i : Nat} {σ : Ar} (K : ALay) (h : TS g H m i σ) (hb7 : 9 ≤ g.b) (hi0 : 1 ≤ i) (hi : (i : Int) < g.b - 5) (n0 : Nat) (hs : σ.s.Safe (n0 + 20000)) (w : World) (hA : ArAt w σ K) :
    Calls Tryz.prog 21 #[.pointer (some ⟨K.x, 0, none⟩)] w (TickAny g H m i σ K n0 w) := by
  obtain ⟨V, ⟨rfl, h⟩ | ⟨h2, h3, h⟩ | ⟨h4, _⟩⟩ := h
  · refine (tick_a K h (by decide) n0 (hs.le (by omega)) w hA).mono (fun e w' hp => ?_)
    obtain ⟨he, σ', V', K', hR, hf, hA', hks, hF⟩ := hp
    refine ⟨?_, σ', K', ⟨V', .inr (.inl ⟨by omega, by omega, hR⟩)⟩, hf, hA', hks, hF⟩
    rw [he, decide_eq_false (by omega)]
  · have hgb := h.rdy.ok.b
    refine (tick_b K h h2 h3 (by omega) n0 hs w hA).mono (fun e w' hp => ?_)
    obtain ⟨he, σ', V', hR, hM, hf, hA', hF⟩ := hp
    refine ⟨?_, σ', K, ⟨V', ?_⟩, hf, hA', KSame.refl K, hF⟩
    · rw [he]
      congr 5
      rw [decide_eq_decide]
      omega
    · by_cases e : (i : Int) + 1 = g.b - 5
      · exact .inr (.inr ⟨by omega, by rw [show (((i + 1 : Nat) : Int)) = (i : Int) + 1 by omega]; exact hM e⟩)
      · exact .inr (.inl ⟨by omega, by omega, by rw [show (((i + 1 : Nat) : Int)) = (i : Int) + 1 by omega]; exact hR (by omega)⟩)
  · omega

/-! ### all is read -/
def AllAny (σ : Ar) (K : ALay) (m0 : Nat) (w : World) (e : Ending) (w' : World) : Prop :=
  e = .returned (.bool true) ∧ ∃ k, (adv σ k).s.Safe (20 * m0) ∧ ArAt w' (adv σ k) K ∧ Fr (AF K σ) w w'
theorem all_any {σ : Ar} {g : Geo} {V : View} {ch : Nat → Nat} {dm : Int} {H : Held} (K : ALay) (base : Nat) (Y : HLay) (h : Rdy σ g V ch dm) (hS : Stand g V ch dm H) (hH : HOk g H) (m0 : Nat) (hs : σ.s.Safe (20 * m0 + 400000)) (w : World) (hA : ArAt w σ K) (hh : HeldAt w base H Y) :
    Calls Tryz.prog 17 #[.pointer (some ⟨K.x, 0, none⟩), .pointer (some ⟨Y.hb, 0, none⟩)] w (AllAny σ K m0 w) := by
  have hp := h.ok.p
  have hpr := pairs_is h.ok
  have hst : H.staged.length ≤ 256 := by
    have hf := hH.few
    unfold Geo.room at hf
    have e : g.p * g.pairs ≤ 32 * 8 := by
      have e1 : g.p * g.pairs ≤ 32 * g.pairs := Int.mul_le_mul_of_nonneg_right (by omega) (by omega)
      omega
    omega
  have hT := tells K h hS hH
  rw [← h.sees.g] at hT
  refine (AllA.All_calls σ K base H Y (RI σ) (fun _ => True) m0 w hA hh hT ⟨⟨0, rfl⟩, hs.le (by unfold AllA.fuel; omega)⟩).mono (fun e w' hp => ?_)
  obtain ⟨he, τ, ⟨⟨k, rfl⟩, h1⟩, _, hA', hf⟩ := hp
  exact ⟨he, k, h1, hA', hf⟩
end Go.Proofs.YteofgpaceeibpaaGreat.TcPH
namespace Go.Proofs.YteofgpaceeibpaaGreat.ActD
open Go.RowKit Gab Geom Par Fields Seal Nand NandH MemA ArrA ArrF AOrd AOrdB AWrA AWrB AWrC StgA LawA HeldA ActA ActB ActC PlA TcPF TcPG
set_option linter.unusedVariables false
set_option linter.unusedSimpArgs false
/-- What act answers on a whole array. -/
def ActAny (σ : Ar) (K : ALay) (g : Geo) (base : Nat) (q : Int) (hb : Nat) (n0 : Nat) (w : World) (e : Ending) (w' : World) : Prop :=
  e = .returned (.int .i64 0) ∧ ∃ σ' V' H' Y', Std σ' g V' H' q ∧ σ'.s.Safe n0 ∧ ArAt w' σ' K ∧ HeldAt w' base H' Y' ∧ Y'.hb = hb ∧ Fr (fun b => AF K σ b ∨ base ≤ b) w w'
theorem act_any {σ : Ar} {g : Geo} {V : View} {H : Held} {q : Int} (K : ALay) (base : Nat) (Y : HLay) (kd sg c : Int) (w : World) (hS : Std σ g V H q) (hA : ArAt w σ K) (hH : HeldAt w base H Y) (hbase : base ≤ w.heap.size) (c0 : 0 ≤ c) (c1 : c < 256) (n0 : Nat) (hs : σ.s.Safe (n0 + 20)) :
    Calls Tryz.prog 16 #[.pointer (some ⟨K.x, 0, none⟩), .pointer (some ⟨Y.hb, 0, none⟩), .agg #[.int .i64 kd, .int .i64 sg, .int .u8 c]] w (ActAny σ K g base q Y.hb n0 w) := by
  have hg := hS.whole.sees.g
  have hgp := hS.ok.p
  obtain ⟨k, hk⟩ : ∃ k : Nat, u64of sg % 4 = (k : Int) := ⟨(u64of sg % 4).toNat, by omega⟩
  have hk4 : k < 4 := by omega
  have hkt : (u64of sg % 4).toNat = k := by omega
  have hpost : ∀ {σ' : Ar} {V' : View} {H' : Held} {e : Ending} {w' : World}, ActPost σ' σ K base H' Y.hb w e w' → Std σ' g V' H' q → σ'.s.Safe n0 → ActAny σ K g base q Y.hb n0 w e w' := fun {σ' V' H' e w'} hp h1 h2 => by
    obtain ⟨he, hA', ⟨Y', hH', hY'⟩, hf⟩ := hp
    exact ⟨he, σ', V', H', Y', h1, h2, hA', hH', hY', hf⟩
  by_cases e1 : kd = 1
  · subst e1
    by_cases hn : ((H.rows k).length : Int) < g.p
    · obtain ⟨s', V', h1, h2, h3⟩ := std_push hS hk4 (by omega) c0 c1
      have h := Act1_calls σ K base H Y sg c ({ σ with s := s' }, 0, 0) w hA hS.whole.there hH hbase c0 c1 (by rw [hg]; exact hS.s256) (by rw [hkt, hg]; exact hn) (by rw [hkt, hk, hg]; exact h1) (by simp [wcode]) n0 (hs.le (by omega))
      rw [hkt, hg] at h
      exact h.mono (fun e w' hp => hpost hp h2 (h3 n0 hs))
    · exact (Act1n_calls σ K base H Y sg c w hA hH hbase (by rw [hkt, hg]; omega)).mono (fun e w' hp => hpost hp hS (hs.le (by omega)))
  by_cases e2 : kd = 2
  · subst e2
    by_cases hn : (H.staged.length : Int) < g.room
    · obtain ⟨s', V', h1, h2, h3⟩ := std_stage hS hn c0 c1
      have h := Act2_calls σ K base H Y sg c ({ σ with s := s' }, 0, 0) w hA hS.whole.there hH hbase c0 c1 (by rw [hg]; exact hS.s256) (by rw [hg]; exact hn) (by rw [hg]; exact h1) (by simp [wcode]) n0 (hs.le (by omega))
      exact h.mono (fun e w' hp => hpost hp h2 (h3 n0 hs))
    · exact (Act2n_calls σ K base H Y sg c w hA hH hbase (by rw [hg]; omega)).mono (fun e w' hp => hpost hp hS (hs.le (by omega)))
  by_cases e3 : kd = 3
  · subst e3
    obtain ⟨s', V', h1, h2, h3⟩ := std_erase hS hk4
    have h := Act3_calls σ K base H Y sg c w hA hH hbase hS.whole.there (by rw [hkt, h1]) n0 (hs.le (by omega))
    rw [hkt, h1] at h
    exact h.mono (fun e w' hp => hpost hp h2 (h3 n0 hs))
  by_cases e4 : kd = 4
  · subst e4
    exact (Act4_calls σ K base H Y sg c w hA hH hbase hS.whole.lost (by rw [hS.whole.set]; rfl)).mono (fun e w' hp => hpost hp hS (hs.le (by omega)))
  · exact (Act0_calls σ K base H Y kd sg c w hA hH hbase ⟨e1, e2, e3, e4⟩).mono (fun e w' hp => hpost hp hS (hs.le (by omega)))
end Go.Proofs.YteofgpaceeibpaaGreat.ActD

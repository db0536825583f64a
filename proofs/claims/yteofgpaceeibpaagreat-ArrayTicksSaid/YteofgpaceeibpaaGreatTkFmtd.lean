/- Plain law of 'kept': a stripe and a staged page of fresh chips are read when a chip is dead. | gabionlaw13.kept. | gabionlaw13.formatted, where nothing is to come. -/
import Derived.Test.YteofgpaceeibpaaGreatTkShape
import Derived.Test.YteofgpaceeibpaaGreatTkAllA
import Derived.Test.YteofgpaceeibpaaGreatTkNandG
namespace Go.Proofs.YteofgpaceeibpaaGreat.PlC
open Go.RowKit Gab Geom Ref Fields Seal Nand NandA NandB NandC NandD NandE NandF NandH RemapA VolA VolF MemA MemB MemC ArrA ArrC ArrD ArrE ArrF ArrG ArrI AOrd AOrdB AWrA AWrB AWrC ARead AGet LawA HeldA ActA AllA PlA PlB
open Go.Proofs.YteofgpaceeibpaaGreat.Open (openOf)
open Wr (InR)
set_option linter.unusedVariables false
set_option linter.unusedSimpArgs false

def g3 : Geo := ⟨3, 16, 4, 256⟩
theorem g3_ok : g3.Ok := ⟨by decide, by decide, by decide, by decide, by decide⟩
def kpgs : List (Head × List Int) := pgs 0 5 2
def kst : Head × List Int := (phead 0 6, pdat 0 6)
def kpg (m : Int) : List Int × List Int := pageOf g3 kpgs 6 0 m
def kstp : List Int × List Int := (pdat 0 6, sealOf (phead 0 6) (pdat 0 6) [])
def V2 : View := (V1 g3).row 8 0 kpg [0, 1, 2]
def V3 : View := V2.row 6 0 (fun _ => kstp) [0, 1]
def V4 : View := V3.kill 0
/-- Behind the stripe, and the staged page. -/
theorem kept_a {σ : Ar} (h : Whole σ g3 (V1 g3) 1) : ∃ s', Whole { σ with s := s' } g3 V2 1 ∧ σ.progs 6 0 kpg [0, 1, 2] = ({ σ with s := s' }, 0, 0) ∧ ∀ n, σ.s.Safe (n + 3) → s'.Safe n := by
  obtain ⟨s', h1, e1, f1⟩ := whole_progs (seg := 6) (row := 0) g3_ok ⟨by decide, by decide⟩ kpg [0, 1, 2] σ (V1 g3) 0 h (by decide) (fun m hm => by
    have h3 : m = 0 ∨ m = 1 ∨ m = 2 := by simpa using hm
    refine ⟨by omega, by show m < 3; omega, rfl, ?_⟩
    exact V1_nx _ (by decide))
  exact ⟨s', h.turn h1, e1, f1⟩
theorem kept_b {σ : Ar} (h : Whole σ g3 V2 1) : ∃ s', Whole { σ with s := s' } g3 V3 1 ∧ σ.progs 4 0 (fun _ => kstp) [0, 1] = ({ σ with s := s' }, 0, 0) ∧ ∀ n, σ.s.Safe (n + 2) → s'.Safe n := by
  obtain ⟨s', h1, e1, f1⟩ := whole_progs (seg := 4) (row := 0) g3_ok ⟨by decide, by decide⟩ (fun _ => kstp) [0, 1] σ V2 0 h (by decide) (fun m hm => by
    have h3 : m = 0 ∨ m = 1 := by simpa using hm
    refine ⟨by omega, by show m < 3; omega, rfl, ?_⟩
    show (if (m.toNat : Int) ∈ [0, 1, 2] ∧ (6 : Nat) = 8 then ((0 : Nat) : Int) + 1 else (V1 g3).nx m.toNat 6) = 0
    rw [if_neg (fun h => absurd h.2 (by decide))]
    exact V1_nx _ (by decide))
  exact ⟨s', h.turn h1, e1, f1⟩
/-- An array of which the first chip is dead; whether that is noted. -/
structure Kp (τ : Ar) (d : Bool) : Prop where
  sees : Sees τ.s g3 V4
  lost : τ.lost = false
  vol : ∀ c, c = 1 ∨ c = 2 → τ.vol c = some (tb g3)
  set : τ.set = if d = true then { first g3 with seq := 1, dead := 0, done := 0 } else { first g3 with seq := 1 }
theorem Kp.chip {τ : Ar} {d : Bool} (h : Kp τ d) {m : Nat} (hm : m < 3) : τ.chip m = m := by
  unfold Ar.chip
  rw [h.set]
  cases d
  · show (((List.range g3.c.toNat).map Int.ofNat).getD m 0).toNat = m
    rw [List.getD_eq_getElem?_getD, List.getElem?_map, List.getElem?_range (by show m < 3; exact hm)]
    rfl
  · show (((List.range g3.c.toNat).map Int.ofNat).getD m 0).toNat = m
    rw [List.getD_eq_getElem?_getD, List.getElem?_map, List.getElem?_range (by show m < 3; exact hm)]
    rfl
theorem Kp.more {τ : Ar} {d : Bool} (h : Kp τ d) : Kp { τ with s := τ.s.more } d := ⟨h.sees.more, h.lost, h.vol, h.set⟩
theorem Kp.read {τ : Ar} {d : Bool} (h : Kp τ d) {m : Nat} (hm : m = 1 ∨ m = 2) : τ.read m = ({ τ with s := τ.s.more }, 0) := by
  have hd : τ.set.dead ≠ (m : Int) := by rw [h.set]; cases d <;> rcases hm with rfl | rfl <;> decide
  have hl : V4.dead m = false := by rcases hm with rfl | rfl <;> rfl
  unfold Ar.read
  rw [h.lost, if_neg (by decide), if_neg hd, h.sees.read_ok (by rw [h.chip (by omega)]; exact hl)]
  rfl
theorem Kp.bytes {τ : Ar} {d : Bool} (h : Kp τ d) {m b : Nat} (k : Nat) (hm : m = 1 ∨ m = 2) (hb : (b : Int) < 11) {x : List Int × List Int} (hp : V4.pg m (b + 2) k = some x) : τ.bytes m b k = x := by
  unfold Ar.bytes
  have ht : τ.tab m = tb g3 := by unfold Ar.tab; rw [h.vol m hm]; rfl
  rw [h.chip (by omega), ht, at_fmt g3_ok (by show (b : Int) < 11; exact hb)]
  exact h.sees.bytes hp
theorem V4_row {m : Nat} (hm : m < 3) : V4.pg m 8 0 = some (kpg m) := by
  show (if (m : Int) ∈ [0, 1] ∧ (8 : Nat) = 6 ∧ (0 : Nat) = 0 then some kstp else if (m : Int) ∈ [0, 1, 2] ∧ (8 : Nat) = 8 ∧ (0 : Nat) = 0 then some (kpg m) else (V1 g3).pg m 8 0) = some (kpg m)
  have hin : (m : Int) ∈ [0, 1, 2] := by
    have : m = 0 ∨ m = 1 ∨ m = 2 := by omega
    rcases this with rfl | rfl | rfl <;> decide
  rw [if_neg (fun h => absurd h.2.1 (by decide)), if_pos ⟨hin, rfl, rfl⟩]
theorem V4_st {m : Nat} (hm : m < 2) : V4.pg m 6 0 = some kstp := by
  show (if (m : Int) ∈ [0, 1] ∧ (6 : Nat) = 6 ∧ (0 : Nat) = 0 then some kstp else _) = some kstp
  have hin : (m : Int) ∈ [0, 1] := by
    have : m = 0 ∨ m = 1 := by omega
    rcases this with rfl | rfl <;> decide
  rw [if_pos ⟨hin, rfl, rfl⟩]
theorem Kp.there {τ : Ar} {d : Bool} (h : Kp τ d) (h0 : d = false → ∃ t, τ.vol 0 = some t) : τ.There := fun _ m hm hne => by
  rw [h.sees.g] at hm
  have hm3 : (m : Int) < 3 := hm
  rw [h.chip (by omega)]
  by_cases e : m = 0
  · subst e
    cases d
    · exact h0 rfl
    · exact absurd (by rw [h.set]; rfl) hne
  · exact ⟨_, h.vol m (by omega)⟩
/-- The first chip's death is noted. -/
def d1 (τ : Ar) : Ar := { s := τ.s.more, vol := fun k => if k = 0 then none else τ.vol k, set := { τ.set with dead := 0, done := 0 }, lost := τ.lost }
theorem Kp.d1 {τ : Ar} (h : Kp τ false) : Kp (d1 τ) true := ⟨h.sees.more, h.lost, fun c hc => by
  show (if c = 0 then none else τ.vol c) = some (tb g3)
  rw [if_neg (by omega)]
  exact h.vol c hc, by show ({ τ.set with dead := 0, done := 0 } : MS) = _; rw [h.set]; rfl⟩
theorem Kp.read0 {τ : Ar} (h : Kp τ false) : τ.read 0 = (PlC.d1 τ, 71) := by
  have hr : τ.s.read 0 = (τ.s.more, 71) := by rw [h.sees.read 0]; rfl
  have hset : τ.set = { first g3 with seq := 1 } := h.set
  have hidx : idxOf τ.set.chips 0 = some 0 := by rw [hset]; rfl
  have hsp : τ.set.spare = 3 := by rw [hset]; rfl
  have hdd : τ.set.dead = 255 := by rw [hset]; rfl
  have hdied : Ar.died { τ with s := τ.s.more } 0 = (PlC.d1 τ, 0) := by
    unfold Ar.died
    show (if τ.set.spare = ((0 : Nat) : Int) then _ else _) = _
    rw [hsp, if_neg (by decide)]
    show (match idxOf τ.set.chips 0 with
      | some m => (Ar.drop { τ with s := τ.s.more } 0).gone m
      | none => (Ar.drop { τ with s := τ.s.more } 0, 0)) = _
    rw [hidx]
    show Ar.gone (Ar.drop { τ with s := τ.s.more } 0) 0 = _
    unfold Ar.gone
    show (if τ.set.dead = ((0 : Nat) : Int) then _ else if τ.set.dead = 255 then _ else _) = _
    rw [hdd, if_neg (by decide), if_pos rfl]
    rfl
  unfold Ar.read
  rw [if_neg (by rw [h.lost]; decide), hdd, if_neg (by decide), h.chip (by decide), hr]
  dsimp only
  rw [if_pos rfl, hdied]
  rfl
theorem Kp.read0' {τ : Ar} (h : Kp τ true) : τ.read 0 = (τ, 71) := by
  unfold Ar.read
  rw [h.lost, if_neg (by decide), h.set]
  rfl
def KI (n : Nat) (τ : Ar) : Prop := (Kp τ true ∨ (Kp τ false ∧ ∃ t, τ.vol 0 = some t)) ∧ τ.s.Safe (2 * n)
def KH : Held := ⟨fun j => if j = 0 then [kpgs] else [], [kst], -1⟩
theorem KI.there {n : Nat} {τ : Ar} (h : KI n τ) : τ.There := by
  rcases h.1 with h1 | ⟨h1, h2⟩
  · exact h1.there (fun e => by cases e)
  · exact h1.there (fun _ => h2)
theorem KI.kp {n : Nat} {τ : Ar} (h : KI n τ) : ∃ d, Kp τ d := by
  rcases h.1 with h1 | ⟨h1, h2⟩
  · exact ⟨_, h1⟩
  · exact ⟨_, h1⟩
theorem safe_more {s : St} {g : Geo} {V : View} (hs : Sees s g V) {n : Nat} (h : s.Safe (n + 1)) : s.more.Safe n := by
  have h1 := h.start 0
  rw [hs.start 0] at h1
  exact h1
theorem kpgs_get {s : Nat} (hs : s < 2) : kpgs.getD s noPage = (phead s 5, pdat s 5) := by
  have : s = 0 ∨ s = 1 := by omega
  rcases this with rfl | rfl <;> rfl
theorem kpg_data {s : Nat} (hs : s < 2) : kpg ((s : Int) + 1) = (pdat s 5, sealOf (phead s 5) (pdat s 5) []) := by
  have : s = 0 ∨ s = 1 := by omega
  rcases this with rfl | rfl <;> rfl
theorem kst_inr : InR 256 kstp.1 ∧ InR 256 kstp.2 := ⟨pdat_range _ _, seal_range (fun x hx => by cases hx)⟩
theorem kept_tells (K : ALay) : Tells K g3 KH KI (fun τ => Kp τ true) := by
  refine ⟨fun n τ h => by obtain ⟨d, h1⟩ := h.kp; exact h1.sees.g, fun n m τ h hm => ⟨h.1, h.2.le (by omega)⟩, ?_, ?_, ?_, ?_, ?_, by decide⟩
  · intro n τ h k hk hkl m hm s hs
    have hk0 : k = 0 := by
      by_cases e : k = 0
      · exact e
      · have : (KH.rows k).length = 0 := by show (if k = 0 then [kpgs] else []).length = 0; rw [if_neg e]; rfl
        omega
    subst hk0
    have hm0 : m = 0 := by have : (KH.rows 0).length = 1 := rfl; omega
    subst hm0
    have hs2 : s < 2 := by have : ((KH.rows 0).getD 0 []).length = 2 := rfl; omega
    obtain ⟨d, hkp⟩ := h.kp
    have hmem : g3.mem 6 0 s = (s : Int) + 1 := by
      have : s = 0 ∨ s = 1 := by omega
      rcases this with rfl | rfl <;> rfl
    have hmm : s + 1 = 1 ∨ s + 1 = 2 := by omega
    have hmt : (τ.s.g.mem 6 0 s).toNat = s + 1 := by rw [hkp.sees.g, hmem]; omega
    refine ⟨{ τ with s := τ.s.more }, ⟨?_, safe_more hkp.sees (h.2.le (by omega))⟩, fun w hA => ?_⟩
    · rcases h.1 with h1 | ⟨h1, h2⟩
      · exact .inl h1.more
      · exact .inr ⟨h1.more, h2⟩
    · have hby : τ.bytes (s + 1) 6 0 = (pdat s 5, sealOf (phead s 5) (pdat s 5) []) := by
        rw [← kpg_data hs2]
        exact hkp.bytes 0 hmm (by decide) (V4_row (m := s + 1) (by omega))
      have hq : ((KH.rows 0).getD 0 []).getD s noPage = (phead s 5, pdat s 5) := kpgs_get hs2
      rw [hq]
      show Calls _ _ #[dev K.x, .agg #[.int .i64 (6 + ((0 : Nat) : Int)), .int .i64 ((0 : Nat) : Int), .int .i64 (s : Int)]] _ _
      have hr := Read_direct τ K 6 0 s w (phead s 5) ({ τ with s := τ.s.more }, 0) (pdat s 5, sealOf (phead s 5) (pdat s 5) []) hA h.there ⟨by rw [hkp.sees.g]; decide, by rw [hkp.sees.g]; decide⟩ (by omega) (by rw [hkp.sees.g]; show (s : Int) < 2; omega) (by rw [hmt]; exact hkp.read hmm) rfl (by rw [hmt]; exact hby) (open_page (by omega) (by omega) (by decide) (by decide)) ⟨pdat_range _ _, seal_range (fun x hx => by cases hx)⟩ (2 * n) (h.2.le (by omega))
      exact hr
  · intro n τ h m hm
    have hm0 : m = 0 := by have : KH.staged.length = 1 := rfl; omega
    subst hm0
    obtain ⟨d, hkp⟩ := h.kp
    -- the array behind the first read
    have hstep : ∃ τ1, Kp τ1 true ∧ τ1.There ∧ One τ 0 4 0 (τ1, 71) (τ.bytes 0 4 0) ∧ τ1.s.Safe (2 * n + 1) := by
      rcases h.1 with h1 | ⟨h1, h2⟩
      · exact ⟨τ, h1, h.there, ⟨h1.read0', rfl, fun e => absurd (show (71 : Int) = 0 from e) (by decide)⟩, h.2.le (by omega)⟩
      · exact ⟨d1 τ, h1.d1, h1.d1.there (fun e => by cases e), ⟨h1.read0, rfl, fun e => absurd (show (71 : Int) = 0 from e) (by decide)⟩, safe_more h1.sees h.2⟩
    obtain ⟨τ1, k1, th1, o1, sf1⟩ := hstep
    have hby : τ1.bytes 1 4 0 = kstp := k1.bytes 0 (.inl rfl) (by decide) (V4_st (m := 1) (by decide))
    have hg : Gets τ 0 4 0 (phead 0 6) (pdat 0 6) { τ1 with s := τ1.s.more } := .inr ⟨τ1, 71, _, th1, o1, .inl rfl, ⟨kstp, ⟨k1.read (.inl rfl), hby, fun _ => kst_inr⟩, open_page (by decide) (by decide) (by decide) (by decide), rfl⟩⟩
    refine ⟨{ τ1 with s := τ1.s.more }, ⟨.inl k1.more, safe_more k1.sees sf1⟩, k1.more, fun w hA => ?_⟩
    exact Get_calls τ { τ1 with s := τ1.s.more } K 0 0 (phead 0 6) (pdat 0 6) w hA h.there ⟨by decide, by decide⟩ (by decide) (by rw [hkp.sees.g]; decide) (by rw [hkp.sees.g]; exact hg) (2 * n) h.2
  · intro k hk m hm s hs
    have hk0 : k = 0 := by
      by_cases e : k = 0
      · exact e
      · have : (KH.rows k).length = 0 := by show (if k = 0 then [kpgs] else []).length = 0; rw [if_neg e]; rfl
        omega
    subst hk0
    have hm0 : m = 0 := by have : (KH.rows 0).length = 1 := rfl; omega
    subst hm0
    have hs2 : s < 2 := by have : ((KH.rows 0).getD 0 []).length = 2 := rfl; omega
    have hq : ((KH.rows 0).getD 0 []).getD s noPage = (phead s 5, pdat s 5) := kpgs_get hs2
    rw [hq]
    exact pdat_range _ _
  · intro m hm
    have hm0 : m = 0 := by have : KH.staged.length = 1 := rfl; omega
    subst hm0
    exact pdat_range _ _
  · intro k hk
    have : k = 0 ∨ k = 1 ∨ k = 2 ∨ k = 3 := by omega
    rcases this with rfl | rfl | rfl | rfl
    · refine ⟨by decide, fun m hm => ?_⟩
      have hm0 : m = 0 := by have : (KH.rows 0).length = 1 := rfl; omega
      subst hm0
      decide
    · exact ⟨by decide, fun m hm => absurd hm (Nat.not_lt_zero _)⟩
    · exact ⟨by decide, fun m hm => absurd hm (Nat.not_lt_zero _)⟩
    · exact ⟨by decide, fun m hm => absurd hm (Nat.not_lt_zero _)⟩
end Go.Proofs.YteofgpaceeibpaaGreat.PlC
namespace Go.Proofs.YteofgpaceeibpaaGreat.Kpt
open Go.RowKit Gab Geom Go.Proofs.YteofgpaceeibpaaGreat.Sum Ref Par Fields Seal Nand NandA NandE NandF NandG NandH MemA MemC ArrA ArrB ArrD ArrI AOrd AOrdB AWrA AWrB AWrC LawA HeldA ActA ActB AllA PlA PlB PlC
open Wr (InR)
open Heap (cell_is)
open Str (pcells)
set_option linter.unusedVariables false
set_option linter.unusedSimpArgs false

def H0 : Held := ⟨fun _ => [], [], -1⟩
theorem held_new {w : World} {base : Nat} (hb : base ≤ w.heap.size) : HeldAt (w.alloc (.cells #[.slice none 0 0, .slice none 0 0, .slice none 0 0, .slice none 0 0, .slice none 0 0, .int .i64 (-1)] HT)) base H0 ⟨w.heap.size, fun _ => .slice none 0 0, fun _ => [], .slice none 0 0, []⟩ :=
  ⟨heap_alloc_new w _, hb, fun k _ => RowV.nil _ _ _ _, fun k _ n hn => absurd hn (Nat.not_lt_zero _), RowV.nil _ _ _ _, SPs.nil _ _, fun k k' _ _ _ b hb => (by cases hb), fun k _ n hn => absurd hn (Nat.not_lt_zero _)⟩
set_option maxHeartbeats 8000000 in
set_option maxRecDepth 100000 in
theorem kept_calls (w : World) : Calls Tryz.prog 7 #[] w fun e w' => e = .returned (.bool true) ∧ Fr None_ w w' := by
  have HGEO := As.mk (fun w => show Calls Tryz.prog 8 #[.int .i64 0] w fun e w' => e = .returned g3.val ∧ Fr None_ w w' from geo_calls 0 w)
  have HNEW := As.mk (fun w => New_calls g3 w g3_ok)
  obtain ⟨σ1, ef, hw1⟩ := afmt_new g3_ok
  have hs1 : σ1.s.Safe 1000000 := by
    have h := afmt_safe (s := St.new g3) g3_ok (m := 1000000) (new_safe g3 (by decide))
    rw [ef] at h
    exact h
  have HFMT := As.mk (fun p L w (hN : Nand w p (St.new g3) L) => Format_calls p (St.new g3) L w hN 1000000 (new_safe g3 (by decide)))
  unfold AFPost at HFMT
  rw [ef] at HFMT
  obtain ⟨s2, hw2, e2, f2⟩ := kept_a hw1
  obtain ⟨s3, hw3, e3, f3⟩ := kept_b hw2
  have HP1 := As.mk (show σ1.progs (6 + u64of 0 % 4) ([] : List (List (Head × List Int))).length (fun m => pageOf σ1.s.g (pgs ([] : List (List (Head × List Int))).length 5 (σ1.s.g.c - 1).toNat) (6 + u64of 0 % 4) ([] : List (List (Head × List Int))).length m) (orderOf σ1.ahead σ1.s.g.c) = ({ σ1 with s := s2 }, 0, 0) from by
    rw [hw1.sees.g, ahead_none hw1]
    exact e2)
  have HP2 := As.mk (show Ar.progs { σ1 with s := s2 } 4 (((([] : List (Head × List Int)).length : Nat) : Int) / (Ar.s { σ1 with s := s2 }).g.pairs) (fun _ => (pdat (([] : List (Head × List Int)).length : Nat) 6, sealOf (phead (([] : List (Head × List Int)).length : Nat) 6) (pdat (([] : List (Head × List Int)).length : Nat) 6) [])) (orderAt (Ar.ahead { σ1 with s := s2 }) (2 * ((([] : List (Head × List Int)).length : Nat) % (Ar.s { σ1 with s := s2 }).g.pairs)) 2) = ({ σ1 with s := s3 }, 0, 0) from by
    rw [hw2.sees.g, ahead_none hw2]
    exact e3)
  have hs2 := f2 900000 (hs1.le (by decide))
  have hs3 := f3 800000 (hs2.le (by decide))
  have HS1 := As.mk hs1
  have HS2 := As.mk hs2
  have HS3 := As.mk hs3
  have HW1 := As.mk hw1
  have HW2 := As.mk hw2
  have HW3 := As.mk hw3
  have HFU := As.mk (fun v w' (hv : MSV w' v σ1.set) => show Calls Tryz.prog 14 #[v] w' fun e w'' => e = .returned (.bool true) ∧ Fr None_ w' w'' from by
    have h := Full_calls v σ1.set w' hv
    rw [hw1.set] at h
    exact h)
  have HG1 := As.mk (fun K w' (h : ArAt w' σ1 K) => show Calls Tryz.prog 27 #[.pointer (some ⟨K.x, 0, none⟩)] w' fun e w'' => e = .returned (.agg #[.int .i64 3, .int .i64 16, .int .i64 4, .int .i64 256]) ∧ Fr None_ w' w'' from by
    have h9 := ArrA.Geo_calls σ1 K w' h
    rw [hw1.sees.g] at h9
    exact h9)
  clear ef hs1 e2 f2 e3 f3 hs2 hs3 hw1 hw2 hw3
  unfold Geo.val g3 at HGEO HNEW
  go_enter Tryz.func7, Tryz.ntmps7
  go_wp2_with fail
  ((with_reducible refine (HGEO.out _).mono ?_); rintro e w1 ⟨rfl, hf1⟩)
  have HF1 := As.mk hf1
  clear hf1
  go_wp2_with fail
  ((with_reducible refine (HNEW.out _).mono ?_); rintro e w2 ⟨p, L, rfl, hN2, hf2, hnf⟩)
  have HN2 := As.mk hN2
  have HF2 := As.mk (HF1.out.after hf2 (fun _ _ h => h))
  have HNF := As.mk (fun b hb => Nat.le_trans HF1.out.size (hnf b hb))
  clear hN2 hf2 hnf
  go_wp2_with fail
  ((with_reducible refine (HFMT.out p L _ HN2.out).mono ?_); rintro e w3 ⟨hf3, hr3⟩)
  obtain ⟨K, rfl, hA3, hK⟩ : ∃ K, e = .returned (.tuple #[.pointer (some ⟨K.x, 0, none⟩), .int .i64 0]) ∧ ArAt w3 σ1 K ∧ ANew w2.heap.size p L K := by
    rcases hr3 with ⟨_, h⟩ | ⟨h9, _⟩
    · exact h
    · exact absurd rfl h9
  have HK := As.mk hK
  have HA3 := As.mk hA3
  have HF3 := As.mk (show Fr None_ w w3 from HF2.out.after hf3 (fun b hb h => absurd (HNF.out b h) (by omega)))
  clear hA3 hf3 hK
  go_wp2_with fail
  ((with_reducible refine (ArrB.Set_calls σ1 K _ HA3.out).mono ?_); rintro e w4 ⟨v4, rfl, hm4, hf4⟩)
  have HF4 := As.mk (HF3.out.after hf4 (fun _ _ h => h))
  have HA4 := As.mk (HA3.out.none_ hf4)
  have HM4 := As.mk hm4.msv
  clear hf4 hm4
  go_wp2_with fail
  ((with_reducible refine (HFU.out v4 _ HM4.out).mono ?_); rintro e w5 ⟨rfl, hf5⟩)
  have HF5 := As.mk (HF4.out.after hf5 (fun _ _ h => h))
  have HA5 := As.mk (HA4.out.none_ hf5)
  clear hf5
  go_wp2_with fail
  ((with_reducible refine (HG1.out K _ HA5.out).mono ?_); rintro e w6 ⟨rfl, hf6⟩)
  have HF6 := As.mk (HF5.out.after hf6 (fun _ _ h => h))
  have HA6 := As.mk (HA5.out.none_ hf6)
  clear hf6
  go_wp2_with fail
  ((with_reducible refine (HGEO.out _).mono ?_); rintro e w7 ⟨rfl, hf7⟩)
  have HF7 := As.mk (HF6.out.after hf7 (fun _ _ h => h))
  have HA7 := As.mk (HA6.out.none_ hf7)
  clear hf7
  have hN7 : ∀ b, AF K σ1 b → w.heap.size ≤ b := fun b hb => by
    obtain ⟨k1, k2, k3, k4, k5⟩ := HK.out
    have hz := HF2.out.size
    rcases hb with hb | hb | hb
    · refine HNF.out b ?_
      rw [← k1, ← k2]
      have e1 : σ1.s.n = (St.new g3).n := by unfold St.n; rw [HW1.out.sees.g]; rfl
      have e2 : σ1.s.nb = (St.new g3).nb := by unfold St.nb; rw [HW1.out.sees.g]; rfl
      rw [e1, e2] at hb
      exact hb
    · omega
    · omega
  have HN7 := As.mk hN7
  have hsz : w.heap.size ≤ w7.heap.size := HF7.out.size
  have HH8 := As.mk (held_new hsz)
  have HF8 := As.mk (HF7.out.alloc (.cells #[.slice none 0 0, .slice none 0 0, .slice none 0 0, .slice none 0 0, .slice none 0 0, .int .i64 (-1)] HT))
  have HA8 := As.mk (HA7.out.none_ ((Fr.refl None_ w7).alloc (.cells #[.slice none 0 0, .slice none 0 0, .slice none 0 0, .slice none 0 0, .slice none 0 0, .int .i64 (-1)] HT)))
  clear hN7 hsz
  go_upto_region 8 with fail
  generalize w7.alloc (.cells #[.slice none 0 0, .slice none 0 0, .slice none 0 0, .slice none 0 0, .slice none 0 0, .int .i64 (-1)] HT) = w8 at *
  generalize w7.heap.size = hb at *
  have ha1 := Act1_calls σ1 K w.heap.size H0 ⟨hb, fun _ => .slice none 0 0, fun _ => [], .slice none 0 0, []⟩ 0 5 _ w8 HA8.out HW1.out.there HH8.out HF8.out.size (by decide) (by decide) (by rw [HW1.out.sees.g]; rfl) (by rw [HW1.out.sees.g]; decide) HP1.out (by simp [wcode]) 900000 (HS1.out.le (by decide))
  unfold ActPost at ha1
  rw [HW1.out.sees.g] at ha1
  have HA1 := As.mk ha1
  clear ha1
  go_wp2_with fail
  ((with_reducible refine HA1.out.mono ?_); rintro e w9 ⟨rfl, hA9, ⟨Y9, hH9, hY9⟩, hf9⟩)
  have HA9 := As.mk hA9
  have HH9 := As.mk hH9
  have HF9 := As.mk (show Fr None_ w w9 from HF8.out.after hf9 (fun b hb h => by
    rcases h with h | h
    · have := HN7.out b h; omega
    · omega))
  have HY9 := As.mk hY9
  clear hA9 hH9 hf9 hY9 HA1
  have ha2 := Act2_calls { σ1 with s := s2 } K w.heap.size _ Y9 0 6 _ w9 HA9.out HW2.out.there HH9.out HF9.out.size (by decide) (by decide) (by rw [HW2.out.sees.g]; rfl) (by rw [HW2.out.sees.g]; decide) HP2.out (by simp [wcode]) 800000 (HS2.out.le (by decide))
  unfold ActPost at ha2
  rw [HY9.out] at ha2
  have HA2 := As.mk ha2
  clear ha2
  go_wp2_with fail
  ((with_reducible refine HA2.out.mono ?_); rintro e wa ⟨rfl, hAa, ⟨Ya, hHa, hYa⟩, hfa⟩)
  have HAa := As.mk hAa
  have HHa := As.mk (show HeldAt wa w.heap.size KH Ya from hHa)
  have HYa := As.mk hYa
  have HFa := As.mk (show Fr None_ w wa from HF9.out.after hfa (fun b hb h => by
    rcases h with h | h
    · have := HN7.out b ((AF.eq (K := K) (σ := σ1) (σ' := { σ1 with s := s2 }) (by show s2.g = σ1.s.g; rw [HW2.out.sees.g, HW1.out.sees.g]) b).1 h); omega
    · omega))
  clear hAa hHa hYa hfa HA2
  have k0 := (HHa.out.rowc (k := 0) (by decide)).1
  rw [HYa.out] at k0
  obtain ⟨rA, rc, er, _, _, _⟩ := (HHa.out.rows 0 (by decide)).rd
  rw [er] at k0
  have k1 : wa.cell? ⟨hb, 0, none⟩ = some (.slice rA 1 rc) := k0
  have HKL := As.mk (show Calls Tryz.prog 20 #[.pointer (some ⟨p, 0, none⟩), .int .i64 0] wa fun e w' => e = .returned (.tuple #[]) ∧ ArAt w' { σ1 with s := s3.kill 0 } K ∧ HeldAt w' w.heap.size KH Ya ∧ Fr None_ w w' from by
    obtain ⟨q1, q2, _⟩ := HK.out
    have h := Kill_calls K.p s3 K.L 0 wa HAa.out.nand (by show 0 < s3.n; unfold St.n; rw [HW3.out.sees.g]; decide)
    rw [q2] at h
    refine h.mono ?_
    rintro e w' ⟨h1, h2, h3⟩
    rw [← q2] at h2 h3
    have h4 : ArAt w' { σ1 with s := s3.kill 0 } K := HAa.out.turn h2 rfl h3
    have h5 : Fr (AF K { σ1 with s := s3 }) wa w' := h3.mono (fun b _ h => .inl h)
    refine ⟨h1, h4, HHa.out.af HAa.out h5, HFa.out.after h3 (fun b hb h => absurd (HN7.out b (.inl ?_)) (by omega))⟩
    have e1 : s3.n = σ1.s.n := by unfold St.n; rw [HW3.out.sees.g, HW1.out.sees.g]
    have e2 : s3.nb = σ1.s.nb := by unfold St.nb; rw [HW3.out.sees.g, HW1.out.sees.g]
    rw [← e1, ← e2]
    exact h)
  clear k0 er
  go_wp2_with fail
  ((with_reducible refine HKL.out.mono ?_); rintro e wb ⟨rfl, hAb, hHb, hfb⟩)
  have HAb := As.mk hAb
  have HFb := As.mk hfb
  have hkp : Kp { σ1 with s := s3.kill 0 } false := ⟨HW3.out.sees.kill 0, HW1.out.lost, fun c hc => by rw [HW1.out.vol, if_pos (by show c < 3; omega)], HW1.out.set⟩
  have hki : KI (fuel 1000 KH.staged.length 0 0 0) { σ1 with s := s3.kill 0 } := ⟨.inr ⟨hkp, _, by rw [HW1.out.vol, if_pos (by decide)]⟩, safe_kill (HS3.out.le (by decide)) 0⟩
  have hall := All_calls { σ1 with s := s3.kill 0 } K w.heap.size KH Ya KI (fun τ => Kp τ true) 1000 wb hAb hHb (by show Tells K s3.g KH KI _; rw [HW3.out.sees.g]; exact kept_tells K) hki
  unfold AllPost at hall
  rw [HYa.out] at hall
  have HALL := As.mk hall
  clear hAb hHb hfb hkp hki hall k1
  go_wp2_with fail
  ((with_reducible refine HALL.out.mono ?_); rintro e wc ⟨rfl, τ, hI, hG, hAc, hfc⟩)
  have HG := As.mk (hG (by decide))
  have HAc := As.mk hAc
  have HFc := As.mk (show Fr None_ w wc from HFb.out.after hfc (fun b hb h => by
    have h9 : AF K σ1 b := (AF.eq (K := K) (σ := σ1) (σ' := { σ1 with s := s3.kill 0 }) (by show s3.g = σ1.s.g; rw [HW3.out.sees.g, HW1.out.sees.g]) b).1 h
    have := HN7.out b h9
    omega))
  clear hI hG hAc hfc HALL
  go_wp2_with fail
  ((with_reducible refine (ArrB.Set_calls τ K _ HAc.out).mono ?_); rintro e wd ⟨v5, rfl, hm5, hfd⟩)
  have HFd := As.mk (HFc.out.after hfd (fun _ _ h => h))
  have HAd := As.mk (HAc.out.none_ hfd)
  have HFL := As.mk (show Calls Tryz.prog 14 #[v5] wd fun e w'' => e = .returned (.bool false) ∧ Fr None_ wd w'' from by
    have h := Full_calls v5 τ.set wd hm5.msv
    rw [HG.out.set] at h
    exact h)
  have HAHD := As.mk (fun w' (h : ArAt w' τ K) => show Calls Tryz.prog 28 #[.pointer (some ⟨K.x, 0, none⟩)] w' fun e w'' => e = .returned (.int .i64 0) ∧ Fr None_ w' w'' from by
    have h9 := Ahead_calls τ K w' h
    have h8 : τ.ahead = 0 := by unfold Ar.ahead; rw [HG.out.set]; rfl
    rw [h8] at h9
    exact h9)
  clear hfd hm5
  go_wp2_with fail
  ((with_reducible refine HFL.out.mono ?_); rintro e we ⟨rfl, hfe⟩)
  have HFe := As.mk (HFd.out.after hfe (fun _ _ h => h))
  have HAe := As.mk (HAd.out.none_ hfe)
  clear hfe
  go_wp2_with fail
  ((with_reducible refine (HAHD.out _ HAe.out).mono ?_); rintro e wf ⟨rfl, hff⟩)
  have HFf := As.mk (HFe.out.after hff (fun _ _ h => h))
  clear hff
  go_wp2_with fail
  go_ret
  exact ⟨rfl, HFf.out⟩
end Go.Proofs.YteofgpaceeibpaaGreat.Kpt
namespace Go.Proofs.YteofgpaceeibpaaGreat.Fmtd
open Go.RowKit Gab Geom Ref Nand NandA NandE NandF NandG NandH MemA ArrA ArrI LawA PlA PlB
set_option linter.unusedVariables false
set_option linter.unusedSimpArgs false
/-- Fresh chips with an array on them. -/
def FmPost (σ : Ar) (w : World) (e : Ending) (w' : World) : Prop :=
  ∃ K, e = .returned (.tuple #[.pointer (some ⟨K.p, 0, none⟩), .pointer (some ⟨K.x, 0, none⟩), .bool true]) ∧ ArAt w' σ K ∧ (∀ b, AF K σ b → w.heap.size ≤ b) ∧ w.heap.size ≤ K.cb ∧ Fr None_ w w'
theorem new_at {g : Geo} (hg : g.Ok) : ∃ σ, (St.new g).afmt = (σ, 0) ∧ PlA.Whole σ g (V1 g) 1 ∧ σ.s.Safe 1000000000000 := by
  obtain ⟨σ, ef, hw⟩ := afmt_new hg
  refine ⟨σ, ef, hw, ?_⟩
  have h := afmt_safe (s := St.new g) hg (m := 1000000000000) (new_safe g (by decide))
  rw [ef] at h
  exact h
set_option maxHeartbeats 8000000 in
set_option maxRecDepth 100000 in
theorem formatted_calls (chips : Int) (σ : Ar) (ef : (St.new (geoOf chips)).afmt = (σ, 0)) (hw : PlA.Whole σ (geoOf chips) (V1 (geoOf chips)) 1) (w : World) :
    Calls Tryz.prog 15 #[.int .i64 chips, .slice none 0 0] w (FmPost σ w) := by
  have hok := geo_ok chips
  have HGEO := As.mk (fun w => geo_calls chips w)
  obtain ⟨g, hg⟩ : ∃ g, geoOf chips = g := ⟨_, rfl⟩
  rw [hg] at hok HGEO ef hw
  have HNEW := As.mk (fun w => New_calls g w hok)
  have HFMT := As.mk (fun p L w (hN : Nand w p (St.new g) L) => Format_calls p (St.new g) L w hN 1000000 (new_safe g (by decide)))
  unfold AFPost at HFMT
  rw [ef] at HFMT
  have HW := As.mk hw
  unfold Geo.val at HGEO HNEW
  clear ef hw hok hg
  go_enter Tryz.func15, Tryz.ntmps15
  go_wp2_with fail
  ((with_reducible refine (HGEO.out _).mono ?_); rintro e w1 ⟨rfl, hf1⟩)
  have HF1 := As.mk hf1
  clear hf1
  go_wp2_with fail
  ((with_reducible refine (HNEW.out _).mono ?_); rintro e w2 ⟨p, L, rfl, hN2, hf2, hnf⟩)
  have HN2 := As.mk hN2
  have HF2 := As.mk (HF1.out.after hf2 (fun _ _ h => h))
  have HNF := As.mk (fun b hb => Nat.le_trans HF1.out.size (hnf b hb))
  clear hN2 hf2 hnf
  go_wp2_with fail
  ((with_reducible refine (HFMT.out p L _ HN2.out).mono ?_); rintro e w3 ⟨hf3, hr3⟩)
  obtain ⟨K, rfl, hA3, hK⟩ : ∃ K, e = .returned (.tuple #[.pointer (some ⟨K.x, 0, none⟩), .int .i64 0]) ∧ ArAt w3 σ K ∧ ANew w2.heap.size p L K := by
    rcases hr3 with ⟨_, h⟩ | ⟨h9, _⟩
    · exact h
    · exact absurd rfl h9
  have HK := As.mk hK
  have HA3 := As.mk hA3
  have HF3 := As.mk (show Fr None_ w w3 from HF2.out.after hf3 (fun b hb h => absurd (HNF.out b h) (by omega)))
  clear hA3 hf3 hK hr3
  go_wp2_with fail
  go_ret3
  obtain ⟨q1, q2, q3, q4, q5⟩ := HK.out
  have hz := HF2.out.size
  unfold FmPost
  refine ⟨K, by rw [q2]; rfl, HA3.out, fun b hb => ?_, by omega, HF3.out⟩
  rcases hb with hb | hb | hb
  · rw [q1, q2] at hb
    refine HNF.out b ?_
    have e1 : σ.s.n = (St.new g).n := by unfold St.n; rw [HW.out.sees.g]; rfl
    have e2 : σ.s.nb = (St.new g).nb := by unfold St.nb; rw [HW.out.sees.g]; rfl
    rw [e1, e2] at hb
    exact hb
  · omega
  · omega
end Go.Proofs.YteofgpaceeibpaaGreat.Fmtd

/- Plain laws: chips with nothing to come, as they are seen. -/
import Derived.Test.YteofgpaceeibpaaGreatTkArrI
namespace Go.Proofs.YteofgpaceeibpaaGreat.PlA
open Go.RowKit Gab Geom Ref Fields Nand NandA NandB NandC NandD NandE NandF NandH RemapA VolA VolB VolD VolE VolF VolG MemA MemB MemC ArrA ArrC ArrD ArrE ArrG ArrI
set_option linter.unusedVariables false
set_option linter.unusedSimpArgs false

/-- What is to be seen of chips. -/
structure View where
  dead : Nat → Bool
  pg : Nat → Nat → Nat → Option (List Int × List Int)
  nx : Nat → Nat → Int
structure Sees (s : St) (g : Geo) (V : View) : Prop where
  g : s.g = g
  evs : s.evs = []
  off : s.off = false
  dead : ∀ c, s.dead c = V.dead c
  pg : ∀ c b q, (s.blk c b).pg q = V.pg c b q
  nx : ∀ c b, (s.blk c b).next = V.nx c b
theorem Sees.as {s : St} {g : Geo} {V W : View} (h : Sees s g V) (hd : ∀ c, V.dead c = W.dead c) (hp : ∀ c b q, V.pg c b q = W.pg c b q) (hn : ∀ c b, V.nx c b = W.nx c b) : Sees s g W :=
  ⟨h.g, h.evs, h.off, fun c => (h.dead c).trans (hd c), fun c b q => (h.pg c b q).trans (hp c b q), fun c b => (h.nx c b).trans (hn c b)⟩
theorem Sees.calm {s : St} {g : Geo} {V : View} (h : Sees s g V) : s.Calm := fun e he => by rw [h.evs] at he; cases he
theorem Sees.more {s : St} {g : Geo} {V : View} (h : Sees s g V) : Sees s.more g V := ⟨h.g, h.evs, h.off, h.dead, h.pg, h.nx⟩
theorem Sees.start {s : St} {g : Geo} {V : View} (h : Sees s g V) (c : Nat) : s.start c = (s.more, if V.dead c = true then 71 else 0) := by
  have he : s.more.ev = none := by unfold St.ev St.more; rw [h.evs]; rfl
  have hh : s.more.hit none = s.more := rfl
  unfold St.start
  rw [h.off, he, hh]
  have hd : s.more.dead c = V.dead c := h.dead c
  rw [hd]
  cases V.dead c <;> rfl
theorem Sees.start_ok {s : St} {g : Geo} {V : View} (h : Sees s g V) {c : Nat} (hd : V.dead c = false) : s.start c = (s.more, 0) := by rw [h.start c, hd]; rfl
theorem Sees.read {s : St} {g : Geo} {V : View} (h : Sees s g V) (c : Nat) : s.read c = (s.more, if V.dead c = true then 71 else 0) := by rw [read_calm h.calm c, h.start c]
theorem Sees.read_ok {s : St} {g : Geo} {V : View} (h : Sees s g V) {c : Nat} (hd : V.dead c = false) : s.read c = (s.more, 0) := by rw [h.read c, hd]; rfl
theorem Sees.bytes {s : St} {g : Geo} {V : View} (h : Sees s g V) {c b q : Nat} {x : List Int × List Int} (hp : V.pg c b q = some x) : s.bytes c b q = x := by unfold St.bytes; rw [h.pg, hp]
theorem Sees.blank {s : St} {g : Geo} {V : View} (h : Sees s g V) {c b q : Nat} (hp : V.pg c b q = none) : s.bytes c b q = (List.replicate g.s.toNat 255, List.replicate 64 255) := by unfold St.bytes; rw [h.pg, hp, h.g]
def View.erase (V : View) (c b : Nat) : View := ⟨V.dead, fun c' b' q => if c' = c ∧ b' = b then none else V.pg c' b' q, fun c' b' => if c' = c ∧ b' = b then 0 else V.nx c' b'⟩
def View.prog (V : View) (c b q : Nat) (x : List Int × List Int) : View := ⟨V.dead, fun c' b' k => if c' = c ∧ b' = b ∧ k = q then some x else V.pg c' b' k, fun c' b' => if c' = c ∧ b' = b then (q : Int) + 1 else V.nx c' b'⟩
/-- A block that holds one page. -/
def View.put (V : View) (c b : Nat) (x : List Int × List Int) : View := ⟨V.dead, fun c' b' k => if c' = c ∧ b' = b then (if k = 0 then some x else none) else V.pg c' b' k, fun c' b' => if c' = c ∧ b' = b then 1 else V.nx c' b'⟩
def View.kill (V : View) (k : Nat) : View := ⟨fun c => if c = k then true else V.dead c, V.pg, V.nx⟩
theorem Sees.kill {s : St} {g : Geo} {V : View} (h : Sees s g V) (k : Nat) : Sees (s.kill k) g (V.kill k) :=
  ⟨h.g, h.evs, h.off, fun c => by show (if c = k then true else s.dead c) = if c = k then true else V.dead c; rw [h.dead c], h.pg, h.nx⟩
theorem Sees.setB {s : St} {g : Geo} {V W : View} (h : Sees s g V) (c b : Nat) (x : Blk) (hd : ∀ c, V.dead c = W.dead c) (hp : ∀ c' b' q, (if c' = c ∧ b' = b then x.pg q else V.pg c' b' q) = W.pg c' b' q) (hn : ∀ c' b', (if c' = c ∧ b' = b then x.next else V.nx c' b') = W.nx c' b') : Sees (s.setB c b x) g W := by
  refine ⟨h.g, h.evs, h.off, fun k => (h.dead k).trans (hd k), fun c' b' q => ?_, fun c' b' => ?_⟩
  · rw [← hp]
    show (if c' = c ∧ b' = b then x else s.blk c' b').pg q = _
    split
    · rfl
    · exact h.pg c' b' q
  · rw [← hn]
    show (if c' = c ∧ b' = b then x else s.blk c' b').next = _
    split
    · rfl
    · exact h.nx c' b'
theorem Sees.erase {s : St} {g : Geo} {V : View} (h : Sees s g V) {c : Nat} (b : Nat) (hd : V.dead c = false) : ∃ s', Sees s' g (V.erase c b) ∧ s.erase c b = (s', 0) := by
  refine ⟨s.more.setB c b ⟨fun _ => none, 0, (s.blk c b).er + 1, (s.blk c b).bad⟩, ?_, ?_⟩
  · exact h.more.setB c b _ (fun _ => rfl) (fun _ _ _ => rfl) (fun _ _ => rfl)
  · unfold St.erase
    rw [h.start_ok hd]
    rfl
theorem Sees.prog {s : St} {g : Geo} {V : View} (h : Sees s g V) {c : Nat} (b q : Nat) (d o : List Int) (hd : V.dead c = false) (hn : V.nx c b = (q : Int)) : ∃ s', Sees s' g (V.prog c b q (d, o)) ∧ s.prog c b q d o = (s', 0) := by
  refine ⟨s.more.setB c b { s.blk c b with pg := fun k => if k = q then some (d, o) else (s.blk c b).pg k, next := (s.blk c b).next + 1 }, ?_, ?_⟩
  · refine h.more.setB c b _ (fun _ => rfl) (fun c' b' k => ?_) (fun c' b' => ?_)
    · show (if c' = c ∧ b' = b then (if k = q then some (d, o) else (s.blk c b).pg k) else V.pg c' b' k) = if c' = c ∧ b' = b ∧ k = q then some (d, o) else V.pg c' b' k
      by_cases h1 : c' = c ∧ b' = b
      · obtain ⟨rfl, rfl⟩ := h1
        simp only [and_self, if_true, true_and]
        rw [h.pg]
      · rw [if_neg h1, if_neg (fun h2 => h1 ⟨h2.1, h2.2.1⟩)]
    · show (if c' = c ∧ b' = b then (s.blk c b).next + 1 else V.nx c' b') = if c' = c ∧ b' = b then (q : Int) + 1 else V.nx c' b'
      rw [h.nx, hn]
  · unfold St.prog St.program
    rw [h.start_ok hd, h.nx, hn]
    dsimp only
    rw [if_pos rfl, if_pos rfl, if_pos rfl]
theorem Sees.put {s : St} {g : Geo} {V : View} (h : Sees s g V) {c : Nat} (b : Nat) (d o : List Int) (hd : V.dead c = false) : ∃ s', Sees s' g (V.put c b (d, o)) ∧ s.put c b d o = (s', 0) := by
  obtain ⟨s1, h1, e1⟩ := h.erase b hd
  obtain ⟨s2, h2, e2⟩ := h1.prog b 0 d o hd (by show (if c = c ∧ b = b then (0 : Int) else V.nx c b) = 0; rw [if_pos ⟨rfl, rfl⟩])
  refine ⟨s2, h2.as (fun _ => rfl) (fun c' b' k => ?_) (fun c' b' => ?_), ?_⟩
  · show (if c' = c ∧ b' = b ∧ k = 0 then some (d, o) else if c' = c ∧ b' = b then none else V.pg c' b' k) = if c' = c ∧ b' = b then (if k = 0 then some (d, o) else none) else V.pg c' b' k
    by_cases h1 : c' = c ∧ b' = b
    · rw [if_pos h1, if_pos h1]
      by_cases hk : k = 0
      · rw [if_pos ⟨h1.1, h1.2, hk⟩, if_pos hk]
      · rw [if_neg (fun h => hk h.2.2), if_neg hk]
    · rw [if_neg h1, if_neg h1, if_neg (fun h => h1 ⟨h.1, h.2.1⟩)]
  · show (if c' = c ∧ b' = b then ((0 : Nat) : Int) + 1 else if c' = c ∧ b' = b then 0 else V.nx c' b') = if c' = c ∧ b' = b then 1 else V.nx c' b'
    by_cases h1 : c' = c ∧ b' = b
    · rw [if_pos h1, if_pos h1]; rfl
    · rw [if_neg h1, if_neg h1, if_neg h1]
  · unfold St.put
    rw [e1]
    exact e2
theorem Sees.lay {s : St} {g : Geo} {V : View} (h : Sees s g V) {c : Nat} (b : Nat) (t : Tab) (hd : V.dead c = false) : ∃ s', Sees s' g (V.put c b (t.page g.s.toNat, t.oob g.s.toNat)) ∧ s.lay c b t = (s', 0) := by
  have h1 := h.put b (t.page g.s.toNat) (t.oob g.s.toNat) hd
  unfold St.put at h1
  unfold St.lay
  rw [h.g]
  exact h1
theorem Sees.fmtN {s : St} {g : Geo} {V : View} (h : Sees s g V) {c : Nat} (hd : V.dead c = false) (hp : ∀ b q, V.pg c b q = none) (hn : ∀ b, V.nx c b = 0) : ∀ n, ∃ s', Sees s' g V ∧ s.fmtN c n = (s', 0)
  | 0 => ⟨s, h, rfl⟩
  | n + 1 => by
    obtain ⟨s1, h1, e1⟩ := h.fmtN hd hp hn n
    obtain ⟨s2, h2, e2⟩ := h1.erase n hd
    refine ⟨s2, h2.as (fun _ => rfl) (fun c' b' q => ?_) (fun c' b' => ?_), ?_⟩
    · show (if c' = c ∧ b' = n then none else V.pg c' b' q) = V.pg c' b' q
      split
      · rename_i hh; rw [hh.1, hp]
      · rfl
    · show (if c' = c ∧ b' = n then 0 else V.nx c' b') = V.nx c' b'
      split
      · rename_i hh; rw [hh.1, hn]
      · rfl
    · unfold St.fmtN
      rw [e1]
      exact e2
/-- The first table. -/
def tb (g : Geo) : Tab := (tabOf g).up
def tpage (g : Geo) : List Int × List Int := ((tb g).page g.s.toNat, (tb g).oob g.s.toNat)
theorem Sees.fmt {s : St} {g : Geo} {V : View} (h : Sees s g V) {c : Nat} (hd : V.dead c = false) (hp : ∀ b q, V.pg c b q = none) (hn : ∀ b, V.nx c b = 0) : ∃ s', Sees s' g (V.put c 1 (tpage g)) ∧ s.fmt c = (s', 0) := by
  obtain ⟨s1, h1, e1⟩ := h.fmtN hd hp hn s.nb
  obtain ⟨s2, h2, e2⟩ := h1.lay 1 (tb g) hd
  refine ⟨s2, h2, ?_⟩
  unfold St.fmt
  rw [e1]
  show s1.vsave c (tabOf s.g) = (s2, 0)
  unfold St.vsave
  rw [h.g]
  exact e2
/-- So many chips are made ready. -/
def Vf (g : Geo) (i : Nat) : View := ⟨fun _ => false, fun c b q => if c < i ∧ b = 1 then (if q = 0 then some (tpage g) else none) else none, fun c b => if c < i ∧ b = 1 then 1 else 0⟩
theorem sees_new (g : Geo) : Sees (St.new g) g (Vf g 0) := ⟨rfl, rfl, rfl, fun _ => rfl, fun c b q => by simp [Vf, St.new], fun c b => by simp [Vf, St.new]⟩
theorem sees_afN {s : St} {g : Geo} (h : Sees s g (Vf g 0)) : ∀ i, ∃ s', Sees s' g (Vf g i) ∧ s.afN i = (s', 0)
  | 0 => ⟨s, h, rfl⟩
  | i + 1 => by
    obtain ⟨s1, h1, e1⟩ := sees_afN h i
    obtain ⟨s2, h2, e2⟩ := h1.fmt (c := i) rfl (fun b q => by show (if i < i ∧ b = 1 then _ else none) = none; rw [if_neg (fun h => absurd h.1 (Nat.lt_irrefl _))]) (fun b => by show (if i < i ∧ b = 1 then (1 : Int) else 0) = 0; rw [if_neg (fun h => absurd h.1 (Nat.lt_irrefl _))])
    refine ⟨s2, h2.as (fun _ => rfl) (fun c b q => ?_) (fun c b => ?_), ?_⟩
    · show (if c = i ∧ b = 1 then (if q = 0 then some (tpage g) else none) else if c < i ∧ b = 1 then (if q = 0 then some (tpage g) else none) else none) = if c < i + 1 ∧ b = 1 then (if q = 0 then some (tpage g) else none) else none
      generalize (if q = 0 then some (tpage g) else none) = x
      by_cases hb : b = 1
      · by_cases hc : c = i
        · rw [if_pos ⟨hc, hb⟩, if_pos ⟨by omega, hb⟩]
        · rw [if_neg (fun h => hc h.1)]
          by_cases hl : c < i
          · rw [if_pos ⟨hl, hb⟩, if_pos ⟨by omega, hb⟩]
          · rw [if_neg (fun h => hl h.1), if_neg (fun h => hl (by omega))]
      · rw [if_neg (fun h => hb h.2), if_neg (fun h => hb h.2), if_neg (fun h => hb h.2)]
    · show (if c = i ∧ b = 1 then (1 : Int) else if c < i ∧ b = 1 then 1 else 0) = if c < i + 1 ∧ b = 1 then 1 else 0
      by_cases hb : b = 1
      · by_cases hc : c = i
        · rw [if_pos ⟨hc, hb⟩, if_pos ⟨by omega, hb⟩]
        · rw [if_neg (fun h => hc h.1)]
          by_cases hl : c < i
          · rw [if_pos ⟨hl, hb⟩, if_pos ⟨by omega, hb⟩]
          · rw [if_neg (fun h => hl h.1), if_neg (fun h => hl (by omega))]
      · rw [if_neg (fun h => hb h.2), if_neg (fun h => hb h.2), if_neg (fun h => hb h.2)]
    · unfold St.afN
      rw [e1]
      exact e2
theorem at_fmt {g : Geo} (hg : g.Ok) {b : Nat} (hb : (b : Int) < g.b - 5) : (tb g).at b = b + 2 := by
  show ((ints 2 (g.b - 5).toNat).getD b 0).toNat = b + 2
  rw [ints_get 2 _ b (by omega)]
  omega
/-- An array of which all members are there, of the first table. -/
structure Whole (σ : Ar) (g : Geo) (V : View) (q : Int) : Prop where
  sees : Sees σ.s g V
  lost : σ.lost = false
  vol : ∀ c, σ.vol c = if c < g.c.toNat then some (tb g) else none
  set : σ.set = { first g with seq := q }
theorem first_chip {g : Geo} {q : Int} (σ : Ar) (hs : σ.set = { first g with seq := q }) {m : Nat} (hm : (m : Int) < g.c) : σ.chip m = m := by
  unfold Ar.chip
  rw [hs]
  show (((List.range g.c.toNat).map Int.ofNat).getD m 0).toNat = m
  rw [List.getD_eq_getElem?_getD, List.getElem?_map, List.getElem?_range (by omega)]
  rfl
theorem Whole.there {σ : Ar} {g : Geo} {V : View} {q : Int} (h : Whole σ g V q) : σ.There := fun _ m hm _ => by
  rw [h.sees.g] at hm
  exact ⟨tb g, by rw [first_chip σ h.set hm, h.vol, if_pos (by omega)]⟩
theorem Whole.tab {σ : Ar} {g : Geo} {V : View} {q : Int} (h : Whole σ g V q) {c : Nat} (hc : c < g.c.toNat) : σ.tab c = tb g := by unfold Ar.tab; rw [h.vol, if_pos hc]; rfl
theorem Whole.prog {σ : Ar} {g : Geo} {V : View} {q : Int} (h : Whole σ g V q) (hg : g.Ok) {m b k : Nat} (d o : List Int) (hm : (m : Int) < g.c) (hb : (b : Int) < g.b - 5) (hl : V.dead m = false) (hn : V.nx m (b + 2) = (k : Int)) :
    ∃ s', Sees s' g (V.prog m (b + 2) k (d, o)) ∧ σ.prog m b k d o = ({ σ with s := s' }, 0) ∧ ∀ n, σ.s.Safe (n + 1) → s'.Safe n := by
  obtain ⟨s', h1, e1⟩ := h.sees.prog (c := m) (b + 2) k d o hl hn
  refine ⟨s', h1, ?_, fun n hs => by have h9 := hs.prog m (b + 2) k d o; rw [e1] at h9; exact h9⟩
  have hd : σ.set.dead = 255 := by rw [h.set]; rfl
  have hmc := hg.c
  have hst : σ.stand m b = some m := by
    unfold Ar.stand
    rw [hd, if_neg (by omega), first_chip σ h.set hm]
  unfold Ar.prog
  rw [h.lost, if_neg (by decide), hst]
  dsimp only
  rw [h.tab (by omega), at_fmt hg hb, e1]
  dsimp only
  rw [if_neg (by decide), hd, if_neg (fun hh => by omega)]
theorem Whole.read {σ : Ar} {g : Geo} {V : View} {q : Int} (h : Whole σ g V q) (hg : g.Ok) {m : Nat} (hm : (m : Int) < g.c) (hl : V.dead m = false) : σ.read m = ({ σ with s := σ.s.more }, 0) := by
  have hd : σ.set.dead = 255 := by rw [h.set]; rfl
  have hmc := hg.c
  unfold Ar.read
  rw [h.lost, if_neg (by decide), hd, if_neg (by omega), h.sees.read_ok (by rw [first_chip σ h.set hm]; exact hl)]
  rfl
theorem Whole.bytes {σ : Ar} {g : Geo} {V : View} {q : Int} (h : Whole σ g V q) (hg : g.Ok) {m b : Nat} (k : Nat) (hm : (m : Int) < g.c) (hb : (b : Int) < g.b - 5) : σ.bytes m b k = σ.s.bytes m (b + 2) k := by
  unfold Ar.bytes
  rw [first_chip σ h.set hm, h.tab (by omega), at_fmt hg hb]
theorem Whole.turn {σ : Ar} {g : Geo} {V W : View} {q : Int} (h : Whole σ g V q) {s' : St} (hs : Sees s' g W) : Whole { σ with s := s' } g W q := ⟨hs, h.lost, h.vol, h.set⟩
/-- Who is a member is written, on so many chips. -/
def View.saved (V : View) (i b : Nat) (x : List Int × List Int) : View := ⟨V.dead, fun c' b' k => if c' < i ∧ b' = b then (if k = 0 then some x else none) else V.pg c' b' k, fun c' b' => if c' < i ∧ b' = b then 1 else V.nx c' b'⟩
def spage (g : Geo) (q : Int) : List Int × List Int := (({ first g with seq := q } : MS).page g, ({ first g with seq := q } : MS).oob g)
theorem Whole.saveN {σ : Ar} {g : Geo} {V : View} {q : Int} (h : Whole σ g V q) (hg : g.Ok) {b : Nat} (d o : List Int) (hb : (b : Int) < g.b - 5) (hl : ∀ c, c < g.c.toNat → V.dead c = false) : ∀ i, ∃ s', Sees s' g (V.saved (min i g.c.toNat) (b + 2) (d, o)) ∧ σ.saveN b d o i = ({ σ with s := s' }, 0)
  | 0 => ⟨σ.s, h.sees.as (fun _ => rfl) (fun c b' k => by simp [View.saved]) (fun c b' => by simp [View.saved]), rfl⟩
  | i + 1 => by
    obtain ⟨s1, h1, e1⟩ := h.saveN hg d o hb hl i
    by_cases hi : i < g.c.toNat
    · obtain ⟨s2, h2, e2⟩ := h1.put (c := i) (b + 2) d o (hl i hi)
      refine ⟨s2, h2.as (fun _ => rfl) (fun c b' k => ?_) (fun c b' => ?_), ?_⟩
      · show (if c = i ∧ b' = b + 2 then (if k = 0 then some (d, o) else none) else if c < min i g.c.toNat ∧ b' = b + 2 then (if k = 0 then some (d, o) else none) else V.pg c b' k) = if c < min (i + 1) g.c.toNat ∧ b' = b + 2 then (if k = 0 then some (d, o) else none) else V.pg c b' k
        generalize (if k = 0 then some (d, o) else none) = x
        by_cases hb' : b' = b + 2
        · by_cases hc : c = i
          · rw [if_pos ⟨hc, hb'⟩, if_pos ⟨by omega, hb'⟩]
          · rw [if_neg (fun h => hc h.1)]
            by_cases hl : c < i
            · rw [if_pos ⟨by omega, hb'⟩, if_pos ⟨by omega, hb'⟩]
            · rw [if_neg (fun h => by omega), if_neg (fun h => by omega)]
        · rw [if_neg (fun h => hb' h.2), if_neg (fun h => hb' h.2), if_neg (fun h => hb' h.2)]
      · show (if c = i ∧ b' = b + 2 then (1 : Int) else if c < min i g.c.toNat ∧ b' = b + 2 then 1 else V.nx c b') = if c < min (i + 1) g.c.toNat ∧ b' = b + 2 then 1 else V.nx c b'
        by_cases hb' : b' = b + 2
        · by_cases hc : c = i
          · rw [if_pos ⟨hc, hb'⟩, if_pos ⟨by omega, hb'⟩]
          · rw [if_neg (fun h => hc h.1)]
            by_cases hl : c < i
            · rw [if_pos ⟨by omega, hb'⟩, if_pos ⟨by omega, hb'⟩]
            · rw [if_neg (fun h => by omega), if_neg (fun h => by omega)]
        · rw [if_neg (fun h => hb' h.2), if_neg (fun h => hb' h.2), if_neg (fun h => hb' h.2)]
      · unfold Ar.saveN
        rw [e1]
        dsimp only
        rw [if_pos rfl]
        unfold Ar.save1
        dsimp only
        rw [h.vol, if_pos hi]
        dsimp only
        rw [at_fmt hg hb, e2]
        rfl
    · refine ⟨s1, ?_, ?_⟩
      · rw [show min (i + 1) g.c.toNat = min i g.c.toNat by omega]
        exact h1
      · unfold Ar.saveN
        rw [e1]
        dsimp only
        rw [if_pos rfl]
        unfold Ar.save1
        dsimp only
        rw [h.vol, if_neg hi]
theorem Whole.save {σ : Ar} {g : Geo} {V : View} {q : Int} (h : Whole σ g V q) (hg : g.Ok) (hq : 0 ≤ q) (hl : ∀ c, c < g.c.toNat → V.dead c = false) : ∃ s', Whole { σ.up with s := s' } g (V.saved g.c.toNat ((q + 1) % 2 + 2).toNat (spage g (q + 1))) (q + 1) ∧ σ.save = ({ σ.up with s := s' }, 0) := by
  have hb := hg.b
  have hu : Whole σ.up g V (q + 1) := ⟨h.sees, h.lost, h.vol, by unfold Ar.up MS.up; rw [h.set]⟩
  obtain ⟨s', h1, e1⟩ := hu.saveN hg (b := ((q + 1) % 2).toNat) (spage g (q + 1)).1 (spage g (q + 1)).2 (by omega) hl σ.s.n
  have hn : min σ.s.n g.c.toNat = g.c.toNat := by unfold St.n; rw [h.sees.g]; omega
  rw [hn] at h1
  refine ⟨s', hu.turn (W := V.saved g.c.toNat ((q + 1) % 2 + 2).toNat (spage g (q + 1))) ?_, ?_⟩
  · rw [show ((q + 1) % 2 + 2).toNat = ((q + 1) % 2).toNat + 2 by omega]
    exact h1
  · unfold Ar.save
    have e2 : σ.up.set.seq = q + 1 := by rw [hu.set]
    rw [e2, hu.set, h.sees.g]
    exact e1
end Go.Proofs.YteofgpaceeibpaaGreat.PlA

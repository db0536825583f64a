/- Plain laws: chips with nothing to come, as they are seen. | stripe.Order over an array. | stripe.Write over an array: what isn't theirs, pages, what is written. | stripe.Write over an array: the model of a row of programs. | stripe.Write over an array: the walk. | stripe.Order over an array, from any member on. | stage: Room, Spot. | stage.Put over an array. | stripe.Read over an array: a page as it stands. | stage.Get over an array, where a page is found. -/
import Derived.Test.YteofgpaceeibpaaGreatPartFmt
import Derived.Stop.Asserts
import Derived.Test.YteofgpaceeibpaaGreatStr
import Derived.Test.YteofgpaceeibpaaGreatNandB
namespace Go.Proofs.YteofgpaceeibpaaGreat.PlA
open Go.RowKit Go.Proofs.YteofgpaceeibpaaGreat.Gab Go.Proofs.YteofgpaceeibpaaGreat.Geom Go.Proofs.YteofgpaceeibpaaGreat.Ref Go.Proofs.YteofgpaceeibpaaGreat.Fields Go.Proofs.YteofgpaceeibpaaGreat.Nand Go.Proofs.YteofgpaceeibpaaGreat.NandA Go.Proofs.YteofgpaceeibpaaGreat.NandB Go.Proofs.YteofgpaceeibpaaGreat.NandC Go.Proofs.YteofgpaceeibpaaGreat.NandD Go.Proofs.YteofgpaceeibpaaGreat.NandE Go.Proofs.YteofgpaceeibpaaGreat.NandF Go.Proofs.YteofgpaceeibpaaGreat.NandH Go.Proofs.YteofgpaceeibpaaGreat.RemapA Go.Proofs.YteofgpaceeibpaaGreat.VolA Go.Proofs.YteofgpaceeibpaaGreat.VolB Go.Proofs.YteofgpaceeibpaaGreat.VolD Go.Proofs.YteofgpaceeibpaaGreat.VolE Go.Proofs.YteofgpaceeibpaaGreat.VolF Go.Proofs.YteofgpaceeibpaaGreat.VolG Go.Proofs.YteofgpaceeibpaaGreat.MemA Go.Proofs.YteofgpaceeibpaaGreat.MemB Go.Proofs.YteofgpaceeibpaaGreat.MemC Go.Proofs.YteofgpaceeibpaaGreat.ArrA Go.Proofs.YteofgpaceeibpaaGreat.ArrC Go.Proofs.YteofgpaceeibpaaGreat.ArrD Go.Proofs.YteofgpaceeibpaaGreat.ArrE Go.Proofs.YteofgpaceeibpaaGreat.ArrG Go.Proofs.YteofgpaceeibpaaGreat.ArrI
set_option linter.unusedVariables false
set_option linter.unusedSimpArgs false

/-- What is to be seen of chips. -/
structure View where
  dead : Nat → Bool
  pg : Nat → Nat → Nat → Option (List Int × List Int)
  nx : Nat → Nat → Int
structure Sees (s : St) (g : Geo) (V : View) : Prop where
  g : s.g = g
  evs : s.evs = []
  off : s.off = false
  dead : ∀ c, s.dead c = V.dead c
  pg : ∀ c b q, (s.blk c b).pg q = V.pg c b q
  nx : ∀ c b, (s.blk c b).next = V.nx c b
theorem Sees.as {s : St} {g : Geo} {V W : View} (h : Sees s g V) (hd : ∀ c, V.dead c = W.dead c) (hp : ∀ c b q, V.pg c b q = W.pg c b q) (hn : ∀ c b, V.nx c b = W.nx c b) : Sees s g W :=
  ⟨h.g, h.evs, h.off, fun c => (h.dead c).trans (hd c), fun c b q => (h.pg c b q).trans (hp c b q), fun c b => (h.nx c b).trans (hn c b)⟩
theorem Sees.calm {s : St} {g : Geo} {V : View} (h : Sees s g V) : s.Calm := fun e he => by rw [h.evs] at he; cases he
theorem Sees.more {s : St} {g : Geo} {V : View} (h : Sees s g V) : Sees s.more g V := ⟨h.g, h.evs, h.off, h.dead, h.pg, h.nx⟩
theorem Sees.start {s : St} {g : Geo} {V : View} (h : Sees s g V) (c : Nat) : s.start c = (s.more, if V.dead c = true then 71 else 0) := by
  have he : s.more.ev = none := by unfold St.ev St.more; rw [h.evs]; rfl
  have hh : s.more.hit none = s.more := rfl
  unfold St.start
  rw [h.off, he, hh]
  have hd : s.more.dead c = V.dead c := h.dead c
  rw [hd]
  cases V.dead c <;> rfl
theorem Sees.start_ok {s : St} {g : Geo} {V : View} (h : Sees s g V) {c : Nat} (hd : V.dead c = false) : s.start c = (s.more, 0) := by rw [h.start c, hd]; rfl
theorem Sees.read {s : St} {g : Geo} {V : View} (h : Sees s g V) (c : Nat) : s.read c = (s.more, if V.dead c = true then 71 else 0) := by rw [read_calm h.calm c, h.start c]
theorem Sees.read_ok {s : St} {g : Geo} {V : View} (h : Sees s g V) {c : Nat} (hd : V.dead c = false) : s.read c = (s.more, 0) := by rw [h.read c, hd]; rfl
theorem Sees.bytes {s : St} {g : Geo} {V : View} (h : Sees s g V) {c b q : Nat} {x : List Int × List Int} (hp : V.pg c b q = some x) : s.bytes c b q = x := by unfold St.bytes; rw [h.pg, hp]
theorem Sees.blank {s : St} {g : Geo} {V : View} (h : Sees s g V) {c b q : Nat} (hp : V.pg c b q = none) : s.bytes c b q = (List.replicate g.s.toNat 255, List.replicate 64 255) := by unfold St.bytes; rw [h.pg, hp, h.g]
def View.erase (V : View) (c b : Nat) : View := ⟨V.dead, fun c' b' q => if c' = c ∧ b' = b then none else V.pg c' b' q, fun c' b' => if c' = c ∧ b' = b then 0 else V.nx c' b'⟩
def View.prog (V : View) (c b q : Nat) (x : List Int × List Int) : View := ⟨V.dead, fun c' b' k => if c' = c ∧ b' = b ∧ k = q then some x else V.pg c' b' k, fun c' b' => if c' = c ∧ b' = b then (q : Int) + 1 else V.nx c' b'⟩
/-- A block that holds one page. -/
def View.put (V : View) (c b : Nat) (x : List Int × List Int) : View := ⟨V.dead, fun c' b' k => if c' = c ∧ b' = b then (if k = 0 then some x else none) else V.pg c' b' k, fun c' b' => if c' = c ∧ b' = b then 1 else V.nx c' b'⟩
def View.kill (V : View) (k : Nat) : View := ⟨fun c => if c = k then true else V.dead c, V.pg, V.nx⟩
theorem Sees.kill {s : St} {g : Geo} {V : View} (h : Sees s g V) (k : Nat) : Sees (s.kill k) g (V.kill k) :=
  ⟨h.g, h.evs, h.off, fun c => by show (if c = k then true else s.dead c) = if c = k then true else V.dead c; rw [h.dead c], h.pg, h.nx⟩
theorem Sees.setB {s : St} {g : Geo} {V W : View} (h : Sees s g V) (c b : Nat) (x : Blk) (hd : ∀ c, V.dead c = W.dead c) (hp : ∀ c' b' q, (if c' = c ∧ b' = b then x.pg q else V.pg c' b' q) = W.pg c' b' q) (hn : ∀ c' b', (if c' = c ∧ b' = b then x.next else V.nx c' b') = W.nx c' b') : Sees (s.setB c b x) g W := by
  refine ⟨h.g, h.evs, h.off, fun k => (h.dead k).trans (hd k), fun c' b' q => ?_, fun c' b' => ?_⟩
  · rw [← hp]
    show (if c' = c ∧ b' = b then x else s.blk c' b').pg q = _
    split
    · rfl
    · exact h.pg c' b' q
  · rw [← hn]
    show (if c' = c ∧ b' = b then x else s.blk c' b').next = _
    split
    · rfl
    · exact h.nx c' b'
theorem Sees.erase {s : St} {g : Geo} {V : View} (h : Sees s g V) {c : Nat} (b : Nat) (hd : V.dead c = false) : ∃ s', Sees s' g (V.erase c b) ∧ s.erase c b = (s', 0) := by
  refine ⟨s.more.setB c b ⟨fun _ => none, 0, (s.blk c b).er + 1, (s.blk c b).bad⟩, ?_, ?_⟩
  · exact h.more.setB c b _ (fun _ => rfl) (fun _ _ _ => rfl) (fun _ _ => rfl)
  · unfold St.erase
    rw [h.start_ok hd]
    rfl
theorem Sees.prog {s : St} {g : Geo} {V : View} (h : Sees s g V) {c : Nat} (b q : Nat) (d o : List Int) (hd : V.dead c = false) (hn : V.nx c b = (q : Int)) : ∃ s', Sees s' g (V.prog c b q (d, o)) ∧ s.prog c b q d o = (s', 0) := by
  refine ⟨s.more.setB c b { s.blk c b with pg := fun k => if k = q then some (d, o) else (s.blk c b).pg k, next := (s.blk c b).next + 1 }, ?_, ?_⟩
  · refine h.more.setB c b _ (fun _ => rfl) (fun c' b' k => ?_) (fun c' b' => ?_)
    · show (if c' = c ∧ b' = b then (if k = q then some (d, o) else (s.blk c b).pg k) else V.pg c' b' k) = if c' = c ∧ b' = b ∧ k = q then some (d, o) else V.pg c' b' k
      by_cases h1 : c' = c ∧ b' = b
      · obtain ⟨rfl, rfl⟩ := h1
        simp only [and_self, if_true, true_and]
        rw [h.pg]
      · rw [if_neg h1, if_neg (fun h2 => h1 ⟨h2.1, h2.2.1⟩)]
    · show (if c' = c ∧ b' = b then (s.blk c b).next + 1 else V.nx c' b') = if c' = c ∧ b' = b then (q : Int) + 1 else V.nx c' b'
      rw [h.nx, hn]
  · unfold St.prog St.program
    rw [h.start_ok hd, h.nx, hn]
    dsimp only
    rw [if_pos rfl, if_pos rfl, if_pos rfl]
theorem Sees.put {s : St} {g : Geo} {V : View} (h : Sees s g V) {c : Nat} (b : Nat) (d o : List Int) (hd : V.dead c = false) : ∃ s', Sees s' g (V.put c b (d, o)) ∧ s.put c b d o = (s', 0) := by
  obtain ⟨s1, h1, e1⟩ := h.erase b hd
  obtain ⟨s2, h2, e2⟩ := h1.prog b 0 d o hd (by show (if c = c ∧ b = b then (0 : Int) else V.nx c b) = 0; rw [if_pos ⟨rfl, rfl⟩])
  refine ⟨s2, h2.as (fun _ => rfl) (fun c' b' k => ?_) (fun c' b' => ?_), ?_⟩
  · show (if c' = c ∧ b' = b ∧ k = 0 then some (d, o) else if c' = c ∧ b' = b then none else V.pg c' b' k) = if c' = c ∧ b' = b then (if k = 0 then some (d, o) else none) else V.pg c' b' k
    by_cases h1 : c' = c ∧ b' = b
    · rw [if_pos h1, if_pos h1]
      by_cases hk : k = 0
      · rw [if_pos ⟨h1.1, h1.2, hk⟩, if_pos hk]
      · rw [if_neg (fun h => hk h.2.2), if_neg hk]
    · rw [if_neg h1, if_neg h1, if_neg (fun h => h1 ⟨h.1, h.2.1⟩)]
  · show (if c' = c ∧ b' = b then ((0 : Nat) : Int) + 1 else if c' = c ∧ b' = b then 0 else V.nx c' b') = if c' = c ∧ b' = b then 1 else V.nx c' b'
    by_cases h1 : c' = c ∧ b' = b
    · rw [if_pos h1, if_pos h1]; rfl
    · rw [if_neg h1, if_neg h1, if_neg h1]
  · unfold St.put
    rw [e1]
    exact e2
theorem Sees.lay {s : St} {g : Geo} {V : View} (h : Sees s g V) {c : Nat} (b : Nat) (t : Tab) (hd : V.dead c = false) : ∃ s', Sees s' g (V.put c b (t.page g.s.toNat, t.oob g.s.toNat)) ∧ s.lay c b t = (s', 0) := by
  have h1 := h.put b (t.page g.s.toNat) (t.oob g.s.toNat) hd
  unfold St.put at h1
  unfold St.lay
  rw [h.g]
  exact h1
theorem Sees.fmtN {s : St} {g : Geo} {V : View} (h : Sees s g V) {c : Nat} (hd : V.dead c = false) (hp : ∀ b q, V.pg c b q = none) (hn : ∀ b, V.nx c b = 0) : ∀ n, ∃ s', Sees s' g V ∧ s.fmtN c n = (s', 0)
  | 0 => ⟨s, h, rfl⟩
  | n + 1 => by
    obtain ⟨s1, h1, e1⟩ := h.fmtN hd hp hn n
    obtain ⟨s2, h2, e2⟩ := h1.erase n hd
    refine ⟨s2, h2.as (fun _ => rfl) (fun c' b' q => ?_) (fun c' b' => ?_), ?_⟩
    · show (if c' = c ∧ b' = n then none else V.pg c' b' q) = V.pg c' b' q
      split
      · rename_i hh; rw [hh.1, hp]
      · rfl
    · show (if c' = c ∧ b' = n then 0 else V.nx c' b') = V.nx c' b'
      split
      · rename_i hh; rw [hh.1, hn]
      · rfl
    · unfold St.fmtN
      rw [e1]
      exact e2
/-- The first table. -/
def tb (g : Geo) : Tab := (tabOf g).up
theorem tb_to (g : Geo) : (tb g).to.toNat = 1 := rfl
def tpage (g : Geo) : List Int × List Int := ((tb g).page g.s.toNat, (tb g).oob g.s.toNat)
theorem Sees.fmt {s : St} {g : Geo} {V : View} (h : Sees s g V) {c : Nat} (hd : V.dead c = false) (hp : ∀ b q, V.pg c b q = none) (hn : ∀ b, V.nx c b = 0) : ∃ s', Sees s' g (V.put c 1 (tpage g)) ∧ s.fmt c = (s', 0) := by
  obtain ⟨s1, h1, e1⟩ := h.fmtN hd hp hn s.nb
  obtain ⟨s2, h2, e2⟩ := h1.lay 1 (tb g) hd
  refine ⟨s2, h2, ?_⟩
  unfold St.fmt
  rw [e1]
  show s1.vsave c (tabOf s.g) = (s2, 0)
  unfold St.vsave
  rw [h.g]
  exact e2
/-- So many chips are made ready. -/
def Vf (g : Geo) (i : Nat) : View := ⟨fun _ => false, fun c b q => if c < i ∧ b = 1 then (if q = 0 then some (tpage g) else none) else none, fun c b => if c < i ∧ b = 1 then 1 else 0⟩
theorem sees_new (g : Geo) : Sees (St.new g) g (Vf g 0) := ⟨rfl, rfl, rfl, fun _ => rfl, fun c b q => by simp [Vf, St.new], fun c b => by simp [Vf, St.new]⟩
theorem sees_afN {s : St} {g : Geo} (h : Sees s g (Vf g 0)) : ∀ i, ∃ s', Sees s' g (Vf g i) ∧ s.afN i = (s', 0)
  | 0 => ⟨s, h, rfl⟩
  | i + 1 => by
    obtain ⟨s1, h1, e1⟩ := sees_afN h i
    obtain ⟨s2, h2, e2⟩ := h1.fmt (c := i) rfl (fun b q => by show (if i < i ∧ b = 1 then _ else none) = none; rw [if_neg (fun h => absurd h.1 (Nat.lt_irrefl _))]) (fun b => by show (if i < i ∧ b = 1 then (1 : Int) else 0) = 0; rw [if_neg (fun h => absurd h.1 (Nat.lt_irrefl _))])
    refine ⟨s2, h2.as (fun _ => rfl) (fun c b q => ?_) (fun c b => ?_), ?_⟩
    · show (if c = i ∧ b = 1 then (if q = 0 then some (tpage g) else none) else if c < i ∧ b = 1 then (if q = 0 then some (tpage g) else none) else none) = if c < i + 1 ∧ b = 1 then (if q = 0 then some (tpage g) else none) else none
      generalize (if q = 0 then some (tpage g) else none) = x
      by_cases hb : b = 1
      · by_cases hc : c = i
        · rw [if_pos ⟨hc, hb⟩, if_pos ⟨by omega, hb⟩]
        · rw [if_neg (fun h => hc h.1)]
          by_cases hl : c < i
          · rw [if_pos ⟨hl, hb⟩, if_pos ⟨by omega, hb⟩]
          · rw [if_neg (fun h => hl h.1), if_neg (fun h => hl (by omega))]
      · rw [if_neg (fun h => hb h.2), if_neg (fun h => hb h.2), if_neg (fun h => hb h.2)]
    · show (if c = i ∧ b = 1 then (1 : Int) else if c < i ∧ b = 1 then 1 else 0) = if c < i + 1 ∧ b = 1 then 1 else 0
      by_cases hb : b = 1
      · by_cases hc : c = i
        · rw [if_pos ⟨hc, hb⟩, if_pos ⟨by omega, hb⟩]
        · rw [if_neg (fun h => hc h.1)]
          by_cases hl : c < i
          · rw [if_pos ⟨hl, hb⟩, if_pos ⟨by omega, hb⟩]
          · rw [if_neg (fun h => hl h.1), if_neg (fun h => hl (by omega))]
      · rw [if_neg (fun h => hb h.2), if_neg (fun h => hb h.2), if_neg (fun h => hb h.2)]
    · unfold St.afN
      rw [e1]
      exact e2
theorem at_fmt {g : Geo} (hg : g.Ok) {b : Nat} (hb : (b : Int) < g.b - 5) : (tb g).at b = b + 2 := by
  show ((ints 2 (g.b - 5).toNat).getD b 0).toNat = b + 2
  rw [ints_get 2 _ b (by omega)]
  omega
/-- An array of which all members are there, of the first table. -/
structure Whole (σ : Ar) (g : Geo) (V : View) (q : Int) : Prop where
  sees : Sees σ.s g V
  lost : σ.lost = false
  vol : ∀ c, σ.vol c = if c < g.c.toNat then some (tb g) else none
  set : σ.set = { first g with seq := q }
theorem first_chip {g : Geo} {q : Int} (σ : Ar) (hs : σ.set = { first g with seq := q }) {m : Nat} (hm : (m : Int) < g.c) : σ.chip m = m := by
  unfold Ar.chip
  rw [hs]
  show (((List.range g.c.toNat).map Int.ofNat).getD m 0).toNat = m
  rw [List.getD_eq_getElem?_getD, List.getElem?_map, List.getElem?_range (by omega)]
  rfl
theorem Whole.there {σ : Ar} {g : Geo} {V : View} {q : Int} (h : Whole σ g V q) : σ.There := fun _ m hm _ => by
  rw [h.sees.g] at hm
  exact ⟨tb g, by rw [first_chip σ h.set hm, h.vol, if_pos (by omega)]⟩
theorem Whole.tab {σ : Ar} {g : Geo} {V : View} {q : Int} (h : Whole σ g V q) {c : Nat} (hc : c < g.c.toNat) : σ.tab c = tb g := by unfold Ar.tab; rw [h.vol, if_pos hc]; rfl
theorem Whole.prog {σ : Ar} {g : Geo} {V : View} {q : Int} (h : Whole σ g V q) (hg : g.Ok) {m b k : Nat} (d o : List Int) (hm : (m : Int) < g.c) (hb : (b : Int) < g.b - 5) (hl : V.dead m = false) (hn : V.nx m (b + 2) = (k : Int)) :
    ∃ s', Sees s' g (V.prog m (b + 2) k (d, o)) ∧ σ.prog m b k d o = ({ σ with s := s' }, 0) ∧ ∀ n, σ.s.Safe (n + 1) → s'.Safe n := by
  obtain ⟨s', h1, e1⟩ := h.sees.prog (c := m) (b + 2) k d o hl hn
  refine ⟨s', h1, ?_, fun n hs => by have h9 := hs.prog m (b + 2) k d o; rw [e1] at h9; exact h9⟩
  have hd : σ.set.dead = 255 := by rw [h.set]; rfl
  have hmc := hg.c
  have hst : σ.stand m b = some m := by
    unfold Ar.stand
    rw [hd, if_neg (by omega), first_chip σ h.set hm]
  unfold Ar.prog
  rw [h.lost, if_neg (by decide), hst]
  dsimp only
  rw [h.tab (by omega), at_fmt hg hb, e1]
  dsimp only
  rw [if_neg (by decide), hd, if_neg (fun hh => by omega)]
theorem Whole.read {σ : Ar} {g : Geo} {V : View} {q : Int} (h : Whole σ g V q) (hg : g.Ok) {m : Nat} (hm : (m : Int) < g.c) (hl : V.dead m = false) : σ.read m = ({ σ with s := σ.s.more }, 0) := by
  have hd : σ.set.dead = 255 := by rw [h.set]; rfl
  have hmc := hg.c
  unfold Ar.read
  rw [h.lost, if_neg (by decide), hd, if_neg (by omega), h.sees.read_ok (by rw [first_chip σ h.set hm]; exact hl)]
  rfl
theorem Whole.bytes {σ : Ar} {g : Geo} {V : View} {q : Int} (h : Whole σ g V q) (hg : g.Ok) {m b : Nat} (k : Nat) (hm : (m : Int) < g.c) (hb : (b : Int) < g.b - 5) : σ.bytes m b k = σ.s.bytes m (b + 2) k := by
  unfold Ar.bytes
  rw [first_chip σ h.set hm, h.tab (by omega), at_fmt hg hb]
theorem Whole.turn {σ : Ar} {g : Geo} {V W : View} {q : Int} (h : Whole σ g V q) {s' : St} (hs : Sees s' g W) : Whole { σ with s := s' } g W q := ⟨hs, h.lost, h.vol, h.set⟩
/-- Who is a member is written, on so many chips. -/
def View.saved (V : View) (i b : Nat) (x : List Int × List Int) : View := ⟨V.dead, fun c' b' k => if c' < i ∧ b' = b then (if k = 0 then some x else none) else V.pg c' b' k, fun c' b' => if c' < i ∧ b' = b then 1 else V.nx c' b'⟩
def spage (g : Geo) (q : Int) : List Int × List Int := (({ first g with seq := q } : MS).page g, ({ first g with seq := q } : MS).oob g)
theorem Whole.saveN {σ : Ar} {g : Geo} {V : View} {q : Int} (h : Whole σ g V q) (hg : g.Ok) {b : Nat} (d o : List Int) (hb : (b : Int) < g.b - 5) (hl : ∀ c, c < g.c.toNat → V.dead c = false) : ∀ i, ∃ s', Sees s' g (V.saved (min i g.c.toNat) (b + 2) (d, o)) ∧ σ.saveN b d o i = ({ σ with s := s' }, 0)
  | 0 => ⟨σ.s, h.sees.as (fun _ => rfl) (fun c b' k => by simp [View.saved]) (fun c b' => by simp [View.saved]), rfl⟩
  | i + 1 => by
    obtain ⟨s1, h1, e1⟩ := h.saveN hg d o hb hl i
    by_cases hi : i < g.c.toNat
    · obtain ⟨s2, h2, e2⟩ := h1.put (c := i) (b + 2) d o (hl i hi)
      refine ⟨s2, h2.as (fun _ => rfl) (fun c b' k => ?_) (fun c b' => ?_), ?_⟩
      · show (if c = i ∧ b' = b + 2 then (if k = 0 then some (d, o) else none) else if c < min i g.c.toNat ∧ b' = b + 2 then (if k = 0 then some (d, o) else none) else V.pg c b' k) = if c < min (i + 1) g.c.toNat ∧ b' = b + 2 then (if k = 0 then some (d, o) else none) else V.pg c b' k
        generalize (if k = 0 then some (d, o) else none) = x
        by_cases hb' : b' = b + 2
        · by_cases hc : c = i
          · rw [if_pos ⟨hc, hb'⟩, if_pos ⟨by omega, hb'⟩]
          · rw [if_neg (fun h => hc h.1)]
            by_cases hl : c < i
            · rw [if_pos ⟨by omega, hb'⟩, if_pos ⟨by omega, hb'⟩]
            · rw [if_neg (fun h => by omega), if_neg (fun h => by omega)]
        · rw [if_neg (fun h => hb' h.2), if_neg (fun h => hb' h.2), if_neg (fun h => hb' h.2)]
      · show (if c = i ∧ b' = b + 2 then (1 : Int) else if c < min i g.c.toNat ∧ b' = b + 2 then 1 else V.nx c b') = if c < min (i + 1) g.c.toNat ∧ b' = b + 2 then 1 else V.nx c b'
        by_cases hb' : b' = b + 2
        · by_cases hc : c = i
          · rw [if_pos ⟨hc, hb'⟩, if_pos ⟨by omega, hb'⟩]
          · rw [if_neg (fun h => hc h.1)]
            by_cases hl : c < i
            · rw [if_pos ⟨by omega, hb'⟩, if_pos ⟨by omega, hb'⟩]
            · rw [if_neg (fun h => by omega), if_neg (fun h => by omega)]
        · rw [if_neg (fun h => hb' h.2), if_neg (fun h => hb' h.2), if_neg (fun h => hb' h.2)]
      · unfold Ar.saveN
        rw [e1]
        dsimp only
        rw [if_pos rfl]
        unfold Ar.save1
        dsimp only
        rw [h.vol, if_pos hi]
        dsimp only
        rw [at_fmt hg hb, e2]
        rfl
    · refine ⟨s1, ?_, ?_⟩
      · rw [show min (i + 1) g.c.toNat = min i g.c.toNat by omega]
        exact h1
      · unfold Ar.saveN
        rw [e1]
        dsimp only
        rw [if_pos rfl]
        unfold Ar.save1
        dsimp only
        rw [h.vol, if_neg hi]
theorem Whole.save {σ : Ar} {g : Geo} {V : View} {q : Int} (h : Whole σ g V q) (hg : g.Ok) (hq : 0 ≤ q) (hl : ∀ c, c < g.c.toNat → V.dead c = false) : ∃ s', Whole { σ.up with s := s' } g (V.saved g.c.toNat ((q + 1) % 2 + 2).toNat (spage g (q + 1))) (q + 1) ∧ σ.save = ({ σ.up with s := s' }, 0) := by
  have hb := hg.b
  have hu : Whole σ.up g V (q + 1) := ⟨h.sees, h.lost, h.vol, by unfold Ar.up MS.up; rw [h.set]⟩
  obtain ⟨s', h1, e1⟩ := hu.saveN hg (b := ((q + 1) % 2).toNat) (spage g (q + 1)).1 (spage g (q + 1)).2 (by omega) hl σ.s.n
  have hn : min σ.s.n g.c.toNat = g.c.toNat := by unfold St.n; rw [h.sees.g]; omega
  rw [hn] at h1
  refine ⟨s', hu.turn (W := V.saved g.c.toNat ((q + 1) % 2 + 2).toNat (spage g (q + 1))) ?_, ?_⟩
  · rw [show ((q + 1) % 2 + 2).toNat = ((q + 1) % 2).toNat + 2 by omega]
    exact h1
  · unfold Ar.save
    have e2 : σ.up.set.seq = q + 1 := by rw [hu.set]
    rw [e2, hu.set, h.sees.g]
    exact e1
end Go.Proofs.YteofgpaceeibpaaGreat.PlA
namespace Go.Proofs.YteofgpaceeibpaaGreat.AOrd
open Go.RowKit Go.Proofs.YteofgpaceeibpaaGreat.Gab Go.Proofs.YteofgpaceeibpaaGreat.Wr Go.Proofs.YteofgpaceeibpaaGreat.Geom Go.Proofs.YteofgpaceeibpaaGreat.Ref Go.Proofs.YteofgpaceeibpaaGreat.Nand Go.Proofs.YteofgpaceeibpaaGreat.NandA Go.Proofs.YteofgpaceeibpaaGreat.ArrA
open Go.Proofs.YteofgpaceeibpaaGreat.Rdz (infoIn)
set_option linter.unusedVariables false
set_option linter.unusedSimpArgs false

/-- Members as an interface value. -/
def dev (x : Nat) : Value := .iface 30 (.pointer (some ⟨x, 0, none⟩))
def upTo (k : Nat) : List Int := (List.range k).map Int.ofNat
theorem upTo_succ (k : Nat) : upTo (k + 1) = upTo k ++ [(k : Int)] := by simp [upTo, List.range_succ]
def pre (first c : Int) : List Int := if 0 ≤ first ∧ first < c then [first] else []
/-- The order: that which is ahead of all, if it is there; all others. -/
def orderOf (first c : Int) : List Int := pre first c ++ (upTo c.toNat).filter (fun m => decide (m ≠ first))

set_option maxHeartbeats 2000000 in
set_option maxRecDepth 100000 in
theorem Order_calls (σ : Ar) (K : ALay) (c : Int) (w : World) (h : ArAt w σ K) (hc : 0 ≤ c ∧ c ≤ 100) :
    Calls Tryz.prog 82 #[dev K.x, .int .i64 0, .int .i64 c] w fun e w' => ∃ v, e = .returned v ∧ Row 3 .i64 w' w.heap.size v (orderOf σ.ahead c) ∧ Fr None_ w w' := by
  have HA := As.mk (fun w' (hf : Fr None_ w w') => Ahead_calls σ K w' (h.none_ hf))
  have HPR : As (pre σ.ahead c = if 0 ≤ σ.ahead ∧ σ.ahead < c then [σ.ahead] else []) := ⟨rfl⟩
  have HO : As (orderOf σ.ahead c = pre σ.ahead c ++ (upTo c.toNat).filter (fun m => decide (m ≠ σ.ahead))) := ⟨rfl⟩
  generalize pre σ.ahead c = pr at *
  generalize orderOf σ.ahead c = res at *
  generalize σ.ahead = first at *
  obtain ⟨hc0, hc1⟩ := hc
  have hta := fun w => run_typeAssert_hasB (P := Tryz.prog) (t := 30) Tryz.underlying206 (by kernel_rfl) (.pointer (some ⟨K.x, 0, none⟩)) 105 w
  unfold dev
  clear h
  have HCASE : As (∃ a b : Bool, decide (0 ≤ first) = a ∧ decide (first < c) = b ∧ pr = if a && b then [first] else []) := ⟨decide (0 ≤ first), decide (first < c), rfl, rfl, by rw [HPR.out]; by_cases h1 : 0 ≤ first <;> by_cases h2 : first < c <;> simp [h1, h2]⟩
  obtain ⟨a, b, ha, hb, hpr⟩ := HCASE.out
  have HP2 := As.mk hpr
  clear hpr
  cases a <;> cases b
  all_goals
    go_enter Tryz.func82, Tryz.ntmps82
    go_upto_if 29 with ((with_reducible refine (HA.out _ (Fr.refl _ _)).mono ?_); rintro e w1 ⟨rfl, hf1⟩; have HF1 := As.mk hf1; clear hf1)
    go_cut [7] (fun v7 wc => As (Row 3 .i64 wc w.heap.size v7 pr) ∧ As (Fr None_ w wc))
    case first =>
      first
        | (have HP3 : As (pr = [first]) := ⟨by rw [HP2.out]; rfl⟩
           go_wp2_with (at_builtin; (with_reducible refine append1 w.heap.size rfl _ _ 38 3 .i64 8 rfl Tryz.underlying38 infoIn (by decide) (.slice none 0 0) [] _ rfl rfl (Row.nil _ _ _ _) HF1.out.size (by decide) ?_); intro v1 w2 hrow1 hfr1 hat1; have HR1 := As.mk hrow1; have HF2 := As.mk hfr1; clear hrow1 hfr1 hat1; obtain ⟨A1, n1, c1, e1, _⟩ := HR1.out.rd; subst e1)
           go_meet
           case rel => exact ⟨⟨by rw [HP3.out]; exact HR1.out⟩, ⟨HF1.out.after HF2.out (fun i _ h => by cases h)⟩⟩)
        | (have HP3 : As (pr = []) := ⟨by rw [HP2.out]; rfl⟩
           go_wp2
           go_meet
           case rel => exact ⟨⟨by rw [HP3.out]; exact Row.nil _ _ _ _⟩, HF1⟩)
    case rest =>
      obtain ⟨HR, HF⟩ := hcut
      have HPL : As (pr.length ≤ 1) := ⟨by rw [HP2.out]; simp⟩
      go_wp2
      go_loopw [7, 11] (fun v7 v11 w' => ∃ m : Int, v11 = .int .i64 m ∧ 0 ≤ m ∧ m ≤ c ∧ As (Row 3 .i64 w' w.heap.size v7 (pr ++ (upTo m.toNat).filter (fun m => decide (m ≠ first)))) ∧ As (Fr None_ w w')) (fun _ v11 _ => (c - intOf v11).toNat)
      case atStart => exact ⟨0, rfl, by omega, by omega, ⟨by simpa [upTo] using HR.out⟩, HF⟩
      case round =>
        obtain ⟨m, rfl, m0, m1, HX, HG⟩ := hrel
        obtain ⟨A1, n1, c1, e1, _, hd, _⟩ := HX.out.rd
        have HLN : As ((pr ++ (upTo m.toNat).filter (fun m => decide (m ≠ first))).length ≤ 1 + m.toNat) := ⟨by
          rw [List.length_append]
          have h1 := List.length_filter_le (fun m => decide (m ≠ first)) (upTo m.toNat)
          have h2 : (upTo m.toNat).length = m.toNat := by simp [upTo]
          have h3 := HPL.out
          omega⟩
        have HUP : As ((upTo (m + 1).toNat).filter (fun m => decide (m ≠ first)) = (upTo m.toNat).filter (fun m => decide (m ≠ first)) ++ if m = first then [] else [m]) := ⟨by
          rw [show (m + 1).toNat = m.toNat + 1 by omega, upTo_succ, List.filter_append, show ((m.toNat : Nat) : Int) = m by omega]
          by_cases e : m = first <;> simp [e]⟩
        clear hd
        subst e1
        by_cases hlt : m < c
        · by_cases e : m = first
          · have hbe : (m != first) = false := by simp [e]
            have HU2 : As ((upTo (m + 1).toNat).filter (fun m => decide (m ≠ first)) = (upTo m.toNat).filter (fun m => decide (m ≠ first))) := ⟨by rw [HUP.out, if_pos e, List.append_nil]⟩
            clear e
            go_wp2
            exact ⟨⟨m + 1, rfl, by omega, by omega, ⟨by rw [HU2.out]; exact HX.out⟩, HG⟩, by simp [intOf]; omega⟩
          · have hbe : (m != first) = true := by simp [e]
            have HU2 : As ((upTo (m + 1).toNat).filter (fun m => decide (m ≠ first)) = (upTo m.toNat).filter (fun m => decide (m ≠ first)) ++ [m]) := ⟨by rw [HUP.out, if_neg e]⟩
            clear e
            go_wp2_with (at_builtin; (with_reducible refine append1 w.heap.size rfl _ _ 38 3 .i64 8 rfl Tryz.underlying38 infoIn (by decide) (.slice A1 n1 c1) (pr ++ (upTo m.toNat).filter (fun m => decide (m ≠ first))) _ rfl rfl HX.out HG.out.size ?k0 ?_); (case k0 => have := HLN.out; omega); intro v1 w2 hrow1 hfr1 hat1; have HR1 := As.mk hrow1; have HF2 := As.mk (row_grow HX.out HG.out hfr1); clear hrow1 hfr1 hat1)
            exact ⟨⟨m + 1, rfl, by omega, by omega, ⟨by rw [HU2.out, ← List.append_assoc]; exact HR1.out⟩, HF2⟩, by simp [intOf]; omega⟩
        · have HE : As (Row 3 .i64 wr w.heap.size (.slice A1 n1 c1) res) := ⟨by rw [HO.out, show c.toNat = m.toNat by omega]; exact HX.out⟩
          go_wp2
          go_ret
          exact ⟨_, rfl, HE.out, HG.out⟩
end Go.Proofs.YteofgpaceeibpaaGreat.AOrd
namespace Go.Proofs.YteofgpaceeibpaaGreat.AWrA
open Go.RowKit Go.Proofs.YteofgpaceeibpaaGreat.Gab Go.Proofs.YteofgpaceeibpaaGreat.Geom Go.Proofs.YteofgpaceeibpaaGreat.Ref Go.Proofs.YteofgpaceeibpaaGreat.Sum Go.Proofs.YteofgpaceeibpaaGreat.Par Go.Proofs.YteofgpaceeibpaaGreat.Fields Go.Proofs.YteofgpaceeibpaaGreat.Seal Go.Proofs.YteofgpaceeibpaaGreat.AOrd Go.Proofs.YteofgpaceeibpaaGreat.Nand Go.Proofs.YteofgpaceeibpaaGreat.NandD
open Go.Proofs.YteofgpaceeibpaaGreat.Wr (InR)
open Go.Proofs.YteofgpaceeibpaaGreat.Str (pcells PPs parOf take_snoc add_next infoSl sealed_calls Of_calls)
set_option linter.unusedVariables false
set_option linter.unusedSimpArgs false

/-! ### what isn't theirs -/
/-- A value's row is one of bytes, and none of theirs. -/
def Own (F : Nat → Prop) (w : World) (v : Value) : Prop := ∀ b, v.ownBlock = some b → ¬ F b ∧ ∃ cs, w.heap[b]? = some (.cells cs 5 (0, 0))
theorem Own.step {F : Nat → Prop} {w w' : World} {v : Value} (h : Own F w v) (hs : Fr F w w') : Own F w' v := fun b hb => by
  obtain ⟨h1, cs, h2⟩ := h b hb
  exact ⟨h1, cs, hs.heap h2 h1⟩
theorem Own.fr {F S : Nat → Prop} {w w' : World} {v : Value} (h : Own F w v) (hf : Fr S w w') (hS : ∀ b cs, w.heap[b]? = some (.cells cs 5 (0, 0)) → ¬ S b) : Own F w' v := fun b hb => by
  obtain ⟨h1, cs, h2⟩ := h b hb
  exact ⟨h1, cs, hf.heap h2 (hS b cs h2)⟩
/-- A slice of bytes, none of theirs. -/
def SlO (F : Nat → Prop) (w : World) (v : Value) (xs : List Int) : Prop := Sl w v xs ∧ Own F w v
theorem SlO.rdO {F : Nat → Prop} {w : World} {v : Value} {xs : List Int} (h : SlO F w v xs) : ∃ A n c, v = .slice A n c ∧ As (n ≤ c) ∧ As (RdN w F A n xs) := by
  obtain ⟨⟨A, n, c, rfl, h1, h2⟩, h3⟩ := h
  exact ⟨A, n, c, rfl, ⟨h1⟩, ⟨h2, fun ad e _ => (h3 _ (by subst e; rfl)).1⟩⟩
theorem SlO.step {F : Nat → Prop} {w w' : World} {v : Value} {xs : List Int} (h : SlO F w v xs) (hs : Fr F w w') : SlO F w' v xs :=
  ⟨h.1.fr hs (fun b hb => (h.2 b hb).1), h.2.step hs⟩
theorem SlO.fr {F S : Nat → Prop} {w w' : World} {v : Value} {xs : List Int} (h : SlO F w v xs) (hf : Fr S w w') (hS : ∀ b cs, w.heap[b]? = some (.cells cs 5 (0, 0)) → ¬ S b) : SlO F w' v xs :=
  ⟨h.1.fr hf (fun b hb => by obtain ⟨cs, h2⟩ := (h.2 b hb).2; exact hS b cs h2), h.2.fr hf hS⟩
theorem SlO.none_ {F : Nat → Prop} {w w' : World} {v : Value} {xs : List Int} (h : SlO F w v xs) (hf : Fr None_ w w') : SlO F w' v xs := h.fr hf (fun _ _ _ h => h)
theorem SlO.of_row {F : Nat → Prop} {N : Nat} {w' : World} {base : Nat} {v : Value} {xs : List Int} (hF : ∀ b, F b → b < N) (h : Row 5 .u8 w' base v xs) (hb : N ≤ base) : SlO F w' v xs :=
  ⟨Row.sl h, fun b hv => ⟨fun hf => by have h1 := hF b hf; have h2 := (h.blk b hv).1; omega, (h.blk b hv).2.2⟩⟩
/-- Pages with what stands beside each, none of theirs. -/
def PPO (F : Nat → Prop) (w : World) (vs : List Value) (l : List (List Int × List Int)) : Prop := PPs w vs l ∧ ∀ v ∈ vs, Own F w v
theorem PPO.fr {F S : Nat → Prop} {w w' : World} {vs : List Value} {l : List (List Int × List Int)} (h : PPO F w vs l) (hf : Fr S w w') (hS : ∀ b cs, w.heap[b]? = some (.cells cs 5 (0, 0)) → ¬ S b) : PPO F w' vs l := by
  have hm : ∀ k, k < vs.length → vs.getD k undef ∈ vs := fun k hk => by rw [List.getD_eq_getElem?_getD, List.getElem?_eq_getElem hk]; exact List.getElem_mem hk
  have hl := h.1.1
  refine ⟨⟨hl, fun j hj => ⟨?_, ?_⟩⟩, fun v hv => (h.2 v hv).fr hf hS⟩
  · exact (h.1.2 j hj).1.fr hf (fun b hb => by obtain ⟨cs, h2⟩ := (h.2 _ (hm (j * 2) (by omega)) b hb).2; exact hS b cs h2)
  · exact (h.1.2 j hj).2.fr hf (fun b hb => by obtain ⟨cs, h2⟩ := (h.2 _ (hm (j * 2 + 1) (by omega)) b hb).2; exact hS b cs h2)
theorem PPO.step {F : Nat → Prop} {w w' : World} {vs : List Value} {l : List (List Int × List Int)} (h : PPO F w vs l) (hs : Fr F w w') : PPO F w' vs l := by
  have hm : ∀ k, k < vs.length → vs.getD k undef ∈ vs := fun k hk => by rw [List.getD_eq_getElem?_getD, List.getElem?_eq_getElem hk]; exact List.getElem_mem hk
  have hl := h.1.1
  refine ⟨⟨hl, fun j hj => ⟨?_, ?_⟩⟩, fun v hv => (h.2 v hv).step hs⟩
  · exact (h.1.2 j hj).1.fr hs (fun b hb => (h.2 _ (hm (j * 2) (by omega)) b hb).1)
  · exact (h.1.2 j hj).2.fr hs (fun b hb => (h.2 _ (hm (j * 2 + 1) (by omega)) b hb).1)
theorem PPO.none_ {F : Nat → Prop} {w w' : World} {vs : List Value} {l : List (List Int × List Int)} (h : PPO F w vs l) (hf : Fr None_ w w') : PPO F w' vs l := h.fr hf (fun _ _ _ h => h)
theorem PPO.nil (F : Nat → Prop) (w : World) : PPO F w [] [] := ⟨Go.Proofs.YteofgpaceeibpaaGreat.Str.PPs.nil w, fun v hv => by cases hv⟩
theorem PPO.snoc {F : Nat → Prop} {w : World} {vs : List Value} {l : List (List Int × List Int)} (h : PPO F w vs l) {v u : Value} {xs ys : List Int} (hv : SlO F w v xs) (hu : SlO F w u ys) : PPO F w (vs ++ [v, u]) (l ++ [(xs, ys)]) :=
  ⟨Go.Proofs.YteofgpaceeibpaaGreat.Str.PPs.snoc h.1 hv.1 hu.1, fun x hx => by
    rcases List.mem_append.1 hx with h1 | h1
    · exact h.2 x h1
    · simp at h1
      rcases h1 with rfl | rfl
      · exact hv.2
      · exact hu.2⟩
/-- Cells that are read, of a block that isn't theirs. -/
def RdCO (F : Nat → Prop) (w : World) (A : Option Addr) (m : Nat) (vs : List Value) : Prop := RdC w A m vs ∧ ∀ ad, A = some ad → 0 < m → ¬ F ad.block
theorem RdCO.step {F : Nat → Prop} {w w' : World} {A : Option Addr} {m : Nat} {vs : List Value} (h : RdCO F w A m vs) (hs : Fr F w w') : RdCO F w' A m vs := ⟨h.1.fr hs h.2, h.2⟩
theorem RdCO.none_ {F : Nat → Prop} {w w' : World} {A : Option Addr} {m : Nat} {vs : List Value} (h : RdCO F w A m vs) (hf : Fr None_ w w') : RdCO F w' A m vs := ⟨h.1.none_ hf, h.2⟩
theorem RdCO.of_rowV {F : Nat → Prop} {N : Nat} {w' : World} {base e size n : Nat} {A : Option Addr} {c : Nat} {vs : List Value} (hF : ∀ b, F b → b < N) (h : RowV e size w' base (.slice A n c) n vs) (hb : N ≤ base) : RdCO F w' A (n * size) vs := by
  obtain ⟨A', c', e, _, h1, h2⟩ := h.rd
  injection e with e1 e2 e3
  subst e1
  exact ⟨h1.out, fun ad ea _ hf => by
    have h3 := hF _ hf
    have h4 := (RowV.blk h _ (h2.out ad ea)).1
    omega⟩

/-! ### pages -/
/-- Cells that are pages: each its header's cells, and its bytes (none of theirs). -/
def SPs (F : Nat → Prop) (w : World) (vs : List Value) (l : List (Head × List Int)) : Prop := vs.length = l.length * 8 ∧ ∀ j, j < l.length → ∀ d, (l.getD j d).1.Ok ∧ SlO F w (vs.getD (j * 8 + 7) undef) (l.getD j d).2 ∧ ∀ i, i < 7 → vs.getD (j * 8 + i) undef = (l.getD j d).1.vals.getD i undef
def noPage : Head × List Int := (⟨0, 0, 0, 0, 0, 0, 0⟩, [])
theorem SPs.none_ {F : Nat → Prop} {w w' : World} {vs : List Value} {l : List (Head × List Int)} (h : SPs F w vs l) (hf : Fr None_ w w') : SPs F w' vs l := ⟨h.1, fun j hj d => ⟨(h.2 j hj d).1, (h.2 j hj d).2.1.none_ hf, (h.2 j hj d).2.2⟩⟩
theorem SPs.nil (F : Nat → Prop) (w : World) : SPs F w [] [] := ⟨rfl, fun j hj => absurd hj (by simp)⟩
theorem SPs.snoc {F : Nat → Prop} {w : World} {vs : List Value} {l : List (Head × List Int)} (h : SPs F w vs l) {v : Value} {hd : Head} {xs : List Int} (hv : SlO F w v xs) (hh : hd.Ok) : SPs F w (vs ++ (pcells hd v).toList) (l ++ [(hd, xs)]) := by
  have hl := h.1
  refine ⟨by simp [hl, pcells]; omega, fun j hj d => ?_⟩
  by_cases e : j < l.length
  · have h1 := h.2 j e d
    have e1 : ∀ i, i < 8 → (vs ++ (pcells hd v).toList).getD (j * 8 + i) undef = vs.getD (j * 8 + i) undef := fun i hi => by
      simp only [List.getD_eq_getElem?_getD]
      rw [List.getElem?_append_left (by omega)]
    have e2 : (l ++ [(hd, xs)]).getD j d = l.getD j d := by
      simp only [List.getD_eq_getElem?_getD]
      rw [List.getElem?_append_left e]
    rw [e2, e1 7 (by decide)]
    exact ⟨h1.1, h1.2.1, fun i hi => by rw [e1 i (by omega)]; exact h1.2.2 i hi⟩
  · have e2 : j = l.length := by simp at hj; omega
    subst e2
    have e1 : ∀ i, (vs ++ (pcells hd v).toList).getD (l.length * 8 + i) undef = (pcells hd v).toList.getD i undef := fun i => by
      simp only [List.getD_eq_getElem?_getD]
      rw [List.getElem?_append_right (by omega), hl, show l.length * 8 + i - l.length * 8 = i by omega]
    have e3 : (l ++ [(hd, xs)]).getD l.length d = (hd, xs) := by
      simp only [List.getD_eq_getElem?_getD]
      rw [List.getElem?_append_right (Nat.le_refl _)]
      simp
    rw [e3, e1]
    refine ⟨hh, hv, fun i hi => ?_⟩
    rw [e1]
    match i, hi with
    | 0, _ => rfl
    | 1, _ => rfl
    | 2, _ => rfl
    | 3, _ => rfl
    | 4, _ => rfl
    | 5, _ => rfl
    | 6, _ => rfl
/-- A page of them, where it lies. -/
theorem SPs.at_ {F : Nat → Prop} {w : World} {A : Option Addr} {n : Nat} {vs : List Value} {l : List (Head × List Int)} (hc : RdC w A (n * 8) vs) (h : SPs F w vs l) (i : Int) (h0 : 0 ≤ i) (h1 : i < n) :
    ∃ ad ax D nd cd, A = some ad ∧ ad.add (i.toNat * 8) = ax ∧ w.cell? ax = some (.int .u8 (l.getD i.toNat noPage).1.kind) ∧ w.cell? ⟨ax.block, ax.off + 1, none⟩ = some (.int .u32 (l.getD i.toNat noPage).1.epoch) ∧ w.cell? ⟨ax.block, ax.off + 2, none⟩ = some (.int .u32 (l.getD i.toNat noPage).1.batch) ∧ w.cell? ⟨ax.block, ax.off + 3, none⟩ = some (.int .u16 (l.getD i.toNat noPage).1.index) ∧ w.cell? ⟨ax.block, ax.off + 4, none⟩ = some (.int .u16 (l.getD i.toNat noPage).1.count) ∧ w.cell? ⟨ax.block, ax.off + 5, none⟩ = some (.int .u32 (l.getD i.toNat noPage).1.block) ∧ w.cell? ⟨ax.block, ax.off + 6, none⟩ = some (.int .u32 (l.getD i.toNat noPage).1.more) ∧ w.cell? ⟨ax.block, ax.off + 7, none⟩ = some (.slice D nd cd) ∧ As (nd ≤ cd ∧ RdN w F D nd (l.getD i.toNat noPage).2) ∧ As (SlO F w (.slice D nd cd) (l.getD i.toNat noPage).2) ∧ As ((l.getD i.toNat noPage).1.Ok) := by
  have hn : l.length * 8 = n * 8 := by rw [← h.1, hc.1]
  obtain ⟨ad, e, hcell⟩ := hc.2 (by omega)
  obtain ⟨ho, hs, hv⟩ := h.2 i.toNat (by omega) noPage
  obtain ⟨D, nd, cd, e1, a1, a2⟩ := hs.rdO
  have hcl : ∀ j, j < 8 → w.cell? (ad.add (i.toNat * 8 + j)) = some (vs.getD (i.toNat * 8 + j) undef) := fun j hj => hcell _ (by omega)
  have hc0 : w.cell? (ad.add (i.toNat * 8)) = some (vs.getD (i.toNat * 8 + 0) undef) := hcl 0 (by decide)
  have hcj : ∀ j, 0 < j → j < 8 → w.cell? ⟨(ad.add (i.toNat * 8)).block, (ad.add (i.toNat * 8)).off + j, none⟩ = some (vs.getD (i.toNat * 8 + j) undef) := fun j h0 hj => by rw [← add_next _ _ _ h0]; exact hcl j hj
  rw [hv 0 (by decide)] at hc0
  have hx : ∀ j, 0 < j → j < 7 → w.cell? ⟨(ad.add (i.toNat * 8)).block, (ad.add (i.toNat * 8)).off + j, none⟩ = some ((l.getD i.toNat noPage).1.vals.getD j undef) := fun j h0 hj => by rw [hcj j h0 (by omega), hv j hj]
  refine ⟨ad, _, D, nd, cd, e, rfl, hc0, hx 1 (by decide) (by decide), hx 2 (by decide) (by decide), hx 3 (by decide) (by decide), hx 4 (by decide) (by decide), hx 5 (by decide) (by decide), hx 6 (by decide) (by decide), ?_, ⟨a1.out, a2.out⟩, ⟨e1 ▸ hs⟩, ⟨ho⟩⟩
  rw [hcj 7 (by decide) (by decide), e1]

/-! ### what is written -/
def sealedOf (l : List (Head × List Int)) : List (List Int × List Int) := l.map fun q => (q.2, sealOf q.1 q.2 [])
def parHead (l : List (Head × List Int)) (seg row : Int) : Head := ⟨5, (l.getD 0 noPage).1.epoch, (l.getD 0 noPage).1.batch, row, seg, 0, 0⟩
def parPage (g : Geo) (l : List (Head × List Int)) (seg row : Int) : List Int × List Int := parOf g.s.toNat (parHead l seg row) (sealedOf l)
/-- What a member's page is, with what stands beside it. -/
def pageOf (g : Geo) (l : List (Head × List Int)) (seg row m : Int) : List Int × List Int := if g.isData seg row m = true then (sealedOf l).getD (g.slot seg row m).toNat ([], []) else parPage g l seg row
theorem orderOf_mem {first c : Int} (hc : 0 ≤ c) : ∀ m ∈ orderOf first c, 0 ≤ m ∧ m < c := by
  intro m hm
  unfold orderOf at hm
  rcases List.mem_append.1 hm with h | h
  · unfold pre at h
    split at h
    · rename_i hh
      rw [List.mem_singleton] at h
      subst h
      exact hh
    · cases h
  · have h1 := (List.mem_filter.1 h).1
    unfold upTo at h1
    obtain ⟨k, hk, rfl⟩ := List.mem_map.1 h1
    have := List.mem_range.1 hk
    simp only [Int.ofNat_eq_natCast]
    omega
theorem orderOf_len (first c : Int) : (orderOf first c).length ≤ c.toNat + 1 := by
  unfold orderOf
  rw [List.length_append]
  have h1 := List.length_filter_le (fun m => decide (m ≠ first)) (upTo c.toNat)
  have h2 : (upTo c.toNat).length = c.toNat := by simp [upTo]
  have h3 : (pre first c).length ≤ 1 := by unfold pre; split <;> simp
  omega
theorem sealOf_len (h : Head) (data beside : List Int) : (sealOf h data beside).length = 64 := by
  unfold sealOf
  rw [List.length_append, Wr.padTo_length]
  have h1 : h.bytes.length = 24 := by simp [Head.bytes, Wr.les_length]
  have h2 : (tailOf beside).length = 32 := by unfold tailOf; rw [Wr.padTo_length, List.length_take]; omega
  rw [List.length_append, h1, h2, Wr.le_length]
  rfl
theorem seal_range {h : Head} {data beside : List Int} (hb : InR 256 beside) : InR 256 (sealOf h data beside) := inR_append (pad_range (inR_append (bytes_range h) (le_range 4 _)) _) (tail_range hb)
theorem infoPP : (Tryz.prog.info? 157).map (fun i => (i.zero, i.size, i.bytes)) = some (some (.agg #[.slice none 0 0, .slice none 0 0]), 2, 48) := by kernel_rfl

theorem sealed_get {l : List (Head × List Int)} {j : Nat} (hj : j < l.length) : (sealedOf l).getD j ([], []) = ((l.getD j noPage).2, sealOf (l.getD j noPage).1 (l.getD j noPage).2 []) := by
  simp [sealedOf, List.getD_eq_getElem?_getD, List.getElem?_eq_getElem hj]
theorem slot_range {g : Geo} (h : g.Ok) {seg row m : Int} (hm0 : 0 ≤ m) (hm1 : m < g.c) (hd : g.isData seg row m = true) : 0 ≤ g.slot seg row m ∧ g.slot seg row m < g.c - 1 := by
  obtain ⟨h1, h2⟩ := par_range h seg row
  unfold Geo.isData at hd
  have hne : m ≠ g.par seg row := by simpa using hd
  unfold Geo.slot
  rw [if_neg hne]
  split <;> omega
theorem PPO.at_ {F : Nat → Prop} {w : World} {A : Option Addr} {n : Nat} {vs : List Value} {l : List (List Int × List Int)} (hc : RdC w A (n * 2) vs) (h : PPO F w vs l) (i : Int) (h0 : 0 ≤ i) (h1 : i < n) :
    ∃ ad ax D nd cd O no co, A = some ad ∧ ad.add (i.toNat * 2) = ax ∧ w.cell? ax = some (.slice D nd cd) ∧ w.cell? ⟨ax.block, ax.off + 1, none⟩ = some (.slice O no co) ∧ As (SlO F w (.slice D nd cd) (l.getD i.toNat ([], [])).1) ∧ As (SlO F w (.slice O no co) (l.getD i.toNat ([], [])).2) := by
  have hn : l.length * 2 = n * 2 := by rw [← h.1.1, hc.1]
  have hl := hc.1
  have hm : ∀ k, k < vs.length → vs.getD k undef ∈ vs := fun k hk => by rw [List.getD_eq_getElem?_getD, List.getElem?_eq_getElem hk]; exact List.getElem_mem hk
  obtain ⟨ad, e, hcell⟩ := hc.2 (by omega)
  have o1 := h.2 _ (hm (i.toNat * 2) (by omega))
  have o2 := h.2 _ (hm (i.toNat * 2 + 1) (by omega))
  obtain ⟨⟨D, nd, cd, e1, a1, a2⟩, ⟨O, no, co, e2, b1, b2⟩⟩ := h.1.2 i.toNat (by omega)
  rw [e1] at o1
  rw [e2] at o2
  refine ⟨ad, _, D, nd, cd, O, no, co, e, rfl, ?_, ?_, ⟨⟨D, nd, cd, rfl, a1, a2⟩, o1⟩, ⟨⟨O, no, co, rfl, b1, b2⟩, o2⟩⟩
  · rw [hcell _ (by omega), e1]
  · rw [← add_next _ _ _ (by decide), hcell _ (by omega), e2]
end Go.Proofs.YteofgpaceeibpaaGreat.AWrA
namespace Go.Proofs.YteofgpaceeibpaaGreat.AWrB
open Go.RowKit Go.Proofs.YteofgpaceeibpaaGreat.Gab Go.Proofs.YteofgpaceeibpaaGreat.Geom Go.Proofs.YteofgpaceeibpaaGreat.Ref Go.Proofs.YteofgpaceeibpaaGreat.Sum Go.Proofs.YteofgpaceeibpaaGreat.Par Go.Proofs.YteofgpaceeibpaaGreat.Fields Go.Proofs.YteofgpaceeibpaaGreat.Seal Go.Proofs.YteofgpaceeibpaaGreat.AOrd Go.Proofs.YteofgpaceeibpaaGreat.Nand Go.Proofs.YteofgpaceeibpaaGreat.NandA Go.Proofs.YteofgpaceeibpaaGreat.NandD Go.Proofs.YteofgpaceeibpaaGreat.NandE Go.Proofs.YteofgpaceeibpaaGreat.NandH Go.Proofs.YteofgpaceeibpaaGreat.RemapA Go.Proofs.YteofgpaceeibpaaGreat.VolD Go.Proofs.YteofgpaceeibpaaGreat.MemA Go.Proofs.YteofgpaceeibpaaGreat.ArrA Go.Proofs.YteofgpaceeibpaaGreat.ArrC Go.Proofs.YteofgpaceeibpaaGreat.ArrD Go.Proofs.YteofgpaceeibpaaGreat.ArrE Go.Proofs.YteofgpaceeibpaaGreat.ArrF Go.Proofs.YteofgpaceeibpaaGreat.AWrA
open Go.Proofs.YteofgpaceeibpaaGreat.Wr (InR)
set_option linter.unusedVariables false
set_option linter.unusedSimpArgs false

theorem stand_lt {σ : Ar} (hg : σ.s.g.Ok) (h : σ.set.Ok σ.s.g) {m b c : Nat} (hm : (m : Int) < σ.s.g.c) (hs : σ.stand m b = some c) : c < σ.s.n := by
  have hc := hg.c
  unfold Ar.stand at hs
  split at hs
  · split at hs
    · rename_i h1 h2
      injection hs with hs
      subst hs
      have h3 := h.dn (by have := h2.1; omega)
      have h4 := h.inr σ.set.spare (by
        unfold MS.all
        rw [if_neg h3.2]
        simp)
      unfold St.n
      omega
    · cases hs
  · injection hs with hs
    subst hs
    have := (chip_range h hm).1
    unfold St.n
    omega
/-- What a program keeps. -/
theorem prog_keeps {σ : Ar} (hg : σ.s.g.Ok) (h : σ.set.Ok σ.s.g) (m b q : Nat) (d o : List Int) (hm : (m : Int) < σ.s.g.c) :
    (σ.prog m b q d o).1.s.g = σ.s.g ∧ (σ.There → (σ.prog m b q d o).1.There) ∧ ∀ n, σ.s.Safe (n + 1) → (σ.prog m b q d o).1.s.Safe n := by
  unfold Ar.prog
  split
  · exact ⟨rfl, fun h => h, fun n h => h.le (Nat.le_succ n)⟩
  · rcases hst : σ.stand m b with _ | c
    · exact ⟨rfl, fun h => h, fun n h => h.le (Nat.le_succ n)⟩
    · have hc := stand_lt hg h hm hst
      dsimp only
      have h1 := (prog_g σ.s c ((σ.tab c).at b) q d o).1
      have hsf : ∀ n, σ.s.Safe (n + 1) → (σ.s.prog c ((σ.tab c).at b) q d o).1.Safe n := fun n h => St.Safe.prog h c _ q d o
      generalize σ.s.prog c ((σ.tab c).at b) q d o = r at *
      have hth : σ.There → Ar.There { σ with s := r.1 } := by
        intro ht hl k hk hd
        have hk' : (k : Int) < r.1.g.c := hk
        rw [h1] at hk'
        exact ht hl k hk' hd
      have hdk := died_kept (σ := { σ with s := r.1 }) (by show r.1.g.Ok; rw [h1]; exact hg) (by show σ.set.Ok r.1.g; rw [h1]; exact h) c (by show c < r.1.n; unfold St.n at hc ⊢; rw [h1]; exact hc)
      have hds := (died_same { σ with s := r.1 } c).1
      split
      · split
        · exact ⟨hdk.g.trans h1, fun ht => hdk.there (hth ht), fun n hn => by show (Ar.died { σ with s := r.1 } c).1.s.Safe n; rw [hds]; exact hsf n hn⟩
        · exact ⟨hdk.g.trans h1, fun ht => hdk.there (hth ht), fun n hn => by show (Ar.died { σ with s := r.1 } c).1.s.Safe n; rw [hds]; exact hsf n hn⟩
      · split
        · exact ⟨h1, hth, hsf⟩
        · exact ⟨h1, hth, hsf⟩
/-- One program of a row: the array, how many are gone, what stopped it. -/
def pstep (seg row : Int) (pg : Int → List Int × List Int) (τ : Ar × Int × Int) (m : Int) : Ar × Int × Int :=
  if τ.2.2 = 0 then
    if (τ.1.prog m.toNat seg.toNat row.toNat (pg m).1 (pg m).2).2 = 0 then ((τ.1.prog m.toNat seg.toNat row.toNat (pg m).1 (pg m).2).1, τ.2.1, 0)
    else if (τ.1.prog m.toNat seg.toNat row.toNat (pg m).1 (pg m).2).2 = 71 then ((τ.1.prog m.toNat seg.toNat row.toNat (pg m).1 (pg m).2).1, τ.2.1 + 1, 0)
    else ((τ.1.prog m.toNat seg.toNat row.toNat (pg m).1 (pg m).2).1, τ.2.1, (τ.1.prog m.toNat seg.toNat row.toNat (pg m).1 (pg m).2).2)
  else τ
/-- A row of programs. -/
def _root_.Go.Proofs.YteofgpaceeibpaaGreat.ArrA.Ar.progs (σ : Ar) (seg row : Int) (pg : Int → List Int × List Int) (ms : List Int) : Ar × Int × Int := ms.foldl (pstep seg row pg) (σ, 0, 0)
/-- What Write answers. -/
def wcode (τ : Ar × Int × Int) : Int := if τ.2.2 ≠ 0 then τ.2.2 else if 1 < τ.2.1 then 74 else 0
theorem progs_snoc (σ : Ar) (seg row : Int) (pg : Int → List Int × List Int) (ms : List Int) (m : Int) : σ.progs seg row pg (ms ++ [m]) = pstep seg row pg (σ.progs seg row pg ms) m := by unfold Ar.progs; rw [List.foldl_append]; rfl
theorem pstep_stuck (seg row : Int) (pg : Int → List Int × List Int) (τ : Ar × Int × Int) (h : τ.2.2 ≠ 0) : ∀ ms : List Int, ms.foldl (pstep seg row pg) τ = τ
  | [] => rfl
  | m :: ms => by
    rw [List.foldl_cons]
    have : pstep seg row pg τ m = τ := by unfold pstep; rw [if_neg h]
    rw [this]
    exact pstep_stuck seg row pg τ h ms
theorem progs_stuck (σ : Ar) (seg row : Int) (pg : Int → List Int × List Int) (ms : List Int) (i : Nat) (h : (σ.progs seg row pg (ms.take i)).2.2 ≠ 0) : σ.progs seg row pg ms = σ.progs seg row pg (ms.take i) := by
  have e : σ.progs seg row pg ms = (ms.drop i).foldl (pstep seg row pg) (σ.progs seg row pg (ms.take i)) := by
    unfold Ar.progs
    rw [← List.foldl_append, List.take_append_drop]
  rw [e]
  exact pstep_stuck seg row pg _ h _
theorem pstep_1 (seg row : Int) (pg : Int → List Int × List Int) (τ : Ar × Int × Int) (m : Int) (h : τ.2.2 = 0) : (pstep seg row pg τ m).1 = (τ.1.prog m.toNat seg.toNat row.toNat (pg m).1 (pg m).2).1 := by
  unfold pstep
  rw [if_pos h]
  split
  · rfl
  · split <;> rfl
end Go.Proofs.YteofgpaceeibpaaGreat.AWrB
namespace Go.Proofs.YteofgpaceeibpaaGreat.AWrC
open Go.RowKit Go.Proofs.YteofgpaceeibpaaGreat.Gab Go.Proofs.YteofgpaceeibpaaGreat.Geom Go.Proofs.YteofgpaceeibpaaGreat.Ref Go.Proofs.YteofgpaceeibpaaGreat.Sum Go.Proofs.YteofgpaceeibpaaGreat.Par Go.Proofs.YteofgpaceeibpaaGreat.Fields Go.Proofs.YteofgpaceeibpaaGreat.Seal Go.Proofs.YteofgpaceeibpaaGreat.AOrd Go.Proofs.YteofgpaceeibpaaGreat.Nand Go.Proofs.YteofgpaceeibpaaGreat.NandA Go.Proofs.YteofgpaceeibpaaGreat.NandD Go.Proofs.YteofgpaceeibpaaGreat.NandE Go.Proofs.YteofgpaceeibpaaGreat.NandH Go.Proofs.YteofgpaceeibpaaGreat.MemA Go.Proofs.YteofgpaceeibpaaGreat.ArrA Go.Proofs.YteofgpaceeibpaaGreat.AWrA Go.Proofs.YteofgpaceeibpaaGreat.AWrB
open Go.Proofs.YteofgpaceeibpaaGreat.Wr (InR)
open Go.Proofs.YteofgpaceeibpaaGreat.Heap (cell_is)
open Go.Proofs.YteofgpaceeibpaaGreat.Str (pcells PPs parOf take_snoc add_next infoSl sealed_calls Of_calls)
set_option linter.unusedVariables false
set_option linter.unusedSimpArgs false

def WrPost (σ : Ar) (K : ALay) (X : Ar × Int × Int) (w : World) (e : Ending) (w' : World) : Prop := e = .returned (.int .i64 (wcode X)) ∧ ArAt w' X.1 K ∧ Fr (AF K σ) w w'
def PrPost (σ : Ar) (K : ALay) (r : Ar × Int) (w : World) (e : Ending) (w' : World) : Prop := e = .returned (.int .i64 r.2) ∧ ArAt w' r.1 K ∧ Fr (AF K σ) w w'
/-- One program of a row. -/
theorem Prog_any (σ τ : Ar) (K : ALay) (seg row m : Int) (D O : Option Addr) (nd cd co : Nat) (data oob : List Int) (w : World)
    (h : ArAt w τ K) (hth : τ.There) (hg : τ.s.g = σ.s.g) (ha : σ.s.g.At seg row) (hm0 : 0 ≤ m) (hm1 : m < σ.s.g.c) (hD : SlO (AF K σ) w (.slice D nd cd) data) (hO : SlO (AF K σ) w (.slice O 64 co) oob) (hl : (data.length : Int) = σ.s.g.s) (hrd : InR 256 data) (hro : InR 256 oob) (n : Nat) (hs : τ.s.Safe (n + 1)) :
    Calls Tryz.prog 141 #[.pointer (some ⟨K.x, 0, none⟩), .int .i64 m, .int .i64 seg, .int .i64 row, .slice D nd cd, .slice O 64 co] w (PrPost σ K (τ.prog m.toNat seg.toNat row.toNat data oob) w) := by
  obtain ⟨D', n', c', e1, h1, h2⟩ := hD.rdO
  injection e1 with e1 e2 e3
  subst e1 e2 e3
  obtain ⟨O', n'', c'', e1, h3, h4⟩ := hO.rdO
  injection e1 with e1 e2 e3
  subst e1 e2 e3
  have hnd : (nd : Int) = σ.s.g.s := by rw [← hl, h2.out.1.1]
  have hseg := ha.seg
  have hrow := ha.row
  obtain ⟨m', rfl⟩ := Int.eq_ofNat_of_zero_le hm0
  obtain ⟨b', rfl⟩ := Int.eq_ofNat_of_zero_le hseg.1
  obtain ⟨q', rfl⟩ := Int.eq_ofNat_of_zero_le hrow.1
  have hAE := ArrD.AF.eq (K := K) hg
  have hnf : ∀ b, NF K.p K.L τ.s.n τ.s.nb b → AF K σ b := fun b hb => (hAE b).1 (.inl hb)
  refine (ArrE.Program_calls τ K m' b' q' D O nd cd 64 co data oob w h hth (by rw [hg]; exact hm1) (by rw [hg]; exact hseg.2) (by unfold St.np; rw [hg]; omega) n hs ⟨h2.out.1, fun ad e hn hx => h2.out.2 ad e hn (hnf _ hx)⟩ ⟨h4.out.1, fun ad e hn hx => h4.out.2 ad e hn (hnf _ hx)⟩ (by rw [hg]; exact hnd) rfl hrd hro).mono ?_
  rintro r w' ⟨hr, hw, hf⟩
  exact ⟨hr, hw, hf.mono (fun b _ hb => (hAE b).1 hb)⟩

set_option maxHeartbeats 8000000 in
set_option maxRecDepth 100000 in
theorem Write_calls (σ : Ar) (K : ALay) (seg row : Int) (A : Option Addr) (n c : Nat) (vs : List Value) (l : List (Head × List Int)) (w : World) (hR : ArAt w σ K) (hth : σ.There) (ha : σ.s.g.At seg row) (hn : (n : Int) = σ.s.g.c - 1) (hC : RdCO (AF K σ) w A (n * 8) vs) (hS : SPs (AF K σ) w vs l)
    (hl : ∀ q ∈ l, (q.2.length : Int) = σ.s.g.s ∧ InR 256 q.2) (m0 : Nat) (hs : σ.s.Safe (m0 + 18)) :
    Calls Tryz.prog 47 #[dev K.x, .int .i64 seg, .int .i64 row, .slice A n c] w (WrPost σ K (σ.progs seg row (fun m => pageOf σ.s.g l seg row m) (orderOf σ.ahead σ.s.g.c)) w) := by
  have hok : σ.s.g.Ok := hR.nand.ok
  have HTH := As.mk hth
  have HLTF := As.mk (show ∀ b, AF K σ b → b < w.heap.size from fun b hb => by
    rcases hb with h | h | h
    · exact hR.nand.lt h
    · rw [h]; exact (Array.getElem?_eq_some_iff.1 hR.main).1
    · obtain ⟨cs, hv, _⟩ := hR.vols
      rw [h]; exact (Array.getElem?_eq_some_iff.1 hv).1)
  have HR := As.mk hR
  have HC := As.mk hC
  have HS := As.mk hS
  have HL := As.mk hl
  have HSF := As.mk hs
  have HLN : As (l.length = n) := ⟨by have h1 := hS.1; have h2 := hC.1.1; omega⟩
  have hc1 := hok.c
  have hb1 := hok.b
  have hp1 := hok.p
  have hs1 := hok.s
  have HG := As.mk (fun w' (hf : Fr None_ w w') => ArrA.Geo_calls σ K w' (hR.none_ hf))
  have HW := As.mk (fun w => Width_calls σ.s.g w hok)
  have HV := As.mk (fun w => Virtual_calls σ.s.g w hok)
  have HPX := As.mk (fun m (hm : 0 ≤ m ∧ m < σ.s.g.c) w => Slot_calls σ.s.g seg row m w hok ha hm.1 (by omega))
  have HAT := As.mk ha
  have hseg := ha.seg
  have hrow := ha.row
  have hb := hseg.2
  have HOK := As.mk hok
  unfold Geo.val at HG HW HV HPX
  have e1 : ((n : Int) != σ.s.g.c - 1) = false := by rw [hn]; simp
  have e2 : decide (seg < 0) = false := decide_eq_false (by omega)
  have e3 : decide (σ.s.g.b - 5 ≤ seg) = false := decide_eq_false (by omega)
  have e4 : decide (row < 0) = false := decide_eq_false (by omega)
  have e5 : decide (σ.s.g.p ≤ row) = false := decide_eq_false (by omega)
  have HNW := As.mk hn
  have hn1 : n ≤ 100 := by omega
  have HORD := As.mk (fun (w' : World) (h : ArAt w' σ K) => Order_calls σ K σ.s.g.c w' h ⟨by omega, by omega⟩)
  unfold dev at *
  clear hR hC hS hl hs ha hok hn hth
  go_enter Tryz.func47, Tryz.ntmps47
  go_wp2_with fail
  ((with_reducible refine (HG.out _ (Fr.refl _ _)).mono ?_); rintro e w1 ⟨rfl, hf1⟩)
  have HF1 := As.mk hf1
  clear hf1
  have hgeo := heap_alloc_new w1 (.cells #[.int .i64 σ.s.g.c, .int .i64 σ.s.g.b, .int .i64 σ.s.g.p, .int .i64 σ.s.g.s] 24)
  have HGEO := As.mk hgeo
  clear hgeo
  go_wp2_with fail
  ((with_reducible refine (HW.out _).mono ?_); rintro e w2 ⟨rfl, hf2⟩)
  have HGE2 := As.mk (hf2.heap HGEO.out (fun h => h))
  have HF2 := As.mk ((HF1.out.alloc _).after hf2 (fun _ _ h => h))
  have c0 := cell_is (i := 0) HGE2.out rfl
  have c1 := cell_is (i := 1) HGE2.out rfl
  have c2 := cell_is (i := 2) HGE2.out rfl
  have c3 := cell_is (i := 3) HGE2.out rfl
  clear hf2
  go_wp2_with fail
  ((with_reducible refine (HV.out _).mono ?_); rintro e w3 ⟨rfl, hf3⟩)
  have HGE3 := As.mk (hf3.heap HGE2.out (fun h => h))
  have HF3 := As.mk (HF2.out.after hf3 (fun _ _ h => h))
  clear c0 c1 c2 c3 hf3
  have c2 := cell_is (i := 2) HGE3.out rfl
  go_wp2_with fail
  clear c2
  have hzg : w.heap.size ≤ w1.heap.size := HF1.out.size
  generalize hg9 : w1.heap.size = g9 at *
  clear hg9
  have HSL : As (∀ i : Nat, i < l.length → (sealedOf l).take (i + 1) = (sealedOf l).take i ++ [((l.getD i noPage).2, sealOf (l.getD i noPage).1 (l.getD i noPage).2 [])]) := ⟨fun i hi => by
    have hi2 : i < (sealedOf l).length := by simp [sealedOf]; exact hi
    rw [take_snoc ([], []) hi2]
    congr 2
    simp [sealedOf, List.getD_eq_getElem?_getD, List.getElem?_eq_getElem hi]⟩
  go_loopw [10, 12, 53] (fun v10 v12 v53 w' => ∃ i : Int, ∃ vs10 : List Value, v53 = .int .i64 i ∧ 0 ≤ i ∧ i ≤ (n : Int) ∧ As (RowV 157 2 w' w.heap.size v10 i.toNat vs10) ∧ As (PPO (AF K σ) w' vs10 ((sealedOf l).take i.toNat)) ∧ As (Fr None_ w w' ∧ w'.heap[g9]? = some (.cells #[.int .i64 σ.s.g.c, .int .i64 σ.s.g.b, .int .i64 σ.s.g.p, .int .i64 σ.s.g.s] 24 (0, 0)))) (fun _ _ v53 _ => n - (intOf v53).toNat)
  case atStart => exact ⟨0, [], rfl, by omega, by omega, ⟨RowV.nil _ _ _ _⟩, ⟨PPO.nil _ _⟩, ⟨HF3.out, HGE3.out⟩⟩
  case round =>
    obtain ⟨i, vs10, rfl, hi0, hi, HX, HPP, HF⟩ := hrel
    obtain ⟨A1, cap1, e1, _, _, _⟩ := HX.out.rd
    subst e1
    by_cases hlt : i < (n : Int)
    · obtain ⟨ad, ax, D, nd, cd, rfl, hax, k0, k1, k2, k3, k4, k5, k6, k7, HD, HDS, HH⟩ := SPs.at_ (HC.out.none_ HF.out.1).1 (HS.out.none_ HF.out.1) i hi0 hlt
      have hil : i.toNat < l.length := by have := HLN.out; omega
      have HLI := As.mk (HL.out (l.getD i.toNat noPage) (by rw [List.getD_eq_getElem?_getD, List.getElem?_eq_getElem hil]; exact List.getElem_mem hil))
      have HTK := As.mk (HSL.out _ hil)
      have c3 := cell_is (i := 3) HF.out.2 rfl
      have hnd : ((nd : Int) != σ.s.g.s) = false := by have h1 := HD.out.2.1.1; have h2 := HLI.out.1; rw [bne_eq_false_iff_eq]; omega
      clear hil
      generalize l.getD i.toNat noPage = q at *
      have hl9 : g9 < wr.heap.size := World.block_lt_of_cell? wr ⟨g9, 3, none⟩ c3
      have HSE := As.mk (fun (w' : World) (hf : Fr None_ wr w') => sealed_calls q.1 D nd cd q.2 w' HH.out (HD.out.2.1.none_ hf) HLI.out.2 HD.out.1)
      unfold pcells at HSE
      go_wp2_with (first | (go_at_call 80; (with_reducible refine (HSE.out _ ?_).mono ?_); (focus repeat (first | exact Fr.refl _ _ | apply Fr.drew | apply Fr.drewN | apply Fr.alloc)); rintro e w4 ⟨v4, rfl, hrow4, hf4⟩; have HR4 := As.mk hrow4; have HF4 := As.mk (((Fr.refl None_ wr).alloc _).after hf4 (fun _ _ h => h)); clear hrow4 hf4; obtain ⟨A4, n4, c4, e4, _, _, _⟩ := HR4.out.rd; subst e4) | (at_builtin; (with_reducible refine appendV w.heap.size rfl _ _ 155 157 (.agg #[.slice none 0 0, .slice none 0 0]) 2 48 rfl Tryz.underlying155 infoPP rfl (by decide) (by decide) (.slice A1 i.toNat cap1) i.toNat vs10 #[.slice D nd cd, .slice A4 n4 c4] _ rfl rfl rfl rfl ?o0 (HX.out.none_ HF4.out) ?o2 ?o3 ?_); (case o0 => intro u hu; simp at hu; rcases hu with rfl | rfl <;> rfl); (case o2 => have := HF.out.1.size; have := HF4.out.size; omega); (case o3 => omega); intro v1 w5 hrow1 hfr1 hat1; have HR1 := As.mk hrow1; have HF5 := As.mk hfr1; clear hrow1 hfr1 hat1; obtain ⟨A5, c5, e5, _, _, _⟩ := HR1.out.rd; subst e5))
      have hn1 : (i + 1).toNat = i.toNat + 1 := by omega
      have hF4 : Fr None_ w w4 := HF.out.1.after HF4.out (fun _ _ h => h)
      have hX4 := HX.out.none_ HF4.out
      have hF5 : Fr None_ w w5 := RowV.grow hX4 hF4 HF5.out
      have hsd : SlO (AF K σ) w4 (.slice D nd cd) q.2 := HDS.out.none_ HF4.out
      have hso : SlO (AF K σ) w4 (.slice A4 n4 c4) (sealOf q.1 q.2 []) := SlO.of_row HLTF.out HR4.out (by have := HF.out.1.size; simp; omega)
      have hpp := ((HPP.out.none_ HF4.out).snoc hsd hso)
      refine ⟨⟨i + 1, vs10 ++ [.slice D nd cd, .slice A4 n4 c4], rfl, by omega, by omega, ⟨?_⟩, ⟨?_⟩, ⟨hF5, ?_⟩⟩, by simp [intOf]; omega⟩
      · rw [hn1]
        exact HR1.out
      · rw [hn1, HTK.out]
        refine hpp.fr HF5.out (fun b cs hb hb2 => ?_)
        exact Go.Proofs.YteofgpaceeibpaaGreat.Str.RowV.ne hX4 hb (by decide) hb2
      · exact HF5.out.heap (HF4.out.heap HF.out.2 (fun h => h)) (Go.Proofs.YteofgpaceeibpaaGreat.Str.RowV.ne hX4 (HF4.out.heap HF.out.2 (fun h => h)) (by decide))
    · have hin : i.toNat = n := by omega
      rw [hin] at HX HPP ⊢
      have hn0 : 0 < n := by have := HNW.out; omega
      have HPA : As (PPO (AF K σ) wr vs10 (sealedOf l)) := ⟨by
        have h := HPP.out
        rw [List.take_of_length_le (by simp [sealedOf]; have := HLN.out; omega)] at h
        exact h⟩
      clear HSL HPP hin
      obtain ⟨ad, ax, D, nd, cd, hA, hax, k0, k1, k2, _, _, _, _, _, _, _, hh0⟩ := SPs.at_ (HC.out.none_ HF.out.1).1 (HS.out.none_ HF.out.1) 0 (Int.le_refl _) (by omega)
      subst hA
      have hax0 : ad = ax := by rw [← hax]; rfl
      subst hax0
      change wr.cell? ⟨ad.block, ad.off + 1, none⟩ = some (.int .u32 (parHead l seg row).epoch) at k1
      change wr.cell? ⟨ad.block, ad.off + 2, none⟩ = some (.int .u32 (parHead l seg row).batch) at k2
      have HPO : As ((parHead l seg row).Ok) := ⟨⟨by show (0 : Int) ≤ 5 ∧ (5 : Int) < 256; decide, hh0.out.epoch, hh0.out.batch, by show 0 ≤ row ∧ row < 65536; omega, by show 0 ≤ seg ∧ seg < 65536; omega, by show (0 : Int) ≤ 0 ∧ (0 : Int) < 4294967296; decide, by show (0 : Int) ≤ 0 ∧ (0 : Int) < 4294967296; decide⟩⟩
      clear k0 hax hh0
      have HPH : As (parHead l seg row = ⟨5, (parHead l seg row).epoch, (parHead l seg row).batch, row, seg, 0, 0⟩) := ⟨rfl⟩
      have HPG : As (parPage σ.s.g l seg row = parOf σ.s.g.s.toNat (parHead l seg row) (sealedOf l)) := ⟨rfl⟩
      have hr1 := HX.out.rd
      have HPC := As.mk (fun (w' : World) (hf : Fr None_ wr w') => Of_calls σ.s.g.s.toNat (parHead l seg row) (sealedOf l) vs10 A1 n cap1 w' HPO.out (by
        obtain ⟨A', c', e, _, h3, _⟩ := hr1
        injection e with e1 e2 e3
        subst e1
        exact h3.out.none_ hf) (HPA.out.1.none_ hf) (fun q hq => by
          obtain ⟨q', hq', rfl⟩ := List.mem_map.1 hq
          have h1 := HL.out q' hq'
          exact ⟨by show q'.2.length = _; omega, sealOf_len _ _ _, h1.2, seal_range (fun x hx => by cases hx)⟩) hn0 (by omega) (by omega))
      unfold Head.vals at HPC
      rw [HPH.out] at HPC
      dsimp only at HPC
      generalize (parHead l seg row).epoch = ep at *
      generalize (parHead l seg row).batch = ba at *
      clear hr1
      have hwr : IntKind.u16.wrap row = row := by rw [IntKind.wrap_u16]; omega
      have hws : IntKind.u16.wrap seg = seg := by rw [IntKind.wrap_u16]; omega
      have hl9 : g9 < wr.heap.size := (Array.getElem?_eq_some_iff.1 HF.out.2).1
      go_upto_region 14 with fail
      go_region_held3 (fun w' => w'.cell? ⟨ad.block, ad.off + 1, none⟩ = some (.int .u32 ep) ∧ w'.cell? ⟨ad.block, ad.off + 2, none⟩ = some (.int .u32 ba)) (go_keep) (fail)
      go_wp2_with fail
      rw [← HPH.out] at HPC
      ((with_reducible refine (HPC.out _ ?_).mono ?_); (focus repeat (first | exact Fr.refl _ _ | apply Fr.drew | apply Fr.drewN | apply Fr.alloc)); rintro e w6 ⟨u1, u2, rfl, hrow1, hrow2, hf6⟩)
      rw [← HPG.out] at hrow1 hrow2
      have HRW1 := As.mk hrow1
      have HRW2 := As.mk hrow2
      have HF6 := As.mk ((((Fr.refl None_ wr).alloc _).drew).after hf6 (fun _ _ h => h))
      clear hrow1 hrow2 hf6
      obtain ⟨U1, n1, c1, e1', _, _, _⟩ := HRW1.out.rd
      obtain ⟨U2, n2, c2, e2', _, _, _⟩ := HRW2.out.rd
      subst e1' e2'
      have HGE6 := As.mk (HF6.out.heap HF.out.2 (fun h => h))
      have c0 := cell_is (i := 0) HGE6.out rfl
      have hl96 : g9 < w6.heap.size := (Array.getElem?_eq_some_iff.1 HGE6.out).1
      clear k1 k2 hl9
      have HR6 := As.mk ((HR.out.none_ HF.out.1).none_ HF6.out)
      go_wp2_with fail
      ((with_reducible refine (HORD.out _ ?k5).mono ?_); (case k5 => exact HR6.out.none_ ((Fr.refl None_ w6).alloc _)); rintro e w7 ⟨vo, rfl, hrowo, hf7⟩)
      have HF7 := As.mk (((HF.out.1.after HF6.out (fun _ _ h => h)).alloc _).after hf7 (fun _ _ h => h))
      have HZ6 : As (w.heap.size ≤ w6.heap.size) := ⟨(HF.out.1.after HF6.out (fun _ _ h => h)).size⟩
      have HGL := As.mk (hf7.heap (heap_alloc_new w6 (.cells #[.slice U1 n1 c1, .slice U2 n2 c2] 157)) (fun h => h))
      have HGE7 := As.mk (hf7.heap (at_old (.cells #[.slice U1 n1 c1, .slice U2 n2 c2] 157) HGE6.out) (fun h => h))
      have HR7 := As.mk (HR.out.none_ HF7.out)
      have HF67 := As.mk (((Fr.refl None_ w6).alloc (.cells #[.slice U1 n1 c1, .slice U2 n2 c2] 157)).after hf7 (fun _ _ h => h))
      have HU1 : As (SlO (AF K σ) w7 (.slice U1 n1 c1) (parPage σ.s.g l seg row).1) := ⟨SlO.of_row HLTF.out ((HRW1.out.none_ HF67.out)) (by have := HF.out.1.size; simp; omega)⟩
      have HU2 : As (SlO (AF K σ) w7 (.slice U2 n2 c2) (parPage σ.s.g l seg row).2) := ⟨SlO.of_row HLTF.out ((HRW2.out.none_ HF67.out)) (by have := HF.out.1.size; simp; omega)⟩
      have hn64 : n2 = 64 := by
        obtain ⟨A', n', c', e, _, h2⟩ := HU2.out.rdO
        injection e with e1 e2 e3
        rw [e2, ← h2.out.1.1]
        exact sealOf_len _ _ _
      subst hn64
      have HLP : As (((parPage σ.s.g l seg row).1.length : Int) = σ.s.g.s ∧ InR 256 (parPage σ.s.g l seg row).1 ∧ InR 256 (parPage σ.s.g l seg row).2) := ⟨by
        have hx : (parPage σ.s.g l seg row).1.length = σ.s.g.s.toNat := xorAll_len _ _ _ (by simp) (fun x hx => by
          obtain ⟨q, hq, rfl⟩ := List.mem_map.1 hx
          obtain ⟨q', hq', rfl⟩ := List.mem_map.1 hq
          have h1 := (HL.out q' hq').1
          show q'.2.length = _
          omega)
        exact ⟨by rw [hx]; omega, Go.Proofs.YteofgpaceeibpaaGreat.Str.xor_range _ _, seal_range (Go.Proofs.YteofgpaceeibpaaGreat.Str.xor_range _ _)⟩⟩
      have HA7 : As (RdCO (AF K σ) w7 A1 (n * 2) vs10) := ⟨RdCO.of_rowV (c := cap1) HLTF.out ((HX.out.none_ HF6.out).none_ HF67.out) (Nat.le_refl _)⟩
      have HP7 : As (PPO (AF K σ) w7 vs10 (sealedOf l)) := ⟨(HPA.out.none_ HF6.out).none_ HF67.out⟩
      have HOG : As (¬ AF K σ g9 ∧ ¬ AF K σ w6.heap.size) := ⟨fun h => absurd (HLTF.out _ h) (by omega), fun h => absurd (HLTF.out _ h) (by have := HZ6.out; omega)⟩
      have HZA : As (w.heap.size ≤ (w6.alloc (.cells #[.slice U1 n1 c1, .slice U2 64 c2] 157)).heap.size) := ⟨by have := HZ6.out; simp; omega⟩
      obtain ⟨Ao, no, co, eo, hmo, hdo, hao⟩ := hrowo.rd
      have HRO : As (Rd .i64 w7 Ao no (orderOf σ.ahead σ.s.g.c) ∧ ∀ ad, Ao = some ad → 0 < no → ¬ AF K σ ad.block) := ⟨hdo.out, fun ad' e _ h => absurd (HLTF.out _ h) (by have h1 := HZA.out; have h2 := (hrowo.blk _ (hao.out ad' e)).1; omega)⟩
      have HNO := As.mk hdo.out.1
      have HMO := As.mk (orderOf_len σ.ahead σ.s.g.c)
      have hno : no ≤ 17 := by have h1 := HNO.out; have h2 := HMO.out; omega
      have HPGE : As (∀ m, (pageOf σ.s.g l seg row m) = if σ.s.g.isData seg row m = true then (sealedOf l).getD (σ.s.g.slot seg row m).toNat ([], []) else parPage σ.s.g l seg row) := ⟨fun _ => rfl⟩
      have HMEM := As.mk (fun m hm => orderOf_mem (first := σ.ahead) (c := σ.s.g.c) (by omega) m hm)
      subst eo
      generalize hord : orderOf σ.ahead σ.s.g.c = ms at *
      have HOR := As.mk hord
      clear hf7 hrowo hord hdo
      generalize hgl : w6.heap.size = gl at *
      clear hgl HRW1 HRW2
      clear HF67 HF6
      go_wp2_with fail
      clear c0 hl96
      go_loopw [15, 17, 18, 19, 20, 21, 92] (fun v15 v17 v18 v19 v20 v21 v92 w' => ∃ i : Int, v92 = .int .i64 i ∧ 0 ≤ i ∧ i ≤ (no : Int) ∧ (∃ (k : Int) (τ : Ar), v15 = .int .i64 k ∧ As (σ.progs seg row (fun m => pageOf σ.s.g l seg row m) (ms.take i.toNat) = (τ, k, 0)) ∧ 0 ≤ k ∧ k ≤ i ∧ As (ArAt w' τ K ∧ τ.There ∧ τ.s.g = σ.s.g ∧ τ.s.Safe (m0 + (18 - i.toNat)))) ∧ As (Fr (AF K σ) w7 w')) (fun _ _ _ _ _ _ v92 _ => no - (intOf v92).toNat)
      case atStart => exact ⟨0, rfl, by omega, by omega, ⟨0, σ, rfl, ⟨rfl⟩, Int.le_refl _, Int.le_refl _, ⟨HR7.out, HTH.out, rfl, HSF.out⟩⟩, ⟨Fr.refl _ _⟩⟩
      case round =>
        obtain ⟨i, rfl, hi0, hi, ⟨k, τ, rfl, HK, hk0, hk1, HX2⟩, HST⟩ := hrel
        by_cases hlt : i < (no : Int)
        · obtain ⟨ado, eo, hco⟩ := (HRO.out.1.fr HST.out HRO.out.2).at_ i hi0 hlt
          subst eo
          have hil : i.toNat < ms.length := by have := HNO.out; omega
          have HTK : As (ms.take (i + 1).toNat = ms.take i.toNat ++ [ms.getD i.toNat 0]) := ⟨by rw [show (i + 1).toNat = i.toNat + 1 by omega]; exact take_snoc 0 hil⟩
          have hm := HMEM.out (ms.getD i.toNat 0) (by rw [List.getD_eq_getElem?_getD, List.getElem?_eq_getElem hil]; exact List.getElem_mem hil)
          generalize ms.getD i.toNat 0 = m at *
          obtain ⟨hm0, hm1⟩ := hm
          clear hil
          have hi18 : i.toNat < 18 := by omega
          have HGLr := As.mk (HST.out.heap HGL.out HOG.out.2)
          have HGEr := As.mk (HST.out.heap HGE7.out HOG.out.1)
          have u0 := cell_is (i := 0) HGLr.out rfl
          have u1 := cell_is (i := 1) HGLr.out rfl
          have g0 := cell_is (i := 0) HGEr.out rfl
          have g1 := cell_is (i := 1) HGEr.out rfl
          have g2 := cell_is (i := 2) HGEr.out rfl
          have g3 := cell_is (i := 3) HGEr.out rfl
          have lgl : gl < wr.heap.size := (Array.getElem?_eq_some_iff.1 HGLr.out).1
          have lge : g9 < wr.heap.size := (Array.getElem?_eq_some_iff.1 HGEr.out).1
          have HPM := As.mk (HPGE.out m)
          have HPS := As.mk (HPX.out m ⟨hm0, hm1⟩)
          have HSFI := As.mk (show τ.s.Safe (m0 + (18 - (i.toNat + 1)) + 1) from by rw [show m0 + (18 - (i.toNat + 1)) + 1 = m0 + (18 - i.toNat) by omega]; exact HX2.out.2.2.2)
          obtain ⟨r, hr⟩ : ∃ r, τ.prog m.toNat seg.toNat row.toNat (pageOf σ.s.g l seg row m).1 (pageOf σ.s.g l seg row m).2 = r := ⟨_, rfl⟩
          have HR0 := As.mk hr
          have HN := As.mk (show σ.progs seg row (fun m => pageOf σ.s.g l seg row m) (ms.take (i + 1).toNat) = pstep seg row (fun m => pageOf σ.s.g l seg row m) (τ, k, 0) m from by rw [HTK.out, progs_snoc, HK.out])
          have HN0 := As.mk (show r.2 = 0 → σ.progs seg row (fun m => pageOf σ.s.g l seg row m) (ms.take (i + 1).toNat) = (r.1, k, 0) from fun h => by
            rw [HN.out]
            unfold pstep
            dsimp only
            rw [hr, if_pos rfl, if_pos h])
          have HN71 := As.mk (show r.2 = 71 → σ.progs seg row (fun m => pageOf σ.s.g l seg row m) (ms.take (i + 1).toNat) = (r.1, k + 1, 0) from fun h => by
            rw [HN.out]
            unfold pstep
            dsimp only
            rw [hr, if_pos rfl, if_neg (by rw [h]; decide), if_pos h])
          have HNX := As.mk (show r.2 ≠ 0 → r.2 ≠ 71 → ∀ (e : Ending) (w' : World), e = .returned (.int .i64 r.2) → ArAt w' r.1 K → Fr (AF K σ) w7 w' → WrPost σ K (σ.progs seg row (fun m => pageOf σ.s.g l seg row m) (orderOf σ.ahead σ.s.g.c)) w e w' from fun h1 h2 e w' k1 k2 k3 => by
            have h3 : σ.progs seg row (fun m => pageOf σ.s.g l seg row m) (ms.take (i + 1).toNat) = (r.1, k, r.2) := by
              rw [HN.out]
              unfold pstep
              dsimp only
              rw [hr, if_pos rfl, if_neg h1, if_neg h2]
            have h4 : σ.progs seg row (fun m => pageOf σ.s.g l seg row m) (orderOf σ.ahead σ.s.g.c) = (r.1, k, r.2) := by
              rw [HOR.out, progs_stuck σ seg row _ ms (i + 1).toNat (by rw [h3]; exact h1), h3]
            rw [h4]
            refine ⟨?_, k2, (HF7.out.mono (T := AF K σ) (fun _ _ h => h.elim)).after k3 (fun _ _ h => h)⟩
            rw [k1]
            unfold wcode
            dsimp only
            rw [if_pos h1])
          have HRK := As.mk (show r.1.There ∧ r.1.s.g = σ.s.g ∧ r.1.s.Safe (m0 + (18 - (i + 1).toNat)) from by
            have hk := prog_keeps (σ := τ) (by rw [HX2.out.2.2.1]; exact HOK.out) HX2.out.1.ok.set m.toNat seg.toNat row.toNat (pageOf σ.s.g l seg row m).1 (pageOf σ.s.g l seg row m).2 (by rw [HX2.out.2.2.1]; omega)
            rw [hr] at hk
            refine ⟨hk.2.1 HX2.out.2.1, hk.1.trans HX2.out.2.2.1, ?_⟩
            rw [show (i + 1).toNat = i.toNat + 1 by omega]
            exact hk.2.2 _ HSFI.out)
          clear hr HN
          by_cases hd : σ.s.g.isData seg row m = true
          · rw [hd] at HPS HPM
            have hsr := slot_range HOK.out hm0 hm1 hd
            have HPM2 : As (pageOf σ.s.g l seg row m = (sealedOf l).getD (σ.s.g.slot seg row m).toNat ([], [])) := ⟨by rw [HPM.out]; rfl⟩
            clear hd HPM
            generalize σ.s.g.slot seg row m = sl at *
            obtain ⟨hs0, hs1⟩ := hsr
            have hsn : sl < (n : Int) := by have := HNW.out; omega
            obtain ⟨ad1, ax, D, nd, cd, O, no', co', eA1, hax, a1, a2, HD, HO⟩ := PPO.at_ (HA7.out.step HST.out).1 (HP7.out.step HST.out) sl hs0 hsn
            have hsl : sl.toNat < l.length := by have := HLN.out; omega
            have HQ := As.mk (sealed_get hsl)
            have HQL := As.mk (HL.out (l.getD sl.toNat noPage) (by rw [List.getD_eq_getElem?_getD, List.getElem?_eq_getElem hsl]; exact List.getElem_mem hsl))
            rw [HQ.out] at HD HO HPM2
            have hno64 : no' = 64 := by
              obtain ⟨A', n', c', e, _, h2⟩ := HO.out.rdO
              injection e with e1 e2 e3
              rw [e2, ← h2.out.1.1]
              exact sealOf_len _ _ _
            subst hno64
            subst eA1
            clear hsl
            have HPA1 := As.mk (show ∀ (e : Int), r.2 = e → ∀ (w8 : World), Fr None_ wr w8 → Calls Tryz.prog 141 #[.pointer (some ⟨K.x, 0, none⟩), .int .i64 m, .int .i64 seg, .int .i64 row, .slice D nd cd, .slice O 64 co'] w8 (fun x w' => x = .returned (.int .i64 e) ∧ ArAt w' r.1 K ∧ Fr (AF K σ) w8 w') from fun e he w8 hf => by
              have h1 := Prog_any σ τ K seg row m D O nd cd co' _ _ w8 (HX2.out.1.none_ hf) HX2.out.2.1 HX2.out.2.2.1 HAT.out hm0 hm1 (HD.out.none_ hf) (HO.out.none_ hf) HQL.out.1 HQL.out.2 (seal_range (fun x hx => by cases hx)) _ HSFI.out
              have h2 := HR0.out
              rw [HPM2.out] at h2
              dsimp only at h1 h2
              rw [h2] at h1
              unfold PrPost at h1
              rw [he] at h1
              exact h1)
            by_cases h0 : r.2 = 0
            · have HPE := As.mk (HPA1.out 0 h0)
              have HKG := As.mk (HN0.out h0)
              clear h0
              go_wp2_with (first | (go_at_call 83; (with_reducible refine (HPS.out _).mono ?_); rintro e w8 ⟨rfl, hf8⟩; have hgx := hf8.heap (heap_alloc_new wr _) (fun h => h); have x0 := cell_is (i := 0) hgx rfl; have x1 := cell_is (i := 1) hgx rfl; have y0 := free_of (i := 0) hgx; have y1 := free_of (i := 1) hgx; have HF8 := As.mk (((Fr.refl None_ wr).alloc _).after hf8 (fun _ _ h => h)); have HF9 := As.mk ((HF8.out.setCell (p := ⟨wr.heap.size, 0, none⟩) (fun h => absurd h (Nat.lt_irrefl _)) (.slice D nd cd)).setCell (p := ⟨wr.heap.size, 1, none⟩) (fun h => absurd h (Nat.lt_irrefl _)) (.slice O 64 co')); have b1 := HF8.out.cell a1 (fun h => h); have b2 := HF8.out.cell a2 (fun h => h); clear hgx hf8) | (go_at_call 141; (with_reducible refine (HPE.out _ HF9.out).mono ?_); rintro e w9 ⟨rfl, hR9, hf9⟩; have HR9 := As.mk hR9; have HF10 := As.mk ((HST.out.after HF9.out (fun _ _ h => h.elim)).after hf9 (fun _ _ h => h)); clear hR9 hf9))
              exact ⟨⟨i + 1, rfl, by omega, by omega, ⟨k, r.1, rfl, HKG, hk0, by omega, ⟨HR9.out, HRK.out⟩⟩, HF10⟩, by simp [intOf]; omega⟩
            · by_cases h71 : r.2 = 71
              · have HPE := As.mk (HPA1.out 71 h71)
                have HKG := As.mk (HN71.out h71)
                clear h0 h71
                go_wp2_with (first | (go_at_call 83; (with_reducible refine (HPS.out _).mono ?_); rintro e w8 ⟨rfl, hf8⟩; have hgx := hf8.heap (heap_alloc_new wr _) (fun h => h); have x0 := cell_is (i := 0) hgx rfl; have x1 := cell_is (i := 1) hgx rfl; have y0 := free_of (i := 0) hgx; have y1 := free_of (i := 1) hgx; have HF8 := As.mk (((Fr.refl None_ wr).alloc _).after hf8 (fun _ _ h => h)); have HF9 := As.mk ((HF8.out.setCell (p := ⟨wr.heap.size, 0, none⟩) (fun h => absurd h (Nat.lt_irrefl _)) (.slice D nd cd)).setCell (p := ⟨wr.heap.size, 1, none⟩) (fun h => absurd h (Nat.lt_irrefl _)) (.slice O 64 co')); have b1 := HF8.out.cell a1 (fun h => h); have b2 := HF8.out.cell a2 (fun h => h); clear hgx hf8) | (go_at_call 141; (with_reducible refine (HPE.out _ HF9.out).mono ?_); rintro e w9 ⟨rfl, hR9, hf9⟩; have HR9 := As.mk hR9; have HF10 := As.mk ((HST.out.after HF9.out (fun _ _ h => h.elim)).after hf9 (fun _ _ h => h)); clear hR9 hf9))
                exact ⟨⟨i + 1, rfl, by omega, by omega, ⟨k + 1, r.1, rfl, HKG, by omega, by omega, ⟨HR9.out, HRK.out⟩⟩, HF10⟩, by simp [intOf]; omega⟩
              · have HPE := As.mk (HPA1.out r.2 rfl)
                have HBE := As.mk (HNX.out h0 h71)
                have d0 : (r.2 == 0) = false := beq_eq_false_iff_ne.2 h0
                have d71 : (r.2 == 71) = false := beq_eq_false_iff_ne.2 h71
                generalize r.2 = ev at *
                clear h0 h71
                go_wp2_with (first | (go_at_call 83; (with_reducible refine (HPS.out _).mono ?_); rintro e w8 ⟨rfl, hf8⟩; have hgx := hf8.heap (heap_alloc_new wr _) (fun h => h); have x0 := cell_is (i := 0) hgx rfl; have x1 := cell_is (i := 1) hgx rfl; have y0 := free_of (i := 0) hgx; have y1 := free_of (i := 1) hgx; have HF8 := As.mk (((Fr.refl None_ wr).alloc _).after hf8 (fun _ _ h => h)); have HF9 := As.mk ((HF8.out.setCell (p := ⟨wr.heap.size, 0, none⟩) (fun h => absurd h (Nat.lt_irrefl _)) (.slice D nd cd)).setCell (p := ⟨wr.heap.size, 1, none⟩) (fun h => absurd h (Nat.lt_irrefl _)) (.slice O 64 co')); have b1 := HF8.out.cell a1 (fun h => h); have b2 := HF8.out.cell a2 (fun h => h); clear hgx hf8) | (go_at_call 141; (with_reducible refine (HPE.out _ HF9.out).mono ?_); rintro e w9 ⟨rfl, hR9, hf9⟩; have HR9 := As.mk hR9; have HF10 := As.mk ((HST.out.after HF9.out (fun _ _ h => h.elim)).after hf9 (fun _ _ h => h)); clear hR9 hf9))
                go_ret
                exact HBE.out _ _ rfl HR9.out HF10.out
          · have hdf : σ.s.g.isData seg row m = false := by simpa using hd
            rw [hdf] at HPS HPM
            have HPM2 : As (pageOf σ.s.g l seg row m = parPage σ.s.g l seg row) := ⟨by rw [HPM.out]; rfl⟩
            clear hd hdf HPM
            have HPA1 := As.mk (show ∀ (e : Int), r.2 = e → ∀ (w8 : World), Fr None_ wr w8 → Calls Tryz.prog 141 #[.pointer (some ⟨K.x, 0, none⟩), .int .i64 m, .int .i64 seg, .int .i64 row, .slice U1 n1 c1, .slice U2 64 c2] w8 (fun x w' => x = .returned (.int .i64 e) ∧ ArAt w' r.1 K ∧ Fr (AF K σ) w8 w') from fun e he w8 hf => by
              have h1 := Prog_any σ τ K seg row m U1 U2 n1 c1 c2 _ _ w8 (HX2.out.1.none_ hf) HX2.out.2.1 HX2.out.2.2.1 HAT.out hm0 hm1 ((HU1.out.step HST.out).none_ hf) ((HU2.out.step HST.out).none_ hf) HLP.out.1 HLP.out.2.1 HLP.out.2.2 _ HSFI.out
              have h2 := HR0.out
              rw [HPM2.out] at h2
              rw [h2] at h1
              unfold PrPost at h1
              rw [he] at h1
              exact h1)
            by_cases h0 : r.2 = 0
            · have HPE := As.mk (HPA1.out 0 h0)
              have HKG := As.mk (HN0.out h0)
              clear h0
              go_wp2_with (first | (go_at_call 83; (with_reducible refine (HPS.out _).mono ?_); rintro e w8 ⟨rfl, hf8⟩; have hgx := hf8.heap (heap_alloc_new wr _) (fun h => h); have x0 := cell_is (i := 0) hgx rfl; have x1 := cell_is (i := 1) hgx rfl; have HF9 := As.mk (((Fr.refl None_ wr).alloc _).after hf8 (fun _ _ h => h)); clear hgx hf8) | (go_at_call 141; (with_reducible refine (HPE.out _ HF9.out).mono ?_); rintro e w9 ⟨rfl, hR9, hf9⟩; have HR9 := As.mk hR9; have HF10 := As.mk ((HST.out.after HF9.out (fun _ _ h => h.elim)).after hf9 (fun _ _ h => h)); clear hR9 hf9))
              exact ⟨⟨i + 1, rfl, by omega, by omega, ⟨k, r.1, rfl, HKG, hk0, by omega, ⟨HR9.out, HRK.out⟩⟩, HF10⟩, by simp [intOf]; omega⟩
            · by_cases h71 : r.2 = 71
              · have HPE := As.mk (HPA1.out 71 h71)
                have HKG := As.mk (HN71.out h71)
                clear h0 h71
                go_wp2_with (first | (go_at_call 83; (with_reducible refine (HPS.out _).mono ?_); rintro e w8 ⟨rfl, hf8⟩; have hgx := hf8.heap (heap_alloc_new wr _) (fun h => h); have x0 := cell_is (i := 0) hgx rfl; have x1 := cell_is (i := 1) hgx rfl; have HF9 := As.mk (((Fr.refl None_ wr).alloc _).after hf8 (fun _ _ h => h)); clear hgx hf8) | (go_at_call 141; (with_reducible refine (HPE.out _ HF9.out).mono ?_); rintro e w9 ⟨rfl, hR9, hf9⟩; have HR9 := As.mk hR9; have HF10 := As.mk ((HST.out.after HF9.out (fun _ _ h => h.elim)).after hf9 (fun _ _ h => h)); clear hR9 hf9))
                exact ⟨⟨i + 1, rfl, by omega, by omega, ⟨k + 1, r.1, rfl, HKG, by omega, by omega, ⟨HR9.out, HRK.out⟩⟩, HF10⟩, by simp [intOf]; omega⟩
              · have HPE := As.mk (HPA1.out r.2 rfl)
                have HBE := As.mk (HNX.out h0 h71)
                have d0 : (r.2 == 0) = false := beq_eq_false_iff_ne.2 h0
                have d71 : (r.2 == 71) = false := beq_eq_false_iff_ne.2 h71
                generalize r.2 = ev at *
                clear h0 h71
                go_wp2_with (first | (go_at_call 83; (with_reducible refine (HPS.out _).mono ?_); rintro e w8 ⟨rfl, hf8⟩; have hgx := hf8.heap (heap_alloc_new wr _) (fun h => h); have x0 := cell_is (i := 0) hgx rfl; have x1 := cell_is (i := 1) hgx rfl; have HF9 := As.mk (((Fr.refl None_ wr).alloc _).after hf8 (fun _ _ h => h)); clear hgx hf8) | (go_at_call 141; (with_reducible refine (HPE.out _ HF9.out).mono ?_); rintro e w9 ⟨rfl, hR9, hf9⟩; have HR9 := As.mk hR9; have HF10 := As.mk ((HST.out.after HF9.out (fun _ _ h => h.elim)).after hf9 (fun _ _ h => h)); clear hR9 hf9))
                go_ret
                exact HBE.out _ _ rfl HR9.out HF10.out
        · have hte : ms.take i.toNat = ms := List.take_of_length_le (by have := HNO.out; omega)
          have HPost := As.mk (show ∀ (e : Ending) (w' : World) (c : Int), wcode (τ, k, 0) = c → e = .returned (.int .i64 c) → ArAt w' τ K → Fr (AF K σ) w7 w' → WrPost σ K (σ.progs seg row (fun m => pageOf σ.s.g l seg row m) (orderOf σ.ahead σ.s.g.c)) w e w' from fun e w' c h0 k1 k2 k3 => by
            have h4 : σ.progs seg row (fun m => pageOf σ.s.g l seg row m) (orderOf σ.ahead σ.s.g.c) = (τ, k, 0) := by
              rw [HOR.out, ← hte, HK.out]
            rw [h4]
            exact ⟨by rw [k1, h0], k2, (HF7.out.mono (T := AF K σ) (fun _ _ h => h.elim)).after k3 (fun _ _ h => h)⟩)
          clear hte
          by_cases hk1 : 1 < k
          · have HEE : As (wcode (τ, k, 0) = 74) := ⟨by unfold wcode; rw [if_neg (fun h => h rfl), if_pos hk1]⟩
            go_wp2
            go_ret
            exact HPost.out _ _ _ HEE.out rfl HX2.out.1 HST.out
          · have HEE : As (wcode (τ, k, 0) = 0) := ⟨by unfold wcode; rw [if_neg (fun h => h rfl), if_neg hk1]⟩
            go_wp2
            go_ret
            exact HPost.out _ _ _ HEE.out rfl HX2.out.1 HST.out
end Go.Proofs.YteofgpaceeibpaaGreat.AWrC
namespace Go.Proofs.YteofgpaceeibpaaGreat.AOrdB
open Go.RowKit Go.Proofs.YteofgpaceeibpaaGreat.Gab Go.Proofs.YteofgpaceeibpaaGreat.Wr Go.Proofs.YteofgpaceeibpaaGreat.Geom Go.Proofs.YteofgpaceeibpaaGreat.Ref Go.Proofs.YteofgpaceeibpaaGreat.Nand Go.Proofs.YteofgpaceeibpaaGreat.NandA Go.Proofs.YteofgpaceeibpaaGreat.ArrA Go.Proofs.YteofgpaceeibpaaGreat.AOrd
open Go.Proofs.YteofgpaceeibpaaGreat.Rdz (infoIn)
set_option linter.unusedVariables false
set_option linter.unusedSimpArgs false

def upFrom (lo : Int) (k : Nat) : List Int := (List.range k).map fun (j : Nat) => lo + (j : Int)
theorem upFrom_succ (lo : Int) (k : Nat) : upFrom lo (k + 1) = upFrom lo k ++ [lo + (k : Int)] := by simp [upFrom, List.range_succ]
def preAt (first lo c : Int) : List Int := if lo ≤ first ∧ first < lo + c then [first] else []
/-- The order, from a member on: that which is ahead of all, if it is there; all others. -/
def orderAt (first lo c : Int) : List Int := preAt first lo c ++ (upFrom lo c.toNat).filter (fun m => decide (m ≠ first))

set_option maxHeartbeats 2000000 in
set_option maxRecDepth 100000 in
theorem OrderAt_calls (σ : Ar) (K : ALay) (lo c : Int) (w : World) (h : ArAt w σ K) (hc : 0 ≤ c ∧ c ≤ 100) (hlo : 0 ≤ lo ∧ lo ≤ 100) :
    Calls Tryz.prog 82 #[dev K.x, .int .i64 lo, .int .i64 c] w fun e w' => ∃ v, e = .returned v ∧ Row 3 .i64 w' w.heap.size v (orderAt σ.ahead lo c) ∧ Fr None_ w w' := by
  have HA := As.mk (fun w' (hf : Fr None_ w w') => Ahead_calls σ K w' (h.none_ hf))
  have HPR : As (preAt σ.ahead lo c = if lo ≤ σ.ahead ∧ σ.ahead < lo + c then [σ.ahead] else []) := ⟨rfl⟩
  have HO : As (orderAt σ.ahead lo c = preAt σ.ahead lo c ++ (upFrom lo c.toNat).filter (fun m => decide (m ≠ σ.ahead))) := ⟨rfl⟩
  generalize preAt σ.ahead lo c = pr at *
  generalize orderAt σ.ahead lo c = res at *
  generalize σ.ahead = first at *
  obtain ⟨hc0, hc1⟩ := hc
  obtain ⟨hlo0, hlo1⟩ := hlo
  have hwl : IntKind.i64.wrap (lo + c) = lo + c := by rw [IntKind.wrap_i64]; omega
  have hta := fun w => run_typeAssert_hasB (P := Tryz.prog) (t := 30) Tryz.underlying206 (by kernel_rfl) (.pointer (some ⟨K.x, 0, none⟩)) 105 w
  unfold dev
  clear h
  have HCASE : As (∃ a b : Bool, decide (lo ≤ first) = a ∧ decide (first < lo + c) = b ∧ pr = if a && b then [first] else []) := ⟨decide (lo ≤ first), decide (first < lo + c), rfl, rfl, by rw [HPR.out]; by_cases h1 : lo ≤ first <;> by_cases h2 : first < lo + c <;> simp [h1, h2]⟩
  obtain ⟨a, b, ha, hb, hpr⟩ := HCASE.out
  have HP2 := As.mk hpr
  clear hpr
  cases a <;> cases b
  all_goals
    go_enter Tryz.func82, Tryz.ntmps82
    go_upto_if 29 with ((with_reducible refine (HA.out _ (Fr.refl _ _)).mono ?_); rintro e w1 ⟨rfl, hf1⟩; have HF1 := As.mk hf1; clear hf1)
    go_cut [7] (fun v7 wc => As (Row 3 .i64 wc w.heap.size v7 pr) ∧ As (Fr None_ w wc))
    case first =>
      first
        | (have HP3 : As (pr = [first]) := ⟨by rw [HP2.out]; rfl⟩
           go_wp2_with (at_builtin; (with_reducible refine append1 w.heap.size rfl _ _ 38 3 .i64 8 rfl Tryz.underlying38 infoIn (by decide) (.slice none 0 0) [] _ rfl rfl (Row.nil _ _ _ _) HF1.out.size (by decide) ?_); intro v1 w2 hrow1 hfr1 hat1; have HR1 := As.mk hrow1; have HF2 := As.mk hfr1; clear hrow1 hfr1 hat1; obtain ⟨A1, n1, c1, e1, _⟩ := HR1.out.rd; subst e1)
           go_meet
           case rel => exact ⟨⟨by rw [HP3.out]; exact HR1.out⟩, ⟨HF1.out.after HF2.out (fun i _ h => by cases h)⟩⟩)
        | (have HP3 : As (pr = []) := ⟨by rw [HP2.out]; rfl⟩
           go_wp2
           go_meet
           case rel => exact ⟨⟨by rw [HP3.out]; exact Row.nil _ _ _ _⟩, HF1⟩)
    case rest =>
      obtain ⟨HR, HF⟩ := hcut
      have HPL : As (pr.length ≤ 1) := ⟨by rw [HP2.out]; simp⟩
      go_wp2
      go_loopw [7, 11] (fun v7 v11 w' => ∃ m : Int, v11 = .int .i64 m ∧ lo ≤ m ∧ m ≤ lo + c ∧ As (Row 3 .i64 w' w.heap.size v7 (pr ++ (upFrom lo (m - lo).toNat).filter (fun m => decide (m ≠ first)))) ∧ As (Fr None_ w w')) (fun _ v11 _ => (lo + c - intOf v11).toNat)
      case atStart => exact ⟨lo, rfl, by omega, by omega, ⟨by simpa [upFrom] using HR.out⟩, HF⟩
      case round =>
        obtain ⟨m, rfl, m0, m1, HX, HG⟩ := hrel
        obtain ⟨A1, n1, c1, e1, _, hd, _⟩ := HX.out.rd
        have HLN : As ((pr ++ (upFrom lo (m - lo).toNat).filter (fun m => decide (m ≠ first))).length ≤ 1 + (m - lo).toNat) := ⟨by
          rw [List.length_append]
          have h1 := List.length_filter_le (fun m => decide (m ≠ first)) (upFrom lo (m - lo).toNat)
          have h2 : (upFrom lo (m - lo).toNat).length = (m - lo).toNat := by simp [upFrom]
          have h3 := HPL.out
          omega⟩
        have HUP : As ((upFrom lo (m + 1 - lo).toNat).filter (fun m => decide (m ≠ first)) = (upFrom lo (m - lo).toNat).filter (fun m => decide (m ≠ first)) ++ if m = first then [] else [m]) := ⟨by
          rw [show (m + 1 - lo).toNat = (m - lo).toNat + 1 by omega, upFrom_succ, List.filter_append, show lo + (((m - lo).toNat : Nat) : Int) = m by omega]
          by_cases e : m = first <;> simp [e]⟩
        clear hd
        subst e1
        by_cases hlt : m < lo + c
        · by_cases e : m = first
          · have hbe : (m != first) = false := by simp [e]
            have HU2 : As ((upFrom lo (m + 1 - lo).toNat).filter (fun m => decide (m ≠ first)) = (upFrom lo (m - lo).toNat).filter (fun m => decide (m ≠ first))) := ⟨by rw [HUP.out, if_pos e, List.append_nil]⟩
            clear e
            go_wp2
            exact ⟨⟨m + 1, rfl, by omega, by omega, ⟨by rw [HU2.out]; exact HX.out⟩, HG⟩, by simp [intOf]; omega⟩
          · have hbe : (m != first) = true := by simp [e]
            have HU2 : As ((upFrom lo (m + 1 - lo).toNat).filter (fun m => decide (m ≠ first)) = (upFrom lo (m - lo).toNat).filter (fun m => decide (m ≠ first)) ++ [m]) := ⟨by rw [HUP.out, if_neg e]⟩
            clear e
            go_wp2_with (at_builtin; (with_reducible refine append1 w.heap.size rfl _ _ 38 3 .i64 8 rfl Tryz.underlying38 infoIn (by decide) (.slice A1 n1 c1) (pr ++ (upFrom lo (m - lo).toNat).filter (fun m => decide (m ≠ first))) _ rfl rfl HX.out HG.out.size ?k0 ?_); (case k0 => have := HLN.out; omega); intro v1 w2 hrow1 hfr1 hat1; have HR1 := As.mk hrow1; have HF2 := As.mk (row_grow HX.out HG.out hfr1); clear hrow1 hfr1 hat1)
            exact ⟨⟨m + 1, rfl, by omega, by omega, ⟨by rw [HU2.out, ← List.append_assoc]; exact HR1.out⟩, HF2⟩, by simp [intOf]; omega⟩
        · have HE : As (Row 3 .i64 wr w.heap.size (.slice A1 n1 c1) res) := ⟨by rw [HO.out, show c.toNat = (m - lo).toNat by omega]; exact HX.out⟩
          go_wp2
          go_ret
          exact ⟨_, rfl, HE.out, HG.out⟩
end Go.Proofs.YteofgpaceeibpaaGreat.AOrdB
namespace Go.Proofs.YteofgpaceeibpaaGreat.StgA
open Go.RowKit Go.Proofs.YteofgpaceeibpaaGreat.Gab Go.Proofs.YteofgpaceeibpaaGreat.Geom Go.Proofs.YteofgpaceeibpaaGreat.Ref Go.Proofs.YteofgpaceeibpaaGreat.Nand
open Go.Proofs.YteofgpaceeibpaaGreat.Heap (cell_is)
set_option linter.unusedVariables false
set_option linter.unusedSimpArgs false

/-- How many pairs of members there are. -/
def _root_.Go.Proofs.YteofgpaceeibpaaGreat.Geom.Geo.pairs (g : Geo) : Int := g.c / 2
theorem pairs_range {g : Geo} (h : g.Ok) : 1 ≤ g.pairs ∧ g.pairs ≤ 8 ∧ 2 * g.pairs ≤ g.c := by
  have := h.c
  unfold Geo.pairs
  omega
set_option maxHeartbeats 1000000 in
set_option maxRecDepth 100000 in
theorem Pairs_calls (g : Geo) (w : World) (h : g.Ok) : Calls Tryz.prog 84 #[g.val] w fun e w' => e = .returned (.int .i64 g.pairs) ∧ Fr None_ w w' := by
  unfold Geo.val
  have h1 := h.c
  have h2 := pairs_range h
  have htd : g.c.tdiv 2 = g.pairs := by rw [Int.tdiv_eq_ediv_of_nonneg (by omega)]; rfl
  have hwr : IntKind.i64.wrap g.pairs = g.pairs := by rw [IntKind.wrap_i64]; omega
  clear h
  go_enter Tryz.func84, Tryz.ntmps84
  go_wp2
  go_ret
  exact ⟨by first | rfl | simp [htd, hwr], (Fr.refl _ w).alloc _⟩
/-- How many pages can be staged. -/
def _root_.Go.Proofs.YteofgpaceeibpaaGreat.Geom.Geo.room (g : Geo) : Int := g.p * g.pairs
theorem room_range {g : Geo} (h : g.Ok) : 0 ≤ g.room ∧ g.room ≤ 8 * g.p := by
  have h1 := pairs_range h
  have h2 := h.p
  unfold Geo.room
  constructor
  · exact Int.mul_nonneg (by omega) (by omega)
  · have : g.p * g.pairs ≤ g.p * 8 := Int.mul_le_mul_of_nonneg_left (by omega) (by omega)
    omega
set_option maxHeartbeats 1000000 in
set_option maxRecDepth 100000 in
theorem Room_calls (g : Geo) (w : World) (h : g.Ok) : Calls Tryz.prog 48 #[g.val] w fun e w' => e = .returned (.int .i64 g.room) ∧ Fr None_ w w' := by
  have HP := As.mk (fun w => Pairs_calls g w h)
  unfold Geo.val at *
  have h1 := room_range h
  have h2 := h.p
  have hm : g.p * g.pairs = g.room := rfl
  have HB := As.mk (heap_alloc_new w (.cells #[.int .i64 g.c, .int .i64 g.b, .int .i64 g.p, .int .i64 g.s] 24))
  have HF := As.mk ((Fr.refl None_ w).alloc (.cells #[.int .i64 g.c, .int .i64 g.b, .int .i64 g.p, .int .i64 g.s] 24))
  have hwr : IntKind.i64.wrap g.room = g.room := by rw [IntKind.wrap_i64]; omega
  clear h
  go_enter Tryz.func48, Tryz.ntmps48
  go_upto_region 1 with fail
  generalize w.alloc (.cells #[.int .i64 g.c, .int .i64 g.b, .int .i64 g.p, .int .i64 g.s] 24) = w1 at *
  generalize w.heap.size = gb at *
  have z0 := cell_is (i := 0) HB.out rfl
  have z1 := cell_is (i := 1) HB.out rfl
  have z2 := cell_is (i := 2) HB.out rfl
  have z3 := cell_is (i := 3) HB.out rfl
  go_region_held3 (fun w' => w'.cell? ⟨gb, 0, none⟩ = some (.int .i64 g.c) ∧ w'.cell? ⟨gb, 1, none⟩ = some (.int .i64 g.b) ∧ w'.cell? ⟨gb, 2, none⟩ = some (.int .i64 g.p) ∧ w'.cell? ⟨gb, 3, none⟩ = some (.int .i64 g.s)) (first | go_keep | exact ⟨z0, z1, z2, z3⟩ | exact ⟨Fr.cell HF2.out z0 (fun h => h), Fr.cell HF2.out z1 (fun h => h), Fr.cell HF2.out z2 (fun h => h), Fr.cell HF2.out z3 (fun h => h)⟩) (first
    | (go_at_call 84; (with_reducible refine (HP.out _).mono ?_); rintro e w2 ⟨rfl, hf2⟩; have HF2 := As.mk (show Fr None_ w1 w2 from (Fr.refl None_ w1).drew.after hf2 (fun _ _ h => h)); clear hf2)
    | fail)
  all_goals
    go_wp2_with fail
    go_ret
    exact ⟨by first | rfl | simp [hm, hwr], HF.out.after HF2.out (fun _ _ h => h)⟩
/-- Where a staged page stands. -/
theorem spot_range {g : Geo} (h : g.Ok) {n : Int} (h0 : 0 ≤ n) (h1 : n < g.room) : 0 ≤ n / g.pairs ∧ n / g.pairs < g.p ∧ 0 ≤ 2 * (n % g.pairs) ∧ 2 * (n % g.pairs) + 2 ≤ g.c := by
  have h2 := pairs_range h
  have h3 := h.p
  have h4 := Int.emod_nonneg n (show g.pairs ≠ 0 by omega)
  have h5 := Int.emod_lt_of_pos n (show 0 < g.pairs by omega)
  have h6 := Int.ediv_nonneg h0 (show 0 ≤ g.pairs by omega)
  have h7 : n / g.pairs < g.p := Int.ediv_lt_of_lt_mul (by omega) h1
  omega
set_option maxHeartbeats 4000000 in
set_option maxRecDepth 100000 in
theorem Spot_calls (g : Geo) (n : Int) (w : World) (h : g.Ok) (h0 : 0 ≤ n) (h1 : n < g.room) : Calls Tryz.prog 85 #[g.val, .int .i64 n] w fun e w' => e = .returned (.tuple #[.int .i64 (n / g.pairs), .int .i64 (2 * (n % g.pairs)), .int .i64 0]) ∧ Fr None_ w w' := by
  have HP := As.mk (fun w => Pairs_calls g w h)
  have HC := As.mk (fun w => Check_calls g w h)
  have HR := As.mk (fun w => Room_calls g w h)
  have hs := spot_range h h0 h1
  have hr := room_range h
  have hp := pairs_range h
  have hgp := h.p
  unfold Geo.val at *
  have d0 : decide (n < 0) = false := decide_eq_false (by omega)
  have d1 : decide (g.room ≤ n) = false := decide_eq_false (by omega)
  have htd : n.tdiv g.pairs = n / g.pairs := Int.tdiv_eq_ediv_of_nonneg h0
  have htm : n.tmod g.pairs = n % g.pairs := Int.tmod_eq_emod_of_nonneg h0
  have hw1 : IntKind.i64.wrap (n / g.pairs) = n / g.pairs := by rw [IntKind.wrap_i64]; omega
  have hw2 : IntKind.i64.wrap (2 * (n % g.pairs)) = 2 * (n % g.pairs) := by have := h.c; rw [IntKind.wrap_i64]; omega
  have hne : ¬ g.pairs = 0 := by omega
  have HB := As.mk (heap_alloc_new w (.cells #[.int .i64 g.c, .int .i64 g.b, .int .i64 g.p, .int .i64 g.s] 24))
  have HF := As.mk ((Fr.refl None_ w).alloc (.cells #[.int .i64 g.c, .int .i64 g.b, .int .i64 g.p, .int .i64 g.s] 24))
  clear h
  go_enter Tryz.func85, Tryz.ntmps85
  go_upto_region 1 with fail
  generalize w.alloc (.cells #[.int .i64 g.c, .int .i64 g.b, .int .i64 g.p, .int .i64 g.s] 24) = w1 at *
  generalize w.heap.size = gb at *
  have z0 := cell_is (i := 0) HB.out rfl
  have z1 := cell_is (i := 1) HB.out rfl
  have z2 := cell_is (i := 2) HB.out rfl
  have z3 := cell_is (i := 3) HB.out rfl
  go_upto_region 3 with (first
    | (go_at_call 29; (with_reducible refine (HC.out _).mono ?_); rintro e w2 ⟨rfl, hf2⟩; have HF2 := As.mk hf2; have HF3 := As.mk hf2; have y0 := Fr.cell hf2 z0 (fun h => h); have y1 := Fr.cell hf2 z1 (fun h => h); have y2 := Fr.cell hf2 z2 (fun h => h); have y3 := Fr.cell hf2 z3 (fun h => h); clear hf2 z0 z1 z2 z3)
    | (go_at_call 48; (with_reducible refine (HR.out _).mono ?_); rintro e w3 ⟨rfl, hf3⟩; have HF3 := As.mk (HF2.out.after hf3 (fun _ _ h => h)); have z0 := Fr.cell hf3 y0 (fun h => h); have z1 := Fr.cell hf3 y1 (fun h => h); have z2 := Fr.cell hf3 y2 (fun h => h); have z3 := Fr.cell hf3 y3 (fun h => h); clear hf3 y0 y1 y2 y3))
  have HPG := As.mk (fun (w' : World) (hf : Fr None_ w1 w') => (HP.out w').mono (R' := fun e w'' => e = .returned (.int .i64 g.pairs) ∧ Fr None_ w1 w'') (fun e w'' h => ⟨h.1, hf.after h.2 (fun _ _ h => h)⟩))
  have HC0 := As.mk (show ∀ w', Fr None_ w1 w' → (w'.cell? ⟨gb, 0, none⟩ = some (.int .i64 g.c) ∧ w'.cell? ⟨gb, 1, none⟩ = some (.int .i64 g.b) ∧ w'.cell? ⟨gb, 2, none⟩ = some (.int .i64 g.p) ∧ w'.cell? ⟨gb, 3, none⟩ = some (.int .i64 g.s)) from fun w' hf => ⟨cell_is (hf.heap HB.out (fun h => h)) rfl, cell_is (hf.heap HB.out (fun h => h)) rfl, cell_is (hf.heap HB.out (fun h => h)) rfl, cell_is (hf.heap HB.out (fun h => h)) rfl⟩)
  go_region_held3 (fun w' => w'.cell? ⟨gb, 0, none⟩ = some (.int .i64 g.c) ∧ w'.cell? ⟨gb, 1, none⟩ = some (.int .i64 g.b) ∧ w'.cell? ⟨gb, 2, none⟩ = some (.int .i64 g.p) ∧ w'.cell? ⟨gb, 3, none⟩ = some (.int .i64 g.s)) (first | go_keep | exact ⟨z0, z1, z2, z3⟩ | exact HC0.out _ HF3.out) (first
    | (go_at_call 84; (with_reducible refine (HPG.out _ HF3.out.drew).mono ?_); rintro e w4 ⟨rfl, hf4⟩; have HF3 := As.mk hf4; clear hf4)
    | (go_at_call 84; (with_reducible refine (HPG.out _ HF3.out).mono ?_); rintro e w4 ⟨rfl, hf4⟩; have HF3 := As.mk hf4; clear hf4)
    | fail)
  all_goals
    go_wp2_with fail
    refine bodyPost_ret (v := .tuple #[.int .i64 (n / g.pairs), .int .i64 (2 * (n % g.pairs)), .int .i64 0]) (by simp [results, Tryz.results85, go_sem, htd, htm, hw1, hw2]) rfl ⟨rfl, HF.out.after HF3.out (fun _ _ h => h)⟩
end Go.Proofs.YteofgpaceeibpaaGreat.StgA
namespace Go.Proofs.YteofgpaceeibpaaGreat.StgB
open Go.RowKit Go.Proofs.YteofgpaceeibpaaGreat.Gab Go.Proofs.YteofgpaceeibpaaGreat.Geom Go.Proofs.YteofgpaceeibpaaGreat.Ref Go.Proofs.YteofgpaceeibpaaGreat.Sum Go.Proofs.YteofgpaceeibpaaGreat.Par Go.Proofs.YteofgpaceeibpaaGreat.Fields Go.Proofs.YteofgpaceeibpaaGreat.Seal Go.Proofs.YteofgpaceeibpaaGreat.AOrd Go.Proofs.YteofgpaceeibpaaGreat.AOrdB Go.Proofs.YteofgpaceeibpaaGreat.Nand Go.Proofs.YteofgpaceeibpaaGreat.NandA Go.Proofs.YteofgpaceeibpaaGreat.NandD Go.Proofs.YteofgpaceeibpaaGreat.NandE Go.Proofs.YteofgpaceeibpaaGreat.NandH Go.Proofs.YteofgpaceeibpaaGreat.MemA Go.Proofs.YteofgpaceeibpaaGreat.ArrA Go.Proofs.YteofgpaceeibpaaGreat.AWrA Go.Proofs.YteofgpaceeibpaaGreat.AWrB Go.Proofs.YteofgpaceeibpaaGreat.AWrC Go.Proofs.YteofgpaceeibpaaGreat.StgA
open Go.Proofs.YteofgpaceeibpaaGreat.Wr (InR)
open Go.Proofs.YteofgpaceeibpaaGreat.Heap (cell_is)
open Go.Proofs.YteofgpaceeibpaaGreat.Str (pcells take_snoc)
set_option linter.unusedVariables false
set_option linter.unusedSimpArgs false

theorem orderAt_mem {first lo c : Int} : ∀ m ∈ orderAt first lo c, lo ≤ m ∧ m < lo + c := by
  intro m hm
  unfold orderAt at hm
  rcases List.mem_append.1 hm with h | h
  · unfold preAt at h
    split at h
    · rename_i hh
      rw [List.mem_singleton] at h
      subst h
      exact hh
    · cases h
  · have h1 := (List.mem_filter.1 h).1
    unfold upFrom at h1
    obtain ⟨k, hk, rfl⟩ := List.mem_map.1 h1
    have := List.mem_range.1 hk
    omega
theorem orderAt_len (first lo c : Int) : (orderAt first lo c).length ≤ c.toNat + 1 := by
  unfold orderAt
  rw [List.length_append]
  have h1 := List.length_filter_le (fun m => decide (m ≠ first)) (upFrom lo c.toNat)
  have h2 : (upFrom lo c.toNat).length = c.toNat := by simp [upFrom]
  have h3 : (preAt first lo c).length ≤ 1 := by unfold preAt; split <;> simp
  omega

set_option maxHeartbeats 8000000 in
set_option maxRecDepth 100000 in
theorem Put_calls (σ : Ar) (K : ALay) (which n : Int) (hd : Head) (D : Option Addr) (nd cd : Nat) (data : List Int) (w : World) (hR : ArAt w σ K) (hth : σ.There) (hwh : 0 ≤ which ∧ which ≤ 1) (h0 : 0 ≤ n) (h1 : n < σ.s.g.room) (hh : hd.Ok)
    (hD : SlO (AF K σ) w (.slice D nd cd) data) (hl : (data.length : Int) = σ.s.g.s) (hrd : InR 256 data) (m0 : Nat) (hs : σ.s.Safe (m0 + 4)) :
    Calls Tryz.prog 49 #[dev K.x, .int .i64 which, .int .i64 n, .agg (pcells hd (.slice D nd cd))] w (WrPost σ K (σ.progs (4 + which) (n / σ.s.g.pairs) (fun _ => (data, sealOf hd data [])) (orderAt σ.ahead (2 * (n % σ.s.g.pairs)) 2)) w) := by
  have hok : σ.s.g.Ok := hR.nand.ok
  have HTH := As.mk hth
  have HLTF := As.mk (show ∀ b, AF K σ b → b < w.heap.size from fun b hb => by
    rcases hb with h | h | h
    · exact hR.nand.lt h
    · rw [h]; exact (Array.getElem?_eq_some_iff.1 hR.main).1
    · obtain ⟨cs, hv, _⟩ := hR.vols
      rw [h]; exact (Array.getElem?_eq_some_iff.1 hv).1)
  have HR := As.mk hR
  have HD := As.mk hD
  have HSF := As.mk hs
  have HOK := As.mk hok
  have hsp := spot_range hok h0 h1
  have hb := hok.b
  have hc := hok.c
  have hp := hok.p
  have HAT := As.mk (show σ.s.g.At (4 + which) (n / σ.s.g.pairs) from ⟨by omega, by omega⟩)
  have HG := As.mk (fun w' (hf : Fr None_ w w') => ArrA.Geo_calls σ K w' (hR.none_ hf))
  have HSP := As.mk (fun w => Spot_calls σ.s.g n w hok h0 h1)
  have HDR := As.mk hrd
  have HDL := As.mk hl
  obtain ⟨D', n', c', e1, hdc, hdd⟩ := hD.rdO
  injection e1 with e1 e2 e3
  subst e1 e2 e3
  have HSE := As.mk (fun (w' : World) (hf : Fr None_ w w') => Seal_calls hd data [] D none nd 0 cd 0 w' hh (hdd.out.1.none_ hf) (Rd.nil _ _ _) hdc.out (Nat.le_refl _) hrd (fun x hx => by cases hx))
  have hnd : ((nd : Int) != σ.s.g.s) = false := by have h1 := hdd.out.1.1; rw [bne_eq_false_iff_eq]; omega
  have d0 : decide (which < 0) = false := decide_eq_false (by omega)
  have d1 : decide (1 < which) = false := decide_eq_false (by omega)
  generalize n / σ.s.g.pairs = row at *
  generalize 2 * (n % σ.s.g.pairs) = lo at *
  have HORD := As.mk (fun (w' : World) (h : ArAt w' σ K) => OrderAt_calls σ K lo 2 w' h ⟨by omega, by omega⟩ ⟨by omega, by omega⟩)
  have hws : IntKind.i64.wrap (4 + which) = 4 + which := by rw [IntKind.wrap_i64]; omega
  unfold dev pcells Head.vals Geo.val at *
  clear hR hth hD hl hrd hs hok hdd hdc hh h0 h1
  go_enter Tryz.func49, Tryz.ntmps49
  go_wp2_with fail
  ((with_reducible refine (HG.out _ ((Fr.refl None_ w).alloc _)).mono ?_); rintro e w1 ⟨rfl, hf1⟩)
  have HBX1 := As.mk (hf1.heap (heap_alloc_new w (.cells #[.int .u8 hd.kind, .int .u32 hd.epoch, .int .u32 hd.batch, .int .u16 hd.index, .int .u16 hd.count, .int .u32 hd.block, .int .u32 hd.more, .slice D nd cd] 117)) (fun h => h))
  have HF1 := As.mk (((Fr.refl None_ w).alloc (.cells #[.int .u8 hd.kind, .int .u32 hd.epoch, .int .u32 hd.batch, .int .u16 hd.index, .int .u16 hd.count, .int .u32 hd.block, .int .u32 hd.more, .slice D nd cd] 117)).after hf1 (fun _ _ h => h))
  have HGEO := As.mk (heap_alloc_new w1 (.cells #[.int .i64 σ.s.g.c, .int .i64 σ.s.g.b, .int .i64 σ.s.g.p, .int .i64 σ.s.g.s] 24))
  have HBX2 := As.mk (at_old (.cells #[.int .i64 σ.s.g.c, .int .i64 σ.s.g.b, .int .i64 σ.s.g.p, .int .i64 σ.s.g.s] 24) HBX1.out)
  have HF2 := As.mk (HF1.out.alloc (.cells #[.int .i64 σ.s.g.c, .int .i64 σ.s.g.b, .int .i64 σ.s.g.p, .int .i64 σ.s.g.s] 24))
  clear hf1 HBX1
  go_upto_region 4 with fail
  generalize w1.alloc (.cells #[.int .i64 σ.s.g.c, .int .i64 σ.s.g.b, .int .i64 σ.s.g.p, .int .i64 σ.s.g.s] 24) = w2 at *
  generalize w1.heap.size = g9 at *
  obtain ⟨pb, hpb⟩ : ∃ pb, w.heap.size = pb := ⟨_, rfl⟩
  have HPB := As.mk hpb
  rw [hpb] at HBX2 ⊢
  clear hpb
  have z0 := cell_is (i := 0) HGEO.out rfl
  have z1 := cell_is (i := 1) HGEO.out rfl
  have z2 := cell_is (i := 2) HGEO.out rfl
  have z3 := cell_is (i := 3) HGEO.out rfl
  go_wp2_with fail
  ((with_reducible refine (HSP.out _).mono ?_); rintro e w3 ⟨rfl, hf3⟩)
  have HGE3 := As.mk (hf3.heap HGEO.out (fun h => h))
  have HBX3 := As.mk (hf3.heap HBX2.out (fun h => h))
  have HF3 := As.mk (HF2.out.after hf3 (fun _ _ h => h))
  clear z0 z1 z2 z3 hf3
  have z3 := cell_is (i := 3) HGE3.out rfl
  have k0 := cell_is (i := 0) HBX3.out rfl
  have k1 := cell_is (i := 1) HBX3.out rfl
  have k2 := cell_is (i := 2) HBX3.out rfl
  have k3 := cell_is (i := 3) HBX3.out rfl
  have k4 := cell_is (i := 4) HBX3.out rfl
  have k5 := cell_is (i := 5) HBX3.out rfl
  have k6 := cell_is (i := 6) HBX3.out rfl
  have k7 := cell_is (i := 7) HBX3.out rfl
  go_wp2_with fail
  ((with_reducible refine (HSE.out _ HF3.out).mono ?_); rintro e w4 ⟨v4, rfl, hrow4, hf4⟩)
  have HRW := As.mk hrow4
  have HBX4 := As.mk (hf4.heap HBX3.out (fun h => h))
  have HF4 := As.mk (HF3.out.after hf4 (fun _ _ h => h))
  have HZ3 := As.mk (HF3.out.size)
  obtain ⟨O, no', co, eO, _, hOd, _⟩ := hrow4.rd
  have hn64 : no' = 64 := by rw [← hOd.out.1]; exact sealOf_len _ _ _
  subst eO hn64
  clear hrow4 hf4 hOd k0 k1 k2 k3 k4 k5 k6 k7 z3
  go_wp2_with fail
  ((with_reducible refine (HORD.out _ ?k5).mono ?_); (case k5 => exact HR.out.none_ HF4.out); rintro e w5 ⟨vo, rfl, hrowo, hf5⟩)
  have HF5 := As.mk (HF4.out.after hf5 (fun _ _ h => h))
  have HBX5 := As.mk (hf5.heap HBX4.out (fun h => h))
  have HO5 : As (SlO (AF K σ) w5 (.slice O 64 co) (sealOf hd data [])) := ⟨SlO.of_row HLTF.out (HRW.out.none_ hf5) HZ3.out⟩
  have HD5 := As.mk (HD.out.none_ HF5.out)
  have HR5 := As.mk (HR.out.none_ HF5.out)
  have HZA := As.mk HF4.out.size
  obtain ⟨Ao, no, ca, eo, hmo, hdo, hao⟩ := hrowo.rd
  have HRO : As (Rd .i64 w5 Ao no (orderAt σ.ahead lo 2) ∧ ∀ ad, Ao = some ad → 0 < no → ¬ AF K σ ad.block) := ⟨hdo.out, fun ad' e _ h => absurd (HLTF.out _ h) (by have h1 := HZA.out; have h2 := (hrowo.blk _ (hao.out ad' e)).1; omega)⟩
  have HNO := As.mk hdo.out.1
  have HMO := As.mk (orderAt_len σ.ahead lo 2)
  have hno : no ≤ 3 := by have h1 := HNO.out; have h2 := HMO.out; omega
  have HMEM := As.mk (fun m hm => orderAt_mem (first := σ.ahead) (lo := lo) (c := 2) m hm)
  have HLO := As.mk hsp
  have HPBN := As.mk (show ¬ AF K σ pb from fun h => absurd (HLTF.out _ h) (by have := HPB.out; omega))
  subst eo
  generalize hord : orderAt σ.ahead lo 2 = ms at *
  have HOR := As.mk hord
  clear hf5 hrowo hord hdo hmo hao HRW HGE3 HGEO HBX2 HBX3
  go_wp2_with fail
  go_loopw [14, 16, 17, 56] (fun v14 v16 v17 v56 w' => ∃ i : Int, v56 = .int .i64 i ∧ 0 ≤ i ∧ i ≤ (no : Int) ∧ (∃ (k : Int) (τ : Ar), v14 = .int .i64 k ∧ As (σ.progs (4 + which) row (fun _ => (data, sealOf hd data [])) (ms.take i.toNat) = (τ, k, 0)) ∧ 0 ≤ k ∧ k ≤ i ∧ As (ArAt w' τ K ∧ τ.There ∧ τ.s.g = σ.s.g ∧ τ.s.Safe (m0 + (4 - i.toNat)))) ∧ As (Fr (AF K σ) w5 w')) (fun _ _ _ v56 _ => no - (intOf v56).toNat)
  case atStart => exact ⟨0, rfl, by omega, by omega, ⟨0, σ, rfl, ⟨rfl⟩, Int.le_refl _, Int.le_refl _, ⟨HR5.out, HTH.out, rfl, HSF.out⟩⟩, ⟨Fr.refl _ _⟩⟩
  case round =>
    obtain ⟨i, rfl, hi0, hi, ⟨k, τ, rfl, HK, hk0, hk1, HX2⟩, HST⟩ := hrel
    by_cases hlt : i < (no : Int)
    · obtain ⟨ado, eo, hco⟩ := (HRO.out.1.fr HST.out HRO.out.2).at_ i hi0 hlt
      subst eo
      have hil : i.toNat < ms.length := by have := HNO.out; omega
      have HTK : As (ms.take (i + 1).toNat = ms.take i.toNat ++ [ms.getD i.toNat 0]) := ⟨by rw [show (i + 1).toNat = i.toNat + 1 by omega]; exact take_snoc 0 hil⟩
      have hm := HMEM.out (ms.getD i.toNat 0) (by rw [List.getD_eq_getElem?_getD, List.getElem?_eq_getElem hil]; exact List.getElem_mem hil)
      generalize ms.getD i.toNat 0 = m at *
      have hm0 : 0 ≤ m := by have := HLO.out; omega
      have hm1 : m < σ.s.g.c := by have := HLO.out; omega
      clear hil hm
      have hi4 : i.toNat < 4 := by omega
      have HBXr := As.mk (HST.out.heap HBX5.out HPBN.out)
      have k7 := cell_is (i := 7) HBXr.out rfl
      have HSFI := As.mk (show τ.s.Safe (m0 + (4 - (i.toNat + 1)) + 1) from by rw [show m0 + (4 - (i.toNat + 1)) + 1 = m0 + (4 - i.toNat) by omega]; exact HX2.out.2.2.2)
      obtain ⟨r, hr⟩ : ∃ r, τ.prog m.toNat (4 + which).toNat row.toNat data (sealOf hd data []) = r := ⟨_, rfl⟩
      have HN := As.mk (show σ.progs (4 + which) row (fun _ => (data, sealOf hd data [])) (ms.take (i + 1).toNat) = pstep (4 + which) row (fun _ => (data, sealOf hd data [])) (τ, k, 0) m from by rw [HTK.out, progs_snoc, HK.out])
      have HN0 := As.mk (show r.2 = 0 → σ.progs (4 + which) row (fun _ => (data, sealOf hd data [])) (ms.take (i + 1).toNat) = (r.1, k, 0) from fun h => by
        rw [HN.out]
        unfold pstep
        dsimp only
        rw [hr, if_pos rfl, if_pos h])
      have HN71 := As.mk (show r.2 = 71 → σ.progs (4 + which) row (fun _ => (data, sealOf hd data [])) (ms.take (i + 1).toNat) = (r.1, k + 1, 0) from fun h => by
        rw [HN.out]
        unfold pstep
        dsimp only
        rw [hr, if_pos rfl, if_neg (by rw [h]; decide), if_pos h])
      have HNX := As.mk (show r.2 ≠ 0 → r.2 ≠ 71 → ∀ (e : Ending) (w' : World), e = .returned (.int .i64 r.2) → ArAt w' r.1 K → Fr (AF K σ) w5 w' → WrPost σ K (σ.progs (4 + which) row (fun _ => (data, sealOf hd data [])) ms) w e w' from fun h1 h2 e w' k1 k2 k3 => by
        have h3 : σ.progs (4 + which) row (fun _ => (data, sealOf hd data [])) (ms.take (i + 1).toNat) = (r.1, k, r.2) := by
          rw [HN.out]
          unfold pstep
          dsimp only
          rw [hr, if_pos rfl, if_neg h1, if_neg h2]
        have h4 : σ.progs (4 + which) row (fun _ => (data, sealOf hd data [])) ms = (r.1, k, r.2) := by
          rw [progs_stuck σ (4 + which) row _ ms (i + 1).toNat (by rw [h3]; exact h1), h3]
        rw [h4]
        refine ⟨?_, k2, (HF5.out.mono (T := AF K σ) (fun _ _ h => h.elim)).after k3 (fun _ _ h => h)⟩
        rw [k1]
        unfold wcode
        dsimp only
        rw [if_pos h1])
      have HRK := As.mk (show r.1.There ∧ r.1.s.g = σ.s.g ∧ r.1.s.Safe (m0 + (4 - (i + 1).toNat)) from by
        have hk := prog_keeps (σ := τ) (by rw [HX2.out.2.2.1]; exact HOK.out) HX2.out.1.ok.set m.toNat (4 + which).toNat row.toNat data (sealOf hd data []) (by rw [HX2.out.2.2.1]; omega)
        rw [hr] at hk
        refine ⟨hk.2.1 HX2.out.2.1, hk.1.trans HX2.out.2.2.1, ?_⟩
        rw [show (i + 1).toNat = i.toNat + 1 by omega]
        exact hk.2.2 _ HSFI.out)
      have HPA1 := As.mk (show ∀ (e : Int), r.2 = e → Calls Tryz.prog 141 #[.pointer (some ⟨K.x, 0, none⟩), .int .i64 m, .int .i64 (4 + which), .int .i64 row, .slice D nd cd, .slice O 64 co] wr (fun x w' => x = .returned (.int .i64 e) ∧ ArAt w' r.1 K ∧ Fr (AF K σ) wr w') from fun e he => by
        have h1 := Prog_any σ τ K (4 + which) row m D O nd cd co _ _ wr HX2.out.1 HX2.out.2.1 HX2.out.2.2.1 HAT.out hm0 hm1 (HD5.out.step HST.out) (HO5.out.step HST.out) HDL.out HDR.out (seal_range (fun x hx => by cases hx)) _ HSFI.out
        rw [hr] at h1
        unfold PrPost at h1
        rw [he] at h1
        exact h1)
      clear hr HN
      by_cases h0 : r.2 = 0
      · have HPE := As.mk (HPA1.out 0 h0)
        have HKG := As.mk (HN0.out h0)
        clear h0
        go_wp2_with (go_at_call 141; (with_reducible refine (HPE.out).mono ?_); rintro e w9 ⟨rfl, hR9, hf9⟩; have HR9 := As.mk hR9; have HF10 := As.mk (HST.out.after hf9 (fun _ _ h => h)); clear hR9 hf9)
        exact ⟨⟨i + 1, rfl, by omega, by omega, ⟨k, r.1, rfl, HKG, hk0, by omega, ⟨HR9.out, HRK.out⟩⟩, HF10⟩, by simp [intOf]; omega⟩
      · by_cases h71 : r.2 = 71
        · have HPE := As.mk (HPA1.out 71 h71)
          have HKG := As.mk (HN71.out h71)
          clear h0 h71
          go_wp2_with (go_at_call 141; (with_reducible refine (HPE.out).mono ?_); rintro e w9 ⟨rfl, hR9, hf9⟩; have HR9 := As.mk hR9; have HF10 := As.mk (HST.out.after hf9 (fun _ _ h => h)); clear hR9 hf9)
          exact ⟨⟨i + 1, rfl, by omega, by omega, ⟨k + 1, r.1, rfl, HKG, by omega, by omega, ⟨HR9.out, HRK.out⟩⟩, HF10⟩, by simp [intOf]; omega⟩
        · have HPE := As.mk (HPA1.out r.2 rfl)
          have HBE := As.mk (HNX.out h0 h71)
          have e0 : (r.2 == 0) = false := beq_eq_false_iff_ne.2 h0
          have e71 : (r.2 == 71) = false := beq_eq_false_iff_ne.2 h71
          generalize r.2 = ev at *
          clear h0 h71
          go_wp2_with (go_at_call 141; (with_reducible refine (HPE.out).mono ?_); rintro e w9 ⟨rfl, hR9, hf9⟩; have HR9 := As.mk hR9; have HF10 := As.mk (HST.out.after hf9 (fun _ _ h => h)); clear hR9 hf9)
          go_ret
          rw [HOR.out]
          exact HBE.out _ _ rfl HR9.out HF10.out
    · have hte : ms.take i.toNat = ms := List.take_of_length_le (by have := HNO.out; omega)
      have HPost := As.mk (show ∀ (e : Ending) (w' : World) (c : Int), wcode (τ, k, 0) = c → e = .returned (.int .i64 c) → ArAt w' τ K → Fr (AF K σ) w5 w' → WrPost σ K (σ.progs (4 + which) row (fun _ => (data, sealOf hd data [])) ms) w e w' from fun e w' c h0 k1 k2 k3 => by
        have h4 : σ.progs (4 + which) row (fun _ => (data, sealOf hd data [])) ms = (τ, k, 0) := by
          rw [← hte, HK.out]
        rw [h4]
        exact ⟨by rw [k1, h0], k2, (HF5.out.mono (T := AF K σ) (fun _ _ h => h.elim)).after k3 (fun _ _ h => h)⟩)
      clear hte
      by_cases hk1 : 1 < k
      · have HEE : As (wcode (τ, k, 0) = 74) := ⟨by unfold wcode; rw [if_neg (fun h => h rfl), if_pos hk1]⟩
        go_wp2
        go_ret
        rw [HOR.out]
        exact HPost.out _ _ _ HEE.out rfl HX2.out.1 HST.out
      · have HEE : As (wcode (τ, k, 0) = 0) := ⟨by unfold wcode; rw [if_neg (fun h => h rfl), if_neg hk1]⟩
        go_wp2
        go_ret
        rw [HOR.out]
        exact HPost.out _ _ _ HEE.out rfl HX2.out.1 HST.out
end Go.Proofs.YteofgpaceeibpaaGreat.StgB
namespace Go.Proofs.YteofgpaceeibpaaGreat.ARead
open Go.RowKit Go.Proofs.YteofgpaceeibpaaGreat.Gab Go.Proofs.YteofgpaceeibpaaGreat.Geom Go.Proofs.YteofgpaceeibpaaGreat.Sum Go.Proofs.YteofgpaceeibpaaGreat.Ref Go.Proofs.YteofgpaceeibpaaGreat.Par Go.Proofs.YteofgpaceeibpaaGreat.Fields Go.Proofs.YteofgpaceeibpaaGreat.Seal Go.Proofs.YteofgpaceeibpaaGreat.Nand Go.Proofs.YteofgpaceeibpaaGreat.NandA Go.Proofs.YteofgpaceeibpaaGreat.NandH Go.Proofs.YteofgpaceeibpaaGreat.ArrA Go.Proofs.YteofgpaceeibpaaGreat.ArrD Go.Proofs.YteofgpaceeibpaaGreat.AOrd Go.Proofs.YteofgpaceeibpaaGreat.AWrA
open Go.Proofs.YteofgpaceeibpaaGreat.Wr (InR)
open Go.Proofs.YteofgpaceeibpaaGreat.Heap (cell_is)
open Go.Proofs.YteofgpaceeibpaaGreat.Str (pcells PPs take_snoc)
open Go.Proofs.YteofgpaceeibpaaGreat.Open (openOf)
set_option linter.unusedVariables false
set_option linter.unusedSimpArgs false

theorem fr_set8 {S : Nat → Prop} {w w' : World} (h : Fr S w w') {b : Nat} (hb : b < w.heap.size → S b) (v0 v1 v2 v3 v4 v5 v6 v7 : Value) : Fr S w ((((((((w'.setCell ⟨b, 0, none⟩ v0).setCell ⟨b, 1, none⟩ v1).setCell ⟨b, 2, none⟩ v2).setCell ⟨b, 3, none⟩ v3).setCell ⟨b, 4, none⟩ v4).setCell ⟨b, 5, none⟩ v5).setCell ⟨b, 6, none⟩ v6).setCell ⟨b, 7, none⟩ v7) :=
  ((((((((h.setCell (p := ⟨b, 0, none⟩) hb v0).setCell (p := ⟨b, 1, none⟩) hb v1).setCell (p := ⟨b, 2, none⟩) hb v2).setCell (p := ⟨b, 3, none⟩) hb v3).setCell (p := ⟨b, 4, none⟩) hb v4).setCell (p := ⟨b, 5, none⟩) hb v5).setCell (p := ⟨b, 6, none⟩) hb v6).setCell (p := ⟨b, 7, none⟩) hb v7)
/-- A page beside it is written. -/
theorem beside {w w' : World} {σ : Ar} {K : ALay} (h : ArAt w σ K) {pb : Nat} {cs : Array Value} (hp : w.heap[pb]? = some (.cells cs 117 (0, 0))) (hf : Fr (fun b => b = pb) w w') : ArAt w' σ K := by
  have hne : ∀ {b : Nat} {cs : Array Value} {T : TypeId} {f : Nat × Nat}, w.heap[b]? = some (.cells cs T f) → T ≠ 117 → ¬ b = pb := fun hb hT => blk_ne hb hp hT
  refine ⟨h.nand.one hp hf ⟨⟨by decide, by decide, by decide, by decide, by decide⟩, by decide, by decide⟩, hf.heap h.main (hne h.main (by decide)), h.ccn, ?_, fun c t hc e => ⟨(h.vol c t hc e).1.ty hf (fun b cs T f hb hT => hne hb (by rcases hT with rfl | rfl <;> decide)), (h.vol c t hc e).2⟩, ?_, h.ok⟩
  · obtain ⟨ds, e, hds⟩ := h.vols
    exact ⟨ds, hf.heap e (hne e (by decide)), hds⟩
  · obtain ⟨ds, e, hds⟩ := h.chips
    exact ⟨ds, hf.heap e (hne e (by decide)), hds⟩
theorem mem_range {g : Geo} (hg : g.Ok) (seg row slot : Int) (h0 : 0 ≤ slot) (h1 : slot < g.c - 1) : 0 ≤ g.mem seg row slot ∧ g.mem seg row slot < g.c ∧ g.mem seg row slot ≠ g.par seg row := by
  obtain ⟨h2, h3⟩ := par_range hg seg row
  unfold Geo.mem
  split <;> omega

set_option maxHeartbeats 8000000 in
set_option maxRecDepth 100000 in
theorem Read_direct (σ : Ar) (K : ALay) (seg row slot : Int) (w : World) (h : Head) (r : Ar × Int) (x : List Int × List Int) (hR : ArAt w σ K) (hth : σ.There) (ha : σ.s.g.At seg row) (hs0 : 0 ≤ slot) (hs1 : slot < σ.s.g.c - 1) (hr : σ.read (σ.s.g.mem seg row slot).toNat = r) (hk : r.2 = 0)
    (hx : σ.bytes (σ.s.g.mem seg row slot).toNat seg.toNat row.toNat = x) (ho : openOf x.1 x.2 = (h, true)) (hx1 : InR 256 x.1 ∧ InR 256 x.2) (m0 : Nat) (hsf : σ.s.Safe (m0 + 1)) :
    Calls Tryz.prog 44 #[dev K.x, .agg #[.int .i64 seg, .int .i64 row, .int .i64 slot]] w fun e w' => ∃ v, e = .returned (.tuple #[.agg (pcells h v), .int .i64 0]) ∧ Row 5 .u8 w' w.heap.size v x.1 ∧ ArAt w' r.1 K ∧ Fr (AF K σ) w w' := by
  have hok : σ.s.g.Ok := hR.nand.ok
  have HLTF := As.mk (show ∀ b, AF K σ b → b < w.heap.size from fun b hb => by
    rcases hb with h | h | h
    · exact hR.nand.lt h
    · rw [h]; exact (Array.getElem?_eq_some_iff.1 hR.main).1
    · obtain ⟨cs, hv, _⟩ := hR.vols
      rw [h]; exact (Array.getElem?_eq_some_iff.1 hv).1)
  have HR := As.mk hR
  have hc1 := hok.c
  have hb1 := hok.b
  have hp1 := hok.p
  have hgs1 := hok.s
  have HG := As.mk (fun w' (hf : Fr None_ w w') => ArrA.Geo_calls σ K w' (hR.none_ hf))
  have HNU := As.mk (fun w => Number_calls σ.s.g seg row slot w hok ha hs0 hs1)
  have HME := As.mk (fun w => Member_calls σ.s.g seg row slot w hok ha hs0 (by omega))
  have hnum : 1 ≤ σ.s.g.num seg row slot := by
    have h1 : 0 ≤ (seg * σ.s.g.p + row) * (σ.s.g.c - 1) := Int.mul_nonneg (by have := mul_range hok ha; have := ha.row; omega) (by omega)
    unfold Geo.num
    omega
  have hnb : (σ.s.g.num seg row slot == 0) = false := by rw [beq_eq_false_iff_ne]; omega
  have hmr := mem_range hok seg row slot hs0 hs1
  have hseg := ha.seg
  have hrow := ha.row
  have HRT := As.mk (show ∀ (w' : World), Fr None_ w w' → Calls Tryz.prog 22 #[.pointer (some ⟨K.x, 0, none⟩), .int .i64 (σ.s.g.mem seg row slot), .int .i64 seg, .int .i64 row] w' fun e w'' => ∃ v1 v2, e = .returned (.tuple #[v1, v2, .int .i64 0]) ∧ Row 5 .u8 w'' w'.heap.size v1 x.1 ∧ Row 5 .u8 w'' w'.heap.size v2 x.2 ∧ ArAt w'' r.1 K ∧ Fr (AF K σ) w' w'' from fun w' hf => by
    have e1 : ((σ.s.g.mem seg row slot).toNat : Int) = σ.s.g.mem seg row slot := by omega
    have e2 : (seg.toNat : Int) = seg := by omega
    have e3 : (row.toNat : Int) = row := by omega
    have h1 := ArrD.Read_calls σ K (σ.s.g.mem seg row slot).toNat seg.toNat row.toNat w' (hR.none_ hf) hth (by omega) (by omega) (by unfold St.np; omega) m0 hsf
    rw [e1, e2, e3] at h1
    refine h1.mono ?_
    rintro e w'' ⟨A, n, k, B, j, i, he, hA, hF, hz, _⟩
    rw [hr, hk] at he hz
    obtain ⟨z1, z2⟩ := hz rfl
    rw [hx] at z1 z2
    rw [hr] at hA
    exact ⟨_, _, he, z1, z2, hA, hF⟩)
  unfold Geo.val at HG HNU HME
  generalize σ.s.g.num seg row slot = num at *
  generalize hmem : σ.s.g.mem seg row slot = m at *
  obtain ⟨hm0, hm1, hm2⟩ := hmr
  obtain ⟨fd, fo⟩ := x
  dsimp only at ho HRT hx1 ⊢
  clear hR ha hok hmem hm2 hr hk hx hsf hth hseg hrow
  have HOP := As.mk (fun (D1 O1 : Option Addr) (nd1 cd1 no1 co1 : Nat) (w' : World) (h1 : Rd .u8 w' O1 no1 fo) (h2 : Rd .u8 w' D1 nd1 fd) (h3 : no1 ≤ co1) (h4 : nd1 ≤ cd1) => Open.Open_calls O1 D1 no1 co1 nd1 cd1 fo fd w' h1 h2 hx1.2 hx1.1 h3 h4)
  rw [ho] at HOP
  unfold Head.vals at HOP
  dsimp only at HOP
  clear ho hx1
  unfold dev pcells at *
  have HPL0 := As.mk (heap_alloc_new w (.cells #[.int .i64 seg, .int .i64 row, .int .i64 slot] 108))
  have HPL1 := As.mk (at_old (.cells #[.int .u8 0, .int .u32 0, .int .u32 0, .int .u16 0, .int .u16 0, .int .u32 0, .int .u32 0, .slice none 0 0] 117) HPL0.out)
  have HPG1 := As.mk (at_new (.cells #[.int .u8 0, .int .u32 0, .int .u32 0, .int .u16 0, .int .u16 0, .int .u32 0, .int .u32 0, .slice none 0 0] 117) (size_new (.cells #[.int .i64 seg, .int .i64 row, .int .i64 slot] 108) (rfl : w.heap.size = w.heap.size)))
  have HFW : As (Fr None_ w ((w.alloc (.cells #[.int .i64 seg, .int .i64 row, .int .i64 slot] 108)).alloc (.cells #[.int .u8 0, .int .u32 0, .int .u32 0, .int .u16 0, .int .u16 0, .int .u32 0, .int .u32 0, .slice none 0 0] 117))) := ⟨((Fr.refl _ w).alloc _).alloc _⟩
  go_enter Tryz.func44, Tryz.ntmps44
  go_wp2_with fail
  ((with_reducible refine (HG.out _ HFW.out).mono ?_); rintro e w1 ⟨rfl, hf1⟩)
  have HF1 := As.mk (HFW.out.after hf1 (fun _ _ h => h))
  have HPLa := As.mk (hf1.heap HPL1.out (fun h => h))
  have HPGa := As.mk (hf1.heap HPG1.out (fun h => h))
  clear hf1
  have c0 := cell_is (i := 0) HPLa.out rfl
  have c1 := cell_is (i := 1) HPLa.out rfl
  have c2 := cell_is (i := 2) HPLa.out rfl
  have l0 : w.heap.size < w1.heap.size := (Array.getElem?_eq_some_iff.1 HPLa.out).1
  go_wp2_with fail
  ((with_reducible refine (HNU.out _).mono ?_); rintro e w2 ⟨rfl, hf2⟩)
  have HGEb := As.mk (hf2.heap (heap_alloc_new w1 (.cells #[.int .i64 σ.s.g.c, .int .i64 σ.s.g.b, .int .i64 σ.s.g.p, .int .i64 σ.s.g.s] 24)) (fun h => h))
  have HPLb := As.mk (hf2.heap (at_old (.cells #[.int .i64 σ.s.g.c, .int .i64 σ.s.g.b, .int .i64 σ.s.g.p, .int .i64 σ.s.g.s] 24) HPLa.out) (fun h => h))
  have HPGb := As.mk (hf2.heap (at_old (.cells #[.int .i64 σ.s.g.c, .int .i64 σ.s.g.b, .int .i64 σ.s.g.p, .int .i64 σ.s.g.s] 24) HPGa.out) (fun h => h))
  have HF2 := As.mk ((HF1.out.alloc _).after hf2 (fun _ _ h => h))
  have hz8 : w.heap.size ≤ w1.heap.size := HF1.out.size
  clear c0 c1 c2 l0 hf2
  generalize hg8 : w1.heap.size = g8 at *
  clear hg8
  have c0 := cell_is (i := 0) HPLb.out rfl
  have c1 := cell_is (i := 1) HPLb.out rfl
  have c2 := cell_is (i := 2) HPLb.out rfl
  have d0 := cell_is (i := 0) HGEb.out rfl
  have d1 := cell_is (i := 1) HGEb.out rfl
  have d2 := cell_is (i := 2) HGEb.out rfl
  have d3 := cell_is (i := 3) HGEb.out rfl
  go_wp2_with fail
  ((with_reducible refine (HME.out _).mono ?_); rintro e w3 ⟨rfl, hf3⟩)
  have HPLc := As.mk (hf3.heap HPLb.out (fun h => h))
  have HPGc := As.mk (hf3.heap HPGb.out (fun h => h))
  have HF3 := As.mk (HF2.out.after hf3 (fun _ _ h => h))
  clear c0 c1 c2 d0 d1 d2 d3 hf3
  have c0 := cell_is (i := 0) HPLc.out rfl
  have c1 := cell_is (i := 1) HPLc.out rfl
  go_wp2_with fail
  ((with_reducible refine (HRT.out _ HF3.out).mono ?_); rintro e w4 ⟨v1, v2, rfl, hr1, hr2, ha4, hf4⟩)
  have HR1 := As.mk hr1
  have HR2 := As.mk hr2
  have HF4 := As.mk ((HF3.out.mono (T := AF K σ) (fun _ _ h => h.elim)).after hf4 (fun _ _ h => h))
  have HPGd := As.mk (hf4.heap HPGc.out (fun h => absurd (HLTF.out _ h) (by omega)))
  have HA4 := As.mk ha4
  clear hr1 hr2 ha4 hf4 c0 c1
  obtain ⟨A3, n3, c3, e3, hm3, hd3, _⟩ := HR1.out.rd
  obtain ⟨A4, n4, c4, e4, hm4, hd4, _⟩ := HR2.out.rd
  subst e3 e4
  go_wp2_with fail
  ((with_reducible refine (HOP.out A3 A4 n3 c3 n4 c4 _ hd4.out hd3.out hm4.out hm3.out).mono ?_); rintro e w5 ⟨rfl, hf5⟩)
  have HF5 := As.mk hf5
  have HPGe := As.mk (hf5.heap HPGd.out (fun h => h))
  clear hf5
  go_upto_region 12 with fail
  have hnew := heap_alloc_new w5 (.cells #[.int .u8 h.kind, .int .u32 h.epoch, .int .u32 h.batch, .int .u16 h.index, .int .u16 h.count, .int .u32 h.block, .int .u32 h.more] 112)
  have HF6 := As.mk (HF5.out.alloc (.cells #[.int .u8 h.kind, .int .u32 h.epoch, .int .u32 h.batch, .int .u16 h.index, .int .u16 h.count, .int .u32 h.block, .int .u32 h.more] 112))
  generalize w5.alloc (.cells #[.int .u8 h.kind, .int .u32 h.epoch, .int .u32 h.batch, .int .u16 h.index, .int .u16 h.count, .int .u32 h.block, .int .u32 h.more] 112) = w6 at *
  have hpg := HF6.out.heap HPGd.out (fun h => h)
  have HPG5 := As.mk hpg
  generalize hg20 : w5.heap.size = g20 at *
  clear hg20
  have k0 := cell_is (i := 0) hnew rfl
  have k1 := cell_is (i := 1) hnew rfl
  have k2 := cell_is (i := 2) hnew rfl
  have k3 := cell_is (i := 3) hnew rfl
  have k4 := cell_is (i := 4) hnew rfl
  have k5 := cell_is (i := 5) hnew rfl
  have k6 := cell_is (i := 6) hnew rfl
  have x0 := cell_is (i := 0) hpg rfl
  have x1 := cell_is (i := 1) hpg rfl
  have x2 := cell_is (i := 2) hpg rfl
  have x3 := cell_is (i := 3) hpg rfl
  have x4 := cell_is (i := 4) hpg rfl
  have x5 := cell_is (i := 5) hpg rfl
  have x6 := cell_is (i := 6) hpg rfl
  have x7 := cell_is (i := 7) hpg rfl
  have y0 := free_of (i := 0) hpg
  have y1 := free_of (i := 1) hpg
  have y2 := free_of (i := 2) hpg
  have y3 := free_of (i := 3) hpg
  have y4 := free_of (i := 4) hpg
  have y5 := free_of (i := 5) hpg
  have y6 := free_of (i := 6) hpg
  have y7 := free_of (i := 7) hpg
  clear hnew hpg
  go_wp2_with fail
  have hz := HF3.out.size
  have hr6 := HR1.out.none_ HF6.out
  have hF6 : Fr (AF K σ) w w6 := HF4.out.after HF6.out (fun _ _ h => h.elim)
  refine bodyPost_ret (v := .tuple #[.agg #[.int .u8 h.kind, .int .u32 h.epoch, .int .u32 h.batch, .int .u16 h.index, .int .u16 h.count, .int .u32 h.block, .int .u32 h.more, .slice A3 n3 c3], .int .i64 0]) (by simp [results, Tryz.results44, go_sem, x0, x1, x2, x3, x4, x5, x6, x7]) rfl ⟨_, rfl, ?_, ?_, ?_⟩
  · refine Row.fr (S := fun b => b = w.heap.size + 1) (hr6.lower hz) ?_ (fun b hbo e => Row.ne hr6 HPG5.out (by decide) (e ▸ hbo))
    exact fr_set8 (b := w.heap.size + 1) (Fr.refl (fun b => b = w.heap.size + 1) w6) (fun _ => rfl) _ _ _ _ _ _ _ _
  · exact beside (HA4.out.none_ HF6.out) HPG5.out (fr_set8 (b := w.heap.size + 1) (Fr.refl (fun b => b = w.heap.size + 1) w6) (fun _ => rfl) _ _ _ _ _ _ _ _)
  · exact fr_set8 hF6 (fun hl => absurd hl (by omega)) _ _ _ _ _ _ _ _
end Go.Proofs.YteofgpaceeibpaaGreat.ARead
namespace Go.Proofs.YteofgpaceeibpaaGreat.AGet
open Go.RowKit Go.Proofs.YteofgpaceeibpaaGreat.Gab Go.Proofs.YteofgpaceeibpaaGreat.Geom Go.Proofs.YteofgpaceeibpaaGreat.Sum Go.Proofs.YteofgpaceeibpaaGreat.Ref Go.Proofs.YteofgpaceeibpaaGreat.Par Go.Proofs.YteofgpaceeibpaaGreat.Fields Go.Proofs.YteofgpaceeibpaaGreat.Seal Go.Proofs.YteofgpaceeibpaaGreat.Nand Go.Proofs.YteofgpaceeibpaaGreat.NandA Go.Proofs.YteofgpaceeibpaaGreat.NandH Go.Proofs.YteofgpaceeibpaaGreat.ArrA Go.Proofs.YteofgpaceeibpaaGreat.ArrD Go.Proofs.YteofgpaceeibpaaGreat.AOrd Go.Proofs.YteofgpaceeibpaaGreat.AWrA Go.Proofs.YteofgpaceeibpaaGreat.StgA Go.Proofs.YteofgpaceeibpaaGreat.ARead
open Go.Proofs.YteofgpaceeibpaaGreat.Wr (InR)
open Go.Proofs.YteofgpaceeibpaaGreat.Heap (cell_is)
open Go.Proofs.YteofgpaceeibpaaGreat.Str (pcells)
open Go.Proofs.YteofgpaceeibpaaGreat.Open (openOf)
open Go.Proofs.YteofgpaceeibpaaGreat.AWrC
set_option linter.unusedVariables false
set_option linter.unusedSimpArgs false

/-- What a read of one member answers: the array then, the code, what is read. -/
structure One (σ : Ar) (m b q : Nat) (r : Ar × Int) (x : List Int × List Int) : Prop where
  read : σ.read m = r
  bytes : σ.bytes m b q = x
  inr : r.2 = 0 → InR 256 x.1 ∧ InR 256 x.2
/-- A page is found on the first member, or on the second. -/
def Last (τ : Ar) (m b q : Nat) (h : Head) (d : List Int) (σ' : Ar) : Prop := ∃ x, One τ m b q (σ', 0) x ∧ openOf x.1 x.2 = (h, true) ∧ d = x.1
def Gets (σ : Ar) (m b q : Nat) (h : Head) (d : List Int) (σ' : Ar) : Prop :=
  Last σ m b q h d σ' ∨ ∃ τ k x, τ.There ∧ One σ m b q (τ, k) x ∧ (k = 71 ∨ (k = 0 ∧ (openOf x.1 x.2).2 = false)) ∧ Last τ (m + 1) b q h d σ'
theorem read_keeps {σ : Ar} (m : Nat) {n : Nat} (h : σ.s.Safe (n + 1)) : (σ.read m).1.s.Safe n := by
  unfold Ar.read
  split
  · exact h.le (Nat.le_succ n)
  · split
    · exact h.le (Nat.le_succ n)
    · split
      · split
        · rw [(died_same _ _).1]; exact h.read _
        · rw [(died_same _ _).1]; exact h.read _
      · exact h.read _
/-- A read of a member's page. -/
def OnePost (σ : Ar) (K : ALay) (r : Ar × Int) (x : List Int × List Int) (w : World) (e : Ending) (w' : World) : Prop :=
  ∃ A n k B j i, e = .returned (.tuple #[.slice A n k, .slice B j i, .int .i64 r.2]) ∧ ArAt w' r.1 K ∧ Fr (AF K σ) w w' ∧
    (r.2 = 0 → Row 5 .u8 w' w.heap.size (.slice A n k) x.1 ∧ Row 5 .u8 w' w.heap.size (.slice B j i) x.2) ∧ (r.2 ≠ 0 → Value.slice A n k = .slice none 0 0 ∧ Value.slice B j i = .slice none 0 0)
theorem Read_one (σ τ : Ar) (K : ALay) (m seg row : Int) (r : Ar × Int) (x : List Int × List Int) (w : World) (hA : ArAt w τ K) (hth : τ.There) (hg : τ.s.g = σ.s.g) (hm0 : 0 ≤ m) (hm1 : m < σ.s.g.c) (ha : σ.s.g.At seg row) (ho : One τ m.toNat seg.toNat row.toNat r x) (n : Nat) (hs : τ.s.Safe (n + 1)) :
    Calls Tryz.prog 22 #[.pointer (some ⟨K.x, 0, none⟩), .int .i64 m, .int .i64 seg, .int .i64 row] w (OnePost σ K r x w) := by
  have hseg := ha.seg
  have hrow := ha.row
  have e1 : (m.toNat : Int) = m := by omega
  have e2 : (seg.toNat : Int) = seg := by omega
  have e3 : (row.toNat : Int) = row := by omega
  have h1 := ArrD.Read_calls τ K m.toNat seg.toNat row.toNat w hA hth (by rw [hg]; omega) (by rw [hg]; omega) (by unfold St.np; rw [hg]; omega) n hs
  rw [e1, e2, e3] at h1
  refine h1.mono ?_
  rintro e w' ⟨A, n, k, B, j, i, he, hA', hF, hz, hy⟩
  rw [ho.read] at he hA' hz hy
  rw [ho.bytes] at hz
  exact ⟨A, n, k, B, j, i, he, hA', hF.mono (fun b _ hb => (AF.eq hg b).1 hb), hz, hy⟩

set_option maxHeartbeats 8000000 in
set_option maxRecDepth 100000 in
theorem Get_calls (σ σ' : Ar) (K : ALay) (which n : Int) (h : Head) (d : List Int) (w : World) (hR : ArAt w σ K) (hth : σ.There) (hwh : 0 ≤ which ∧ which ≤ 1) (h0 : 0 ≤ n) (h1 : n < σ.s.g.room)
    (hg : Gets σ (2 * (n % σ.s.g.pairs)).toNat (4 + which).toNat (n / σ.s.g.pairs).toNat h d σ') (m0 : Nat) (hs : σ.s.Safe (m0 + 2)) :
    Calls Tryz.prog 52 #[dev K.x, .int .i64 which, .int .i64 n] w fun e w' => ∃ v, e = .returned (.tuple #[.agg (pcells h v), .int .i64 0]) ∧ Row 5 .u8 w' w.heap.size v d ∧ ArAt w' σ' K ∧ Fr (AF K σ) w w' := by
  have hok : σ.s.g.Ok := hR.nand.ok
  have HTH := As.mk hth
  have HLTF := As.mk (show ∀ b, AF K σ b → b < w.heap.size from fun b hb => by
    rcases hb with h | h | h
    · exact hR.nand.lt h
    · rw [h]; exact (Array.getElem?_eq_some_iff.1 hR.main).1
    · obtain ⟨cs, hv, _⟩ := hR.vols
      rw [h]; exact (Array.getElem?_eq_some_iff.1 hv).1)
  have HR := As.mk hR
  have HSF := As.mk hs
  have hsp := spot_range hok h0 h1
  have hb := hok.b
  have hc := hok.c
  have hp := hok.p
  have HAT := As.mk (show σ.s.g.At (4 + which) (n / σ.s.g.pairs) from ⟨by omega, by omega⟩)
  have HG := As.mk (fun w' (hf : Fr None_ w w') => ArrA.Geo_calls σ K w' (hR.none_ hf))
  have HSP := As.mk (fun w => Spot_calls σ.s.g n w hok h0 h1)
  have d0 : decide (which < 0) = false := decide_eq_false (by omega)
  have d1 : decide (1 < which) = false := decide_eq_false (by omega)
  have HGT := As.mk hg
  have hrz : 0 ≤ n / σ.s.g.pairs := hsp.1
  generalize n / σ.s.g.pairs = row at *
  generalize 2 * (n % σ.s.g.pairs) = lo at *
  have hws : IntKind.i64.wrap (4 + which) = 4 + which := by rw [IntKind.wrap_i64]; omega
  have HLO := As.mk hsp
  have HROW : As (∀ (τ : Ar) (k : Int) (r : Ar × Int) (x : List Int × List Int) (wr : World), ArAt wr τ K → τ.There → τ.s.g = σ.s.g → 0 ≤ k → k ≤ 1 → One τ (lo + k).toNat (4 + which).toNat row.toNat r x → (∃ n, τ.s.Safe (n + 1)) →
      Calls Tryz.prog 22 #[.pointer (some ⟨K.x, 0, none⟩), .int .i64 (lo + k), .int .i64 (4 + which), .int .i64 row] wr (OnePost σ K r x wr)) := ⟨fun τ k r x wr hA ht hg hk0 hk1 ho hs => by
    obtain ⟨n, hs⟩ := hs
    exact Read_one σ τ K (lo + k) (4 + which) row r x wr hA ht hg (by have := HLO.out; omega) (by have := HLO.out; omega) HAT.out ho n hs⟩
  unfold dev pcells Geo.val at *
  clear hR hth hs hok hg h0 h1
  have HPG1 := As.mk (heap_alloc_new w (.cells #[.int .u8 0, .int .u32 0, .int .u32 0, .int .u16 0, .int .u16 0, .int .u32 0, .int .u32 0, .slice none 0 0] 117))
  have HFW : As (Fr None_ w (w.alloc (.cells #[.int .u8 0, .int .u32 0, .int .u32 0, .int .u16 0, .int .u16 0, .int .u32 0, .int .u32 0, .slice none 0 0] 117))) := ⟨(Fr.refl _ w).alloc _⟩
  go_enter Tryz.func52, Tryz.ntmps52
  go_wp2_with fail
  ((with_reducible refine (HG.out _ HFW.out).mono ?_); rintro e w1 ⟨rfl, hf1⟩)
  have HF1 := As.mk (HFW.out.after hf1 (fun _ _ h => h))
  have HPGa := As.mk (hf1.heap HPG1.out (fun h => h))
  have HGEO := As.mk (heap_alloc_new w1 (.cells #[.int .i64 σ.s.g.c, .int .i64 σ.s.g.b, .int .i64 σ.s.g.p, .int .i64 σ.s.g.s] 24))
  have HPGb := As.mk (at_old (.cells #[.int .i64 σ.s.g.c, .int .i64 σ.s.g.b, .int .i64 σ.s.g.p, .int .i64 σ.s.g.s] 24) HPGa.out)
  have HF2 := As.mk (HF1.out.alloc (.cells #[.int .i64 σ.s.g.c, .int .i64 σ.s.g.b, .int .i64 σ.s.g.p, .int .i64 σ.s.g.s] 24))
  clear hf1
  go_upto_region 4 with fail
  generalize w1.alloc (.cells #[.int .i64 σ.s.g.c, .int .i64 σ.s.g.b, .int .i64 σ.s.g.p, .int .i64 σ.s.g.s] 24) = w2 at *
  generalize w1.heap.size = g9 at *
  obtain ⟨pb, hpb⟩ : ∃ pb, w.heap.size = pb := ⟨_, rfl⟩
  have HPB := As.mk hpb
  rw [hpb] at HPGb
  have z0 := cell_is (i := 0) HGEO.out rfl
  have z1 := cell_is (i := 1) HGEO.out rfl
  have z2 := cell_is (i := 2) HGEO.out rfl
  have z3 := cell_is (i := 3) HGEO.out rfl
  go_wp2_with fail
  ((with_reducible refine (HSP.out _).mono ?_); rintro e w3 ⟨rfl, hf3⟩)
  have HPGc := As.mk (hf3.heap HPGb.out (fun h => h))
  have HF3 := As.mk (HF2.out.after hf3 (fun _ _ h => h))
  have HR3 := As.mk (HR.out.none_ HF3.out)
  have HPBN := As.mk (show ¬ AF K σ pb from fun h => absurd (HLTF.out _ h) (by have := HPB.out; omega))
  clear hf3 z0 z1 z2 z3 HPGb HPGa HPG1
  go_wp2_with fail
  go_loopw [12, 13, 14, 15, 16, 17, 41] (fun v12 v13 v14 v15 v16 v17 v41 w' => ∃ (k : Int) (τ : Ar), v41 = .int .i64 k ∧ 0 ≤ k ∧ k ≤ 1 ∧ As (ArAt w' τ K ∧ τ.There ∧ τ.s.g = σ.s.g ∧ τ.s.Safe (m0 + (2 - k.toNat))) ∧ As (Fr (AF K σ) w3 w') ∧ As ((k = 0 ∧ τ = σ) ∨ (k = 1 ∧ Last τ (lo + 1).toNat (4 + which).toNat row.toNat h d σ'))) (fun _ _ _ _ _ _ v41 _ => 2 - (intOf v41).toNat)
  case atStart => exact ⟨0, σ, rfl, by omega, by omega, ⟨HR3.out, HTH.out, rfl, HSF.out⟩, ⟨Fr.refl _ _⟩, ⟨.inl ⟨rfl, rfl⟩⟩⟩
  case round =>
    obtain ⟨k, τ, rfl, hk0, hk1, HX, HST, HW⟩ := hrel
    have hlt : k < 2 := by omega
    have hlo0 : 0 ≤ lo := HLO.out.2.2.1
    have hlo1 : lo + 2 ≤ 16 := by have := HLO.out; omega
    have HSA : As (∃ n, τ.s.Safe (n + 1)) := ⟨⟨m0 + (1 - k.toNat), by rw [show m0 + (1 - k.toNat) + 1 = m0 + (2 - k.toNat) by omega]; exact HX.out.2.2.2⟩⟩
    have hsum : Last τ (lo + k).toNat (4 + which).toNat row.toNat h d σ' ∨ (k = 0 ∧ ∃ τ' e x, τ'.There ∧ One τ (lo + k).toNat (4 + which).toNat row.toNat (τ', e) x ∧ (e = 71 ∨ (e = 0 ∧ (openOf x.1 x.2).2 = false)) ∧ Last τ' (lo + 1).toNat (4 + which).toNat row.toNat h d σ') := by
      rcases HW.out with ⟨rfl, rfl⟩ | ⟨rfl, hl⟩
      · rcases HGT.out with h1 | ⟨τ', e, x, h1, h2, h3, h4⟩
        · exact .inl (by rw [show lo + 0 = lo by omega]; exact h1)
        · exact .inr ⟨rfl, τ', e, x, h1, by rw [show lo + 0 = lo by omega]; exact h2, h3, by rw [show (lo + 1).toNat = lo.toNat + 1 by omega]; exact h4⟩
      · exact .inl hl
    have HPGr := As.mk (HST.out.heap HPGc.out HPBN.out)
    rcases hsum with ⟨x, ho, hopn, hdx⟩ | ⟨hkz, τ', e', x, hth', ho, he, hl⟩
    · have HRD := As.mk (HROW.out τ k (σ', 0) x wr HX.out.1 HX.out.2.1 HX.out.2.2.1 hk0 hk1 ho HSA.out)
      obtain ⟨fd, fo⟩ := x
      dsimp only at hopn hdx
      subst hdx
      have hx1 := ho.inr rfl
      dsimp only at hx1
      have HOP := As.mk (fun (D1 O1 : Option Addr) (nd1 cd1 no1 co1 : Nat) (w' : World) (h1 : Rd .u8 w' O1 no1 fo) (h2 : Rd .u8 w' D1 nd1 d) (h3 : no1 ≤ co1) (h4 : nd1 ≤ cd1) => Open.Open_calls O1 D1 no1 co1 nd1 cd1 fo d w' h1 h2 hx1.2 hx1.1 h3 h4)
      rw [hopn] at HOP
      unfold Head.vals at HOP
      dsimp only at HOP
      have HSC := As.mk (HLTF.out)
      clear ho hopn hx1
      have HRAD := As.mk (AF.eq (K := K) (σ := σ) (σ' := τ) HX.out.2.2.1)
      go_wp2_with fail
      ((with_reducible refine HRD.out.mono ?_); rintro e w4 ⟨A3, n3, c3, A4, n4, c4, rfl, ha4, hf4, hz4, _⟩)
      have HR1 := As.mk (hz4 rfl).1
      have HR2 := As.mk (hz4 rfl).2
      have HZ3 := As.mk (show w.heap.size ≤ wr.heap.size from Nat.le_trans HF3.out.size HST.out.size)
      have HF4 := As.mk (((HF3.out.mono (T := AF K σ) (fun _ _ h => h.elim)).after HST.out (fun _ _ h => h)).after hf4 (fun _ _ h => h))
      have HPGd := As.mk (hf4.heap HPGr.out HPBN.out)
      have HA4 := As.mk ha4
      clear hz4 ha4 hf4
      obtain ⟨_, _, _, e3, hm3, hd3, _⟩ := HR1.out.rd
      obtain ⟨_, _, _, e4, hm4, hd4, _⟩ := HR2.out.rd
      injection e3 with q1 q2 q3
      injection e4 with q4 q5 q6
      subst q1 q2 q3 q4 q5 q6
      go_wp2_with fail
      ((with_reducible refine (HOP.out A3 A4 n3 c3 n4 c4 _ hd4.out hd3.out hm4.out hm3.out).mono ?_); rintro e w5 ⟨rfl, hf5⟩)
      have HF5 := As.mk hf5
      have HPGe := As.mk (hf5.heap HPGd.out (fun h => h))
      clear hf5
      go_upto_region 16 with fail
      have hnew := heap_alloc_new w5 (.cells #[.int .u8 h.kind, .int .u32 h.epoch, .int .u32 h.batch, .int .u16 h.index, .int .u16 h.count, .int .u32 h.block, .int .u32 h.more] 112)
      have HF6 := As.mk (HF5.out.alloc (.cells #[.int .u8 h.kind, .int .u32 h.epoch, .int .u32 h.batch, .int .u16 h.index, .int .u16 h.count, .int .u32 h.block, .int .u32 h.more] 112))
      generalize w5.alloc (.cells #[.int .u8 h.kind, .int .u32 h.epoch, .int .u32 h.batch, .int .u16 h.index, .int .u16 h.count, .int .u32 h.block, .int .u32 h.more] 112) = w6 at *
      have hpg := HF6.out.heap HPGd.out (fun h => h)
      have HPG5 := As.mk hpg
      generalize hg20 : w5.heap.size = g20 at *
      clear hg20
      have k0 := cell_is (i := 0) hnew rfl
      have k1 := cell_is (i := 1) hnew rfl
      have k2 := cell_is (i := 2) hnew rfl
      have k3 := cell_is (i := 3) hnew rfl
      have k4 := cell_is (i := 4) hnew rfl
      have k5 := cell_is (i := 5) hnew rfl
      have k6 := cell_is (i := 6) hnew rfl
      have x0 := cell_is (i := 0) hpg rfl
      have x1 := cell_is (i := 1) hpg rfl
      have x2 := cell_is (i := 2) hpg rfl
      have x3 := cell_is (i := 3) hpg rfl
      have x4 := cell_is (i := 4) hpg rfl
      have x5 := cell_is (i := 5) hpg rfl
      have x6 := cell_is (i := 6) hpg rfl
      have x7 := cell_is (i := 7) hpg rfl
      have y0 := free_of (i := 0) hpg
      have y1 := free_of (i := 1) hpg
      have y2 := free_of (i := 2) hpg
      have y3 := free_of (i := 3) hpg
      have y4 := free_of (i := 4) hpg
      have y5 := free_of (i := 5) hpg
      have y6 := free_of (i := 6) hpg
      have y7 := free_of (i := 7) hpg
      clear hnew hpg
      go_wp2_with fail
      have hr6 := HR1.out.none_ HF6.out
      have hF6 : Fr (AF K σ) w w6 := HF4.out.after HF6.out (fun _ _ h => h.elim)
      refine bodyPost_ret (v := .tuple #[.agg #[.int .u8 h.kind, .int .u32 h.epoch, .int .u32 h.batch, .int .u16 h.index, .int .u16 h.count, .int .u32 h.block, .int .u32 h.more, .slice A3 n3 c3], .int .i64 0]) (by simp [results, Tryz.results52, go_sem, x0, x1, x2, x3, x4, x5, x6, x7]) rfl ⟨_, rfl, ?_, ?_, ?_⟩
      · refine Row.fr (S := fun b => b = pb) (hr6.lower HZ3.out) ?_ (fun b hbo e => Row.ne hr6 HPG5.out (by decide) (e ▸ hbo))
        exact fr_set8 (b := pb) (Fr.refl (fun b => b = pb) w6) (fun _ => rfl) _ _ _ _ _ _ _ _
      · exact beside (HA4.out.none_ HF6.out) HPG5.out (fr_set8 (b := pb) (Fr.refl (fun b => b = pb) w6) (fun _ => rfl) _ _ _ _ _ _ _ _)
      · exact fr_set8 hF6 (fun hl => absurd hl (by have := HPB.out; omega)) _ _ _ _ _ _ _ _
    · subst hkz
      have hrk := read_keeps (σ := τ) (lo + 0).toNat (n := m0 + 1) (by have := HX.out.2.2.2; exact this)
      have hrs := read_same τ (lo + 0).toNat
      rw [ho.read] at hrk hrs
      dsimp only at hrk hrs
      have HN : As (τ'.There ∧ τ'.s.g = σ.s.g ∧ τ'.s.Safe (m0 + (2 - (1 : Int).toNat))) := ⟨hth', hrs.trans HX.out.2.2.1, hrk⟩
      have HL := As.mk hl
      rcases he with rfl | ⟨rfl, hopn⟩
      · have HRD := HROW.out τ 0 (τ', 71) x wr HX.out.1 HX.out.2.1 HX.out.2.2.1 hk0 hk1 ho HSA.out
        rw [Int.add_zero] at HRD
        replace HRD := As.mk HRD
        clear ho hl hth' hrk hrs
        go_wp2_with fail
        ((with_reducible refine HRD.out.mono ?_); rintro e w4 ⟨A3, n3, c3, A4, n4, c4, rfl, ha4, hf4, _, hy4⟩)
        obtain ⟨y1, y2⟩ := hy4 (show (71 : Int) ≠ 0 by decide)
        injection y1 with q1 q2 q3
        injection y2 with q4 q5 q6
        subst q1 q2 q3 q4 q5 q6
        have HA4 := As.mk ha4
        have HF4 := As.mk (HST.out.after hf4 (fun _ _ h => h))
        clear hf4 ha4 hy4
        go_wp2_with fail
        exact ⟨⟨1, τ', rfl, by omega, by omega, ⟨HA4.out, HN.out⟩, HF4, ⟨.inr ⟨rfl, HL.out⟩⟩⟩, by simp [intOf]⟩
      · have HRD := HROW.out τ 0 (τ', 0) x wr HX.out.1 HX.out.2.1 HX.out.2.2.1 hk0 hk1 ho HSA.out
        rw [Int.add_zero] at HRD
        replace HRD := As.mk HRD
        obtain ⟨fd, fo⟩ := x
        dsimp only at hopn
        have hx1 := ho.inr rfl
        dsimp only at hx1
        have HOP := As.mk (fun (D1 O1 : Option Addr) (nd1 cd1 no1 co1 : Nat) (w' : World) (h1 : Rd .u8 w' O1 no1 fo) (h2 : Rd .u8 w' D1 nd1 fd) (h3 : no1 ≤ co1) (h4 : nd1 ≤ cd1) => Open.Open_calls O1 D1 no1 co1 nd1 cd1 fo fd w' h1 h2 hx1.2 hx1.1 h3 h4)
        rw [hopn] at HOP
        unfold Head.vals at HOP
        clear ho hl hth' hrk hrs hopn hx1
        generalize (openOf fd fo).1 = ho at *
        go_wp2_with fail
        ((with_reducible refine HRD.out.mono ?_); rintro e w4 ⟨A3, n3, c3, A4, n4, c4, rfl, ha4, hf4, hz4, _⟩)
        have HR1 := As.mk (hz4 rfl).1
        have HR2 := As.mk (hz4 rfl).2
        have HF4 := As.mk (HST.out.after hf4 (fun _ _ h => h))
        have HA4 := As.mk ha4
        clear hz4 ha4 hf4
        obtain ⟨_, _, _, e3, hm3, hd3, _⟩ := HR1.out.rd
        obtain ⟨_, _, _, e4, hm4, hd4, _⟩ := HR2.out.rd
        injection e3 with q1 q2 q3
        injection e4 with q4 q5 q6
        subst q1 q2 q3 q4 q5 q6
        go_wp2_with ((with_reducible refine (HOP.out A3 A4 n3 c3 n4 c4 _ hd4.out hd3.out hm4.out hm3.out).mono ?_); rintro e w5 ⟨rfl, hf5⟩; have HF5 := As.mk hf5; clear hf5)
        exact ⟨⟨1, τ', rfl, by omega, by omega, ⟨(HA4.out.none_ (HF5.out.alloc _)), HN.out⟩, ⟨HF4.out.after (HF5.out.alloc _) (fun _ _ h => h.elim)⟩, ⟨.inr ⟨rfl, HL.out⟩⟩⟩, by simp [intOf]⟩
end Go.Proofs.YteofgpaceeibpaaGreat.AGet

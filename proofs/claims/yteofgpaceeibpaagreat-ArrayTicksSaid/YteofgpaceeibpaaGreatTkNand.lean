/- Chips in memory (nand.Array): its blocks are told apart by their types. No walk. -/
import Derived.Test.YteofgpaceeibpaaGreatTkAIter
import Derived.Test.YteofgpaceeibpaaGreatTkRef5
namespace Go.Proofs.YteofgpaceeibpaaGreat.Nand
open Go.RowKit Gab Wr Geom
set_option linter.unusedVariables false
set_option linter.unusedSimpArgs false

/-- What comes at an operation. -/
structure Ev where
  op : Int
  kind : Int
  chip : Int
  left : List Int
/-- A block. -/
structure Blk where
  pg : Nat → Option (List Int × List Int)
  next : Int
  er : Int
  bad : Bool
/-- Chips. -/
structure St where
  g : Geo
  blk : Nat → Nat → Blk
  dead : Nat → Bool
  evs : List Ev
  ops : Int
  off : Bool
def St.n (s : St) : Nat := (s.g.c + 1).toNat
def St.nb (s : St) : Nat := s.g.b.toNat
def St.np (s : St) : Nat := s.g.p.toNat
/-- Where they lie. -/
structure Lay where
  C : Nat
  D : Nat
  B : Nat → Nat
  P : Nat → Nat → Nat
  EA : Option Addr
  en : Nat
  ec : Nat
  cap : Nat
/-- The blocks that an operation may write. -/
def NF (p : Nat) (L : Lay) (n nb : Nat) (b : Nat) : Prop := b = p ∨ b = L.C ∨ b = L.D ∨ (∃ c, c < n ∧ b = L.B c) ∨ (∃ c k, c < n ∧ k < nb ∧ b = L.P c k)
def U8 (w : World) (b : Nat) : Prop := ∃ cs, w.heap[b]? = some (.cells cs 5 (0, 0))
theorem U8.fr {S : Nat → Prop} {w w' : World} {b : Nat} (h : U8 w b) (hf : Fr S w w') (hS : ¬ S b) : U8 w' b := by
  obtain ⟨cs, h⟩ := h
  exact ⟨cs, hf.heap h hS⟩
/-- A slice of bytes, whose block is one of bytes. -/
def Bys (w : World) (v : Value) (xs : List Int) : Prop := ∃ A n c, v = .slice (some A) n c ∧ n ≤ c ∧ Rd .u8 w (some A) n xs ∧ InR 256 xs ∧ U8 w A.block ∧ n ≤ 1000000
theorem Bys.fr {S : Nat → Prop} {w w' : World} {v : Value} {xs : List Int} (h : Bys w v xs) (hf : Fr S w w') (hS : ∀ b, U8 w b → ¬ S b) : Bys w' v xs := by
  obtain ⟨A, n, c, rfl, h1, h2, h3, h4, h5⟩ := h
  exact ⟨A, n, c, rfl, h1, h2.fr hf (fun ad e _ => by injection e with e; subst e; exact hS _ h4), h3, h4.fr hf (hS _ h4), h5⟩
theorem Row.bys {w : World} {base : Nat} {v : Value} {xs : List Int} (h : Row 5 .u8 w base v xs) (hx : 0 < xs.length) (hl : xs.length ≤ 1000000) (hr : InR 256 xs) : Bys w v xs := by
  rcases h.2 with ⟨rfl, hn⟩ | ⟨g, cap, cur, rfl, hb, hg, hc, _⟩
  · omega
  · obtain ⟨A, n, c, e, h1, h2, h3⟩ := h.rd
    injection e with e1 e2 e3
    subst e1 e2 e3
    exact ⟨_, _, _, rfl, h1.out, h2.out, hr, ⟨cur, hg⟩, hl⟩
/-- A page as it stands: its bytes, and those beside it; erased: neither. -/
def PageAt (w : World) (v1 v2 : Value) : Option (List Int × List Int) → Prop
  | none => v1 = .slice none 0 0 ∧ v2 = .slice none 0 0
  | some x => Bys w v1 x.1 ∧ Bys w v2 x.2
theorem PageAt.fr {S : Nat → Prop} {w w' : World} {v1 v2 : Value} {x : Option (List Int × List Int)} (h : PageAt w v1 v2 x) (hf : Fr S w w') (hS : ∀ b, U8 w b → ¬ S b) : PageAt w' v1 v2 x := by
  cases x with
  | none => exact h
  | some x => exact ⟨h.1.fr hf hS, h.2.fr hf hS⟩
/-- The events. -/
structure Evs (w : World) (F : Nat → Prop) (L : Lay) (evs : List Ev) : Prop where
  len : L.en = evs.length
  lec : L.en ≤ L.ec
  few : L.en ≤ 1000
  cells : ∀ i, i < evs.length → ∃ ad e LA ln lc, L.EA = some ad ∧ evs[i]? = some e ∧ w.cell? (ad.add (i * 4)) = some (.int .i64 e.op) ∧ w.cell? (ad.add (i * 4 + 1)) = some (.int .i64 e.kind) ∧ w.cell? (ad.add (i * 4 + 2)) = some (.int .i64 e.chip) ∧ w.cell? (ad.add (i * 4 + 3)) = some (.slice LA ln lc) ∧
    ln ≤ lc ∧ Rd .u8 w LA ln e.left ∧ InR 256 e.left ∧ ¬ F ad.block ∧ ∀ x, LA = some x → 0 < ln → ¬ F x.block
  ty : 0 < evs.length → ∃ ad cs, L.EA = some ad ∧ w.heap[ad.block]? = some (.cells cs 50 (0, 0))
  tl : ∀ i, i < evs.length → ∀ ad LA ln lc, L.EA = some ad → w.cell? (ad.add (i * 4 + 3)) = some (.slice LA ln lc) → ∀ x, LA = some x → 0 < ln → U8 w x.block
theorem Evs.frG {S F : Nat → Prop} {w w' : World} {L : Lay} {evs : List Ev} (h : Evs w F L evs) (hf : Fr S w w') (hE : 0 < evs.length → ∀ ad, L.EA = some ad → ¬ S ad.block) (hU : ∀ i, i < evs.length → ∀ ad LA ln lc, L.EA = some ad → w.cell? (ad.add (i * 4 + 3)) = some (.slice LA ln lc) → ∀ x, LA = some x → 0 < ln → ¬ S x.block) : Evs w' F L evs := by
  have hc4 : ∀ i, i < evs.length → ∀ ad LA ln lc, L.EA = some ad → w'.cell? (ad.add (i * 4 + 3)) = some (.slice LA ln lc) → w.cell? (ad.add (i * 4 + 3)) = some (.slice LA ln lc) := fun i hi ad LA ln lc ea hc => by
    obtain ⟨ad', e, LA', ln', lc', h1, h2, h3, h4, h5, h6, h7⟩ := h.cells i hi
    obtain rfl : ad = ad' := by rw [ea] at h1; injection h1
    have h6' := hf.cell h6 (by rw [add_block]; exact hE (by omega) ad ea)
    rw [h6'] at hc
    rw [h6]
    exact hc
  refine ⟨h.len, h.lec, h.few, fun i hi => ?_, fun hp => ?_, fun i hi ad LA ln lc ea hc x ex hn => ?_⟩
  · obtain ⟨ad, e, LA, ln, lc, h1, h2, h3, h4, h5, h6, h7, h8, h9, h10, h11⟩ := h.cells i hi
    have hb : ¬ S ad.block := hE (by omega) ad h1
    exact ⟨ad, e, LA, ln, lc, h1, h2, hf.cell h3 (by rw [add_block]; exact hb), hf.cell h4 (by rw [add_block]; exact hb), hf.cell h5 (by rw [add_block]; exact hb), hf.cell h6 (by rw [add_block]; exact hb), h7, h8.fr hf (fun x ex hn => hU i hi ad LA ln lc h1 h6 x ex hn), h9, h10, h11⟩
  · obtain ⟨ad, cs, ea, hc⟩ := h.ty hp
    exact ⟨ad, cs, ea, hf.heap hc (hE hp ad ea)⟩
  · have hcw := hc4 i hi ad LA ln lc ea hc
    exact (h.tl i hi ad LA ln lc ea hcw x ex hn).fr hf (hU i hi ad LA ln lc ea hcw x ex hn)
theorem Evs.fr {S F : Nat → Prop} {w w' : World} {L : Lay} {evs : List Ev} (h : Evs w F L evs) (hf : Fr S w w') (hS : ∀ b, b < w.heap.size → S b → F b) : Evs w' F L evs := by
  refine h.frG hf (fun hp ad ea hs => ?_) (fun i hi ad LA ln lc ea hc x ex hn hs => ?_)
  · obtain ⟨ad', e, LA, ln, lc, h1, h2, h3, _, _, _, _, _, _, h10, _⟩ := h.cells 0 hp
    obtain rfl : ad = ad' := by rw [ea] at h1; injection h1
    exact h10 (hS _ (by have := World.block_lt_of_cell? w _ h3; rwa [add_block] at this) hs)
  · obtain ⟨ad', e, LA', ln', lc', h1, h2, h3, h4, h5, h6, h7, h8, h9, h10, h11⟩ := h.cells i hi
    obtain rfl : ad = ad' := by rw [ea] at h1; injection h1
    rw [h6] at hc
    injection hc with hc
    injection hc with ha hb hd
    subst ha hb hd
    exact h11 x ex hn (hS _ (h8.lt x ex hn) hs)
/-- A write to blocks of other types. -/
theorem Evs.typed {S F : Nat → Prop} {w w' : World} {L : Lay} {evs : List Ev} (h : Evs w F L evs) (hf : Fr S w w') (hS : ∀ b cs T f, S b → w.heap[b]? = some (.cells cs T f) → T ≠ 5 ∧ T ≠ 50) : Evs w' F L evs :=
  h.frG hf (fun hp ad ea hs => by
    obtain ⟨ad', cs, ea', hc⟩ := h.ty hp
    obtain rfl : ad = ad' := by rw [ea] at ea'; injection ea'
    exact (hS _ _ _ _ hs hc).2 rfl) (fun i hi ad LA ln lc ea hc x ex hn hs => by
    obtain ⟨cs, hu⟩ := h.tl i hi ad LA ln lc ea hc x ex hn
    exact (hS _ _ _ _ hs hu).1 rfl)
/-- Chips in memory. -/
structure Nand (w : World) (p : Nat) (s : St) (L : Lay) : Prop where
  ok : s.g.Ok
  main : w.heap[p]? = some (.cells #[.int .i64 s.g.c, .int .i64 s.g.b, .int .i64 s.g.p, .int .i64 s.g.s, .slice (some ⟨L.C, 0, none⟩) s.n L.cap, .slice (some ⟨L.D, 0, none⟩) s.n s.n, .slice L.EA L.en L.ec, .int .i64 s.ops, .bool s.off] 85 (0, 0))
  capn : s.n ≤ L.cap
  out : ∃ cs, w.heap[L.C]? = some (.cells cs 86 (0, 0)) ∧ ∀ c, c < s.n → cs[c]? = some (.slice (some ⟨L.B c, 0, none⟩) s.nb s.nb)
  ded : ∃ cs, w.heap[L.D]? = some (.cells cs 4 (0, 0)) ∧ ∀ c, c < s.n → cs[c]? = some (.bool (s.dead c))
  chp : ∀ c, c < s.n → ∃ cs, w.heap[L.B c]? = some (.cells cs 89 (0, 0)) ∧ ∀ b, b < s.nb → cs[b * 4]? = some (.slice (some ⟨L.P c b, 0, none⟩) s.np s.np) ∧ cs[b * 4 + 1]? = some (.int .i64 (s.blk c b).next) ∧ cs[b * 4 + 2]? = some (.int .i64 (s.blk c b).er) ∧ cs[b * 4 + 3]? = some (.bool (s.blk c b).bad)
  pgs : ∀ c b, c < s.n → b < s.nb → ∃ cs, w.heap[L.P c b]? = some (.cells cs 176 (0, 0)) ∧ cs.size = s.np * 2 ∧ ∀ q, q < s.np → ∃ v1 v2, cs[q * 2]? = some v1 ∧ cs[q * 2 + 1]? = some v2 ∧ PageAt w v1 v2 ((s.blk c b).pg q)
  injB : ∀ c c', c < s.n → c' < s.n → L.B c = L.B c' → c = c'
  injP : ∀ c b c' b', c < s.n → b < s.nb → c' < s.n → b' < s.nb → L.P c b = L.P c' b' → c = c' ∧ b = b'
  evs : Evs w (NF p L s.n s.nb) L s.evs

theorem blk_ne {w : World} {a b : Nat} {cs cs' : Array Value} {T T' : TypeId} {f f' : Nat × Nat} (ha : w.heap[a]? = some (.cells cs T f)) (hb : w.heap[b]? = some (.cells cs' T' f')) (hT : T ≠ T') : a ≠ b := by
  rintro rfl
  rw [ha] at hb
  injection hb with hb
  injection hb with _ hb
  exact hT hb
/-- The types of its blocks. -/
theorem Nand.ty {w : World} {p : Nat} {s : St} {L : Lay} (h : Nand w p s L) {b : Nat} (hb : NF p L s.n s.nb b) : ∃ cs T, w.heap[b]? = some (.cells cs T (0, 0)) ∧ (T = 85 ∨ T = 86 ∨ T = 4 ∨ T = 89 ∨ T = 176) := by
  rcases hb with rfl | rfl | rfl | ⟨c, hc, rfl⟩ | ⟨c, k, hc, hk, rfl⟩
  · exact ⟨_, _, h.main, .inl rfl⟩
  · obtain ⟨cs, e, _⟩ := h.out
    exact ⟨cs, _, e, .inr (.inl rfl)⟩
  · obtain ⟨cs, e, _⟩ := h.ded
    exact ⟨cs, _, e, .inr (.inr (.inl rfl))⟩
  · obtain ⟨cs, e, _⟩ := h.chp c hc
    exact ⟨cs, _, e, .inr (.inr (.inr (.inl rfl)))⟩
  · obtain ⟨cs, e, _⟩ := h.pgs c k hc hk
    exact ⟨cs, _, e, .inr (.inr (.inr (.inr rfl)))⟩
theorem Nand.lt {w : World} {p : Nat} {s : St} {L : Lay} (h : Nand w p s L) {b : Nat} (hb : NF p L s.n s.nb b) : b < w.heap.size := by
  obtain ⟨cs, T, e, _⟩ := h.ty hb
  exact (Array.getElem?_eq_some_iff.1 e).1
/-- A block of another type is none of its. -/
theorem Nand.ne {w : World} {p : Nat} {s : St} {L : Lay} (h : Nand w p s L) {b : Nat} {cs : Array Value} {T : TypeId} {f : Nat × Nat} (hb : w.heap[b]? = some (.cells cs T f)) (hT : T ≠ 85 ∧ T ≠ 86 ∧ T ≠ 4 ∧ T ≠ 89 ∧ T ≠ 176) : ¬ NF p L s.n s.nb b := fun hn => by
  obtain ⟨cs', T', e, ht⟩ := h.ty hn
  rw [hb] at e
  injection e with e
  injection e with _ e
  subst e
  rcases ht with e | e | e | e | e
  · exact hT.1 e
  · exact hT.2.1 e
  · exact hT.2.2.1 e
  · exact hT.2.2.2.1 e
  · exact hT.2.2.2.2 e
theorem Nand.u8 {w : World} {p : Nat} {s : St} {L : Lay} (h : Nand w p s L) {b : Nat} (hb : U8 w b) : ¬ NF p L s.n s.nb b := by
  obtain ⟨cs, e⟩ := hb
  exact h.ne e ⟨by decide, by decide, by decide, by decide, by decide⟩
theorem Nand.fr {S : Nat → Prop} {w w' : World} {p : Nat} {s : St} {L : Lay} (h : Nand w p s L) (hf : Fr S w w') (hS : ∀ b, b < w.heap.size → ¬ (S b ∧ NF p L s.n s.nb b)) (hU : ∀ b, U8 w b → ¬ S b) (hE : Evs w' (NF p L s.n s.nb) L s.evs) : Nand w' p s L := by
  have hn : ∀ b, NF p L s.n s.nb b → ¬ S b := fun b hb hs => hS b (h.lt hb) ⟨hs, hb⟩
  exact {
    ok := h.ok
    main := hf.heap h.main (hn _ (.inl rfl))
    capn := h.capn
    out := by
      obtain ⟨cs, e, hc⟩ := h.out
      exact ⟨cs, hf.heap e (hn _ (.inr (.inl rfl))), hc⟩
    ded := by
      obtain ⟨cs, e, hc⟩ := h.ded
      exact ⟨cs, hf.heap e (hn _ (.inr (.inr (.inl rfl)))), hc⟩
    chp := fun c hc => by
      obtain ⟨cs, e, hb⟩ := h.chp c hc
      exact ⟨cs, hf.heap e (hn _ (.inr (.inr (.inr (.inl ⟨c, hc, rfl⟩))))), hb⟩
    pgs := fun c b hc hb => by
      obtain ⟨cs, e, hz, hq⟩ := h.pgs c b hc hb
      refine ⟨cs, hf.heap e (hn _ (.inr (.inr (.inr (.inr ⟨c, b, hc, hb, rfl⟩))))), hz, fun q hq' => ?_⟩
      obtain ⟨v1, v2, e1, e2, h3⟩ := hq q hq'
      exact ⟨v1, v2, e1, e2, h3.fr hf hU⟩
    injB := h.injB
    injP := h.injP
    evs := hE }
theorem Nand.none_ {w w' : World} {p : Nat} {s : St} {L : Lay} (h : Nand w p s L) (hf : Fr None_ w w') : Nand w' p s L :=
  h.fr hf (fun _ _ h => h.1) (fun _ _ h => h) (h.evs.fr hf (fun _ _ h => h.elim))
/-- A write to blocks of other types. -/
theorem Nand.typed {S : Nat → Prop} {w w' : World} {p : Nat} {s : St} {L : Lay} (h : Nand w p s L) (hf : Fr S w w')
    (hS : ∀ b cs T f, S b → w.heap[b]? = some (.cells cs T f) → (T ≠ 85 ∧ T ≠ 86 ∧ T ≠ 4 ∧ T ≠ 89 ∧ T ≠ 176) ∧ T ≠ 5 ∧ T ≠ 50) : Nand w' p s L :=
  h.fr hf (fun b hb hh => by
    obtain ⟨cs, T, e, _⟩ := h.ty hh.2
    exact h.ne e (hS _ _ _ _ hh.1 e).1 hh.2) (fun b hu hs => by obtain ⟨cs, e⟩ := hu; exact (hS _ _ _ _ hs e).2.1 rfl) (h.evs.typed hf (fun b cs T f hs e => (hS b cs T f hs e).2))
/-- A block of another type is written. -/
theorem Nand.one {w w' : World} {p b : Nat} {s : St} {L : Lay} {cs : Array Value} {T : TypeId} {f : Nat × Nat} (h : Nand w p s L) (hb : w.heap[b]? = some (.cells cs T f)) (hf : Fr (fun i => i = b) w w')
    (hT : (T ≠ 85 ∧ T ≠ 86 ∧ T ≠ 4 ∧ T ≠ 89 ∧ T ≠ 176) ∧ T ≠ 5 ∧ T ≠ 50) : Nand w' p s L :=
  h.typed hf (fun b' cs' T' f' e hb' => by
    subst e
    rw [hb] at hb'
    injection hb' with hb'
    injection hb' with _ hb'
    subst hb'
    exact hT)
/-! ### what an operation turns -/
/-- How many operations there were, and whether the power is gone. -/
theorem Nand.setMain {w w' : World} {p : Nat} {s : St} {L : Lay} (h : Nand w p s L) (ops : Int) (off : Bool) (hf : Fr (fun b => b = p) w w')
    (hm : w'.heap[p]? = some (.cells #[.int .i64 s.g.c, .int .i64 s.g.b, .int .i64 s.g.p, .int .i64 s.g.s, .slice (some ⟨L.C, 0, none⟩) s.n L.cap, .slice (some ⟨L.D, 0, none⟩) s.n s.n, .slice L.EA L.en L.ec, .int .i64 ops, .bool off] 85 (0, 0))) : Nand w' p { s with ops := ops, off := off } L := by
  have hU : ∀ b, U8 w b → ¬ b = p := fun b hb e => h.u8 hb (.inl e)
  exact {
    ok := h.ok
    main := hm
    capn := h.capn
    out := by
      obtain ⟨cs, e, hc⟩ := h.out
      exact ⟨cs, hf.heap e (blk_ne e h.main (by decide)), hc⟩
    ded := by
      obtain ⟨cs, e, hc⟩ := h.ded
      exact ⟨cs, hf.heap e (blk_ne e h.main (by decide)), hc⟩
    chp := fun c hc => by
      obtain ⟨cs, e, hb⟩ := h.chp c hc
      exact ⟨cs, hf.heap e (blk_ne e h.main (by decide)), hb⟩
    pgs := fun c b hc hb => by
      obtain ⟨cs, e, hz, hq⟩ := h.pgs c b hc hb
      refine ⟨cs, hf.heap e (blk_ne e h.main (by decide)), hz, fun q hq' => ?_⟩
      obtain ⟨v1, v2, e1, e2, h3⟩ := hq q hq'
      exact ⟨v1, v2, e1, e2, h3.fr hf hU⟩
    injB := h.injB
    injP := h.injP
    evs := h.evs.fr hf (fun b _ e => .inl e) }
/-- A chip's death. -/
theorem Nand.setDead {w w' : World} {p : Nat} {s : St} {L : Lay} (h : Nand w p s L) (k : Nat) (v : Bool) (hk : k < s.n) (hf : Fr (fun b => b = L.D) w w')
    (hm : ∀ cs, w.heap[L.D]? = some (.cells cs 4 (0, 0)) → w'.heap[L.D]? = some (.cells (cs.setIfInBounds k (.bool v)) 4 (0, 0))) : Nand w' p { s with dead := fun c => if c = k then v else s.dead c } L := by
  have hU : ∀ b, U8 w b → ¬ b = L.D := fun b hb e => h.u8 hb (.inr (.inr (.inl e)))
  obtain ⟨ds, hd, hds⟩ := h.ded
  exact {
    ok := h.ok
    main := hf.heap h.main (blk_ne h.main hd (by decide))
    capn := h.capn
    out := by
      obtain ⟨cs, e, hc⟩ := h.out
      exact ⟨cs, hf.heap e (blk_ne e hd (by decide)), hc⟩
    ded := by
      refine ⟨_, hm _ hd, fun c hc => ?_⟩
      show _ = some (Value.bool (if c = k then v else s.dead c))
      by_cases e : c = k
      · subst e
        rw [if_pos rfl, Array.getElem?_setIfInBounds_self_of_lt (by have := hds c hc; exact (Array.getElem?_eq_some_iff.1 this).1)]
      · rw [if_neg e, Array.getElem?_setIfInBounds_ne (fun h => e h.symm)]
        exact hds c hc
    chp := fun c hc => by
      obtain ⟨cs, e, hb⟩ := h.chp c hc
      exact ⟨cs, hf.heap e (blk_ne e hd (by decide)), hb⟩
    pgs := fun c b hc hb => by
      obtain ⟨cs, e, hz, hq⟩ := h.pgs c b hc hb
      refine ⟨cs, hf.heap e (blk_ne e hd (by decide)), hz, fun q hq' => ?_⟩
      obtain ⟨v1, v2, e1, e2, h3⟩ := hq q hq'
      exact ⟨v1, v2, e1, e2, h3.fr hf hU⟩
    injB := h.injB
    injP := h.injP
    evs := h.evs.fr hf (fun b _ e => .inr (.inr (.inl e))) }
/-- A block turned. -/
def St.setB (s : St) (c k : Nat) (nb : Blk) : St := { s with blk := fun c' k' => if c' = c ∧ k' = k then nb else s.blk c' k' }
/-- A block's numbers. -/
theorem Nand.setB {w w' : World} {p : Nat} {s : St} {L : Lay} (h : Nand w p s L) (c k : Nat) (hc : c < s.n) (hk : k < s.nb) (nb : Blk) (hpg : nb.pg = (s.blk c k).pg) (hf : Fr (fun b => b = L.B c) w w')
    (hm : ∀ cs, w.heap[L.B c]? = some (.cells cs 89 (0, 0)) → ∃ cs', w'.heap[L.B c]? = some (.cells cs' 89 (0, 0)) ∧ (∀ j, j / 4 ≠ k → cs'[j]? = cs[j]?) ∧ cs'[k * 4]? = cs[k * 4]? ∧ cs'[k * 4 + 1]? = some (.int .i64 nb.next) ∧ cs'[k * 4 + 2]? = some (.int .i64 nb.er) ∧ cs'[k * 4 + 3]? = some (.bool nb.bad)) :
    Nand w' p (s.setB c k nb) L := by
  obtain ⟨bs, hb, hbs⟩ := h.chp c hc
  have hU : ∀ b, U8 w b → ¬ b = L.B c := fun b hb e => h.u8 hb (.inr (.inr (.inr (.inl ⟨c, hc, e⟩))))
  obtain ⟨cs', hb', h1, h2, h3, h4, h5⟩ := hm _ hb
  exact {
    ok := h.ok
    main := hf.heap h.main (blk_ne h.main hb (by decide))
    capn := h.capn
    out := by
      obtain ⟨cs, e, hc⟩ := h.out
      exact ⟨cs, hf.heap e (blk_ne e hb (by decide)), hc⟩
    ded := by
      obtain ⟨cs, e, hc⟩ := h.ded
      exact ⟨cs, hf.heap e (blk_ne e hb (by decide)), hc⟩
    chp := fun c' hc' => by
      by_cases e : c' = c
      · subst e
        refine ⟨cs', hb', fun b hb1 => ?_⟩
        by_cases eb : b = k
        · subst eb
          show cs'[b * 4]? = _ ∧ cs'[b * 4 + 1]? = some (.int .i64 (if c' = c' ∧ b = b then nb else s.blk c' b).next) ∧ cs'[b * 4 + 2]? = some (.int .i64 (if c' = c' ∧ b = b then nb else s.blk c' b).er) ∧ cs'[b * 4 + 3]? = some (.bool (if c' = c' ∧ b = b then nb else s.blk c' b).bad)
          rw [if_pos ⟨rfl, rfl⟩, h2]
          exact ⟨(hbs b hb1).1, h3, h4, h5⟩
        · show cs'[b * 4]? = _ ∧ cs'[b * 4 + 1]? = some (.int .i64 (if c' = c' ∧ b = k then nb else s.blk c' b).next) ∧ cs'[b * 4 + 2]? = some (.int .i64 (if c' = c' ∧ b = k then nb else s.blk c' b).er) ∧ cs'[b * 4 + 3]? = some (.bool (if c' = c' ∧ b = k then nb else s.blk c' b).bad)
          rw [if_neg (fun h => eb h.2), h1 _ (by omega), h1 _ (by omega), h1 _ (by omega), h1 _ (by omega)]
          exact hbs b hb1
      · obtain ⟨cs, e1, hb1⟩ := h.chp c' hc'
        refine ⟨cs, hf.heap e1 (fun e2 => e (h.injB _ _ hc' hc e2)), fun b hb2 => ?_⟩
        show cs[b * 4]? = _ ∧ cs[b * 4 + 1]? = some (.int .i64 (if c' = c ∧ b = k then nb else s.blk c' b).next) ∧ cs[b * 4 + 2]? = some (.int .i64 (if c' = c ∧ b = k then nb else s.blk c' b).er) ∧ cs[b * 4 + 3]? = some (.bool (if c' = c ∧ b = k then nb else s.blk c' b).bad)
        rw [if_neg (fun h => e h.1)]
        exact hb1 b hb2
    pgs := fun c' b hc' hb1 => by
      obtain ⟨cs, e, hz, hq⟩ := h.pgs c' b hc' hb1
      refine ⟨cs, hf.heap e (blk_ne e hb (by decide)), hz, fun q hq' => ?_⟩
      obtain ⟨v1, v2, e1, e2, h3⟩ := hq q hq'
      refine ⟨v1, v2, e1, e2, ?_⟩
      show PageAt w' v1 v2 ((if c' = c ∧ b = k then nb else s.blk c' b).pg q)
      by_cases ee : c' = c ∧ b = k
      · rw [if_pos ee, hpg, ← ee.1, ← ee.2]
        exact h3.fr hf hU
      · rw [if_neg ee]
        exact h3.fr hf hU
    injB := h.injB
    injP := h.injP
    evs := h.evs.fr hf (fun b _ e => .inr (.inr (.inr (.inl ⟨c, hc, e⟩)))) }
/-- A block's pages. -/
theorem Nand.setPs {w w' : World} {p : Nat} {s : St} {L : Lay} (h : Nand w p s L) (c k : Nat) (hc : c < s.n) (hk : k < s.nb) (pg : Nat → Option (List Int × List Int)) (hf : Fr (fun b => b = L.P c k) w w')
    (hm : ∃ cs', w'.heap[L.P c k]? = some (.cells cs' 176 (0, 0)) ∧ cs'.size = s.np * 2 ∧ ∀ q, q < s.np → ∃ v1 v2, cs'[q * 2]? = some v1 ∧ cs'[q * 2 + 1]? = some v2 ∧ PageAt w' v1 v2 (pg q)) :
    Nand w' p (s.setB c k { s.blk c k with pg := pg }) L := by
  obtain ⟨ps, hp, hps⟩ := h.pgs c k hc hk
  have hU : ∀ b, U8 w b → ¬ b = L.P c k := fun b hb e => h.u8 hb (.inr (.inr (.inr (.inr ⟨c, k, hc, hk, e⟩))))
  exact {
    ok := h.ok
    main := hf.heap h.main (blk_ne h.main hp (by decide))
    capn := h.capn
    out := by
      obtain ⟨cs, e, hc⟩ := h.out
      exact ⟨cs, hf.heap e (blk_ne e hp (by decide)), hc⟩
    ded := by
      obtain ⟨cs, e, hc⟩ := h.ded
      exact ⟨cs, hf.heap e (blk_ne e hp (by decide)), hc⟩
    chp := fun c' hc' => by
      obtain ⟨cs, e, hb1⟩ := h.chp c' hc'
      refine ⟨cs, hf.heap e (blk_ne e hp (by decide)), fun b hb2 => ?_⟩
      have h1 := hb1 b hb2
      show cs[b * 4]? = _ ∧ cs[b * 4 + 1]? = some (.int .i64 (if c' = c ∧ b = k then { s.blk c k with pg := pg } else s.blk c' b).next) ∧ cs[b * 4 + 2]? = some (.int .i64 (if c' = c ∧ b = k then { s.blk c k with pg := pg } else s.blk c' b).er) ∧ cs[b * 4 + 3]? = some (.bool (if c' = c ∧ b = k then { s.blk c k with pg := pg } else s.blk c' b).bad)
      by_cases ee : c' = c ∧ b = k
      · rw [if_pos ee]
        rw [ee.1, ee.2] at h1 ⊢
        exact h1
      · rw [if_neg ee]
        exact h1
    pgs := fun c' b hc' hb1 => by
      by_cases ee : c' = c ∧ b = k
      · obtain ⟨cs', e', hz', hq'⟩ := hm
        rw [ee.1, ee.2]
        refine ⟨cs', e', hz', fun q hq => ?_⟩
        obtain ⟨v1, v2, e1, e2, h3⟩ := hq' q hq
        refine ⟨v1, v2, e1, e2, ?_⟩
        show PageAt w' v1 v2 ((if c = c ∧ k = k then { s.blk c k with pg := pg } else s.blk c k).pg q)
        rw [if_pos ⟨rfl, rfl⟩]
        exact h3
      · obtain ⟨cs, e, hz, hq⟩ := h.pgs c' b hc' hb1
        refine ⟨cs, hf.heap e (fun e2 => ee (h.injP _ _ _ _ hc' hb1 hc hk e2)), hz, fun q hq' => ?_⟩
        obtain ⟨v1, v2, e1, e2, h3⟩ := hq q hq'
        refine ⟨v1, v2, e1, e2, ?_⟩
        show PageAt w' v1 v2 ((if c' = c ∧ b = k then { s.blk c k with pg := pg } else s.blk c' b).pg q)
        rw [if_neg ee]
        exact h3.fr hf hU
    injB := h.injB
    injP := h.injP
    evs := h.evs.fr hf (fun b _ e => .inr (.inr (.inr (.inr ⟨c, k, hc, hk, e⟩)))) }
end Go.Proofs.YteofgpaceeibpaaGreat.Nand

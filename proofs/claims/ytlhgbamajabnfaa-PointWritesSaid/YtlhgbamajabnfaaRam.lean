/- Members in memory (gabionref10.Ram): what lies where, what each of its methods does. -/
import Derived.Test.YtlhgbamajabnfaaMap
import Derived.Test.YtlhgbamajabnfaaGeom
import Derived.Test.YtlhgbamajabnfaaRef
import Derived.Handy
namespace Go.Proofs.Ytlhgbamajabnfaa.Ram
open Go.RowKit Go.Proofs.Ytlhgbamajabnfaa.Gab Go.Proofs.Ytlhgbamajabnfaa.Wr Go.Proofs.Ytlhgbamajabnfaa.Map Go.Proofs.Ytlhgbamajabnfaa.Geom Go.Proofs.Ytlhgbamajabnfaa.Ref
set_option linter.unusedVariables false
set_option linter.unusedSimpArgs false

theorem infoInt : (Try.prog.info? 3).map (fun i => (i.zero, i.size, i.bytes)) = some (some (.int .i64 0), 1, 8) := by kernel_rfl

/-- append, where the region draws its order. -/
theorem step_appendRow {P : Program} {ops : Array Oper} {o : Oper} {a : Act} {K : Act → World → Prop} {Q : Exit → Act → World → Prop} {E : Prop} {W : World} (base : Nat) (hgd : o.guard = none) (s x : Operand) (t e : TypeId) (k : IntKind) (bytes : Nat)
    (ho : o.op = .call { callee := .builtin .append, args := #[s, x], argTypes := #[t, t] })
    (ht : P.underlying t = some (.slice e)) (hinfo : (P.info? e).map (fun i => (i.zero, i.size, i.bytes)) = some (some (.int k 0), 1, bytes)) (hb0 : 0 < bytes)
    (v : Value) (xs ys : List Int) (A : Option Addr) (m c : Nat) (hs : a.eval s = v) (hx : a.eval x = .slice A m c)
    (HO : Row e k W base v xs) (HR : Rd k W A m ys) (hbase : base ≤ W.heap.size) (hl : (xs.length + m) * bytes ≤ 140737488355328)
    (h : ∀ v1 w1, Row e k w1 base v1 (xs ++ ys) → Fr (fun b => v.ownBlock = some b) W w1 → (v1.ownBlock = v.ownBlock ∨ ∃ b, v1.ownBlock = some b ∧ W.heap.size ≤ b) → K (a.put o.dst v1) w1) :
    if Region.wanted o (yielded ops a.tmps) = true then Oper.wp P o a W K Q else E := by
  have hw : Region.wanted o (yielded ops a.tmps) = true := by simp [Region.wanted, hgd]
  rw [if_pos hw]
  obtain ⟨v1, w1, hr, hown, hg, hat⟩ := run_append_row (P := P) base t o.type e k bytes ht hinfo hb0 v xs ys A m c HO HR hbase hl
  unfold Oper.wp execOp
  simp only [ho, resolve, invoke, builtin, Sem.run_bind, Sem.run_pure, Result.andThen_ok, List.map_toArray, List.map_cons, List.map_nil, hs, hx, hr]
  exact h v1 w1 hown hg hat

/-! ### what stands where -/
/-- Members: their shape, their pages ([]: none), which are gone, who is ahead, in which order they were programmed; how many stores there were, at most. -/
structure St where
  g : Geo
  pages : Int → Int → Int → List Int
  gone : Int → Int
  first : Int
  order : List Int
  cnt : Nat
/-- What a member's operation may write. -/
def ft (p bp bg : Nat) (vo : Value) : Nat → Prop := fun b => b = p ∨ b = bp ∨ b = bg ∨ vo.ownBlock = some b
/-- A page as it stands. -/
def PageAt (w : World) (F : Nat → Prop) (s : Int) (v : Value) (xs : List Int) : Prop :=
  ∃ A n c, v = .slice A n c ∧ n ≤ c ∧ Rd .u8 w A n xs ∧ InR 256 xs ∧ ((xs.length = 0 ∧ v = .slice none 0 0) ∨ (xs.length : Int) = s + 64) ∧ ∀ ad, A = some ad → 0 < n → ¬ F ad.block
structure Ram (w : World) (p : Nat) (s : St) (bp bg : Nat) (vo : Value) (f fg : Value → Value) : Prop where
  blk : w.heap[p]? = some (.cells #[.int .i64 s.g.c, .int .i64 s.g.b, .int .i64 s.g.p, .int .i64 s.g.s, .map (some bp), .map (some bg), .int .i64 s.first, vo] 41 (0, 0))
  ok : s.g.Ok
  mp : MapW Try.prog w 45 bp s.cnt (.slice none 0 0) f
  mg : MapW Try.prog w 3 bg s.cnt (.int .i64 0) fg
  ne : bp ≠ bg
  row : Row 3 .i64 w 0 vo s.order
  len : s.order.length ≤ s.cnt
  gone : ∀ m, 0 ≤ m → m < 1000 → fg (.int .i64 m) = .int .i64 (s.gone m)
  pages : ∀ m b q, PageAt w (ft p bp bg vo) s.g.s (f (key3 m b q)) (s.pages m b q)
def RamE (w : World) (p : Nat) (s : St) : Prop := ∃ bp bg vo f fg, Ram w p s bp bg vo f fg
/-- What a member's operation may write, by what lies there. -/
def Foot (w : World) (p b : Nat) : Prop := b = p ∨ ∃ c0 c1 c2 c3 bp bg c6 vo T fr, w.heap[p]? = some (.cells #[c0, c1, c2, c3, .map (some bp), .map (some bg), c6, vo] T fr) ∧ (b = bp ∨ b = bg ∨ vo.ownBlock = some b)
theorem foot_is {w : World} {p : Nat} {c0 c1 c2 c3 c6 vo : Value} {bp bg : Nat} {T : TypeId} {fr : Nat × Nat} (h : w.heap[p]? = some (.cells #[c0, c1, c2, c3, .map (some bp), .map (some bg), c6, vo] T fr)) (b : Nat) : Foot w p b ↔ ft p bp bg vo b := by
  constructor
  · rintro (h1 | ⟨_, _, _, _, bp', bg', _, vo', _, _, h1, h2⟩)
    · exact .inl h1
    · rw [h] at h1
      injection h1 with h1
      injection h1 with h1
      simp at h1
      obtain ⟨_, _, _, _, rfl, rfl, _, rfl⟩ := h1
      exact .inr h2
  · rintro (h1 | h1)
    · exact .inl h1
    · exact .inr ⟨_, _, _, _, _, _, _, _, _, _, h, h1⟩
theorem Ram.foot {w : World} {p : Nat} {s : St} {bp bg : Nat} {vo : Value} {f fg : Value → Value} (h : Ram w p s bp bg vo f fg) (b : Nat) : Foot w p b ↔ ft p bp bg vo b := foot_is h.blk b
/-- What a member's operation leaves: all but that; and what it may write is that, or new. -/
structure Step (p : Nat) (w w' : World) : Prop where
  fr : Fr (Foot w p) w w'
  foot : ∀ b, Foot w' p b → Foot w p b ∨ w.heap.size ≤ b
theorem Step.refl (p : Nat) (w : World) : Step p w w := ⟨Fr.refl _ w, fun _ h => .inl h⟩
theorem Step.trans {p : Nat} {a b c : World} (h : Step p a b) (k : Step p b c) : Step p a c := by
  refine ⟨h.fr.after k.fr (fun i hi ht => ?_), fun x hx => ?_⟩
  · rcases h.foot i ht with h1 | h1
    · exact h1
    · omega
  · rcases k.foot x hx with h1 | h1
    · exact h.foot x h1
    · exact .inr (Nat.le_trans h.fr.size h1)
theorem Foot.same {w w' : World} {p : Nat} (h : w'.heap[p]? = w.heap[p]?) (b : Nat) : Foot w' p b ↔ Foot w p b := by unfold Foot; rw [h]
theorem Step.none_ {p : Nat} {w w' : World} (hp : p < w.heap.size) (h : Fr None_ w w') : Step p w w' :=
  ⟨h.mono (fun _ _ h => h.elim), fun b hb => .inl ((Foot.same (h.block p hp (fun h => h)) b).1 hb)⟩
/-- A block that is there, and that no member's operation writes. -/
def Off (w : World) (p b : Nat) : Prop := b < w.heap.size ∧ ¬ Foot w p b
theorem Off.step {p b : Nat} {w w' : World} (h : Off w p b) (k : Step p w w') : Off w' p b :=
  ⟨Nat.lt_of_lt_of_le h.1 k.fr.size, fun hb => by
    rcases k.foot b hb with h1 | h1
    · exact h.2 h1
    · have := h.1
      omega⟩
theorem Off.blk {p b : Nat} {w w' : World} {o : Obj} (h : Off w p b) (k : Step p w w') (hb : w.heap[b]? = some o) : w'.heap[b]? = some o := k.fr.heap hb h.2
theorem RamE.lt {w : World} {p : Nat} {s : St} (h : RamE w p s) : p < w.heap.size := by
  obtain ⟨bp, bg, vo, f, fg, h⟩ := h
  exact (Array.getElem?_eq_some_iff.1 h.blk).1
theorem Ram.lts {w : World} {p : Nat} {s : St} {bp bg : Nat} {vo : Value} {f fg : Value → Value} (h : Ram w p s bp bg vo f fg) : ∀ b, ft p bp bg vo b → b < w.heap.size := by
  intro b hb
  rcases hb with rfl | rfl | rfl | hb
  · exact (Array.getElem?_eq_some_iff.1 h.blk).1
  · exact h.mp.lt
  · exact h.mg.lt
  · exact (h.row.blk b hb).2.1
theorem RamE.foot_lt {w : World} {p : Nat} {s : St} (h : RamE w p s) (b : Nat) (hb : Foot w p b) : b < w.heap.size := by
  obtain ⟨bp, bg, vo, f, fg, h⟩ := h
  rw [h.foot] at hb
  exact h.lts b hb
/-- A new block is none of theirs. -/
theorem RamE.off_new {w w' : World} {p b : Nat} {s : St} (h : RamE w p s) (hf : Fr None_ w w') (hb : w.heap.size ≤ b) (hb' : b < w'.heap.size) : Off w' p b :=
  ⟨hb', fun hF => by
    have := h.foot_lt b ((Foot.same (hf.block p h.lt (fun h => h)) b).1 hF)
    omega⟩
theorem PageAt.fr {S : Nat → Prop} {w w' : World} {F F' : Nat → Prop} {s : Int} {v : Value} {xs : List Int} (h : PageAt w F s v xs) (hf : Fr S w w') (hS : ∀ b, b < w.heap.size → S b → F b) (hF : ∀ b, b < w.heap.size → F' b → F b) : PageAt w' F' s v xs := by
  obtain ⟨A, n, c, rfl, h1, h2, h3, h4, h5⟩ := h
  refine ⟨A, n, c, rfl, h1, h2.fr hf (fun ad e hn hs => h5 ad e hn (hS _ (h2.lt ad e hn) hs)), h3, h4, fun ad e hn hF' => h5 ad e hn (hF _ (h2.lt ad e hn) hF')⟩
theorem Ram.fr {S : Nat → Prop} {w w' : World} {p : Nat} {s : St} {bp bg : Nat} {vo : Value} {f fg : Value → Value} (h : Ram w p s bp bg vo f fg) (hf : Fr S w w') (hS : ∀ b, ¬ (ft p bp bg vo b ∧ S b)) (hS2 : ∀ m b q ad n c, f (key3 m b q) = .slice (some ad) n c → 0 < n → ¬ S ad.block) : Ram w' p s bp bg vo f fg where
  blk := hf.heap h.blk (fun hs => hS p ⟨.inl rfl, hs⟩)
  ok := h.ok
  mp := h.mp.fr hf (fun hs => hS bp ⟨.inr (.inl rfl), hs⟩)
  mg := h.mg.fr hf (fun hs => hS bg ⟨.inr (.inr (.inl rfl)), hs⟩)
  ne := h.ne
  row := h.row.fr hf (fun b hb hs => hS b ⟨.inr (.inr (.inr hb)), hs⟩)
  len := h.len
  gone := h.gone
  pages := fun m b q => by
    obtain ⟨A, n, c, e, h1, h2, h3, h4, h5⟩ := h.pages m b q
    exact ⟨A, n, c, e, h1, h2.fr hf (fun ad ea hn hs => hS2 m b q ad n c (by rw [e, ea]) hn hs), h3, h4, h5⟩
theorem RamE.none_ {w w' : World} {p : Nat} {s : St} (h : RamE w p s) (hf : Fr None_ w w') : RamE w' p s := by
  obtain ⟨bp, bg, vo, f, fg, h⟩ := h
  exact ⟨bp, bg, vo, f, fg, h.fr hf (fun _ h => h.2) (fun _ _ _ _ _ _ _ _ h => h)⟩
theorem cell_is {w : World} {p i : Nat} {cs : Array Value} {T : TypeId} {fr : Nat × Nat} {v : Value} (h : w.heap[p]? = some (.cells cs T fr)) (hv : cs[i]? = some v) : w.cell? ⟨p, i, none⟩ = some v := by simp [World.cell?, h, hv]

/-- A slice that is read, of which no block is theirs. -/
def RdO (k : IntKind) (w : World) (p : Nat) (A : Option Addr) (n : Nat) (xs : List Int) : Prop := Rd k w A n xs ∧ ∀ ad, A = some ad → 0 < n → ¬ Foot w p ad.block
theorem RdO.step {k : IntKind} {w w' : World} {p : Nat} {A : Option Addr} {n : Nat} {xs : List Int} (h : RdO k w p A n xs) (hs : Step p w w') : RdO k w' p A n xs :=
  ⟨h.1.fr hs.fr h.2, fun ad e hn hF => by
    rcases hs.foot _ hF with h1 | h1
    · exact h.2 ad e hn h1
    · have := h.1.lt ad e hn
      omega⟩
theorem RdO.of_new {k : IntKind} {w w' : World} {p : Nat} {s : St} {A : Option Addr} {n : Nat} {xs : List Int} (h : RamE w p s) (hf : Fr None_ w w') (hr : Rd k w' A n xs) (hA : ∀ ad, A = some ad → w.heap.size ≤ ad.block) : RdO k w' p A n xs :=
  ⟨hr, fun ad e hn => (h.off_new hf (hA ad e) (hr.lt ad e hn)).2⟩
end Go.Proofs.Ytlhgbamajabnfaa.Ram

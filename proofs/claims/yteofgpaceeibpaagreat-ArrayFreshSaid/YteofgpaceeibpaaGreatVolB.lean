/- vol: find. -/
import Derived.Test.YteofgpaceeibpaaGreatVolA
import Derived.Test.YteofgpaceeibpaaGreatRemapG
import Derived.Test.YteofgpaceeibpaaGreatPar
namespace Go.Proofs.YteofgpaceeibpaaGreat.VolB
open Go.RowKit Go.Proofs.YteofgpaceeibpaaGreat.Gab Go.Proofs.YteofgpaceeibpaaGreat.Wr Go.Proofs.YteofgpaceeibpaaGreat.Geom Go.Proofs.YteofgpaceeibpaaGreat.Ref Go.Proofs.YteofgpaceeibpaaGreat.Nand Go.Proofs.YteofgpaceeibpaaGreat.NandA Go.Proofs.YteofgpaceeibpaaGreat.NandB Go.Proofs.YteofgpaceeibpaaGreat.NandC Go.Proofs.YteofgpaceeibpaaGreat.NandD Go.Proofs.YteofgpaceeibpaaGreat.NandE Go.Proofs.YteofgpaceeibpaaGreat.NandH Go.Proofs.YteofgpaceeibpaaGreat.RemapA Go.Proofs.YteofgpaceeibpaaGreat.RemapB Go.Proofs.YteofgpaceeibpaaGreat.RemapE Go.Proofs.YteofgpaceeibpaaGreat.RemapF Go.Proofs.YteofgpaceeibpaaGreat.RemapG Go.Proofs.YteofgpaceeibpaaGreat.VolA
open Go.Proofs.YteofgpaceeibpaaGreat.Heap (cell_is heap_set heap_set7 fr_set7)
open Go.Proofs.YteofgpaceeibpaaGreat.RemapD (infoRP)
set_option linter.unusedVariables false
set_option linter.unusedSimpArgs false

/-- So many pages of a chip are read. -/
def _root_.Go.Proofs.YteofgpaceeibpaaGreat.Nand.St.rdN (s : St) (c : Nat) : Nat → St × Int
  | 0 => (s, 0)
  | n + 1 => if (s.rdN c n).2 = 0 then (s.rdN c n).1.read c else s.rdN c n
theorem rdN_g (s : St) (c : Nat) : ∀ n, (s.rdN c n).1.g = s.g ∧ (s.rdN c n).1.blk = s.blk ∧ (s.rdN c n).1.evs = s.evs
  | 0 => ⟨rfl, rfl, rfl⟩
  | n + 1 => by
    have h := rdN_g s c n
    unfold St.rdN
    split
    · have h2 := read_g (s.rdN c n).1 c
      exact ⟨h2.1.trans h.1, h2.2.1.trans h.2.1, h2.2.2.trans h.2.2⟩
    · exact h
theorem safe_rdN {s : St} (c : Nat) : ∀ n m, s.Safe (m + n) → (s.rdN c n).1.Safe m
  | 0, m, h => h
  | n + 1, m, h => by
    have h2 := safe_rdN c n (m + 1) (by rw [show m + 1 + n = m + (n + 1) by omega]; exact h)
    unfold St.rdN
    split
    · exact h2.read c
    · exact h2.le (Nat.le_succ m)
/-- A block is looked at for a table: x says what its first page is. -/
def _root_.Go.Proofs.YteofgpaceeibpaaGreat.Nand.St.find (s : St) (c : Nat) (x : Option Tab) : St × Int := s.rdN c (if x.isSome then 1 else 4)
def isOk (k : Int) (x : Option Tab) : Option Tab := if k = 0 then x else none
def FindPost (p : Nat) (s : St) (L : Lay) (c : Nat) (x : Option Tab) (w : World) (e : Ending) (w' : World) : Prop :=
  ∃ v, e = .returned (.tuple #[v, .bool (isOk (s.find c x).2 x).isSome, .int .i64 (s.find c x).2]) ∧ Nand w' p (s.find c x).1 L ∧ Fr (NF p L s.n s.nb) w w' ∧ match isOk (s.find c x).2 x with
    | none => v = .agg zt
    | some t => TabR w' w.heap.size v t
/-- A page's bytes are some. -/
theorem bytes_ok {w : World} {p : Nat} {s : St} {L : Lay} (h : Nand w p s L) {c b q : Nat} (hc : c < s.n) (hb : b < s.nb) (hq : q < s.np) : InR 256 (s.bytes c b q).1 ∧ InR 256 (s.bytes c b q).2 ∧ (s.bytes c b q).1.length ≤ 1000000 ∧ (s.bytes c b q).2.length ≤ 1000000 := by
  obtain ⟨cs, _, _, hps⟩ := h.pgs c b hc hb
  obtain ⟨v1, v2, _, _, hp⟩ := hps q hq
  have hs := h.ok.s
  unfold St.bytes
  rcases hx : (s.blk c b).pg q with _ | x
  · have h255 : ∀ n : Nat, InR 256 (List.replicate n 255) := fun n y hy => by obtain ⟨_, rfl⟩ := List.mem_replicate.1 hy; decide
    exact ⟨h255 _, h255 _, by simp; omega, by simp⟩
  · rw [hx] at hp
    obtain ⟨⟨A, n, k, _, _, h1, h2, _, h3⟩, ⟨B, m, j, _, _, h4, h5, _, h6⟩⟩ := hp
    exact ⟨h2, h5, by rw [h1.1]; exact h3, by rw [h4.1]; exact h6⟩
/-- The pages read so far: the first one's bytes. -/
structure Pgs (w : World) (base : Nat) (v : Value) (i : Nat) (d o : List Int) : Prop where
  row : ∃ vs, Par.RowV 189 2 w base v i vs ∧ (0 < i → ∃ D nd cd O no co, vs[0]? = some (.slice D nd cd) ∧ vs[1]? = some (.slice O no co) ∧ nd ≤ cd ∧ no ≤ co ∧ Rd .u8 w D nd d ∧ Rd .u8 w O no o ∧ (∀ ad, D = some ad → 0 < nd → U8 w ad.block) ∧ (∀ ad, O = some ad → 0 < no → U8 w ad.block))
theorem Pgs.nil (w : World) (base : Nat) (d o : List Int) : Pgs w base (.slice none 0 0) 0 d o := ⟨⟨[], Par.RowV.nil _ _ _ _, fun h => absurd h (Nat.lt_irrefl _)⟩⟩
theorem Pgs.fr {S : Nat → Prop} {w w' : World} {base : Nat} {v : Value} {i : Nat} {d o : List Int} (h : Pgs w base v i d o) (hf : Fr S w w') (h0 : ∀ b cs, w.heap[b]? = some (.cells cs 189 (0, 0)) → ¬ S b) (h1 : ∀ b, U8 w b → ¬ S b) : Pgs w' base v i d o := by
  obtain ⟨vs, hr, hp⟩ := h.row
  refine ⟨⟨vs, hr.fr hf (fun b hb => by obtain ⟨_, _, cs, hc⟩ := hr.blk b hb; exact h0 b cs hc), fun hi => ?_⟩⟩
  obtain ⟨D, nd, cd, O, no, co, e1, e2, e3, e4, e5, e6, e7, e8⟩ := hp hi
  exact ⟨D, nd, cd, O, no, co, e1, e2, e3, e4, e5.fr hf (fun ad e hn => h1 _ (e7 ad e hn)), e6.fr hf (fun ad e hn => h1 _ (e8 ad e hn)), fun ad e hn => (e7 ad e hn).fr hf (h1 _ (e7 ad e hn)), fun ad e hn => (e8 ad e hn).fr hf (h1 _ (e8 ad e hn))⟩
theorem Pgs.none_ {w w' : World} {base : Nat} {v : Value} {i : Nat} {d o : List Int} (h : Pgs w base v i d o) (hf : Fr None_ w w') : Pgs w' base v i d o := h.fr hf (fun _ _ _ h => h) (fun _ _ h => h)
theorem Pgs.nf {w w' : World} {base : Nat} {v : Value} {i : Nat} {d o : List Int} {p : Nat} {s : St} {L : Lay} (h : Pgs w base v i d o) (hN : Nand w p s L) (hf : Fr (NF p L s.n s.nb) w w') : Pgs w' base v i d o :=
  h.fr hf (fun b cs hb => hN.ne hb ⟨by decide, by decide, by decide, by decide, by decide⟩) (fun b hb => hN.u8 hb)
theorem row_u8 {w : World} {base : Nat} {A : Option Addr} {n k : Nat} {xs : List Int} (h : Row 5 .u8 w base (.slice A n k) xs) : ∀ ad, A = some ad → 0 < n → U8 w ad.block := fun ad e hn => by
  obtain ⟨A1, n1, c1, e1, _, _, h3⟩ := h.rd
  injection e1 with e1 e2 e3
  subst e1 e2 e3
  obtain ⟨_, _, cs, hc⟩ := h.blk ad.block (h3.out ad e)
  exact ⟨cs, hc⟩
/-- One page more. -/
theorem Pgs.snoc {w w' : World} {base : Nat} {v v' : Value} {i : Nat} {d o d2 o2 : List Int} {vs : List Value} {A B : Option Addr} {n k m j : Nat} (hr : Par.RowV 189 2 w base v i vs)
    (hp : 0 < i → ∃ D nd cd O no co, vs[0]? = some (.slice D nd cd) ∧ vs[1]? = some (.slice O no co) ∧ nd ≤ cd ∧ no ≤ co ∧ Rd .u8 w D nd d ∧ Rd .u8 w O no o ∧ (∀ ad, D = some ad → 0 < nd → U8 w ad.block) ∧ (∀ ad, O = some ad → 0 < no → U8 w ad.block))
    (h0 : i = 0 → d2 = d ∧ o2 = o) (hA : Row 5 .u8 w base (.slice A n k) d2) (hB : Row 5 .u8 w base (.slice B m j) o2)
    (hr' : Par.RowV 189 2 w' base v' (i + 1) (vs ++ [.slice A n k, .slice B m j])) (hf : Fr (fun b => v.ownBlock = some b) w w') : Pgs w' base v' (i + 1) d o := by
  have hu : ∀ b, U8 w b → ¬ (v.ownBlock = some b) := fun b ⟨cs, hc⟩ hb => by
    obtain ⟨_, _, cs', hc'⟩ := hr.blk b hb
    exact blk_ne hc hc' (by decide) rfl
  refine ⟨⟨_, hr', fun _ => ?_⟩⟩
  rcases Nat.eq_zero_or_pos i with hi | hi
  · obtain ⟨rfl, rfl⟩ := h0 hi
    have hvs : vs = [] := List.eq_nil_of_length_eq_zero (by rw [hr.2, hi])
    obtain ⟨A1, n1, c1, e1, m1, r1, _⟩ := hA.rd
    obtain ⟨B1, m1', j1, e2, m2, r2, _⟩ := hB.rd
    injection e1 with ea eb ec
    injection e2 with ed ee ef
    subst ea eb ec ed ee ef
    have ua := row_u8 hA
    have ub := row_u8 hB
    exact ⟨A, n, k, B, m, j, by rw [hvs]; rfl, by rw [hvs]; rfl, m1.out, m2.out, r1.out.fr hf (fun ad e hn => hu _ (ua ad e hn)), r2.out.fr hf (fun ad e hn => hu _ (ub ad e hn)), fun ad e hn => (ua ad e hn).fr hf (hu _ (ua ad e hn)), fun ad e hn => (ub ad e hn).fr hf (hu _ (ub ad e hn))⟩
  · obtain ⟨D, nd, cd, O, no, co, e1, e2, e3, e4, e5, e6, e7, e8⟩ := hp hi
    have hl : 2 ≤ vs.length := by rw [hr.2]; omega
    exact ⟨D, nd, cd, O, no, co, by rw [List.getElem?_append_left (by omega)]; exact e1, by rw [List.getElem?_append_left (by omega)]; exact e2, e3, e4, e5.fr hf (fun ad e hn => hu _ (e7 ad e hn)), e6.fr hf (fun ad e hn => hu _ (e8 ad e hn)), fun ad e hn => (e7 ad e hn).fr hf (hu _ (e7 ad e hn)), fun ad e hn => (e8 ad e hn).fr hf (hu _ (e8 ad e hn))⟩
/-- What Join wants of them. -/
theorem Pgs.join {w : World} {base : Nat} {v : Value} {i : Nat} {d o : List Int} (h : Pgs w base v i d o) (hi : 0 < i) (x : Option Tab) (g : Geo) (hg : g.Ok) (hrd : InR 256 d) (hro : InR 256 o) (hl : d.length ≤ 1000000) (hx : TabIs g d o x) :
    Calls Tryz.prog 103 #[v, g.val] w (JoinPost x w) := by
  obtain ⟨vs, hr, hp⟩ := h.row
  obtain ⟨D, nd, cd, O, no, co, e1, e2, e3, e4, e5, e6, _, _⟩ := hp hi
  rcases hr.1.2 with ⟨rfl, hn⟩ | ⟨gb, cap, cur, rfl, _⟩
  · omega
  · obtain ⟨A, c, ev, _, hc, _⟩ := hr.rd
    injection ev with ea eb ec
    subst ea ec
    obtain ⟨ad, ead, hcell⟩ := hc.out.2 (by omega)
    injection ead with ead
    subst ead
    have k0 := hcell 0 (by omega)
    have k1 := hcell 1 (by omega)
    rw [List.getD_eq_getElem?_getD, e1] at k0
    rw [List.getD_eq_getElem?_getD, e2] at k1
    rw [add_at] at k0 k1
    exact Join_calls gb i cap D O nd cd no co d o g x w hi k0 k1 e5 e6 hrd hro e3 e4 hg hx (by rw [← e5.1]; exact hl)
end Go.Proofs.YteofgpaceeibpaaGreat.VolB

/- vol: a volume in memory; in, Read, Erase, Program (no block fails). | vol: find. -/
import Derived.Test.YteofgpaceeibpaaGreatTkNandH
import Derived.Test.YteofgpaceeibpaaGreatTkMemA
import Derived.StillTailTactics
import Derived.Test.YteofgpaceeibpaaGreatTkRemapG
import Derived.Test.YteofgpaceeibpaaGreatTkRef5
namespace Go.Proofs.YteofgpaceeibpaaGreat.VolA
open Go.RowKit Gab Wr Geom Ref Heap Nand NandA NandB NandC NandD NandE NandH RemapA RemapB
set_option linter.unusedVariables false
set_option linter.unusedSimpArgs false

theorem _root_.Go.Proofs.YteofgpaceeibpaaGreat.Gab.Fr.undrew {S : Nat → Prop} {a b : World} (h : Fr S a.drew b) : Fr S a b := ⟨h.os, h.tape, h.output, h.size, h.block⟩
/-- Whose block is one of ints. -/
def IB (w : World) (A : Option Addr) (n : Nat) : Prop := ∀ ad, A = some ad → 0 < n → ∃ cs, w.heap[ad.block]? = some (.cells cs 3 (0, 0))
theorem IB.fr {S : Nat → Prop} {w w' : World} {A : Option Addr} {n : Nat} (h : IB w A n) (hf : Fr S w w') (hS : ∀ ad, A = some ad → 0 < n → ¬ S ad.block) : IB w' A n := fun ad e hn => by
  obtain ⟨cs, hc⟩ := h ad e hn
  exact ⟨cs, hf.heap hc (hS ad e hn)⟩
/-- Where a volume lies. -/
structure VLay where
  vb : Nat
  A1 : Option Addr
  n1 : Nat
  c1 : Nat
  A2 : Option Addr
  n2 : Nat
  c2 : Nat
/-- A volume in memory. -/
structure VolAt (w : World) (p c : Nat) (g : Geo) (t : Tab) (v : VLay) : Prop where
  main : w.heap[v.vb]? = some (.cells #[.pointer (some ⟨p, 0, none⟩), .int .i64 (c : Int), .int .i64 g.c, .int .i64 g.b, .int .i64 g.p, .int .i64 g.s, .int .u32 t.seq, .slice v.A1 v.n1 v.c1, .slice v.A2 v.n2 v.c2, .int .i64 t.t0, .int .i64 t.t1] 137 (0, 0))
  l1 : v.n1 ≤ v.c1
  r1 : Rd .i64 w v.A1 v.n1 t.place
  l2 : v.n2 ≤ v.c2
  r2 : Rd .i64 w v.A2 v.n2 t.spare
  i1 : IB w v.A1 v.n1
  i2 : IB w v.A2 v.n2
theorem VolAt.fr {S : Nat → Prop} {w w' : World} {p c : Nat} {g : Geo} {t : Tab} {v : VLay} (h : VolAt w p c g t v) (hf : Fr S w w') (h0 : ¬ S v.vb) (h1 : ∀ ad, v.A1 = some ad → 0 < v.n1 → ¬ S ad.block) (h2 : ∀ ad, v.A2 = some ad → 0 < v.n2 → ¬ S ad.block) : VolAt w' p c g t v :=
  ⟨hf.heap h.main h0, h.l1, h.r1.fr hf h1, h.l2, h.r2.fr hf h2, h.i1.fr hf h1, h.i2.fr hf h2⟩
/-- Its blocks' types. -/
theorem VolAt.ty {S : Nat → Prop} {w w' : World} {p c : Nat} {g : Geo} {t : Tab} {v : VLay} (h : VolAt w p c g t v) (hf : Fr S w w') (hS : ∀ b cs T f, w.heap[b]? = some (.cells cs T f) → T = 137 ∨ T = 3 → ¬ S b) : VolAt w' p c g t v :=
  h.fr hf (hS _ _ _ _ h.main (.inl rfl)) (fun ad e hn => by obtain ⟨cs, hc⟩ := h.i1 ad e hn; exact hS _ _ _ _ hc (.inr rfl)) (fun ad e hn => by obtain ⟨cs, hc⟩ := h.i2 ad e hn; exact hS _ _ _ _ hc (.inr rfl))
theorem VolAt.none_ {w w' : World} {p c : Nat} {g : Geo} {t : Tab} {v : VLay} (h : VolAt w p c g t v) (hf : Fr None_ w w') : VolAt w' p c g t v := h.ty hf (fun _ _ _ _ _ _ h => h)
theorem VolAt.nf {w w' : World} {p c p2 : Nat} {g : Geo} {t : Tab} {v : VLay} {s : St} {L : Lay} (h : VolAt w p2 c g t v) (hN : Nand w p s L) (hf : Fr (NF p L s.n s.nb) w w') : VolAt w' p2 c g t v :=
  h.ty hf (fun b cs T f hb hT => hN.ne hb (by rcases hT with rfl | rfl <;> exact ⟨by decide, by decide, by decide, by decide, by decide⟩))
def _root_.Go.Proofs.YteofgpaceeibpaaGreat.RemapA.Tab.at (t : Tab) (b : Nat) : Nat := (t.place.getD b 0).toNat
theorem at_lt {t : Tab} {g : Geo} (h : t.Ok g) {b : Nat} (hb : b < t.place.length) : 0 ≤ t.place.getD b 0 ∧ t.place.getD b 0 < g.b ∧ t.at b < g.b.toNat ∧ t.place.getD b 0 = ((t.at b : Nat) : Int) := by
  have h1 := h.inr (t.place.getD b 0) (by
    unfold Tab.all
    rw [List.getD_eq_getElem?_getD, List.getElem?_eq_getElem hb]
    simp)
  refine ⟨h1.1, h1.2, ?_, ?_⟩ <;> unfold Tab.at <;> omega

set_option maxHeartbeats 1000000 in
set_option maxRecDepth 100000 in
theorem in_calls (p c : Nat) (g : Geo) (t : Tab) (v : VLay) (b : Nat) (w : World) (hV : VolAt w p c g t v) (hb : b < t.place.length) :
    Calls Tryz.prog 64 #[.pointer (some ⟨v.vb, 0, none⟩), .int .i64 (b : Int)] w fun e w' => e = .returned (.int .i64 0) ∧ Fr None_ w w' := by
  have c7 := cell_is (i := 7) hV.main rfl
  try dsimp only at c7
  have hn := hV.r1.1
  have d0 : decide ((b : Int) < 0) = false := decide_eq_false (by omega)
  have d1 : decide ((v.n1 : Int) ≤ (b : Int)) = false := decide_eq_false (by omega)
  have d2 : decide (v.n1 ≤ b) = false := decide_eq_false (by omega)
  generalize v.n1 = n1 at *
  generalize v.A1 = A1 at *
  generalize v.c1 = c1 at *
  clear hV hb hn
  go_enter Tryz.func64, Tryz.ntmps64
  go_wp2
  go_ret
  exact ⟨rfl, Fr.refl _ _⟩

/-- A volume's cells that an operation asks for. -/
def VC (w : World) (p c k : Nat) (v : VLay) (ad : Addr) (b : Nat) : Prop :=
  w.cell? ⟨v.vb, 0, none⟩ = some (.pointer (some ⟨p, 0, none⟩)) ∧ w.cell? ⟨v.vb, 1, none⟩ = some (.int .i64 (c : Int)) ∧ w.cell? ⟨v.vb, 7, none⟩ = some (.slice (some ad) v.n1 v.c1) ∧ w.cell? (ad.add b) = some (.int .i64 (k : Int))
theorem VolAt.vc {w : World} {p c : Nat} {g : Geo} {t : Tab} {v : VLay} (h : VolAt w p c g t v) (ht : t.Ok g) {b : Nat} (hb : b < t.place.length) : ∃ ad, v.A1 = some ad ∧ ∀ w', VolAt w' p c g t v → VC w' p c (t.at b) v ad b := by
  obtain ⟨hb0, hb1, hb2, hb3⟩ := at_lt ht hb
  have hn := h.r1.1
  obtain ⟨ad, hA, _⟩ := h.r1.at_ (b : Int) (by omega) (by omega)
  refine ⟨ad, hA, fun w' h' => ?_⟩
  obtain ⟨ad', hA', hc⟩ := h'.r1.at_ (b : Int) (by omega) (by omega)
  obtain rfl : ad = ad' := by rw [hA] at hA'; injection hA'
  rw [show Int.toNat (b : Int) = b by omega, hb3] at hc
  have c0 := cell_is (i := 0) h'.main rfl
  have c1 := cell_is (i := 1) h'.main rfl
  have c7 := cell_is (i := 7) h'.main rfl
  try dsimp only at c0 c1 c7
  rw [hA] at c7
  exact ⟨c0, c1, c7, hc⟩

set_option maxHeartbeats 4000000 in
set_option maxRecDepth 100000 in
theorem Read_calls (p c : Nat) (s : St) (L : Lay) (t : Tab) (v : VLay) (b q : Nat) (w : World) (hN : Nand w p s L) (hV : VolAt w p c s.g t v) (ht : t.Ok s.g) (hc : c < s.n) (hb : b < t.place.length) (hq : q < s.np) (n : Nat) (hs : s.Safe (n + 1)) :
    Calls Tryz.prog 36 #[.pointer (some ⟨v.vb, 0, none⟩), .int .i64 (b : Int), .int .i64 (q : Int)] w (ReadPost p s L c (t.at b) q w) := by
  obtain ⟨hb0, hb1, hb2, hb3⟩ := at_lt ht hb
  obtain ⟨ad, hA, hvc⟩ := hV.vc ht hb
  have HIN := As.mk (in_calls p c s.g t v b w hV hb)
  have HRD := As.mk (fun (w' : World) (hf : Fr None_ w w') => Rd_calls p s L c (t.at b) q w' (hN.none_ hf) hc hb2 hq n hs)
  have HK := As.mk (fun (w' : World) (hf : Fr None_ w w') => hvc w' (hV.none_ hf))
  have HK2 := As.mk (fun (w1 w' : World) (hf : Fr None_ w w1) (hf' : Fr (NF p L s.n s.nb) w1 w') => hvc w' ((hV.none_ hf).nf (hN.none_ hf) hf'))
  have hbn : (b : Int) < (v.n1 : Int) := by have := hV.r1.1; omega
  have hz : ∀ w' : World, Fr None_ w w' → w.heap.size ≤ w'.heap.size := fun w' hf => hf.size
  have HPost := As.mk (show ∀ (e : Ending) (w1 w' : World), Fr None_ w w1 → ReadPost p s L c (t.at b) q w1 e w' → ReadPost p s L c (t.at b) q w e w' from by
    rintro e w1 w' hf ⟨A, n, k, B, m, j, h1, h2, h3, h4, h5⟩
    exact ⟨A, n, k, B, m, j, h1, h2, hf.trans h3 (fun _ _ h => h.elim) (fun _ _ h => h), fun hk => ⟨(h4 hk).1.lower hf.size, (h4 hk).2.lower hf.size⟩, h5⟩)
  unfold VC at HK HK2
  clear hV hN ht hb hq hs hb0 hb1 hb2 hb3 hc hvc hA hz
  go_enter Tryz.func36, Tryz.ntmps36
  go_wp2_with fail
  ((with_reducible refine (HIN.out).mono ?_); rintro e w1 ⟨rfl, hf1⟩)
  obtain ⟨c0, c1, c7, hpl⟩ := HK.out w1 hf1
  have HF1 := As.mk hf1
  clear hf1
  go_upto_region 4 with fail
  go_region_held3 (fun w' => w'.cell? ⟨v.vb, 0, none⟩ = some (.pointer (some ⟨p, 0, none⟩)) ∧ w'.cell? ⟨v.vb, 1, none⟩ = some (.int .i64 (c : Int)) ∧ w'.cell? ⟨v.vb, 7, none⟩ = some (.slice (some ad) v.n1 v.c1) ∧ w'.cell? (ad.add b) = some (.int .i64 ((t.at b : Nat) : Int))) (first | go_keep | exact ⟨c0, c1, c7, hpl⟩ | exact HK2.out _ _ HF1.out.drew HF2.out) (first
    | (go_at_call 65; (with_reducible refine (HRD.out _ HF1.out.drew).mono ?_); rintro e w2 hpost; have HP2 := As.mk (HPost.out _ _ _ HF1.out.drew hpost); obtain ⟨A2, n2, k2, B2, m2, j2, rfl, hn2, hf2, _, _⟩ := hpost; have HF2 := As.mk hf2; clear hn2 hf2)
    | fail)
  go_wp2_with fail
  go_ret3
  exact HP2.out

theorem start_code (s : St) (c : Nat) : (s.start c).2 = 0 ∨ (s.start c).2 = 71 ∨ (s.start c).2 = 72 := by
  unfold St.start
  split
  · exact .inr (.inr rfl)
  · split
    · split
      · exact .inr (.inr rfl)
      · exact .inr (.inl rfl)
    · exact .inl rfl
theorem erase_code (s : St) (c b : Nat) : (s.erase c b).2 = 0 ∨ (s.erase c b).2 = 71 ∨ (s.erase c b).2 = 72 := by
  unfold St.erase
  split
  · exact .inl rfl
  · exact start_code s c
theorem prog_code (s : St) (c b q : Nat) (d o : List Int) : (s.prog c b q d o).2 = 0 ∨ (s.prog c b q d o).2 = 71 ∨ (s.prog c b q d o).2 = 72 ∨ (s.prog c b q d o).2 = 73 := by
  unfold St.prog St.program
  have h := start_code s c
  split
  · split
    · exact .inl rfl
    · exact .inr (.inr (.inr rfl))
  · rcases h with h | h | h
    · exact .inl h
    · exact .inr (.inl h)
    · exact .inr (.inr (.inl h))

set_option maxHeartbeats 4000000 in
set_option maxRecDepth 100000 in
theorem Erase_calls (p c : Nat) (s : St) (L : Lay) (t : Tab) (v : VLay) (b : Nat) (w : World) (hN : Nand w p s L) (hV : VolAt w p c s.g t v) (ht : t.Ok s.g) (hc : c < s.n) (hb : b < t.place.length) (n : Nat) (hs : s.Safe (n + 1)) :
    Calls Tryz.prog 61 #[.pointer (some ⟨v.vb, 0, none⟩), .int .i64 (b : Int)] w (ErasePost p s L c (t.at b) w) := by
  obtain ⟨hb0, hb1, hb2, hb3⟩ := at_lt ht hb
  obtain ⟨ad, hA, hvc⟩ := hV.vc ht hb
  have HIN := As.mk (in_calls p c s.g t v b w hV hb)
  have HRD := As.mk (fun (w' : World) (hf : Fr None_ w w') => Eras_calls p s L c (t.at b) w' (hN.none_ hf) hc hb2 n hs)
  have HK := As.mk (fun (w' : World) (hf : Fr None_ w w') => hvc w' (hV.none_ hf))
  have HK2 := As.mk (fun (w1 w' : World) (hf : Fr None_ w w1) (hf' : Fr (NF p L s.n s.nb) w1 w') => hvc w' ((hV.none_ hf).nf (hN.none_ hf) hf'))
  have hbn : (b : Int) < (v.n1 : Int) := by have := hV.r1.1; omega
  have HPost := As.mk (show ∀ (e : Ending) (w1 w' : World), Fr None_ w w1 → ErasePost p s L c (t.at b) w1 e w' → ErasePost p s L c (t.at b) w e w' from fun e w1 w' hf h => ⟨h.1, h.2.1, hf.trans h.2.2 (fun _ _ h => h.elim) (fun _ _ h => h)⟩)
  have hne : ((s.erase c (t.at b)).2 == 70) = false := by rw [beq_eq_false_iff_ne]; have := erase_code s c (t.at b); omega
  unfold VC at HK HK2
  clear hV hN ht hb hs hb0 hb1 hb2 hb3 hc hvc hA
  go_enter Tryz.func61, Tryz.ntmps61
  go_wp2_with fail
  ((with_reducible refine (HIN.out).mono ?_); rintro e w1 ⟨rfl, hf1⟩)
  obtain ⟨c0, c1, c7, hpl⟩ := HK.out w1 hf1
  have HF1 := As.mk hf1
  clear hf1
  go_upto_region 4 with fail
  go_region_held3 (fun w' => w'.cell? ⟨v.vb, 0, none⟩ = some (.pointer (some ⟨p, 0, none⟩)) ∧ w'.cell? ⟨v.vb, 1, none⟩ = some (.int .i64 (c : Int)) ∧ w'.cell? ⟨v.vb, 7, none⟩ = some (.slice (some ad) v.n1 v.c1) ∧ w'.cell? (ad.add b) = some (.int .i64 ((t.at b : Nat) : Int))) (first | go_keep | exact ⟨c0, c1, c7, hpl⟩ | exact HK2.out _ _ HF1.out.drew HF2.out) (first
    | (go_at_call 58; (with_reducible refine (HRD.out _ HF1.out.drew).mono ?_); rintro e w2 hpost; have HP2 := As.mk (HPost.out _ _ _ HF1.out.drew hpost); obtain ⟨rfl, hn2, hf2⟩ := hpost; have HF2 := As.mk hf2; clear hn2 hf2)
    | fail)
  generalize (s.erase c (t.at b)).2 = k at *
  go_wp2_with fail
  go_loop [6] (fun v6 => v6 = .int .i64 k) (fun _ => 0)
  case atStart => rfl
  case round =>
    obtain rfl := hrel
    go_wp2_with fail
    go_ret
    exact HP2.out

set_option maxHeartbeats 4000000 in
set_option maxRecDepth 100000 in
theorem Prog_calls (p c : Nat) (s : St) (L : Lay) (t : Tab) (v : VLay) (b q : Nat) (D O : Option Addr) (nd cd no co : Nat) (d o : List Int) (w : World) (hN : Nand w p s L) (hV : VolAt w p c s.g t v) (ht : t.Ok s.g) (hc : c < s.n) (hb : b < t.place.length) (hq : q < s.np) (n : Nat) (hs : s.Safe (n + 1))
    (hD : RdN w (NF p L s.n s.nb) D nd d) (hO : RdN w (NF p L s.n s.nb) O no o) (hnd : (nd : Int) = s.g.s) (hno : no = 64) (hrd : InR 256 d) (hro : InR 256 o) :
    Calls Tryz.prog 62 #[.pointer (some ⟨v.vb, 0, none⟩), .int .i64 (b : Int), .int .i64 (q : Int), .slice D nd cd, .slice O no co] w (PPost p s L c (t.at b) q d o w) := by
  obtain ⟨hb0, hb1, hb2, hb3⟩ := at_lt ht hb
  obtain ⟨ad, hA, hvc⟩ := hV.vc ht hb
  have HIN := As.mk (in_calls p c s.g t v b w hV hb)
  have HRD := As.mk (fun (w' : World) (hf : Fr None_ w w') => NandH.Prog_calls p s L c (t.at b) q D O nd cd no co d o w' (hN.none_ hf) hc hb2 hq n hs (hD.none_ hf) (hO.none_ hf) hnd hno hrd hro)
  have HK := As.mk (fun (w' : World) (hf : Fr None_ w w') => hvc w' (hV.none_ hf))
  have HK2 := As.mk (fun (w1 w' : World) (hf : Fr None_ w w1) (hf' : Fr (NF p L s.n s.nb) w1 w') => hvc w' ((hV.none_ hf).nf (hN.none_ hf) hf'))
  have hbn : (b : Int) < (v.n1 : Int) := by have := hV.r1.1; omega
  have HPost := As.mk (show ∀ (e : Ending) (w1 w' : World), Fr None_ w w1 → PPost p s L c (t.at b) q d o w1 e w' → PPost p s L c (t.at b) q d o w e w' from fun e w1 w' hf h => ⟨h.1, h.2.1, hf.trans h.2.2 (fun _ _ h => h.elim) (fun _ _ h => h)⟩)
  have hne : ((s.prog c (t.at b) q d o).2 != 70) = true := by rw [bne_iff_ne]; have := prog_code s c (t.at b) q d o; omega
  unfold VC at HK HK2
  clear hV hN ht hb hs hb0 hb1 hb2 hb3 hc hvc hA hD hO hnd hno hrd hro hq
  go_enter Tryz.func62, Tryz.ntmps62
  go_wp2_with fail
  ((with_reducible refine (HIN.out).mono ?_); rintro e w1 ⟨rfl, hf1⟩)
  obtain ⟨c0, c1, c7, hpl⟩ := HK.out w1 hf1
  have HF1 := As.mk hf1
  clear hf1
  go_upto_region 4 with fail
  go_region_held3 (fun w' => w'.cell? ⟨v.vb, 0, none⟩ = some (.pointer (some ⟨p, 0, none⟩)) ∧ w'.cell? ⟨v.vb, 1, none⟩ = some (.int .i64 (c : Int)) ∧ w'.cell? ⟨v.vb, 7, none⟩ = some (.slice (some ad) v.n1 v.c1) ∧ w'.cell? (ad.add b) = some (.int .i64 ((t.at b : Nat) : Int))) (first | go_keep | exact ⟨c0, c1, c7, hpl⟩ | exact HK2.out _ _ HF1.out.drew HF2.out) (first
    | (go_at_call 101; (with_reducible refine (HRD.out _ HF1.out.drew).mono ?_); rintro e w2 hpost; have HP2 := As.mk (HPost.out _ _ _ HF1.out.drew hpost); obtain ⟨rfl, hn2, hf2⟩ := hpost; have HF2 := As.mk hf2; clear hn2 hf2)
    | fail)
  generalize (s.prog c (t.at b) q d o).2 = k at *
  go_wp2_with fail
  go_ret
  exact HP2.out
end Go.Proofs.YteofgpaceeibpaaGreat.VolA
namespace Go.Proofs.YteofgpaceeibpaaGreat.VolB
open Go.RowKit Gab Wr Geom Ref Nand NandA NandB NandC NandD NandE NandH RemapA RemapB RemapE RemapF RemapG VolA
open Heap (cell_is heap_set heap_set7 fr_set7)
open RemapD (infoRP)
set_option linter.unusedVariables false
set_option linter.unusedSimpArgs false

/-- So many pages of a chip are read. -/
def _root_.Go.Proofs.YteofgpaceeibpaaGreat.Nand.St.rdN (s : St) (c : Nat) : Nat → St × Int
  | 0 => (s, 0)
  | n + 1 => if (s.rdN c n).2 = 0 then (s.rdN c n).1.read c else s.rdN c n
theorem rdN_g (s : St) (c : Nat) : ∀ n, (s.rdN c n).1.g = s.g ∧ (s.rdN c n).1.blk = s.blk ∧ (s.rdN c n).1.evs = s.evs
  | 0 => ⟨rfl, rfl, rfl⟩
  | n + 1 => by
    have h := rdN_g s c n
    unfold St.rdN
    split
    · have h2 := read_g (s.rdN c n).1 c
      exact ⟨h2.1.trans h.1, h2.2.1.trans h.2.1, h2.2.2.trans h.2.2⟩
    · exact h
theorem safe_rdN {s : St} (c : Nat) : ∀ n m, s.Safe (m + n) → (s.rdN c n).1.Safe m
  | 0, m, h => h
  | n + 1, m, h => by
    have h2 := safe_rdN c n (m + 1) (by rw [show m + 1 + n = m + (n + 1) by omega]; exact h)
    unfold St.rdN
    split
    · exact h2.read c
    · exact h2.le (Nat.le_succ m)
/-- A block is looked at for a table: x says what its first page is. -/
def _root_.Go.Proofs.YteofgpaceeibpaaGreat.Nand.St.find (s : St) (c : Nat) (x : Option Tab) : St × Int := s.rdN c (if x.isSome then 1 else 4)
def isOk (k : Int) (x : Option Tab) : Option Tab := if k = 0 then x else none
def FindPost (p : Nat) (s : St) (L : Lay) (c : Nat) (x : Option Tab) (w : World) (e : Ending) (w' : World) : Prop :=
  ∃ v, e = .returned (.tuple #[v, .bool (isOk (s.find c x).2 x).isSome, .int .i64 (s.find c x).2]) ∧ Nand w' p (s.find c x).1 L ∧ Fr (NF p L s.n s.nb) w w' ∧ match isOk (s.find c x).2 x with
    | none => v = .agg zt
    | some t => TabR w' w.heap.size v t
/-- A page's bytes are some. -/
theorem bytes_ok {w : World} {p : Nat} {s : St} {L : Lay} (h : Nand w p s L) {c b q : Nat} (hc : c < s.n) (hb : b < s.nb) (hq : q < s.np) : InR 256 (s.bytes c b q).1 ∧ InR 256 (s.bytes c b q).2 ∧ (s.bytes c b q).1.length ≤ 1000000 ∧ (s.bytes c b q).2.length ≤ 1000000 := by
  obtain ⟨cs, _, _, hps⟩ := h.pgs c b hc hb
  obtain ⟨v1, v2, _, _, hp⟩ := hps q hq
  have hs := h.ok.s
  unfold St.bytes
  rcases hx : (s.blk c b).pg q with _ | x
  · have h255 : ∀ n : Nat, InR 256 (List.replicate n 255) := fun n y hy => by obtain ⟨_, rfl⟩ := List.mem_replicate.1 hy; decide
    exact ⟨h255 _, h255 _, by simp; omega, by simp⟩
  · rw [hx] at hp
    obtain ⟨⟨A, n, k, _, _, h1, h2, _, h3⟩, ⟨B, m, j, _, _, h4, h5, _, h6⟩⟩ := hp
    exact ⟨h2, h5, by rw [h1.1]; exact h3, by rw [h4.1]; exact h6⟩
/-- The pages read so far: the first one's bytes. -/
structure Pgs (w : World) (base : Nat) (v : Value) (i : Nat) (d o : List Int) : Prop where
  row : ∃ vs, Par.RowV 189 2 w base v i vs ∧ (0 < i → ∃ D nd cd O no co, vs[0]? = some (.slice D nd cd) ∧ vs[1]? = some (.slice O no co) ∧ nd ≤ cd ∧ no ≤ co ∧ Rd .u8 w D nd d ∧ Rd .u8 w O no o ∧ (∀ ad, D = some ad → 0 < nd → U8 w ad.block) ∧ (∀ ad, O = some ad → 0 < no → U8 w ad.block))
theorem Pgs.nil (w : World) (base : Nat) (d o : List Int) : Pgs w base (.slice none 0 0) 0 d o := ⟨⟨[], Par.RowV.nil _ _ _ _, fun h => absurd h (Nat.lt_irrefl _)⟩⟩
theorem Pgs.fr {S : Nat → Prop} {w w' : World} {base : Nat} {v : Value} {i : Nat} {d o : List Int} (h : Pgs w base v i d o) (hf : Fr S w w') (h0 : ∀ b cs, w.heap[b]? = some (.cells cs 189 (0, 0)) → ¬ S b) (h1 : ∀ b, U8 w b → ¬ S b) : Pgs w' base v i d o := by
  obtain ⟨vs, hr, hp⟩ := h.row
  refine ⟨⟨vs, hr.fr hf (fun b hb => by obtain ⟨_, _, cs, hc⟩ := hr.blk b hb; exact h0 b cs hc), fun hi => ?_⟩⟩
  obtain ⟨D, nd, cd, O, no, co, e1, e2, e3, e4, e5, e6, e7, e8⟩ := hp hi
  exact ⟨D, nd, cd, O, no, co, e1, e2, e3, e4, e5.fr hf (fun ad e hn => h1 _ (e7 ad e hn)), e6.fr hf (fun ad e hn => h1 _ (e8 ad e hn)), fun ad e hn => (e7 ad e hn).fr hf (h1 _ (e7 ad e hn)), fun ad e hn => (e8 ad e hn).fr hf (h1 _ (e8 ad e hn))⟩
theorem Pgs.none_ {w w' : World} {base : Nat} {v : Value} {i : Nat} {d o : List Int} (h : Pgs w base v i d o) (hf : Fr None_ w w') : Pgs w' base v i d o := h.fr hf (fun _ _ _ h => h) (fun _ _ h => h)
theorem Pgs.nf {w w' : World} {base : Nat} {v : Value} {i : Nat} {d o : List Int} {p : Nat} {s : St} {L : Lay} (h : Pgs w base v i d o) (hN : Nand w p s L) (hf : Fr (NF p L s.n s.nb) w w') : Pgs w' base v i d o :=
  h.fr hf (fun b cs hb => hN.ne hb ⟨by decide, by decide, by decide, by decide, by decide⟩) (fun b hb => hN.u8 hb)
theorem row_u8 {w : World} {base : Nat} {A : Option Addr} {n k : Nat} {xs : List Int} (h : Row 5 .u8 w base (.slice A n k) xs) : ∀ ad, A = some ad → 0 < n → U8 w ad.block := fun ad e hn => by
  obtain ⟨A1, n1, c1, e1, _, _, h3⟩ := h.rd
  injection e1 with e1 e2 e3
  subst e1 e2 e3
  obtain ⟨_, _, cs, hc⟩ := h.blk ad.block (h3.out ad e)
  exact ⟨cs, hc⟩
/-- One page more. -/
theorem Pgs.snoc {w w' : World} {base : Nat} {v v' : Value} {i : Nat} {d o d2 o2 : List Int} {vs : List Value} {A B : Option Addr} {n k m j : Nat} (hr : Par.RowV 189 2 w base v i vs)
    (hp : 0 < i → ∃ D nd cd O no co, vs[0]? = some (.slice D nd cd) ∧ vs[1]? = some (.slice O no co) ∧ nd ≤ cd ∧ no ≤ co ∧ Rd .u8 w D nd d ∧ Rd .u8 w O no o ∧ (∀ ad, D = some ad → 0 < nd → U8 w ad.block) ∧ (∀ ad, O = some ad → 0 < no → U8 w ad.block))
    (h0 : i = 0 → d2 = d ∧ o2 = o) (hA : Row 5 .u8 w base (.slice A n k) d2) (hB : Row 5 .u8 w base (.slice B m j) o2)
    (hr' : Par.RowV 189 2 w' base v' (i + 1) (vs ++ [.slice A n k, .slice B m j])) (hf : Fr (fun b => v.ownBlock = some b) w w') : Pgs w' base v' (i + 1) d o := by
  have hu : ∀ b, U8 w b → ¬ (v.ownBlock = some b) := fun b ⟨cs, hc⟩ hb => by
    obtain ⟨_, _, cs', hc'⟩ := hr.blk b hb
    exact blk_ne hc hc' (by decide) rfl
  refine ⟨⟨_, hr', fun _ => ?_⟩⟩
  rcases Nat.eq_zero_or_pos i with hi | hi
  · obtain ⟨rfl, rfl⟩ := h0 hi
    have hvs : vs = [] := List.eq_nil_of_length_eq_zero (by rw [hr.2, hi])
    obtain ⟨A1, n1, c1, e1, m1, r1, _⟩ := hA.rd
    obtain ⟨B1, m1', j1, e2, m2, r2, _⟩ := hB.rd
    injection e1 with ea eb ec
    injection e2 with ed ee ef
    subst ea eb ec ed ee ef
    have ua := row_u8 hA
    have ub := row_u8 hB
    exact ⟨A, n, k, B, m, j, by rw [hvs]; rfl, by rw [hvs]; rfl, m1.out, m2.out, r1.out.fr hf (fun ad e hn => hu _ (ua ad e hn)), r2.out.fr hf (fun ad e hn => hu _ (ub ad e hn)), fun ad e hn => (ua ad e hn).fr hf (hu _ (ua ad e hn)), fun ad e hn => (ub ad e hn).fr hf (hu _ (ub ad e hn))⟩
  · obtain ⟨D, nd, cd, O, no, co, e1, e2, e3, e4, e5, e6, e7, e8⟩ := hp hi
    have hl : 2 ≤ vs.length := by rw [hr.2]; omega
    exact ⟨D, nd, cd, O, no, co, by rw [List.getElem?_append_left (by omega)]; exact e1, by rw [List.getElem?_append_left (by omega)]; exact e2, e3, e4, e5.fr hf (fun ad e hn => hu _ (e7 ad e hn)), e6.fr hf (fun ad e hn => hu _ (e8 ad e hn)), fun ad e hn => (e7 ad e hn).fr hf (hu _ (e7 ad e hn)), fun ad e hn => (e8 ad e hn).fr hf (hu _ (e8 ad e hn))⟩
/-- What Join wants of them. -/
theorem Pgs.join {w : World} {base : Nat} {v : Value} {i : Nat} {d o : List Int} (h : Pgs w base v i d o) (hi : 0 < i) (x : Option Tab) (g : Geo) (hg : g.Ok) (hrd : InR 256 d) (hro : InR 256 o) (hl : d.length ≤ 1000000) (hx : TabIs g d o x) :
    Calls Tryz.prog 103 #[v, g.val] w (JoinPost x w) := by
  obtain ⟨vs, hr, hp⟩ := h.row
  obtain ⟨D, nd, cd, O, no, co, e1, e2, e3, e4, e5, e6, _, _⟩ := hp hi
  rcases hr.1.2 with ⟨rfl, hn⟩ | ⟨gb, cap, cur, rfl, _⟩
  · omega
  · obtain ⟨A, c, ev, _, hc, _⟩ := hr.rd
    injection ev with ea eb ec
    subst ea ec
    obtain ⟨ad, ead, hcell⟩ := hc.out.2 (by omega)
    injection ead with ead
    subst ead
    have k0 := hcell 0 (by omega)
    have k1 := hcell 1 (by omega)
    rw [List.getD_eq_getElem?_getD, e1] at k0
    rw [List.getD_eq_getElem?_getD, e2] at k1
    rw [add_at] at k0 k1
    exact Join_calls gb i cap D O nd cd no co d o g x w hi k0 k1 e5 e6 hrd hro e3 e4 hg hx (by rw [← e5.1]; exact hl)
end Go.Proofs.YteofgpaceeibpaaGreat.VolB

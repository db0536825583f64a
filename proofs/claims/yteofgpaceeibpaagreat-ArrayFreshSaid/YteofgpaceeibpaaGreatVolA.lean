/- vol: a volume in memory; in, Read, Erase, Program (no block fails). -/
import Derived.Test.YteofgpaceeibpaaGreatNandH
import Derived.Test.YteofgpaceeibpaaGreatRemapB
import Derived.StillTailTactics
namespace Go.Proofs.YteofgpaceeibpaaGreat.VolA
open Go.RowKit Go.Proofs.YteofgpaceeibpaaGreat.Gab Go.Proofs.YteofgpaceeibpaaGreat.Wr Go.Proofs.YteofgpaceeibpaaGreat.Geom Go.Proofs.YteofgpaceeibpaaGreat.Ref Go.Proofs.YteofgpaceeibpaaGreat.Heap Go.Proofs.YteofgpaceeibpaaGreat.Nand Go.Proofs.YteofgpaceeibpaaGreat.NandA Go.Proofs.YteofgpaceeibpaaGreat.NandB Go.Proofs.YteofgpaceeibpaaGreat.NandC Go.Proofs.YteofgpaceeibpaaGreat.NandD Go.Proofs.YteofgpaceeibpaaGreat.NandE Go.Proofs.YteofgpaceeibpaaGreat.NandH Go.Proofs.YteofgpaceeibpaaGreat.RemapA Go.Proofs.YteofgpaceeibpaaGreat.RemapB
set_option linter.unusedVariables false
set_option linter.unusedSimpArgs false

theorem _root_.Go.Proofs.YteofgpaceeibpaaGreat.Gab.Fr.undrew {S : Nat → Prop} {a b : World} (h : Fr S a.drew b) : Fr S a b := ⟨h.os, h.tape, h.output, h.size, h.block⟩
/-- Whose block is one of ints. -/
def IB (w : World) (A : Option Addr) (n : Nat) : Prop := ∀ ad, A = some ad → 0 < n → ∃ cs, w.heap[ad.block]? = some (.cells cs 3 (0, 0))
theorem IB.fr {S : Nat → Prop} {w w' : World} {A : Option Addr} {n : Nat} (h : IB w A n) (hf : Fr S w w') (hS : ∀ ad, A = some ad → 0 < n → ¬ S ad.block) : IB w' A n := fun ad e hn => by
  obtain ⟨cs, hc⟩ := h ad e hn
  exact ⟨cs, hf.heap hc (hS ad e hn)⟩
/-- Where a volume lies. -/
structure VLay where
  vb : Nat
  A1 : Option Addr
  n1 : Nat
  c1 : Nat
  A2 : Option Addr
  n2 : Nat
  c2 : Nat
/-- A volume in memory. -/
structure VolAt (w : World) (p c : Nat) (g : Geo) (t : Tab) (v : VLay) : Prop where
  main : w.heap[v.vb]? = some (.cells #[.pointer (some ⟨p, 0, none⟩), .int .i64 (c : Int), .int .i64 g.c, .int .i64 g.b, .int .i64 g.p, .int .i64 g.s, .int .u32 t.seq, .slice v.A1 v.n1 v.c1, .slice v.A2 v.n2 v.c2, .int .i64 t.t0, .int .i64 t.t1] 137 (0, 0))
  l1 : v.n1 ≤ v.c1
  r1 : Rd .i64 w v.A1 v.n1 t.place
  l2 : v.n2 ≤ v.c2
  r2 : Rd .i64 w v.A2 v.n2 t.spare
  i1 : IB w v.A1 v.n1
  i2 : IB w v.A2 v.n2
theorem VolAt.fr {S : Nat → Prop} {w w' : World} {p c : Nat} {g : Geo} {t : Tab} {v : VLay} (h : VolAt w p c g t v) (hf : Fr S w w') (h0 : ¬ S v.vb) (h1 : ∀ ad, v.A1 = some ad → 0 < v.n1 → ¬ S ad.block) (h2 : ∀ ad, v.A2 = some ad → 0 < v.n2 → ¬ S ad.block) : VolAt w' p c g t v :=
  ⟨hf.heap h.main h0, h.l1, h.r1.fr hf h1, h.l2, h.r2.fr hf h2, h.i1.fr hf h1, h.i2.fr hf h2⟩
/-- Its blocks' types. -/
theorem VolAt.ty {S : Nat → Prop} {w w' : World} {p c : Nat} {g : Geo} {t : Tab} {v : VLay} (h : VolAt w p c g t v) (hf : Fr S w w') (hS : ∀ b cs T f, w.heap[b]? = some (.cells cs T f) → T = 137 ∨ T = 3 → ¬ S b) : VolAt w' p c g t v :=
  h.fr hf (hS _ _ _ _ h.main (.inl rfl)) (fun ad e hn => by obtain ⟨cs, hc⟩ := h.i1 ad e hn; exact hS _ _ _ _ hc (.inr rfl)) (fun ad e hn => by obtain ⟨cs, hc⟩ := h.i2 ad e hn; exact hS _ _ _ _ hc (.inr rfl))
theorem VolAt.none_ {w w' : World} {p c : Nat} {g : Geo} {t : Tab} {v : VLay} (h : VolAt w p c g t v) (hf : Fr None_ w w') : VolAt w' p c g t v := h.ty hf (fun _ _ _ _ _ _ h => h)
theorem VolAt.nf {w w' : World} {p c p2 : Nat} {g : Geo} {t : Tab} {v : VLay} {s : St} {L : Lay} (h : VolAt w p2 c g t v) (hN : Nand w p s L) (hf : Fr (NF p L s.n s.nb) w w') : VolAt w' p2 c g t v :=
  h.ty hf (fun b cs T f hb hT => hN.ne hb (by rcases hT with rfl | rfl <;> exact ⟨by decide, by decide, by decide, by decide, by decide⟩))
def _root_.Go.Proofs.YteofgpaceeibpaaGreat.RemapA.Tab.at (t : Tab) (b : Nat) : Nat := (t.place.getD b 0).toNat
theorem at_lt {t : Tab} {g : Geo} (h : t.Ok g) {b : Nat} (hb : b < t.place.length) : 0 ≤ t.place.getD b 0 ∧ t.place.getD b 0 < g.b ∧ t.at b < g.b.toNat ∧ t.place.getD b 0 = ((t.at b : Nat) : Int) := by
  have h1 := h.inr (t.place.getD b 0) (by
    unfold Tab.all
    rw [List.getD_eq_getElem?_getD, List.getElem?_eq_getElem hb]
    simp)
  refine ⟨h1.1, h1.2, ?_, ?_⟩ <;> unfold Tab.at <;> omega

set_option maxHeartbeats 1000000 in
set_option maxRecDepth 100000 in
theorem in_calls (p c : Nat) (g : Geo) (t : Tab) (v : VLay) (b : Nat) (w : World) (hV : VolAt w p c g t v) (hb : b < t.place.length) :
    Calls Tryz.prog 64 #[.pointer (some ⟨v.vb, 0, none⟩), .int .i64 (b : Int)] w fun e w' => e = .returned (.int .i64 0) ∧ Fr None_ w w' := by
  have c7 := cell_is (i := 7) hV.main rfl
  try dsimp only at c7
  have hn := hV.r1.1
  have d0 : decide ((b : Int) < 0) = false := decide_eq_false (by omega)
  have d1 : decide ((v.n1 : Int) ≤ (b : Int)) = false := decide_eq_false (by omega)
  have d2 : decide (v.n1 ≤ b) = false := decide_eq_false (by omega)
  generalize v.n1 = n1 at *
  generalize v.A1 = A1 at *
  generalize v.c1 = c1 at *
  clear hV hb hn
  go_enter Tryz.func64, Tryz.ntmps64
  go_wp2
  go_ret
  exact ⟨rfl, Fr.refl _ _⟩

/-- A volume's cells that an operation asks for. -/
def VC (w : World) (p c k : Nat) (v : VLay) (ad : Addr) (b : Nat) : Prop :=
  w.cell? ⟨v.vb, 0, none⟩ = some (.pointer (some ⟨p, 0, none⟩)) ∧ w.cell? ⟨v.vb, 1, none⟩ = some (.int .i64 (c : Int)) ∧ w.cell? ⟨v.vb, 7, none⟩ = some (.slice (some ad) v.n1 v.c1) ∧ w.cell? (ad.add b) = some (.int .i64 (k : Int))
theorem VolAt.vc {w : World} {p c : Nat} {g : Geo} {t : Tab} {v : VLay} (h : VolAt w p c g t v) (ht : t.Ok g) {b : Nat} (hb : b < t.place.length) : ∃ ad, v.A1 = some ad ∧ ∀ w', VolAt w' p c g t v → VC w' p c (t.at b) v ad b := by
  obtain ⟨hb0, hb1, hb2, hb3⟩ := at_lt ht hb
  have hn := h.r1.1
  obtain ⟨ad, hA, _⟩ := h.r1.at_ (b : Int) (by omega) (by omega)
  refine ⟨ad, hA, fun w' h' => ?_⟩
  obtain ⟨ad', hA', hc⟩ := h'.r1.at_ (b : Int) (by omega) (by omega)
  obtain rfl : ad = ad' := by rw [hA] at hA'; injection hA'
  rw [show Int.toNat (b : Int) = b by omega, hb3] at hc
  have c0 := cell_is (i := 0) h'.main rfl
  have c1 := cell_is (i := 1) h'.main rfl
  have c7 := cell_is (i := 7) h'.main rfl
  try dsimp only at c0 c1 c7
  rw [hA] at c7
  exact ⟨c0, c1, c7, hc⟩

set_option maxHeartbeats 4000000 in
set_option maxRecDepth 100000 in
theorem Read_calls (p c : Nat) (s : St) (L : Lay) (t : Tab) (v : VLay) (b q : Nat) (w : World) (hN : Nand w p s L) (hV : VolAt w p c s.g t v) (ht : t.Ok s.g) (hc : c < s.n) (hb : b < t.place.length) (hq : q < s.np) (n : Nat) (hs : s.Safe (n + 1)) :
    Calls Tryz.prog 36 #[.pointer (some ⟨v.vb, 0, none⟩), .int .i64 (b : Int), .int .i64 (q : Int)] w (ReadPost p s L c (t.at b) q w) := by
  obtain ⟨hb0, hb1, hb2, hb3⟩ := at_lt ht hb
  obtain ⟨ad, hA, hvc⟩ := hV.vc ht hb
  have HIN := As.mk (in_calls p c s.g t v b w hV hb)
  have HRD := As.mk (fun (w' : World) (hf : Fr None_ w w') => Rd_calls p s L c (t.at b) q w' (hN.none_ hf) hc hb2 hq n hs)
  have HK := As.mk (fun (w' : World) (hf : Fr None_ w w') => hvc w' (hV.none_ hf))
  have HK2 := As.mk (fun (w1 w' : World) (hf : Fr None_ w w1) (hf' : Fr (NF p L s.n s.nb) w1 w') => hvc w' ((hV.none_ hf).nf (hN.none_ hf) hf'))
  have hbn : (b : Int) < (v.n1 : Int) := by have := hV.r1.1; omega
  have hz : ∀ w' : World, Fr None_ w w' → w.heap.size ≤ w'.heap.size := fun w' hf => hf.size
  have HPost := As.mk (show ∀ (e : Ending) (w1 w' : World), Fr None_ w w1 → ReadPost p s L c (t.at b) q w1 e w' → ReadPost p s L c (t.at b) q w e w' from by
    rintro e w1 w' hf ⟨A, n, k, B, m, j, h1, h2, h3, h4, h5⟩
    exact ⟨A, n, k, B, m, j, h1, h2, hf.trans h3 (fun _ _ h => h.elim) (fun _ _ h => h), fun hk => ⟨(h4 hk).1.lower hf.size, (h4 hk).2.lower hf.size⟩, h5⟩)
  unfold VC at HK HK2
  clear hV hN ht hb hq hs hb0 hb1 hb2 hb3 hc hvc hA hz
  go_enter Tryz.func36, Tryz.ntmps36
  go_wp2_with fail
  ((with_reducible refine (HIN.out).mono ?_); rintro e w1 ⟨rfl, hf1⟩)
  obtain ⟨c0, c1, c7, hpl⟩ := HK.out w1 hf1
  have HF1 := As.mk hf1
  clear hf1
  go_upto_region 4 with fail
  go_region_held3 (fun w' => w'.cell? ⟨v.vb, 0, none⟩ = some (.pointer (some ⟨p, 0, none⟩)) ∧ w'.cell? ⟨v.vb, 1, none⟩ = some (.int .i64 (c : Int)) ∧ w'.cell? ⟨v.vb, 7, none⟩ = some (.slice (some ad) v.n1 v.c1) ∧ w'.cell? (ad.add b) = some (.int .i64 ((t.at b : Nat) : Int))) (first | go_keep | exact ⟨c0, c1, c7, hpl⟩ | exact HK2.out _ _ HF1.out.drew HF2.out) (first
    | (go_at_call 65; (with_reducible refine (HRD.out _ HF1.out.drew).mono ?_); rintro e w2 hpost; have HP2 := As.mk (HPost.out _ _ _ HF1.out.drew hpost); obtain ⟨A2, n2, k2, B2, m2, j2, rfl, hn2, hf2, _, _⟩ := hpost; have HF2 := As.mk hf2; clear hn2 hf2)
    | fail)
  go_wp2_with fail
  go_ret3
  exact HP2.out

theorem start_code (s : St) (c : Nat) : (s.start c).2 = 0 ∨ (s.start c).2 = 71 ∨ (s.start c).2 = 72 := by
  unfold St.start
  split
  · exact .inr (.inr rfl)
  · split
    · split
      · exact .inr (.inr rfl)
      · exact .inr (.inl rfl)
    · exact .inl rfl
theorem erase_code (s : St) (c b : Nat) : (s.erase c b).2 = 0 ∨ (s.erase c b).2 = 71 ∨ (s.erase c b).2 = 72 := by
  unfold St.erase
  split
  · exact .inl rfl
  · exact start_code s c
theorem prog_code (s : St) (c b q : Nat) (d o : List Int) : (s.prog c b q d o).2 = 0 ∨ (s.prog c b q d o).2 = 71 ∨ (s.prog c b q d o).2 = 72 ∨ (s.prog c b q d o).2 = 73 := by
  unfold St.prog St.program
  have h := start_code s c
  split
  · split
    · exact .inl rfl
    · exact .inr (.inr (.inr rfl))
  · rcases h with h | h | h
    · exact .inl h
    · exact .inr (.inl h)
    · exact .inr (.inr (.inl h))

set_option maxHeartbeats 4000000 in
set_option maxRecDepth 100000 in
theorem Erase_calls (p c : Nat) (s : St) (L : Lay) (t : Tab) (v : VLay) (b : Nat) (w : World) (hN : Nand w p s L) (hV : VolAt w p c s.g t v) (ht : t.Ok s.g) (hc : c < s.n) (hb : b < t.place.length) (n : Nat) (hs : s.Safe (n + 1)) :
    Calls Tryz.prog 61 #[.pointer (some ⟨v.vb, 0, none⟩), .int .i64 (b : Int)] w (ErasePost p s L c (t.at b) w) := by
  obtain ⟨hb0, hb1, hb2, hb3⟩ := at_lt ht hb
  obtain ⟨ad, hA, hvc⟩ := hV.vc ht hb
  have HIN := As.mk (in_calls p c s.g t v b w hV hb)
  have HRD := As.mk (fun (w' : World) (hf : Fr None_ w w') => Eras_calls p s L c (t.at b) w' (hN.none_ hf) hc hb2 n hs)
  have HK := As.mk (fun (w' : World) (hf : Fr None_ w w') => hvc w' (hV.none_ hf))
  have HK2 := As.mk (fun (w1 w' : World) (hf : Fr None_ w w1) (hf' : Fr (NF p L s.n s.nb) w1 w') => hvc w' ((hV.none_ hf).nf (hN.none_ hf) hf'))
  have hbn : (b : Int) < (v.n1 : Int) := by have := hV.r1.1; omega
  have HPost := As.mk (show ∀ (e : Ending) (w1 w' : World), Fr None_ w w1 → ErasePost p s L c (t.at b) w1 e w' → ErasePost p s L c (t.at b) w e w' from fun e w1 w' hf h => ⟨h.1, h.2.1, hf.trans h.2.2 (fun _ _ h => h.elim) (fun _ _ h => h)⟩)
  have hne : ((s.erase c (t.at b)).2 == 70) = false := by rw [beq_eq_false_iff_ne]; have := erase_code s c (t.at b); omega
  unfold VC at HK HK2
  clear hV hN ht hb hs hb0 hb1 hb2 hb3 hc hvc hA
  go_enter Tryz.func61, Tryz.ntmps61
  go_wp2_with fail
  ((with_reducible refine (HIN.out).mono ?_); rintro e w1 ⟨rfl, hf1⟩)
  obtain ⟨c0, c1, c7, hpl⟩ := HK.out w1 hf1
  have HF1 := As.mk hf1
  clear hf1
  go_upto_region 4 with fail
  go_region_held3 (fun w' => w'.cell? ⟨v.vb, 0, none⟩ = some (.pointer (some ⟨p, 0, none⟩)) ∧ w'.cell? ⟨v.vb, 1, none⟩ = some (.int .i64 (c : Int)) ∧ w'.cell? ⟨v.vb, 7, none⟩ = some (.slice (some ad) v.n1 v.c1) ∧ w'.cell? (ad.add b) = some (.int .i64 ((t.at b : Nat) : Int))) (first | go_keep | exact ⟨c0, c1, c7, hpl⟩ | exact HK2.out _ _ HF1.out.drew HF2.out) (first
    | (go_at_call 58; (with_reducible refine (HRD.out _ HF1.out.drew).mono ?_); rintro e w2 hpost; have HP2 := As.mk (HPost.out _ _ _ HF1.out.drew hpost); obtain ⟨rfl, hn2, hf2⟩ := hpost; have HF2 := As.mk hf2; clear hn2 hf2)
    | fail)
  generalize (s.erase c (t.at b)).2 = k at *
  go_wp2_with fail
  go_loop [6] (fun v6 => v6 = .int .i64 k) (fun _ => 0)
  case atStart => rfl
  case round =>
    obtain rfl := hrel
    go_wp2_with fail
    go_ret
    exact HP2.out

set_option maxHeartbeats 4000000 in
set_option maxRecDepth 100000 in
theorem Prog_calls (p c : Nat) (s : St) (L : Lay) (t : Tab) (v : VLay) (b q : Nat) (D O : Option Addr) (nd cd no co : Nat) (d o : List Int) (w : World) (hN : Nand w p s L) (hV : VolAt w p c s.g t v) (ht : t.Ok s.g) (hc : c < s.n) (hb : b < t.place.length) (hq : q < s.np) (n : Nat) (hs : s.Safe (n + 1))
    (hD : RdN w (NF p L s.n s.nb) D nd d) (hO : RdN w (NF p L s.n s.nb) O no o) (hnd : (nd : Int) = s.g.s) (hno : no = 64) (hrd : InR 256 d) (hro : InR 256 o) :
    Calls Tryz.prog 62 #[.pointer (some ⟨v.vb, 0, none⟩), .int .i64 (b : Int), .int .i64 (q : Int), .slice D nd cd, .slice O no co] w (PPost p s L c (t.at b) q d o w) := by
  obtain ⟨hb0, hb1, hb2, hb3⟩ := at_lt ht hb
  obtain ⟨ad, hA, hvc⟩ := hV.vc ht hb
  have HIN := As.mk (in_calls p c s.g t v b w hV hb)
  have HRD := As.mk (fun (w' : World) (hf : Fr None_ w w') => NandH.Prog_calls p s L c (t.at b) q D O nd cd no co d o w' (hN.none_ hf) hc hb2 hq n hs (hD.none_ hf) (hO.none_ hf) hnd hno hrd hro)
  have HK := As.mk (fun (w' : World) (hf : Fr None_ w w') => hvc w' (hV.none_ hf))
  have HK2 := As.mk (fun (w1 w' : World) (hf : Fr None_ w w1) (hf' : Fr (NF p L s.n s.nb) w1 w') => hvc w' ((hV.none_ hf).nf (hN.none_ hf) hf'))
  have hbn : (b : Int) < (v.n1 : Int) := by have := hV.r1.1; omega
  have HPost := As.mk (show ∀ (e : Ending) (w1 w' : World), Fr None_ w w1 → PPost p s L c (t.at b) q d o w1 e w' → PPost p s L c (t.at b) q d o w e w' from fun e w1 w' hf h => ⟨h.1, h.2.1, hf.trans h.2.2 (fun _ _ h => h.elim) (fun _ _ h => h)⟩)
  have hne : ((s.prog c (t.at b) q d o).2 != 70) = true := by rw [bne_iff_ne]; have := prog_code s c (t.at b) q d o; omega
  unfold VC at HK HK2
  clear hV hN ht hb hs hb0 hb1 hb2 hb3 hc hvc hA hD hO hnd hno hrd hro hq
  go_enter Tryz.func62, Tryz.ntmps62
  go_wp2_with fail
  ((with_reducible refine (HIN.out).mono ?_); rintro e w1 ⟨rfl, hf1⟩)
  obtain ⟨c0, c1, c7, hpl⟩ := HK.out w1 hf1
  have HF1 := As.mk hf1
  clear hf1
  go_upto_region 4 with fail
  go_region_held3 (fun w' => w'.cell? ⟨v.vb, 0, none⟩ = some (.pointer (some ⟨p, 0, none⟩)) ∧ w'.cell? ⟨v.vb, 1, none⟩ = some (.int .i64 (c : Int)) ∧ w'.cell? ⟨v.vb, 7, none⟩ = some (.slice (some ad) v.n1 v.c1) ∧ w'.cell? (ad.add b) = some (.int .i64 ((t.at b : Nat) : Int))) (first | go_keep | exact ⟨c0, c1, c7, hpl⟩ | exact HK2.out _ _ HF1.out.drew HF2.out) (first
    | (go_at_call 101; (with_reducible refine (HRD.out _ HF1.out.drew).mono ?_); rintro e w2 hpost; have HP2 := As.mk (HPost.out _ _ _ HF1.out.drew hpost); obtain ⟨rfl, hn2, hf2⟩ := hpost; have HF2 := As.mk hf2; clear hn2 hf2)
    | fail)
  generalize (s.prog c (t.at b) q d o).2 = k at *
  go_wp2_with fail
  go_ret
  exact HP2.out
end Go.Proofs.YteofgpaceeibpaaGreat.VolA

/- nand: Read. | nand: Program, where nothing fails and the power stays. -/
import Derived.Test.YteofgpaceeibpaaGreatTkNandB
import Derived.Test.YteofgpaceeibpaaGreatTkAIter
import Derived.Deep.RegionLaw
import Derived.Laws.Cover3
namespace Go.Proofs.YteofgpaceeibpaaGreat.NandC
open Go.RowKit Gab Wr Geom Ref Heap Nand NandA NandB
open Step (step_appendRow)
set_option linter.unusedVariables false
set_option linter.unusedSimpArgs false

theorem eql_nil (A : Option Addr) (n k : Nat) : ∀ W : World, (binOp .eql 48 (.slice A n k) (.slice none 0 0)).run Tryz.prog W = .ok (.bool A.isNone) W := fun W => by
  simp [binOp, run_equal_slice_nil (P := Tryz.prog) W 48 5 A n k Tryz.underlying48, go_sem]
/-- What comes at the next operation is a crash. -/
def _root_.Go.Proofs.YteofgpaceeibpaaGreat.Nand.St.bang (s : St) : Bool := decide ((s.more.ev.getD noEv).kind = 2)
/-- A page is read: the chips behind it, and the error. -/
def _root_.Go.Proofs.YteofgpaceeibpaaGreat.Nand.St.read (s : St) (c : Nat) : St × Int := if (s.start c).2 = 0 then (if s.bang then ((s.start c).1.gone, 72) else s.start c) else s.start c
/-- A page's bytes, and those beside it. -/
def _root_.Go.Proofs.YteofgpaceeibpaaGreat.Nand.St.bytes (s : St) (c b q : Nat) : List Int × List Int := match (s.blk c b).pg q with
  | none => (List.replicate s.g.s.toNat 255, List.replicate 64 255)
  | some x => x
def ReadPost (p : Nat) (s : St) (L : Lay) (c b q : Nat) (w : World) (e : Ending) (w' : World) : Prop :=
  ∃ A n k B m j, e = .returned (.tuple #[.slice A n k, .slice B m j, .int .i64 (s.read c).2]) ∧ Nand w' p (s.read c).1 L ∧ Fr (NF p L s.n s.nb) w w' ∧
    ((s.read c).2 = 0 → Row 5 .u8 w' w.heap.size (.slice A n k) (s.bytes c b q).1 ∧ Row 5 .u8 w' w.heap.size (.slice B m j) (s.bytes c b q).2) ∧ ((s.read c).2 ≠ 0 → Value.slice A n k = .slice none 0 0 ∧ Value.slice B m j = .slice none 0 0)
theorem start_not {s : St} {c : Nat} (h : (s.start c).2 ≠ 0) : s.read c = s.start c := by unfold St.read; rw [if_neg h]
theorem n_same {s s' : St} (h : s'.g = s.g) : s'.n = s.n ∧ s'.nb = s.nb ∧ s'.np = s.np := ⟨by unfold St.n; rw [h], by unfold St.nb; rw [h], by unfold St.np; rw [h]⟩

set_option maxHeartbeats 8000000 in
set_option maxRecDepth 100000 in
theorem Read_not (p : Nat) (s : St) (L : Lay) (c b q : Nat) (w : World) (h : Nand w p s L) (hc : c < s.n) (hb : b < s.nb) (hops : 0 ≤ s.ops ∧ s.ops < 4611686018427387904) (hk : (s.start c).2 ≠ 0) :
    Calls Tryz.prog 65 #[.pointer (some ⟨p, 0, none⟩), .int .i64 (c : Int), .int .i64 (b : Int), .int .i64 (q : Int)] w (ReadPost p s L c b q w) := by
  have HB := As.mk (begin_calls p s L c b w h hc hb hops)
  have hr := start_not hk
  have HPost := As.mk (show ∀ (e : Ending) (w' : World), e = .returned (.tuple #[.slice none 0 0, .slice none 0 0, .int .i64 (s.start c).2]) → Nand w' p (s.start c).1 L → Fr (NF p L s.n s.nb) w w' → ReadPost p s L c b q w e w' from fun e w' h1 h2 h3 => ⟨none, 0, 0, none, 0, 0, by rw [hr]; exact h1, by rw [hr]; exact h2, h3, fun hh => absurd (by rw [← hr]; exact hh) hk, fun _ => ⟨rfl, rfl⟩⟩)
  have HK := As.mk hk
  have dk : ((s.start c).2 != 0) = true := by rw [bne_iff_ne]; exact hk
  unfold BeginPost at HB
  generalize (s.start c).2 = k at *
  clear h hops hk hr hc hb
  go_enter Tryz.func65, Tryz.ntmps65
  go_wp2_with fail
  ((with_reducible refine (HB.out).mono ?_); rintro e w1 ⟨ptr, v, rfl, hn1, hf1, _, hbad⟩)
  obtain ⟨rfl, rfl⟩ := hbad HK.out
  have HN2 := As.mk (hn1.none_ ((Fr.refl None_ w1).alloc (.cells #[.int .i64 0, .int .i64 0, .int .i64 0, .slice none 0 0] 50)))
  have HF2 := As.mk (hf1.alloc (.cells #[.int .i64 0, .int .i64 0, .int .i64 0, .slice none 0 0] 50))
  clear hn1 hf1 hbad
  go_wp2_with fail
  go_ret3
  exact HPost.out _ _ rfl HN2.out HF2.out

set_option maxHeartbeats 8000000 in
set_option maxRecDepth 100000 in
theorem Read_ok (p : Nat) (s : St) (L : Lay) (c b q : Nat) (w : World) (h : Nand w p s L) (hc : c < s.n) (hb : b < s.nb) (hq : q < s.np) (hops : 0 ≤ s.ops ∧ s.ops < 4611686018427387904) (hk : (s.start c).2 = 0) :
    Calls Tryz.prog 65 #[.pointer (some ⟨p, 0, none⟩), .int .i64 (c : Int), .int .i64 (b : Int), .int .i64 (q : Int)] w (ReadPost p s L c b q w) := by
  have HB := As.mk (begin_calls p s L c b w h hc hb hops)
  have H0 := As.mk h
  have hsg := start_g s c
  have hnn := n_same hsg.1
  have HSG := As.mk (And.intro hsg hnn)
  have HBang := As.mk (show ∀ (e : Ending) (w' : World), s.bang = true → e = .returned (.tuple #[.slice none 0 0, .slice none 0 0, .int .i64 72]) → Nand w' p (s.start c).1.gone L → Fr (NF p L s.n s.nb) w w' → ReadPost p s L c b q w e w' from fun e w' hb h1 h2 h3 => by
    have hr : s.read c = ((s.start c).1.gone, 72) := by unfold St.read; rw [if_pos hk, if_pos hb]
    refine ⟨none, 0, 0, none, 0, 0, by rw [hr]; exact h1, by rw [hr]; exact h2, h3, fun hh => ?_, fun _ => ⟨rfl, rfl⟩⟩
    rw [hr] at hh
    cases hh)
  have HOk := As.mk (show ∀ (e : Ending) (w' : World) (A : Option Addr) (n k : Nat) (B : Option Addr) (m j : Nat), s.bang = false → e = .returned (.tuple #[.slice A n k, .slice B m j, .int .i64 0]) → Nand w' p (s.start c).1 L → Fr (NF p L s.n s.nb) w w' → Row 5 .u8 w' w.heap.size (.slice A n k) (s.bytes c b q).1 → Row 5 .u8 w' w.heap.size (.slice B m j) (s.bytes c b q).2 → ReadPost p s L c b q w e w' from fun e w' A n k B m j hb h1 h2 h3 h4 h5 => by
    have hr : s.read c = ((s.start c).1, 0) := by unfold St.read; rw [if_pos hk, if_neg (by rw [hb]; decide), ← hk]
    refine ⟨A, n, k, B, m, j, by rw [hr]; exact h1, by rw [hr]; exact h2, h3, fun _ => ⟨h4, h5⟩, fun hh => ?_⟩
    rw [hr] at hh
    exact absurd rfl hh)
  have HBG := As.mk (show s.bang = decide ((s.more.ev.getD noEv).kind = 2) from rfl)
  unfold BeginPost at HB
  rw [hk] at HB
  have HQ := As.mk (And.intro hc (And.intro hb hq))
  clear hops hk hsg hnn h hc hb
  go_enter Tryz.func65, Tryz.ntmps65
  go_wp2_with fail
  ((with_reducible refine (HB.out).mono ?_); rintro e w1 ⟨ptr, v, rfl, hn1, hf1, hok, _⟩)
  obtain ⟨rfl, LA, ln, lc, rfl, _⟩ := hok (by first | rfl | trivial)
  have HZ1 := As.mk hf1.size
  generalize (s.start c).1 = s1 at *
  generalize (s.more.ev.getD noEv).op = O at *
  generalize (s.more.ev.getD noEv).kind = K at *
  generalize (s.more.ev.getD noEv).chip = H at *
  have hfx := (Fr.refl None_ w1).alloc (.cells #[.int .i64 O, .int .i64 K, .int .i64 H, .slice LA ln lc] 50)
  have HE2 := As.mk (heap_alloc_new w1 (.cells #[.int .i64 O, .int .i64 K, .int .i64 H, .slice LA ln lc] 50))
  have HN2 := As.mk (hn1.none_ hfx)
  have HF2 := As.mk (hf1.after hfx (fun _ _ h => h.elim))
  have HES := As.mk (show w1.heap.size < (w1.alloc (.cells #[.int .i64 O, .int .i64 K, .int .i64 H, .slice LA ln lc] 50)).heap.size from by simp)
  clear hn1 hf1 hok HB hfx
  go_upto_if 22 with fail
  generalize w1.alloc (.cells #[.int .i64 O, .int .i64 K, .int .i64 H, .slice LA ln lc] 50) = w2 at *
  generalize w1.heap.size = eb at *
  have e1 := cell_is (i := 1) HE2.out rfl
  try dsimp only at e1
  by_cases hK : K = 2
  · have HBT := As.mk (show s.bang = true from by rw [HBG.out]; exact decide_eq_true hK)
    have dK : (K == 2) = true := beq_iff_eq.2 hK
    have m8 := cell_is (i := 8) HN2.out.main rfl
    have f8 := free_of (i := 8) HN2.out.main
    try dsimp only at m8
    clear hK
    go_wp2_with fail
    go_ret3
    have hsf := fr_set1 (w' := w2) (b := p) (i := 8) (.bool true)
    refine HBang.out _ _ HBT.out rfl ?_ (HF2.out.after hsf (fun _ _ e => .inl e))
    have hn7 := HN2.out.setMain s1.ops true hsf (by have h := heap_set HN2.out.main 8 (.bool true); simpa using h)
    exact hn7
  · have HBT := As.mk (show s.bang = false from by rw [HBG.out]; exact decide_eq_false hK)
    have dK : (K == 2) = false := beq_eq_false_iff_ne.2 hK
    clear hK
    have m2 := cell_is (i := 2) HN2.out.main rfl
    try dsimp only at m2
    change w2.cell? ⟨p, 2, none⟩ = some (.int .i64 s1.g.p) at m2
    rw [HSG.out.1.1] at m2
    have hqp : (q : Int) < s.g.p := by have := H0.out.ok.p; have h2 := hq; unfold St.np at h2; omega
    have dq0 : decide ((q : Int) < 0) = false := decide_eq_false (by omega)
    have dq1 : decide (s.g.p ≤ (q : Int)) = false := decide_eq_false (by omega)
    obtain ⟨bs, hbs, hbb⟩ := HN2.out.chp c (by rw [HSG.out.2.1]; exact HQ.out.1)
    have hb4 := hbb b (by rw [HSG.out.2.2.1]; exact HQ.out.2.1)
    have kp := cell_is hbs hb4.1
    rw [HSG.out.2.2.2] at kp
    obtain ⟨ps, hps, hpz, hpp⟩ := HN2.out.pgs c b (by rw [HSG.out.2.1]; exact HQ.out.1) (by rw [HSG.out.2.2.1]; exact HQ.out.2.1)
    obtain ⟨v1, v2, hv1, hv2, hpa⟩ := hpp q (by rw [HSG.out.2.2.2]; exact hq)
    have y1 := cell_is hps hv1
    have y2 := cell_is hps hv2
    have hqt : Int.toNat (q : Int) = q := by omega
    have hqn : (q : Int) < (s.np : Int) := by omega
    rw [HSG.out.1.2.1] at hpa
    have hbyt : s.bytes c b q = match (s.blk c b).pg q with
      | none => (List.replicate s.g.s.toNat 255, List.replicate 64 255)
      | some x => x := rfl
    have hgs := H0.out.ok.s
    clear hbs hbb hb4 hps hpz hpp hv1 hv2
    rcases hpg : (s.blk c b).pg q with _ | x
    · rw [hpg] at hpa hbyt
      obtain ⟨rfl, rfl⟩ := hpa
      have HBY := As.mk (show s.bytes c b q = (List.replicate s.g.s.toNat 255, List.replicate 64 255) from hbyt)
      have hen := eql_nil none 0 0
      clear hpg hbyt
      have HFU := As.mk (show ∀ w : World, Calls Tryz.prog 104 #[.int .i64 s.g.s] w fun e w' => ∃ v, e = .returned v ∧ Row 5 .u8 w' w.heap.size v (List.replicate s.g.s.toNat 255) ∧ Fr None_ w w' from fun w => by
        have h := full_calls s.g.s.toNat w (by omega)
        rw [show ((s.g.s.toNat : Nat) : Int) = s.g.s by omega] at h
        exact h)
      have HF64 := As.mk (show ∀ w : World, Calls Tryz.prog 104 #[.int .i64 64] w fun e w' => ∃ v, e = .returned v ∧ Row 5 .u8 w' w.heap.size v (List.replicate 64 255) ∧ Fr None_ w w' from fun w => full_calls 64 w (by decide))
      have hfy := (Fr.refl None_ w2).alloc (.cells #[.slice none 0 0, .slice none 0 0] 176)
      go_upto_region 11 with fail
      generalize w2.alloc (.cells #[.slice none 0 0, .slice none 0 0] 176) = w3 at *
      have HN3 := As.mk (HN2.out.none_ hfy)
      have HF3 := As.mk (HF2.out.after hfy (fun _ _ h => h.elim))
      have m3 := cell_is (i := 3) HN3.out.main rfl
      try dsimp only at m3
      change w3.cell? ⟨p, 3, none⟩ = some (.int .i64 s1.g.s) at m3
      rw [HSG.out.1.1] at m3
      clear hfy HN2 HF2 m2 kp y1 y2 e1 hen
      go_wp2_with fail
      ((with_reducible refine (HFU.out _).mono ?_); rintro e w4 ⟨v4, rfl, hr4, hf4⟩)
      obtain ⟨A4, n4, c4, e4, _, _, _⟩ := hr4.rd
      subst e4
      have HR4 := As.mk (hr4.lower HF3.out.size)
      have HN4 := As.mk (HN3.out.none_ hf4)
      have HF4 := As.mk (HF3.out.after hf4 (fun _ _ h => h.elim))
      clear hr4 hf4 HN3 HF3 m3
      go_wp2_with fail
      ((with_reducible refine (HF64.out _).mono ?_); rintro e w5 ⟨v5, rfl, hr5, hf5⟩)
      obtain ⟨A5, n5, c5, e5, _, _, _⟩ := hr5.rd
      subst e5
      have HR5 := As.mk (hr5.lower HF4.out.size)
      have HN5 := As.mk (HN4.out.none_ hf5)
      have HF5 := As.mk (HF4.out.after hf5 (fun _ _ h => h.elim))
      have HR4' := As.mk (HR4.out.none_ hf5)
      clear hr5 hf5
      go_wp2_with fail
      go_ret3
      exact HOk.out _ _ _ _ _ _ _ _ HBT.out rfl HN5.out HF5.out (by rw [HBY.out]; exact HR4'.out) (by rw [HBY.out]; exact HR5.out)
    · rw [hpg] at hpa hbyt
      obtain ⟨⟨A, n, k, rfl, ha1, ha2, ha3, ha4, ha5⟩, ⟨B, m, j, rfl, hb1, hb2, hb3, hb4, hb5⟩⟩ := hpa
      have HBY := As.mk (show s.bytes c b q = x from hbyt)
      have hnm : n ≤ 70368744177664 ∧ m ≤ 70368744177664 := ⟨by omega, by omega⟩
      have hen := eql_nil (some A) n k
      have hfy := (Fr.refl None_ w2).alloc (.cells #[.slice (some A) n k, .slice (some B) m j] 176)
      have HY3 := As.mk (heap_alloc_new w2 (.cells #[.slice (some A) n k, .slice (some B) m j] 176))
      have HA := As.mk (ha2.none_ hfy)
      have HBb := As.mk (hb2.none_ hfy)
      clear hpg hbyt ha1 ha2 ha3 ha4 ha5 hb1 hb2 hb3 hb4 hb5
      go_upto_region 12 with fail
      generalize w2.alloc (.cells #[.slice (some A) n k, .slice (some B) m j] 176) = w3 at *
      generalize w2.heap.size = yb at *
      have HN3 := As.mk (HN2.out.none_ hfy)
      have HF3 := As.mk (HF2.out.after hfy (fun _ _ h => h.elim))
      have z0 := cell_is (i := 0) HY3.out rfl
      have z1 := cell_is (i := 1) HY3.out rfl
      try dsimp only at z0 z1
      have hzb := HF3.out.size
      clear hfy HN2 HF2 m2 kp y1 y2 e1 hen
      go_region_law (first
        | ((with_reducible refine step_appendRow w.heap.size rfl _ _ 48 5 .u8 1 rfl Tryz.underlying48 infoByte (by decide) (.slice none 0 0) [] x.1 (some A) n k rfl rfl (Row.nil _ _ _ _) (HA.out.none_ (Fr.refl None_ w3).drew) ?k0 ?k1 ?_); (case k0 => exact hzb); (case k1 => have := hnm.1; simp; omega); intro va wa hrowa hfra hata; have HRA := As.mk hrowa; have HFA := As.mk (show Fr None_ w3 wa from (Fr.refl None_ w3).drew.after hfra (fun _ _ h => by cases h)); have za0 := cell_is (i := 0) (HFA.out.heap HY3.out (fun h => h)) rfl; have za1 := cell_is (i := 1) (HFA.out.heap HY3.out (fun h => h)) rfl; have hza : w.heap.size ≤ wa.heap.size := Nat.le_trans hzb HFA.out.size; clear hrowa hfra hata; obtain ⟨Aa, na, ca, ea, _, _, _⟩ := HRA.out.rd; subst ea)
        | ((with_reducible refine step_appendRow w.heap.size rfl _ _ 48 5 .u8 1 rfl Tryz.underlying48 infoByte (by decide) (.slice none 0 0) [] x.2 (some B) m j rfl rfl (Row.nil _ _ _ _) (HBb.out.none_ (Fr.refl None_ w3).drew) ?k0 ?k1 ?_); (case k0 => exact hzb); (case k1 => have := hnm.2; simp; omega); intro vb wb hrowb hfrb hatb; have HRB := As.mk hrowb; have HFB := As.mk (show Fr None_ w3 wb from (Fr.refl None_ w3).drew.after hfrb (fun _ _ h => by cases h)); have zb0 := cell_is (i := 0) (HFB.out.heap HY3.out (fun h => h)) rfl; have zb1 := cell_is (i := 1) (HFB.out.heap HY3.out (fun h => h)) rfl; have hzbb : w.heap.size ≤ wb.heap.size := Nat.le_trans hzb HFB.out.size; clear hrowb hfrb hatb; obtain ⟨Ab, nb, cb, eb', _, _, _⟩ := HRB.out.rd; subst eb')
        | ((with_reducible refine step_appendRow w.heap.size rfl _ _ 48 5 .u8 1 rfl Tryz.underlying48 infoByte (by decide) (.slice none 0 0) [] x.2 (some B) m j rfl rfl (Row.nil _ _ _ _) (HBb.out.none_ HFA.out) hza ?k1 ?_); (case k1 => have := hnm.2; simp; omega); intro vb wc hrowb hfrb hatb; have HRB := As.mk hrowb; have HFC := As.mk (show Fr None_ w3 wc from HFA.out.after hfrb (fun _ _ h => by cases h)); have HRA := As.mk (HRA.out.fr hfrb (fun _ _ h => by cases h)); clear hrowb hfrb hatb; obtain ⟨Ab, nb, cb, eb', _, _, _⟩ := HRB.out.rd; subst eb')
        | ((with_reducible refine step_appendRow w.heap.size rfl _ _ 48 5 .u8 1 rfl Tryz.underlying48 infoByte (by decide) (.slice none 0 0) [] x.1 (some A) n k rfl rfl (Row.nil _ _ _ _) (HA.out.none_ HFB.out) hzbb ?k1 ?_); (case k1 => have := hnm.1; simp; omega); intro va wc hrowa hfra hata; have HRA := As.mk hrowa; have HFC := As.mk (show Fr None_ w3 wc from HFB.out.after hfra (fun _ _ h => by cases h)); have HRB := As.mk (HRB.out.fr hfra (fun _ _ h => by cases h)); clear hrowa hfra hata; obtain ⟨Aa, na, ca, ea, _, _, _⟩ := HRA.out.rd; subst ea)
        | fail)
      all_goals
        go_wp2_with fail
        go_ret3
        exact HOk.out _ _ _ _ _ _ _ _ HBT.out rfl (HN3.out.none_ HFC.out) (HF3.out.after HFC.out (fun _ _ h => h.elim)) (by rw [HBY.out]; simpa using HRA.out) (by rw [HBY.out]; simpa using HRB.out)
theorem Read_calls (p : Nat) (s : St) (L : Lay) (c b q : Nat) (w : World) (h : Nand w p s L) (hc : c < s.n) (hb : b < s.nb) (hq : q < s.np) (hops : 0 ≤ s.ops ∧ s.ops < 4611686018427387904) :
    Calls Tryz.prog 65 #[.pointer (some ⟨p, 0, none⟩), .int .i64 (c : Int), .int .i64 (b : Int), .int .i64 (q : Int)] w (ReadPost p s L c b q w) := by
  by_cases hk : (s.start c).2 = 0
  · exact Read_ok p s L c b q w h hc hb hq hops hk
  · exact Read_not p s L c b q w h hc hb hops hk
end Go.Proofs.YteofgpaceeibpaaGreat.NandC
namespace Go.Proofs.YteofgpaceeibpaaGreat.NandD
open Go.RowKit Gab Wr Geom Ref Heap Nand NandA NandB NandC
open Step (step_appendRow)
set_option linter.unusedVariables false
set_option linter.unusedSimpArgs false

/-- Bytes that are read, in none of some blocks. -/
def RdN (w : World) (F : Nat → Prop) (A : Option Addr) (n : Nat) (xs : List Int) : Prop := Rd .u8 w A n xs ∧ ∀ ad, A = some ad → 0 < n → ¬ F ad.block
theorem RdN.frame {w w' : World} {F : Nat → Prop} {A : Option Addr} {n : Nat} {xs : List Int} (h : RdN w F A n xs) (hf : Fr F w w') : RdN w' F A n xs := ⟨h.1.fr hf h.2, h.2⟩
theorem RdN.none_ {w w' : World} {F : Nat → Prop} {A : Option Addr} {n : Nat} {xs : List Int} (h : RdN w F A n xs) (hf : Fr None_ w w') : RdN w' F A n xs := ⟨h.1.none_ hf, h.2⟩
theorem setB_twice (s : St) (c b : Nat) (x y : Blk) : (s.setB c b x).setB c b y = s.setB c b y := by
  unfold St.setB
  congr 1
  funext c' b'
  by_cases h : c' = c ∧ b' = b
  · rw [if_pos h, if_pos h]
  · rw [if_neg h, if_neg h]
    show (if c' = c ∧ b' = b then x else s.blk c' b') = _
    rw [if_neg h]
theorem setB_at (s : St) (c b : Nat) (x : Blk) : (s.setB c b x).blk c b = x := by
  show (if c = c ∧ b = b then x else s.blk c b) = x
  rw [if_pos ⟨rfl, rfl⟩]
/-- A block's next page. -/
theorem setNext {w : World} {p : Nat} {s : St} {L : Lay} (h : Nand w p s L) (c k : Nat) (hc : c < s.n) (hk : k < s.nb) (v : Int) : Nand (w.setCell ⟨L.B c, k * 4 + 1, none⟩ (.int .i64 v)) p (s.setB c k { s.blk c k with next := v }) L := by
  obtain ⟨bs, hb, hbs⟩ := h.chp c hc
  have hv := hbs k hk
  refine h.setB c k hc hk _ rfl (fr_set1 _) (fun cs hcs => ?_)
  rw [hb] at hcs
  injection hcs with hcs
  injection hcs with hcs
  subst hcs
  have hlt := (Array.getElem?_eq_some_iff.1 hv.2.1).1
  refine ⟨_, heap_set hb _ _, fun j hj => ?_, ?_, ?_, ?_, ?_⟩
  · rw [Array.getElem?_setIfInBounds_ne (by omega)]
  · rw [Array.getElem?_setIfInBounds_ne (by omega)]
  · rw [Array.getElem?_setIfInBounds_self_of_lt hlt]
  · rw [Array.getElem?_setIfInBounds_ne (by omega)]
    exact hv.2.2.1
  · rw [Array.getElem?_setIfInBounds_ne (by omega)]
    exact hv.2.2.2
theorem setEr {w : World} {p : Nat} {s : St} {L : Lay} (h : Nand w p s L) (c k : Nat) (hc : c < s.n) (hk : k < s.nb) (v : Int) : Nand (w.setCell ⟨L.B c, k * 4 + 2, none⟩ (.int .i64 v)) p (s.setB c k { s.blk c k with er := v }) L := by
  obtain ⟨bs, hb, hbs⟩ := h.chp c hc
  have hv := hbs k hk
  refine h.setB c k hc hk _ rfl (fr_set1 _) (fun cs hcs => ?_)
  rw [hb] at hcs
  injection hcs with hcs
  injection hcs with hcs
  subst hcs
  have hlt := (Array.getElem?_eq_some_iff.1 hv.2.2.1).1
  refine ⟨_, heap_set hb _ _, fun j hj => ?_, ?_, ?_, ?_, ?_⟩
  · rw [Array.getElem?_setIfInBounds_ne (by omega)]
  · rw [Array.getElem?_setIfInBounds_ne (by omega)]
  · rw [Array.getElem?_setIfInBounds_ne (by omega)]
    exact hv.2.1
  · rw [Array.getElem?_setIfInBounds_self_of_lt hlt]
  · rw [Array.getElem?_setIfInBounds_ne (by omega)]
    exact hv.2.2.2
/-- A page's two slices. -/
theorem setPage {w : World} {p : Nat} {s : St} {L : Lay} (h : Nand w p s L) (c k q : Nat) (hc : c < s.n) (hk : k < s.nb) (hq : q < s.np) (v1 v2 : Value) (x : Option (List Int × List Int)) (hx : PageAt w v1 v2 x) :
    Nand ((w.setCell ⟨L.P c k, q * 2, none⟩ v1).setCell ⟨L.P c k, q * 2 + 1, none⟩ v2) p (s.setB c k { s.blk c k with pg := fun j => if j = q then x else (s.blk c k).pg j }) L := by
  obtain ⟨ps, hp, hz, hps⟩ := h.pgs c k hc hk
  have hU : ∀ b, U8 w b → ¬ b = L.P c k := fun b hb e => h.u8 hb (.inr (.inr (.inr (.inr ⟨c, k, hc, hk, e⟩))))
  have hs1 := fr_set1 (w' := w) (b := L.P c k) (i := q * 2) v1
  have hs2 := fr_set1 (w' := w.setCell ⟨L.P c k, q * 2, none⟩ v1) (b := L.P c k) (i := q * 2 + 1) v2
  have hsf := hs1.after hs2 (fun _ _ h => h)
  have h1 := heap_set hp (q * 2) v1
  have h2 := heap_set h1 (q * 2 + 1) v2
  refine h.setPs c k hc hk _ hsf ⟨_, h2, by simpa using hz, fun j hj => ?_⟩
  by_cases e : j = q
  · subst e
    refine ⟨v1, v2, ?_, ?_, ?_⟩
    · rw [Array.getElem?_setIfInBounds_ne (by omega), Array.getElem?_setIfInBounds_self_of_lt (by omega)]
    · rw [Array.getElem?_setIfInBounds_self_of_lt (by simp; omega)]
    · rw [if_pos rfl]
      exact hx.fr hsf hU
  · obtain ⟨u1, u2, e1, e2, h3⟩ := hps j hj
    refine ⟨u1, u2, ?_, ?_, ?_⟩
    · rw [Array.getElem?_setIfInBounds_ne (by omega), Array.getElem?_setIfInBounds_ne (by omega)]
      exact e1
    · rw [Array.getElem?_setIfInBounds_ne (by omega), Array.getElem?_setIfInBounds_ne (by omega)]
      exact e2
    · rw [if_neg e]
      exact h3.fr hsf hU
/-- No event fails a block, or takes the power. -/
def _root_.Go.Proofs.YteofgpaceeibpaaGreat.Nand.St.Calm (s : St) : Prop := ∀ e ∈ s.evs, e.kind ≠ 1 ∧ e.kind ≠ 2
theorem calm_now {s : St} (h : s.Calm) : (s.more.ev.getD noEv).kind ≠ 1 ∧ (s.more.ev.getD noEv).kind ≠ 2 := by
  rcases he : s.more.ev with _ | e
  · exact ⟨by decide, by decide⟩
  · unfold St.ev at he
    exact h e (List.mem_of_find?_eq_some he)
/-- A page is programmed (in order, in a good block, nothing fails): the chips behind it, and the error. -/
def _root_.Go.Proofs.YteofgpaceeibpaaGreat.Nand.St.program (s : St) (c b q : Nat) (d o : List Int) : St × Int :=
  if (s.start c).2 = 0 then ((s.start c).1.setB c b { s.blk c b with pg := fun k => if k = q then some (d, o) else (s.blk c b).pg k, next := (s.blk c b).next + 1 }, 0) else s.start c
def ProgPost (p : Nat) (s : St) (L : Lay) (c b q : Nat) (d o : List Int) (w : World) (e : Ending) (w' : World) : Prop :=
  e = .returned (.int .i64 (s.program c b q d o).2) ∧ Nand w' p (s.program c b q d o).1 L ∧ Fr (NF p L s.n s.nb) w w'

set_option maxHeartbeats 8000000 in
set_option maxRecDepth 100000 in
theorem Program_not (p : Nat) (s : St) (L : Lay) (c b q : Nat) (D O : Option Addr) (nd cd no co : Nat) (d o : List Int) (w : World) (h : Nand w p s L) (hc : c < s.n) (hb : b < s.nb) (hops : 0 ≤ s.ops ∧ s.ops < 4611686018427387904) (hk : (s.start c).2 ≠ 0) :
    Calls Tryz.prog 101 #[.pointer (some ⟨p, 0, none⟩), .int .i64 (c : Int), .int .i64 (b : Int), .int .i64 (q : Int), .slice D nd cd, .slice O no co] w (ProgPost p s L c b q d o w) := by
  have HB := As.mk (begin_calls p s L c b w h hc hb hops)
  have hr : s.program c b q d o = s.start c := by unfold St.program; rw [if_neg hk]
  have HPost := As.mk (show ∀ (e : Ending) (w' : World), e = .returned (.int .i64 (s.start c).2) → Nand w' p (s.start c).1 L → Fr (NF p L s.n s.nb) w w' → ProgPost p s L c b q d o w e w' from fun e w' h1 h2 h3 => ⟨by rw [hr]; exact h1, by rw [hr]; exact h2, h3⟩)
  have HK := As.mk hk
  have dk : ((s.start c).2 != 0) = true := by rw [bne_iff_ne]; exact hk
  unfold BeginPost at HB
  generalize (s.start c).2 = k at *
  clear h hops hk hr hc hb
  go_enter Tryz.func101, Tryz.ntmps101
  go_wp2_with fail
  ((with_reducible refine (HB.out).mono ?_); rintro e w1 ⟨ptr, v, rfl, hn1, hf1, _, hbad⟩)
  obtain ⟨rfl, rfl⟩ := hbad HK.out
  have HN2 := As.mk (hn1.none_ ((Fr.refl None_ w1).alloc (.cells #[.int .i64 0, .int .i64 0, .int .i64 0, .slice none 0 0] 50)))
  have HF2 := As.mk (hf1.alloc (.cells #[.int .i64 0, .int .i64 0, .int .i64 0, .slice none 0 0] 50))
  clear hn1 hf1 hbad
  go_wp2_with fail
  go_ret
  exact HPost.out _ _ rfl HN2.out HF2.out

set_option maxHeartbeats 8000000 in
set_option maxRecDepth 100000 in
theorem Program_ok (p : Nat) (s : St) (L : Lay) (c b q : Nat) (D O : Option Addr) (nd cd no co : Nat) (d o : List Int) (w : World) (h : Nand w p s L) (hc : c < s.n) (hb : b < s.nb) (hq : q < s.np) (hops : 0 ≤ s.ops ∧ s.ops < 4611686018427387904) (hk : (s.start c).2 = 0)
    (hcalm : s.Calm) (hgood : (s.blk c b).bad = false) (hnext : (s.blk c b).next = (q : Int)) (hD : RdN w (NF p L s.n s.nb) D nd d) (hO : RdN w (NF p L s.n s.nb) O no o) (hnd : (nd : Int) = s.g.s) (hno : no = 64) (hrd : InR 256 d) (hro : InR 256 o) :
    Calls Tryz.prog 101 #[.pointer (some ⟨p, 0, none⟩), .int .i64 (c : Int), .int .i64 (b : Int), .int .i64 (q : Int), .slice D nd cd, .slice O no co] w (ProgPost p s L c b q d o w) := by
  have HB := As.mk (begin_calls p s L c b w h hc hb hops)
  have H0 := As.mk h
  have hsg := start_g s c
  have hnn := n_same hsg.1
  have HSG := As.mk (And.intro hsg hnn)
  have hka := calm_now hcalm
  have HOk := As.mk (show ∀ (e : Ending) (w' : World), e = .returned (.int .i64 0) → Nand w' p ((s.start c).1.setB c b { s.blk c b with pg := fun k => if k = q then some (d, o) else (s.blk c b).pg k, next := (s.blk c b).next + 1 }) L → Fr (NF p L s.n s.nb) w w' → ProgPost p s L c b q d o w e w' from fun e w' h1 h2 h3 => by
    have hr : s.program c b q d o = ((s.start c).1.setB c b { s.blk c b with pg := fun k => if k = q then some (d, o) else (s.blk c b).pg k, next := (s.blk c b).next + 1 }, 0) := by unfold St.program; rw [if_pos hk]
    exact ⟨by rw [hr]; exact h1, by rw [hr]; exact h2, h3⟩)
  unfold BeginPost at HB
  rw [hk] at HB
  have HQ := As.mk (And.intro hc (And.intro hb hq))
  have HDO := As.mk (show nd ≤ 1000000 ∧ no = 64 ∧ d.length = nd ∧ o.length = no ∧ 0 < nd from ⟨by have := h.ok.s; omega, hno, hD.1.1, hO.1.1, by have := h.ok.s; omega⟩)
  have HD := As.mk hD
  have HO := As.mk hO
  have HRR := As.mk (And.intro hrd hro)
  have HGN := As.mk (And.intro hgood hnext)
  have hgs := h.ok.s
  have dK2 : ((s.more.ev.getD noEv).kind == 2) = false := beq_eq_false_iff_ne.2 hka.2
  have dK1 : ((s.more.ev.getD noEv).kind == 1) = false := beq_eq_false_iff_ne.2 hka.1
  have hqp : (q : Int) < s.g.p := by have := h.ok.p; have h2 := hq; unfold St.np at h2; omega
  have hpp : s.g.p ≤ 32 := h.ok.p.2
  have dq0 : decide ((q : Int) < 0) = false := decide_eq_false (by omega)
  have dq1 : decide (s.g.p ≤ (q : Int)) = false := decide_eq_false (by omega)
  have dn1 : ((nd : Int) != s.g.s) = false := by rw [hnd]; simp
  have dn2 : ((no : Int) != 64) = false := by rw [hno]; rfl
  clear hops hk hsg hnn h hc hb hka hcalm hgood hnext hD hO hnd hno hrd hro hgs
  go_enter Tryz.func101, Tryz.ntmps101
  go_wp2_with fail
  ((with_reducible refine (HB.out).mono ?_); rintro e w1 ⟨ptr, v, rfl, hn1, hf1, hok, _⟩)
  obtain ⟨rfl, LA, ln, lc, rfl, _⟩ := hok (by first | rfl | trivial)
  generalize (s.start c).1 = s1 at *
  generalize (s.more.ev.getD noEv).op = O_ at *
  generalize (s.more.ev.getD noEv).kind = K at *
  generalize (s.more.ev.getD noEv).chip = H at *
  have hfx := (Fr.refl None_ w1).alloc (.cells #[.int .i64 O_, .int .i64 K, .int .i64 H, .slice LA ln lc] 50)
  have HE2 := As.mk (heap_alloc_new w1 (.cells #[.int .i64 O_, .int .i64 K, .int .i64 H, .slice LA ln lc] 50))
  have HN2 := As.mk (hn1.none_ hfx)
  have HF2 := As.mk (hf1.after hfx (fun _ _ h => h.elim))
  clear hn1 hf1 hok HB hfx
  go_upto_if 24 with fail
  generalize w1.alloc (.cells #[.int .i64 O_, .int .i64 K, .int .i64 H, .slice LA ln lc] 50) = w2 at *
  generalize w1.heap.size = eb at *
  have e1 := cell_is (i := 1) HE2.out rfl
  try dsimp only at e1
  have m2 := cell_is (i := 2) HN2.out.main rfl
  have m3 := cell_is (i := 3) HN2.out.main rfl
  try dsimp only at m2 m3
  change w2.cell? ⟨p, 2, none⟩ = some (.int .i64 s1.g.p) at m2
  change w2.cell? ⟨p, 3, none⟩ = some (.int .i64 s1.g.s) at m3
  rw [HSG.out.1.1] at m2 m3
  obtain ⟨bs, hbs, hbb⟩ := HN2.out.chp c (by rw [HSG.out.2.1]; exact HQ.out.1)
  have hb4 := hbb b (by rw [HSG.out.2.2.1]; exact HQ.out.2.1)
  rw [HSG.out.1.2.1] at hb4
  have kp := cell_is hbs hb4.1
  have kn := cell_is hbs hb4.2.1
  have kb := cell_is hbs hb4.2.2.2
  rw [HSG.out.2.2.2] at kp
  rw [HGN.out.2] at kn
  rw [HGN.out.1] at kb
  have hqt : Int.toNat (q : Int) = q := by omega
  have hqn : (q : Int) < (s.np : Int) := by omega
  have HBS := As.mk hbs
  obtain ⟨ps, hps, hpz, hpq⟩ := HN2.out.pgs c b (by rw [HSG.out.2.1]; exact HQ.out.1) (by rw [HSG.out.2.2.1]; exact HQ.out.2.1)
  have HPS := As.mk hps
  obtain ⟨v1, v2, hv1, hv2, _⟩ := hpq q (by rw [HSG.out.2.2.2]; exact hq)
  have HVV := As.mk (And.intro hv1 (And.intro hv2 hpz))
  have HBV := As.mk (hbb b (by rw [HSG.out.2.2.1]; exact HQ.out.2.1))
  have HD2 := As.mk (show Rd .u8 w2 D nd d from (HD.out.frame HF2.out).1)
  have HO2 := As.mk (show Rd .u8 w2 O no o from (HO.out.frame HF2.out).1)
  have hzb := HF2.out.size
  clear hbs hbb hb4 hps hpz hpq hv1 hv2
  go_upto_region 24 with fail
  clear m2 m3 kn kb e1
  go_region_law (first
    | ((with_reducible refine step_appendRow w.heap.size rfl _ _ 48 5 .u8 1 rfl Tryz.underlying48 infoByte (by decide) (.slice none 0 0) [] d D nd cd rfl rfl (Row.nil _ _ _ _) (HD2.out.none_ (Fr.refl None_ w2).drew) ?k0 ?k1 ?_); (case k0 => exact hzb); (case k1 => have := HDO.out; simp; omega); intro va wa hrowa hfra hata; have HRA := As.mk hrowa; have HFA := As.mk (show Fr None_ w2 wa from (Fr.refl None_ w2).drew.after hfra (fun _ _ h => by cases h)); have kpa := HFA.out.cell kp (fun h => h); have hza : w.heap.size ≤ wa.heap.size := Nat.le_trans hzb HFA.out.size; clear hrowa hfra hata; obtain ⟨Aa, na, ca, ea, _, _, _⟩ := HRA.out.rd; subst ea)
    | ((with_reducible refine step_appendRow w.heap.size rfl _ _ 48 5 .u8 1 rfl Tryz.underlying48 infoByte (by decide) (.slice none 0 0) [] o O no co rfl rfl (Row.nil _ _ _ _) (HO2.out.none_ (Fr.refl None_ w2).drew) ?k0 ?k1 ?_); (case k0 => exact hzb); (case k1 => have := HDO.out; simp; omega); intro vb wb hrowb hfrb hatb; have HRB := As.mk hrowb; have HFB := As.mk (show Fr None_ w2 wb from (Fr.refl None_ w2).drew.after hfrb (fun _ _ h => by cases h)); have kpb := HFB.out.cell kp (fun h => h); have hzbb : w.heap.size ≤ wb.heap.size := Nat.le_trans hzb HFB.out.size; clear hrowb hfrb hatb; obtain ⟨Ab, nb, cb, eb', _, _, _⟩ := HRB.out.rd; subst eb')
    | ((with_reducible refine step_appendRow w.heap.size rfl _ _ 48 5 .u8 1 rfl Tryz.underlying48 infoByte (by decide) (.slice none 0 0) [] o O no co rfl rfl (Row.nil _ _ _ _) (HO2.out.none_ HFA.out) ?k0 ?k1 ?_); (case k0 => exact hza); (case k1 => have := HDO.out; simp; omega); intro vb wc hrowb hfrb hatb; have HRB := As.mk hrowb; have HFC := As.mk (show Fr None_ w2 wc from HFA.out.after hfrb (fun _ _ h => by cases h)); have HRA := As.mk (HRA.out.fr hfrb (fun _ _ h => by cases h)); have kpc := HFC.out.cell kp (fun h => h); have hpc := HFC.out.heap HPS.out (fun h => h); have yc1 := cell_is hpc HVV.out.1; have yc2 := cell_is hpc HVV.out.2.1; have yf1 := free_of (i := q * 2) hpc; have yf2 := free_of (i := q * 2 + 1) hpc; clear hpc hrowb hfrb hatb; obtain ⟨Ab, nb, cb, eb', _, _, _⟩ := HRB.out.rd; subst eb')
    | ((with_reducible refine step_appendRow w.heap.size rfl _ _ 48 5 .u8 1 rfl Tryz.underlying48 infoByte (by decide) (.slice none 0 0) [] d D nd cd rfl rfl (Row.nil _ _ _ _) (HD2.out.none_ HFB.out) ?k0 ?k1 ?_); (case k0 => exact hzbb); (case k1 => have := HDO.out; simp; omega); intro va wc hrowa hfra hata; have HRA := As.mk hrowa; have HFC := As.mk (show Fr None_ w2 wc from HFB.out.after hfra (fun _ _ h => by cases h)); have HRB := As.mk (HRB.out.fr hfra (fun _ _ h => by cases h)); have kpc := HFC.out.cell kp (fun h => h); have hpc := HFC.out.heap HPS.out (fun h => h); have yc1 := cell_is hpc HVV.out.1; have yc2 := cell_is hpc HVV.out.2.1; have yf1 := free_of (i := q * 2) hpc; have yf2 := free_of (i := q * 2 + 1) hpc; clear hpc hrowa hfra hata; obtain ⟨Aa, na, ca, ea, _, _, _⟩ := HRA.out.rd; subst ea)
    | fail)
  all_goals
    have hbA := Row.bys HRA.out (by have := HDO.out; simp; omega) (by have := HDO.out; simp; omega) (fun y hy => HRR.out.1 y (by simpa using hy))
    have hbB := Row.bys HRB.out (by have := HDO.out; simp; omega) (by have := HDO.out; simp; omega) (fun y hy => HRR.out.2 y (by simpa using hy))
    simp only [List.nil_append] at hbA hbB
    have hnd := setPage (HN2.out.none_ HFC.out) c b q (by rw [HSG.out.2.1]; exact HQ.out.1) (by rw [HSG.out.2.2.1]; exact HQ.out.2.1) (by rw [HSG.out.2.2.2]; exact hq) _ _ (some (d, o)) ⟨hbA, hbB⟩
    have HND := As.mk hnd
    have hfd := (HF2.out.after HFC.out (fun _ _ h => h.elim)).after ((fr_set1 (w' := wc) (b := L.P c b) (i := q * 2) (.slice Aa na ca)).after (fr_set1 (w' := wc.setCell ⟨L.P c b, q * 2, none⟩ (.slice Aa na ca)) (b := L.P c b) (i := q * 2 + 1) (.slice Ab nb cb)) (fun _ _ h => h)) (fun _ _ e => .inr (.inr (.inr (.inr ⟨c, b, HQ.out.1, HQ.out.2.1, e⟩))))
    have HFD := As.mk hfd
    go_upto_region 25 with fail
    clear hbA hbB hnd hfd yc1 yc2 yf1 yf2 kpc
    generalize (wc.setCell ⟨L.P c b, q * 2, none⟩ (.slice Aa na ca)).setCell ⟨L.P c b, q * 2 + 1, none⟩ (.slice Ab nb cb) = wd at *
    obtain ⟨bs2, hb2, hbb2⟩ := HND.out.chp c (by show c < s1.n; rw [HSG.out.2.1]; exact HQ.out.1)
    have hb5 := hbb2 b (by show b < s1.nb; rw [HSG.out.2.2.1]; exact HQ.out.2.1)
    rw [setB_at] at hb5
    have kn := cell_is hb2 hb5.2.1
    have kf := free_of (i := b * 4 + 1) hb2
    change wd.cell? ⟨L.B c, b * 4 + 1, none⟩ = some (.int .i64 (s1.blk c b).next) at kn
    rw [HSG.out.1.2.1, HGN.out.2] at kn
    clear hb2 hbb2 hb5
    go_wp2_with fail
    go_ret
    have hfin := setNext HND.out c b (by show c < s1.n; rw [HSG.out.2.1]; exact HQ.out.1) (by show b < s1.nb; rw [HSG.out.2.2.1]; exact HQ.out.2.1) ((q : Int) + 1)
    rw [setB_twice, setB_at] at hfin
    refine HOk.out _ _ rfl ?_ (HFD.out.after (fr_set1 _) (fun _ _ e => .inr (.inr (.inr (.inl ⟨c, HQ.out.1, e⟩)))))
    rw [HSG.out.1.2.1] at hfin
    rw [HGN.out.2]
    exact hfin
theorem Program_calls (p : Nat) (s : St) (L : Lay) (c b q : Nat) (D O : Option Addr) (nd cd no co : Nat) (d o : List Int) (w : World) (h : Nand w p s L) (hc : c < s.n) (hb : b < s.nb) (hq : q < s.np) (hops : 0 ≤ s.ops ∧ s.ops < 4611686018427387904)
    (hcalm : s.Calm) (hgood : (s.blk c b).bad = false) (hnext : (s.blk c b).next = (q : Int)) (hD : RdN w (NF p L s.n s.nb) D nd d) (hO : RdN w (NF p L s.n s.nb) O no o) (hnd : (nd : Int) = s.g.s) (hno : no = 64) (hrd : InR 256 d) (hro : InR 256 o) :
    Calls Tryz.prog 101 #[.pointer (some ⟨p, 0, none⟩), .int .i64 (c : Int), .int .i64 (b : Int), .int .i64 (q : Int), .slice D nd cd, .slice O no co] w (ProgPost p s L c b q d o w) := by
  by_cases hk : (s.start c).2 = 0
  · exact Program_ok p s L c b q D O nd cd no co d o w h hc hb hq hops hk hcalm hgood hnext hD hO hnd hno hrd hro
  · exact Program_not p s L c b q D O nd cd no co d o w h hc hb hops hk
end Go.Proofs.YteofgpaceeibpaaGreat.NandD

/- gabionlaw13.all: an array holds it. -/
import Derived.Test.YteofgpaceeibpaaGreatTkActB
namespace Go.Proofs.YteofgpaceeibpaaGreat.AllA
open Go.RowKit Gab Geom Go.Proofs.YteofgpaceeibpaaGreat.Sum Ref Par Fields Seal Nand NandA NandH ArrA ArrD AOrd AOrdB AWrA AWrB AWrC StgA StgB LawA HeldA ActA
open Wr (InR)
open Heap (cell_is)
open Str (pcells RowV.ne)
set_option linter.unusedVariables false
set_option linter.unusedSimpArgs false

/-- A page is read: what is answered. -/
def PgOk (K : ALay) (τ τ' : Ar) (q : Head × List Int) (w : World) (e : Ending) (w' : World) : Prop :=
  ∃ v, e = .returned (.tuple #[.agg (pcells q.1 v), .int .i64 0]) ∧ Row 5 .u8 w' w.heap.size v q.2 ∧ ArAt w' τ' K ∧ Fr (AF K τ) w w'
def RdOk (K : ALay) (τ τ' : Ar) (seg row slot : Int) (q : Head × List Int) : Prop := ∀ w, ArAt w τ K → Calls Tryz.prog 44 #[dev K.x, .agg #[.int .i64 seg, .int .i64 row, .int .i64 slot]] w (PgOk K τ τ' q w)
def GtOk (K : ALay) (τ τ' : Ar) (n : Int) (q : Head × List Int) : Prop := ∀ w, ArAt w τ K → Calls Tryz.prog 52 #[dev K.x, .int .i64 0, .int .i64 n] w (PgOk K τ τ' q w)
/-- All that is held can be read, so many times; behind a staged page's reading it stands so. -/
structure Tells (K : ALay) (g : Geo) (H : Held) (I : Nat → Ar → Prop) (G : Ar → Prop) : Prop where
  g : ∀ n τ, I n τ → τ.s.g = g
  mono : ∀ n m τ, I n τ → m ≤ n → I m τ
  row : ∀ n τ, I (n + 1) τ → ∀ k : Nat, k < 4 → (k : Int) ≠ H.lost → ∀ m : Nat, m < (H.rows k).length → ∀ s : Nat, s < ((H.rows k).getD m []).length → ∃ τ', I n τ' ∧ RdOk K τ τ' (6 + k) m s (((H.rows k).getD m []).getD s noPage)
  st : ∀ n τ, I (n + 1) τ → ∀ m : Nat, m < H.staged.length → ∃ τ', I n τ' ∧ G τ' ∧ GtOk K τ τ' m (H.staged.getD m noPage)
  inr : ∀ k, k < 4 → ∀ m, m < (H.rows k).length → ∀ s, s < ((H.rows k).getD m []).length → InR 256 (((H.rows k).getD m []).getD s noPage).2
  ins : ∀ m, m < H.staged.length → InR 256 (H.staged.getD m noPage).2
  few : ∀ k, k < 4 → (H.rows k).length ≤ 64 ∧ ∀ m, m < (H.rows k).length → ((H.rows k).getD m []).length ≤ 64
  fews : H.staged.length ≤ 1000
theorem _root_.Go.Proofs.YteofgpaceeibpaaGreat.HeldA.HeldAt.rowAt {w : World} {base : Nat} {H : Held} {Y : HLay} (h : HeldAt w base H Y) {k n : Nat} (hk : k < 4) (hn : n < (H.rows k).length) : ∃ ad c, Y.r k = .slice (some ad) (H.rows k).length c ∧ w.cell? (ad.add n) = some ((Y.rv k).getD n undef) := by
  obtain ⟨A, c, e, _, hcd, _⟩ := (h.rows k hk).rd
  obtain ⟨ad, ea, hcc⟩ := hcd.out.2 (by omega)
  subst ea
  exact ⟨ad, c, e, hcc n (by omega)⟩
theorem pagesAt {w : World} {base : Nat} {v : Value} {l : List (Head × List Int)} {vs : List Value} (h1 : RowV SP 8 w base v l.length vs) (h2 : SPs None_ w vs l) {s : Nat} (hs : s < l.length) : ∃ ad ax D nd cd c, v = .slice (some ad) l.length c ∧ ad.add (s * 8) = ax ∧ w.cell? ax = some (.int .u8 (l.getD s noPage).1.kind) ∧ w.cell? ⟨ax.block, ax.off + 1, none⟩ = some (.int .u32 (l.getD s noPage).1.epoch) ∧ w.cell? ⟨ax.block, ax.off + 2, none⟩ = some (.int .u32 (l.getD s noPage).1.batch) ∧ w.cell? ⟨ax.block, ax.off + 3, none⟩ = some (.int .u16 (l.getD s noPage).1.index) ∧ w.cell? ⟨ax.block, ax.off + 4, none⟩ = some (.int .u16 (l.getD s noPage).1.count) ∧ w.cell? ⟨ax.block, ax.off + 5, none⟩ = some (.int .u32 (l.getD s noPage).1.block) ∧ w.cell? ⟨ax.block, ax.off + 6, none⟩ = some (.int .u32 (l.getD s noPage).1.more) ∧ w.cell? ⟨ax.block, ax.off + 7, none⟩ = some (.slice D nd cd) ∧ As (Rd .u8 w D nd (l.getD s noPage).2) := by
  obtain ⟨A, c, e, _, hcd, _⟩ := h1.rd
  obtain ⟨ad, ax, D, nd, cd, eA, hax, k0, k1, k2, k3, k4, k5, k6, k7, hD, _⟩ := SPs.at_ hcd.out h2 (s : Int) (by omega) (by omega)
  subst eA
  exact ⟨ad, ax, D, nd, cd, c, e, hax, k0, k1, k2, k3, k4, k5, k6, k7, ⟨hD.out.2.1⟩⟩
def fuel (m0 S : Nat) (k n s : Int) : Nat := m0 + S + (4096 * (4 - k) - 64 * n - s).toNat
/-- What all answers. -/
def AllPost (σ : Ar) (K : ALay) (H : Held) (I : Nat → Ar → Prop) (G : Ar → Prop) (m0 : Nat) (w : World) (e : Ending) (w' : World) : Prop :=
  e = .returned (.bool true) ∧ ∃ τ, I m0 τ ∧ (0 < H.staged.length → G τ) ∧ ArAt w' τ K ∧ Fr (AF K σ) w w'

set_option maxHeartbeats 16000000 in
set_option maxRecDepth 100000 in
theorem All_calls (σ : Ar) (K : ALay) (base : Nat) (H : Held) (Y : HLay) (I : Nat → Ar → Prop) (G : Ar → Prop) (m0 : Nat) (w : World) (hA : ArAt w σ K) (hH : HeldAt w base H Y) (hT : Tells K σ.s.g H I G) (hI : I (fuel m0 H.staged.length 0 0 0) σ) :
    Calls Tryz.prog 17 #[.pointer (some ⟨K.x, 0, none⟩), .pointer (some ⟨Y.hb, 0, none⟩)] w (AllPost σ K H I G m0 w) := by
  have HA := As.mk hA
  have HH := As.mk hH
  have HT := As.mk hT
  have HI := As.mk hI
  have hc4 := hH.staged
  obtain ⟨sA, sc, es, _, _, _⟩ := hc4.rd
  have HES := As.mk es
  have HAFS := As.mk (fun (τ : Ar) (n : Nat) (h : I n τ) (b : Nat) => (AF.eq (K := K) (σ := σ) (σ' := τ) (hT.g n τ h) b).1)
  clear hA hH hT hI hc4 es
  go_enter Tryz.func17, Tryz.ntmps17
  go_wp2_with fail
  go_loopw [5, 6, 7, 8, 9] (fun v5 v6 v7 v8 v9 w' => ∃ (k : Int) (τ : Ar), v5 = .int .i64 k ∧ 0 ≤ k ∧ k ≤ 4 ∧ As (ArAt w' τ K ∧ I (fuel m0 H.staged.length k 0 0) τ) ∧ As (Fr (AF K σ) w w')) (fun v5 _ _ _ _ _ => (4 - intOf v5).toNat)
  case atStart => exact ⟨0, σ, rfl, by omega, by omega, ⟨HA.out, HI.out⟩, ⟨Fr.refl _ _⟩⟩
  case round =>
    obtain ⟨k, τ, rfl, hk0, hk4, HX, HF⟩ := hrel
    by_cases hk : k < 4
    · have HKN := As.mk (show k.toNat < 4 by omega)
      have hrk := HH.out.rows k.toNat HKN.out
      obtain ⟨rA, rc, er, _, _, _⟩ := hrk.rd
      have HER := As.mk er
      generalize hN : (H.rows k.toNat).length = N at *
      have HNE := As.mk hN
      have hN64 : N ≤ 64 := by rw [← hN]; exact (HT.out.few k.toNat HKN.out).1
      clear hrk er hN
      go_wp2_with fail
      go_loopw [6, 7, 8, 9] (fun v6 v7 v8 v9 w' => ∃ (n : Int) (τ : Ar), v6 = .int .i64 n ∧ 0 ≤ n ∧ n ≤ N ∧ As (ArAt w' τ K ∧ I (fuel m0 H.staged.length k n 0) τ) ∧ As (Fr (AF K σ) w w')) (fun v6 _ _ _ _ => N - (intOf v6).toNat)
      case atStart => exact ⟨0, τ, rfl, by omega, by omega, HX, HF⟩
      case round =>
        clear HX HF
        obtain ⟨n, τ, rfl, hn0, hnN, HX, HF⟩ := hrel
        rename World => w2
        have hH2 := HH.out.af HA.out HF.out
        have HH2 := As.mk hH2
        have hr1 := (hH2.rowc (k := k.toNat) HKN.out).1
        have l5 := cell_is (i := 5) hH2.main rfl
        rw [HER.out] at hr1
        clear hH2
        by_cases hn : n < (N : Int)
        · have hNl : n.toNat < N := by omega
          have hcr := (HH2.out.rows k.toNat HKN.out)
          rw [HER.out, HNE.out] at hcr
          obtain ⟨_, _, eq1, _, hcd, _⟩ := hcr.rd
          injection eq1 with q1 q2 q3
          subst q1 q3
          obtain ⟨rad, hra, hcc⟩ := hcd.out.2 (by omega)
          subst hra
          have hr2 := hcc n.toNat (by omega)
          have hpl := HH2.out.page k.toNat HKN.out n.toNat (by rw [HNE.out]; exact hNl)
          obtain ⟨pvs, hprow, hpsp⟩ := hpl
          obtain ⟨pA, pc, ep, _, _, _⟩ := hprow.rd
          have HEP := As.mk ep
          have HPV := As.mk hprow.2
          generalize hL : ((H.rows k.toNat).getD n.toNat []).length = L at *
          have HLE := As.mk hL
          have hL64 : L ≤ 64 := by rw [← hL]; exact (HT.out.few k.toNat HKN.out).2 n.toNat (by rw [HNE.out]; exact hNl)
          rw [ep] at hr2
          by_cases hkl : k = H.lost
          · have hkb : (k != H.lost) = false := by rw [bne_eq_false_iff_eq]; exact hkl
            have HFU := As.mk (show I (fuel m0 H.staged.length (k + 1) 0 0) τ from HT.out.mono _ _ _ HX.out.2 (by unfold fuel; omega))
            clear hcr hcd hcc hprow hpsp ep hL hr2 hkl
            go_wp2_with fail
            exact ⟨⟨k + 1, τ, rfl, by omega, by omega, ⟨HX.out.1, HFU.out⟩, HF⟩, by simp [intOf]; omega⟩
          · have hkb : (k != H.lost) = true := by rw [bne_iff_ne]; exact hkl
            have HKL := As.mk hkl
            have HPVS := As.mk hpsp.1
            clear hcr hcd hcc hprow hpsp ep hL hr2 hkl
            go_wp2_with fail
            go_loopw [7, 8, 9] (fun v7 v8 v9 w' => ∃ (s : Int) (τ : Ar), v7 = .int .i64 s ∧ 0 ≤ s ∧ s ≤ L ∧ As (ArAt w' τ K ∧ I (fuel m0 H.staged.length k n s) τ) ∧ As (Fr (AF K σ) w w')) (fun v7 _ _ _ => L - (intOf v7).toNat)
            case atStart => exact ⟨0, τ, rfl, by omega, by omega, HX, HF⟩
            case round =>
              clear HX HF HH2 hr1 l5 hkb
              obtain ⟨s, τ, rfl, hs0, hsL, HX, HF⟩ := hrel
              rename World => w3
              have hH3 := HH.out.af HA.out HF.out
              have HH3 := As.mk hH3
              have hr1 := (hH3.rowc (k := k.toNat) HKN.out).1
              rw [HER.out] at hr1
              have hcr := (hH3.rows k.toNat HKN.out)
              rw [HER.out, HNE.out] at hcr
              obtain ⟨_, _, eq1, _, hcd, _⟩ := hcr.rd
              injection eq1 with q1 q2 q3
              subst q3
              obtain ⟨rad', hra, hcc⟩ := hcd.out.2 (by omega)
              rw [← q1] at hra
              injection hra with hra
              subst hra
              have hr2 := hcc n.toNat (by omega)
              rw [HEP.out] at hr2
              have hpl := hH3.page k.toNat HKN.out n.toNat (by rw [HNE.out]; exact hNl)
              rw [HEP.out] at hpl
              obtain ⟨pvs', hprow, hpsp⟩ := hpl
              rw [HLE.out] at hprow
              obtain ⟨_, _, eq2, _, hpcd, _⟩ := hprow.rd
              injection eq2 with p1 p2 p3
              subst p1 p3
              clear hH3 hcr hcd hcc q1 q2 p2 hpsp hpcd hprow pvs'
              by_cases hs : s < (L : Int)
              · have hsl : s.toNat < L := by omega
                obtain ⟨τ', hI', hRd⟩ := HT.out.row (fuel m0 H.staged.length k n (s + 1)) τ (by have h := HX.out.2; rw [show fuel m0 H.staged.length k n s = fuel m0 H.staged.length k n (s + 1) + 1 by unfold fuel; omega] at h; exact h) k.toNat HKN.out (by rw [show ((k.toNat : Nat) : Int) = k by omega]; exact HKL.out) n.toNat (by rw [HNE.out]; exact hNl) s.toNat (by rw [HLE.out]; exact hsl)
                have HI2 := As.mk hI'
                have hrng := HT.out.inr k.toNat HKN.out n.toNat (by rw [HNE.out]; exact hNl) s.toNat (by rw [HLE.out]; exact hsl)
                have HRD := As.mk (hRd w3 HX.out.1)
                rw [show (6 + ((k.toNat : Nat) : Int)) = 6 + k by omega, show ((n.toNat : Nat) : Int) = n by omega, show ((s.toNat : Nat) : Int) = s by omega] at HRD
                obtain ⟨q, hq⟩ : ∃ q, ((H.rows k.toNat).getD n.toNat []).getD s.toNat noPage = q := ⟨_, rfl⟩
                have HQ := As.mk hq
                rw [hq] at HRD hrng
                have HRNG := As.mk hrng
                unfold PgOk dev pcells at HRD
                have hw6 : IntKind.i64.wrap (6 + k) = 6 + k := by rw [IntKind.wrap_i64]; omega
                have HAFT := As.mk (HAFS.out τ _ HX.out.2)
                clear hI' hRd hq hrng
                go_wp2_with fail
                ((with_reducible refine HRD.out.mono ?_); rintro e w4 ⟨v4, rfl, hr4, hA4, hf4⟩)
                have HF4 := As.mk (HF.out.after hf4 (fun b _ hb => HAFT.out b hb))
                have HA4 := As.mk hA4
                have HR4 := As.mk hr4
                obtain ⟨A5, n5, c5, e5, _, _, _⟩ := hr4.rd
                subst e5
                clear hr4 hA4 hf4 hr1 hr2
                go_upto_region 11 with fail
                have HF6 := As.mk ((Fr.refl None_ w4).alloc (.cells #[.int .u8 q.1.kind, .int .u32 q.1.epoch, .int .u32 q.1.batch, .int .u16 q.1.index, .int .u16 q.1.count, .int .u32 q.1.block, .int .u32 q.1.more, .slice A5 n5 c5] 117))
                have hnew := heap_alloc_new w4 (.cells #[.int .u8 q.1.kind, .int .u32 q.1.epoch, .int .u32 q.1.batch, .int .u16 q.1.index, .int .u16 q.1.count, .int .u32 q.1.block, .int .u32 q.1.more, .slice A5 n5 c5] 117)
                generalize w4.alloc (.cells #[.int .u8 q.1.kind, .int .u32 q.1.epoch, .int .u32 q.1.batch, .int .u16 q.1.index, .int .u16 q.1.count, .int .u32 q.1.block, .int .u32 q.1.more, .slice A5 n5 c5] 117) = w6 at *
                generalize w4.heap.size = gt at *
                have k0 := cell_is (i := 0) hnew rfl
                have k1 := cell_is (i := 1) hnew rfl
                have k2 := cell_is (i := 2) hnew rfl
                have k3 := cell_is (i := 3) hnew rfl
                have k4 := cell_is (i := 4) hnew rfl
                have k5 := cell_is (i := 5) hnew rfl
                have k6 := cell_is (i := 6) hnew rfl
                have k7 := cell_is (i := 7) hnew rfl
                have hH6 := (HH.out.af HA.out HF4.out).none_ HF6.out
                have hr1 := (hH6.rowc (k := k.toNat) HKN.out).1
                rw [HER.out] at hr1
                obtain ⟨rad', rc', eq1, hr2⟩ := hH6.rowAt (k := k.toNat) (n := n.toNat) HKN.out (by rw [HNE.out]; exact hNl)
                rw [HER.out] at eq1
                injection eq1 with q1 q2 q3
                injection q1 with q1
                subst q1 q3
                rw [HEP.out] at hr2
                have hpl := hH6.page k.toNat HKN.out n.toNat (by rw [HNE.out]; exact hNl)
                rw [HEP.out] at hpl
                obtain ⟨pvs', hprow, hpsp⟩ := hpl
                obtain ⟨pad, ax, D, nd, cd, pc', eq2, hax, a0, a1, a2, a3, a4, a5, a6, a7, HDD⟩ := pagesAt hprow hpsp (s := s.toNat) (by rw [HLE.out]; exact hsl)
                rw [HLE.out] at eq2
                injection eq2 with p1 p2 p3
                subst p1 p3
                rw [HQ.out] at a0 a1 a2 a3 a4 a5 a6 HDD
                have HD6 := As.mk ((HR4.out.none_ HF6.out).rd)
                obtain ⟨_, _, _, e9, _, hd9, _⟩ := HD6.out
                injection e9 with q4 q5 q6
                subst q4 q5 q6
                have HSM := As.mk (fun (w' : World) (hf : Fr None_ w6 w') => same_calls q.1 A5 D n5 c5 nd cd q.2 w' (hd9.out.none_ hf) (HDD.out.none_ hf) HRNG.out)
                unfold pcells at HSM
                clear hnew hH6 q2 p2 hprow hpsp pvs' HD6 hd9
                go_region_held3 (fun w' => w'.cell? ⟨gt, 0, none⟩ = some (.int .u8 q.1.kind) ∧ w'.cell? ⟨gt, 1, none⟩ = some (.int .u32 q.1.epoch) ∧ w'.cell? ⟨gt, 2, none⟩ = some (.int .u32 q.1.batch) ∧ w'.cell? ⟨gt, 3, none⟩ = some (.int .u16 q.1.index) ∧ w'.cell? ⟨gt, 4, none⟩ = some (.int .u16 q.1.count) ∧ w'.cell? ⟨gt, 5, none⟩ = some (.int .u32 q.1.block) ∧ w'.cell? ⟨gt, 6, none⟩ = some (.int .u32 q.1.more) ∧ w'.cell? ⟨gt, 7, none⟩ = some (.slice A5 n5 c5) ∧ w'.cell? ax = some (.int .u8 q.1.kind) ∧ w'.cell? ⟨ax.block, ax.off + 1, none⟩ = some (.int .u32 q.1.epoch) ∧ w'.cell? ⟨ax.block, ax.off + 2, none⟩ = some (.int .u32 q.1.batch) ∧ w'.cell? ⟨ax.block, ax.off + 3, none⟩ = some (.int .u16 q.1.index) ∧ w'.cell? ⟨ax.block, ax.off + 4, none⟩ = some (.int .u16 q.1.count) ∧ w'.cell? ⟨ax.block, ax.off + 5, none⟩ = some (.int .u32 q.1.block) ∧ w'.cell? ⟨ax.block, ax.off + 6, none⟩ = some (.int .u32 q.1.more) ∧ w'.cell? ⟨ax.block, ax.off + 7, none⟩ = some (.slice D nd cd) ∧ w'.cell? ⟨Y.hb, k.toNat, none⟩ = some (.slice (some rad) N rc) ∧ w'.cell? (rad.add n.toNat) = some (.slice (some pad) L pc)) (first | go_keep | (refine ⟨?_, ?_, ?_, ?_, ?_, ?_, ?_, ?_, ?_, ?_, ?_, ?_, ?_, ?_, ?_, ?_, ?_, ?_⟩ <;> (refine Fr.cell ‹Fr None_ w6.drew _› ?_ (fun h => h); go_keep))) (first | ((with_reducible refine (HSM.out _ ((Fr.refl None_ w6).drew)).mono ?_); rintro e w7 ⟨rfl, hf7⟩))
                all_goals
                  have HF7 := As.mk (HF6.out.after ((Fr.refl None_ w6).drew.after hf7 (fun _ _ h => h)) (fun _ _ h => h))
                  clear hf7
                  go_wp2_with fail
                  exact ⟨⟨s + 1, τ', rfl, by omega, by omega, ⟨HA4.out.none_ HF7.out, HI2.out⟩, ⟨HF4.out.after HF7.out (fun _ _ h => h.elim)⟩⟩, by simp [intOf]; omega⟩
              · have HFU := As.mk (show I (fuel m0 H.staged.length k (n + 1) 0) τ from HT.out.mono _ _ _ HX.out.2 (by unfold fuel; omega))
                go_wp2_with fail
                exact ⟨⟨n + 1, τ, rfl, by omega, by omega, ⟨HX.out.1, HFU.out⟩, HF⟩, by simp [intOf]; omega⟩
        · have HFU := As.mk (show I (fuel m0 H.staged.length (k + 1) 0 0) τ from HT.out.mono _ _ _ HX.out.2 (by unfold fuel; omega))
          go_wp2_with fail
          exact ⟨⟨k + 1, τ, rfl, by omega, by omega, ⟨HX.out.1, HFU.out⟩, HF⟩, by simp [intOf]; omega⟩
    · have hke : k = 4 := by omega
      have HFU := As.mk (show I (m0 + (H.staged.length - (0 : Int).toNat)) τ from by have h := HX.out.2; unfold fuel at h; rw [hke] at h; exact h)
      generalize hS : H.staged.length = S at *
      have HSE := As.mk hS
      have hs1000 : S ≤ 1000 := by rw [← hS]; exact HT.out.fews
      clear hke hS
      go_wp2_with fail
      go_loopw [10, 11, 12] (fun v10 v11 v12 w' => ∃ (n : Int) (τ : Ar), v10 = .int .i64 n ∧ 0 ≤ n ∧ n ≤ S ∧ As (ArAt w' τ K ∧ I (m0 + (S - n.toNat)) τ ∧ (0 < n → G τ)) ∧ As (Fr (AF K σ) w w')) (fun v10 _ _ _ => S - (intOf v10).toNat)
      case atStart => exact ⟨0, τ, rfl, by omega, by omega, ⟨HX.out.1, HFU.out, fun h => absurd h (by decide)⟩, HF⟩
      case round =>
        clear HX HF HFU
        obtain ⟨n, τ, rfl, hn0, hnS, HX, HF⟩ := hrel
        rename World => w3
        have hH3 := HH.out.af HA.out HF.out
        have l4 := cell_is (i := 4) hH3.main rfl
        rw [HES.out] at l4
        clear hH3
        by_cases hn : n < (S : Int)
        · have hnl : n.toNat < S := by omega
          obtain ⟨τ', hI', hG', hRd⟩ := HT.out.st (m0 + (S - (n + 1).toNat)) τ (by have h := HX.out.2.1; rw [show m0 + (S - n.toNat) = m0 + (S - (n + 1).toNat) + 1 by omega] at h; exact h) n.toNat (by rw [HSE.out]; exact hnl)
          have HI2 := As.mk hI'
          have HG2 := As.mk hG'
          have hrng := HT.out.ins n.toNat (by rw [HSE.out]; exact hnl)
          have HRD := As.mk (hRd w3 HX.out.1)
          rw [show ((n.toNat : Nat) : Int) = n by omega] at HRD
          obtain ⟨q, hq⟩ : ∃ q, H.staged.getD n.toNat noPage = q := ⟨_, rfl⟩
          have HQ := As.mk hq
          rw [hq] at HRD hrng
          have HRNG := As.mk hrng
          unfold PgOk dev pcells at HRD
          have HAFT := As.mk (HAFS.out τ _ HX.out.2.1)
          clear hI' hG' hRd hq hrng
          go_wp2_with fail
          ((with_reducible refine HRD.out.mono ?_); rintro e w4 ⟨v4, rfl, hr4, hA4, hf4⟩)
          have HF4 := As.mk (HF.out.after hf4 (fun b _ hb => HAFT.out b hb))
          have HA4 := As.mk hA4
          have HR4 := As.mk hr4
          obtain ⟨A5, n5, c5, e5, _, _, _⟩ := hr4.rd
          subst e5
          clear hr4 hA4 hf4 l4
          go_upto_region 17 with fail
          have HF6 := As.mk ((Fr.refl None_ w4).alloc (.cells #[.int .u8 q.1.kind, .int .u32 q.1.epoch, .int .u32 q.1.batch, .int .u16 q.1.index, .int .u16 q.1.count, .int .u32 q.1.block, .int .u32 q.1.more, .slice A5 n5 c5] 117))
          have hnew := heap_alloc_new w4 (.cells #[.int .u8 q.1.kind, .int .u32 q.1.epoch, .int .u32 q.1.batch, .int .u16 q.1.index, .int .u16 q.1.count, .int .u32 q.1.block, .int .u32 q.1.more, .slice A5 n5 c5] 117)
          generalize w4.alloc (.cells #[.int .u8 q.1.kind, .int .u32 q.1.epoch, .int .u32 q.1.batch, .int .u16 q.1.index, .int .u16 q.1.count, .int .u32 q.1.block, .int .u32 q.1.more, .slice A5 n5 c5] 117) = w6 at *
          generalize w4.heap.size = gt at *
          have k0 := cell_is (i := 0) hnew rfl
          have k1 := cell_is (i := 1) hnew rfl
          have k2 := cell_is (i := 2) hnew rfl
          have k3 := cell_is (i := 3) hnew rfl
          have k4 := cell_is (i := 4) hnew rfl
          have k5 := cell_is (i := 5) hnew rfl
          have k6 := cell_is (i := 6) hnew rfl
          have k7 := cell_is (i := 7) hnew rfl
          have hH6 := (HH.out.af HA.out HF4.out).none_ HF6.out
          have l4 := cell_is (i := 4) hH6.main rfl
          obtain ⟨pad, ax, D, nd, cd, pc', eq2, hax, a0, a1, a2, a3, a4, a5, a6, a7, HDD⟩ := pagesAt hH6.staged hH6.spg (s := n.toNat) (by rw [HSE.out]; exact hnl)
          rw [HSE.out] at eq2
          rw [eq2] at l4
          rw [HQ.out] at a0 a1 a2 a3 a4 a5 a6 HDD
          have HD6 := As.mk ((HR4.out.none_ HF6.out).rd)
          obtain ⟨_, _, _, e9, _, hd9, _⟩ := HD6.out
          injection e9 with q4 q5 q6
          subst q4 q5 q6
          have HSM := As.mk (fun (w' : World) (hf : Fr None_ w6 w') => same_calls q.1 A5 D n5 c5 nd cd q.2 w' (hd9.out.none_ hf) (HDD.out.none_ hf) HRNG.out)
          unfold pcells at HSM
          clear hnew hH6 HD6 hd9 eq2
          go_region_held3 (fun w' => w'.cell? ⟨gt, 0, none⟩ = some (.int .u8 q.1.kind) ∧ w'.cell? ⟨gt, 1, none⟩ = some (.int .u32 q.1.epoch) ∧ w'.cell? ⟨gt, 2, none⟩ = some (.int .u32 q.1.batch) ∧ w'.cell? ⟨gt, 3, none⟩ = some (.int .u16 q.1.index) ∧ w'.cell? ⟨gt, 4, none⟩ = some (.int .u16 q.1.count) ∧ w'.cell? ⟨gt, 5, none⟩ = some (.int .u32 q.1.block) ∧ w'.cell? ⟨gt, 6, none⟩ = some (.int .u32 q.1.more) ∧ w'.cell? ⟨gt, 7, none⟩ = some (.slice A5 n5 c5) ∧ w'.cell? ax = some (.int .u8 q.1.kind) ∧ w'.cell? ⟨ax.block, ax.off + 1, none⟩ = some (.int .u32 q.1.epoch) ∧ w'.cell? ⟨ax.block, ax.off + 2, none⟩ = some (.int .u32 q.1.batch) ∧ w'.cell? ⟨ax.block, ax.off + 3, none⟩ = some (.int .u16 q.1.index) ∧ w'.cell? ⟨ax.block, ax.off + 4, none⟩ = some (.int .u16 q.1.count) ∧ w'.cell? ⟨ax.block, ax.off + 5, none⟩ = some (.int .u32 q.1.block) ∧ w'.cell? ⟨ax.block, ax.off + 6, none⟩ = some (.int .u32 q.1.more) ∧ w'.cell? ⟨ax.block, ax.off + 7, none⟩ = some (.slice D nd cd) ∧ w'.cell? ⟨Y.hb, 4, none⟩ = some (.slice (some pad) S pc')) (first | go_keep | (refine ⟨?_, ?_, ?_, ?_, ?_, ?_, ?_, ?_, ?_, ?_, ?_, ?_, ?_, ?_, ?_, ?_, ?_⟩ <;> (refine Fr.cell ‹Fr None_ w6.drew _› ?_ (fun h => h); go_keep))) (first | ((with_reducible refine (HSM.out _ ((Fr.refl None_ w6).drew)).mono ?_); rintro e w7 ⟨rfl, hf7⟩))
          all_goals
            have HF7 := As.mk (HF6.out.after ((Fr.refl None_ w6).drew.after hf7 (fun _ _ h => h)) (fun _ _ h => h))
            clear hf7
            go_wp2_with fail
            exact ⟨⟨n + 1, τ', rfl, by omega, by omega, ⟨HA4.out.none_ HF7.out, HI2.out, fun _ => HG2.out⟩, ⟨HF4.out.after HF7.out (fun _ _ h => h.elim)⟩⟩, by simp [intOf]; omega⟩
        · have hI0 : I m0 τ := by
            have h := HX.out.2.1
            rw [show m0 + (S - n.toNat) = m0 by omega] at h
            exact h
          have HI0 := As.mk hI0
          clear hI0
          have HPF := As.mk (show ∀ e w', e = Ending.returned (.bool true) → w' = w3 → AllPost σ K H I G m0 w e w' from fun e w' h1 h2 => by
            subst h2
            exact ⟨h1, τ, HI0.out, fun h => HX.out.2.2 (by rw [HSE.out] at h; omega), HX.out.1, HF.out⟩)
          go_wp2_with fail
          go_ret
          exact HPF.out _ _ rfl rfl
end Go.Proofs.YteofgpaceeibpaaGreat.AllA

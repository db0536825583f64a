/- array: look. | nand: New (no bad blocks, no events). | nand: New (no bad blocks, no events): the walk. | array: Format. -/
import Derived.Test.YteofgpaceeibpaaGreatPartArr
import Derived.Test.YteofgpaceeibpaaGreatNandE
import Derived.Test.YteofgpaceeibpaaGreatPar
namespace Go.Proofs.YteofgpaceeibpaaGreat.ArrH
open Go.RowKit Go.Proofs.YteofgpaceeibpaaGreat.Gab Go.Proofs.YteofgpaceeibpaaGreat.Wr Go.Proofs.YteofgpaceeibpaaGreat.Geom Go.Proofs.YteofgpaceeibpaaGreat.Ref Go.Proofs.YteofgpaceeibpaaGreat.Nand Go.Proofs.YteofgpaceeibpaaGreat.NandA Go.Proofs.YteofgpaceeibpaaGreat.NandB Go.Proofs.YteofgpaceeibpaaGreat.NandC Go.Proofs.YteofgpaceeibpaaGreat.NandD Go.Proofs.YteofgpaceeibpaaGreat.NandE Go.Proofs.YteofgpaceeibpaaGreat.NandH Go.Proofs.YteofgpaceeibpaaGreat.RemapA Go.Proofs.YteofgpaceeibpaaGreat.RemapB Go.Proofs.YteofgpaceeibpaaGreat.VolA Go.Proofs.YteofgpaceeibpaaGreat.VolD Go.Proofs.YteofgpaceeibpaaGreat.VolE Go.Proofs.YteofgpaceeibpaaGreat.VolF Go.Proofs.YteofgpaceeibpaaGreat.MemA Go.Proofs.YteofgpaceeibpaaGreat.MemB Go.Proofs.YteofgpaceeibpaaGreat.MemC Go.Proofs.YteofgpaceeibpaaGreat.ArrA Go.Proofs.YteofgpaceeibpaaGreat.ArrB Go.Proofs.YteofgpaceeibpaaGreat.ArrC Go.Proofs.YteofgpaceeibpaaGreat.ArrD Go.Proofs.YteofgpaceeibpaaGreat.ArrE Go.Proofs.YteofgpaceeibpaaGreat.ArrF Go.Proofs.YteofgpaceeibpaaGreat.ArrG
open Go.Proofs.YteofgpaceeibpaaGreat.Heap (cell_is heap_set fr_set1)
set_option linter.unusedVariables false
set_option linter.unusedSimpArgs false

def _root_.Go.Proofs.YteofgpaceeibpaaGreat.ArrA.Ar.look1 (τ : Ar) (m : Nat) : Ar × Int := match τ.vol (τ.chip m) with
  | none => τ.gone m
  | some _ => (τ, 0)
def _root_.Go.Proofs.YteofgpaceeibpaaGreat.ArrA.Ar.lookN (σ : Ar) : Nat → Ar × Int
  | 0 => (σ, 0)
  | i + 1 => if (σ.lookN i).2 = 0 then (σ.lookN i).1.look1 i else σ.lookN i
/-- The chip in reserve is dead. -/
def _root_.Go.Proofs.YteofgpaceeibpaaGreat.ArrA.Ar.lookS (τ : Ar) : Ar := if τ.set.spare ≠ 255 ∧ τ.s.dead τ.set.spare.toNat = true then { τ with set := { τ.set with spare := 255, done := 0 } } else τ
/-- It isn't there. -/
def _root_.Go.Proofs.YteofgpaceeibpaaGreat.ArrA.Ar.lookV (τ : Ar) : Ar := if 0 < τ.set.done ∧ τ.vol τ.set.spare.toNat = none then { τ with set := { τ.set with done := 0 } } else τ
/-- Which members are dead now. -/
def _root_.Go.Proofs.YteofgpaceeibpaaGreat.ArrA.Ar.look (σ : Ar) : Ar × Int := if (σ.lookN σ.s.g.c.toNat).2 = 0 then ((σ.lookN σ.s.g.c.toNat).1.lookS.lookV, 0) else σ.lookN σ.s.g.c.toNat
theorem gone_same (σ : Ar) (m : Nat) : (σ.gone m).1.s = σ.s ∧ (σ.gone m).1.vol = σ.vol ∧ (σ.gone m).1.set.chips = σ.set.chips ∧ (σ.gone m).1.set.spare = σ.set.spare := by
  unfold Ar.gone
  split
  · exact ⟨rfl, rfl, rfl, rfl⟩
  · split <;> exact ⟨rfl, rfl, rfl, rfl⟩
theorem look1_same (σ : Ar) (m : Nat) : (σ.look1 m).1.s = σ.s ∧ (σ.look1 m).1.vol = σ.vol ∧ (σ.look1 m).1.set.chips = σ.set.chips ∧ (σ.look1 m).1.set.spare = σ.set.spare := by
  unfold Ar.look1
  split
  · exact gone_same σ m
  · exact ⟨rfl, rfl, rfl, rfl⟩
theorem lookN_same (σ : Ar) : ∀ i, (σ.lookN i).1.s = σ.s ∧ (σ.lookN i).1.vol = σ.vol ∧ (σ.lookN i).1.set.chips = σ.set.chips ∧ (σ.lookN i).1.set.spare = σ.set.spare
  | 0 => ⟨rfl, rfl, rfl, rfl⟩
  | i + 1 => by
    have ih := lookN_same σ i
    show (if (σ.lookN i).2 = 0 then _ else σ.lookN i : Ar × Int).1.s = σ.s ∧ (if (σ.lookN i).2 = 0 then _ else σ.lookN i : Ar × Int).1.vol = σ.vol ∧ (if (σ.lookN i).2 = 0 then _ else σ.lookN i : Ar × Int).1.set.chips = σ.set.chips ∧ (if (σ.lookN i).2 = 0 then _ else σ.lookN i : Ar × Int).1.set.spare = σ.set.spare
    by_cases hk : (σ.lookN i).2 = 0
    · rw [if_pos hk]
      have h1 := look1_same (σ.lookN i).1 i
      exact ⟨h1.1.trans ih.1, h1.2.1.trans ih.2.1, h1.2.2.1.trans ih.2.2.1, h1.2.2.2.trans ih.2.2.2⟩
    · rw [if_neg hk]
      exact ih
theorem lookN_stuck (σ : Ar) : ∀ n m, n ≤ m → (σ.lookN n).2 ≠ 0 → σ.lookN m = σ.lookN n
  | n, 0, h, _ => by
    obtain rfl : n = 0 := by omega
    rfl
  | n, m + 1, h, hk => by
    by_cases e : n = m + 1
    · rw [e]
    · have ih := lookN_stuck σ n m (by omega) hk
      show (if (σ.lookN m).2 = 0 then _ else σ.lookN m) = _
      rw [ih, if_neg hk]
theorem spare_ok {m : MS} {g : Geo} (h : m.Ok g) : { m with spare := 255, done := 0 : MS }.Ok g := by
  have hinr : ∀ x ∈ ({ m with spare := 255, done := 0 } : MS).all, x ∈ m.all := fun x hx => by
    unfold MS.all at hx ⊢
    rw [if_pos rfl, List.append_nil] at hx
    exact List.mem_append_left _ hx
  have hnd : ({ m with spare := 255, done := 0 } : MS).all.Nodup := by
    have := h.nd
    unfold MS.all at this ⊢
    rw [if_pos rfl, List.append_nil]
    exact (List.nodup_append.1 this).1
  have := h.done
  exact ⟨h.len, h.seq, fun x hx => h.inr x (hinr x hx), hnd, h.dead, ⟨Int.le_refl 0, by show (0 : Int) ≤ g.b - 5; omega⟩, fun h => absurd h (Int.lt_irrefl 0)⟩
theorem done_ok {m : MS} {g : Geo} (h : m.Ok g) : { m with done := 0 : MS }.Ok g := by
  have := h.done
  exact ⟨h.len, h.seq, h.inr, h.nd, h.dead, ⟨Int.le_refl 0, by show (0 : Int) ≤ g.b - 5; omega⟩, fun h => absurd h (Int.lt_irrefl 0)⟩
/-- The chip in reserve is a chip. -/
theorem spare_in {m : MS} {g : Geo} (h : m.Ok g) (hs : m.spare ≠ 255) : 0 ≤ m.spare ∧ m.spare ≤ g.c := h.inr _ (by unfold MS.all; rw [if_neg hs]; simp)
def LookPost (σ : Ar) (K : ALay) (w : World) (e : Ending) (w' : World) : Prop := e = .returned (.int .i64 σ.look.2) ∧ ArAt w' σ.look.1 K ∧ Fr (fun b => b = K.x) w w'

set_option maxHeartbeats 8000000 in
set_option maxRecDepth 100000 in
theorem look_calls (σ : Ar) (K : ALay) (w : World) (h : ArAt w σ K) :
    Calls Tryz.prog 39 #[.pointer (some ⟨K.x, 0, none⟩)] w (LookPost σ K w) := by
  have hgc := h.nand.ok.c
  have HA := As.mk h
  obtain ⟨nc, hnc⟩ := Int.eq_ofNat_of_zero_le (show 0 ≤ σ.s.g.c by omega)
  have HNC := As.mk hnc
  have hct : σ.s.g.c.toNat = nc := by omega
  have HCT := As.mk hct
  have hn16 : nc ≤ 16 := by omega
  have HSAME := As.mk (lookN_same σ)
  have HL := As.mk (show ∀ i, i ≤ nc → (σ.lookN i).2 ≠ 0 → σ.look = σ.lookN i from fun i hi hk => by
    have h1 := lookN_stuck σ i nc hi hk
    unfold Ar.look
    rw [hct, h1, if_neg hk])
  have HL2 := As.mk (show (σ.lookN nc).2 = 0 → σ.look = ((σ.lookN nc).1.lookS.lookV, 0) from fun hk => by
    unfold Ar.look
    rw [hct, if_pos hk])
  obtain ⟨_, _, _, _, _, _, _, c7, _, _, _, _⟩ := h.cs
  rw [hct] at c7
  clear h hgc hnc hct
  go_enter Tryz.func39, Tryz.ntmps39
  go_wp2_with fail
  go_loopw [12] (fun v12 w' => ∃ i : Nat, v12 = .int .i64 (i : Int) ∧ i ≤ nc ∧ As ((σ.lookN i).2 = 0) ∧ As (ArAt w' (σ.lookN i).1 K) ∧ As (Fr (fun b => b = K.x) w w')) (fun v12 _ => nc - (intOf v12).toNat)
  case atStart => exact ⟨0, rfl, Nat.zero_le _, ⟨rfl⟩, HA, ⟨Fr.refl _ _⟩⟩
  case round =>
    obtain ⟨i, rfl, hi, HK, HAi, HFi⟩ := hrel
    clear c7
    by_cases hlt : i < nc
    · have hltI : (i : Int) < (nc : Int) := by omega
      have HS1 := As.mk (show σ.lookN (i + 1) = (σ.lookN i).1.look1 i from by show (if (σ.lookN i).2 = 0 then _ else _) = _; rw [if_pos HK.out])
      have hgi : (σ.lookN i).1.s = σ.s := (HSAME.out i).1
      generalize hσi : (σ.lookN i).1 = τ at *
      have hmi : (i : Int) < τ.s.g.c := by rw [hgi, HNC.out]; exact hltI
      obtain ⟨k1, k2, k3⟩ := HAi.out.chipc hmi
      have hvc := (HAi.out.volc k2).1
      obtain ⟨_, _, _, _, _, c5, _, _, _, _, _, _⟩ := HAi.out.cs
      have hkt : Int.toNat (τ.chip i : Int) = τ.chip i := by omega
      have hki : (τ.chip i : Int) < (τ.s.n : Int) := by omega
      rcases ht : τ.vol (τ.chip i) with _ | t
      · have hvp : wr.cell? ⟨K.V, τ.chip i, none⟩ = some (.pointer none) := by rw [hvc]; unfold vptr; rw [ht]
        have h11 : (σ.lookN (i + 1)) = τ.gone i := by rw [HS1.out]; unfold Ar.look1; rw [ht]
        have HGI := As.mk (gone_calls τ K i wr HAi.out hmi)
        unfold GonePost at HGI
        rw [← h11] at HGI
        clear ht hvc h11 k3 hgi hmi hσi k2
        generalize τ.chip i = ci at *
        generalize τ.s.n = sn at *
        go_wp2_with fail
        ((with_reducible refine (HGI.out).mono ?_); rintro e w2 ⟨rfl, ha2, hf2⟩)
        have HA2 := As.mk ha2
        have HF2 := As.mk (HFi.out.after hf2 (fun _ _ h => h))
        clear ha2 hf2 HGI
        by_cases hk : (σ.lookN (i + 1)).2 = 0
        · have HK2 := As.mk hk
          rw [hk]
          clear hk
          go_wp2_with fail
          exact ⟨⟨i + 1, rfl, by omega, HK2, HA2, HF2⟩, by simp [intOf]; omega⟩
        · have dk : ((σ.lookN (i + 1)).2 != 0) = true := by rw [bne_iff_ne]; exact hk
          have HPost := As.mk (show ∀ (e : Ending) (w' : World), e = .returned (.int .i64 (σ.lookN (i + 1)).2) → ArAt w' (σ.lookN (i + 1)).1 K → Fr (fun b => b = K.x) w w' → LookPost σ K w e w' from fun e w' h1 h2 h3 => by
            unfold LookPost
            rw [HL.out (i + 1) (by omega) hk]
            exact ⟨h1, h2, h3⟩)
          generalize (σ.lookN (i + 1)).2 = k at *
          clear hk
          go_wp2_with fail
          go_ret
          exact HPost.out _ _ rfl HA2.out HF2.out
      · have hvp : wr.cell? ⟨K.V, τ.chip i, none⟩ = some (.pointer (some ⟨(K.v (τ.chip i)).vb, 0, none⟩)) := by rw [hvc]; unfold vptr; rw [ht]
        have H11 := As.mk (show (σ.lookN (i + 1)) = (τ, 0) from by rw [HS1.out]; unfold Ar.look1; rw [ht])
        clear ht hvc k3 hgi hmi hσi k2
        generalize τ.chip i = ci at *
        generalize τ.s.n = sn at *
        go_wp2_with fail
        exact ⟨⟨i + 1, rfl, by omega, ⟨by rw [H11.out]⟩, ⟨by rw [H11.out]; exact HAi.out⟩, HFi⟩, by simp [intOf]; omega⟩
    · obtain rfl : i = nc := by omega
      have hltI : ¬ (i : Int) < (i : Int) := by omega
      have HLL := As.mk (HL2.out HK.out)
      have hgi : (σ.lookN i).1.s = σ.s := (HSAME.out i).1
      generalize hσi : (σ.lookN i).1 = τ at *
      clear hσi HL HL2 HSAME HK hgi
      obtain ⟨_, _, _, _, _, _, _, _, c8, _, c10, _⟩ := HAi.out.cs
      have c0 := HAi.out.cs.1
      go_upto_region 9 with fail
      go_cut [49] (fun v49 wx => v49 = .bool (decide (τ.set.spare ≠ 255 ∧ τ.s.dead τ.set.spare.toNat = true)) ∧ As (Fr None_ wr wx))
      case first =>
        by_cases hsp : τ.set.spare = 255
        · have d1 : (τ.set.spare != 255) = false := by rw [hsp]; rfl
          have H1 := As.mk (show decide (τ.set.spare ≠ 255 ∧ τ.s.dead τ.set.spare.toNat = true) = false from decide_eq_false (fun h => h.1 hsp))
          clear hsp
          go_quiet (fail)
          have HFX := As.mk (show Fr None_ wr (wr.drewN nq) from (Fr.refl None_ wr).drewN nq)
          generalize wr.drewN nq = w5 at *
          go_wp2_with fail
          go_meet
          case rel => exact ⟨by rw [H1.out], HFX⟩
        · have hin := spare_in HAi.out.ok.set hsp
          obtain ⟨sp, hspe⟩ := Int.eq_ofNat_of_zero_le hin.1
          have hlts : sp < τ.s.n := by unfold St.n; omega
          have hspt : τ.set.spare.toNat = sp := by omega
          have HDC := As.mk (Dead_calls K.p τ.s K.L sp wr.drew (HAi.out.nand.none_ (Fr.refl None_ wr).drew) hlts)
          have H1 := As.mk (show decide (τ.set.spare ≠ 255 ∧ τ.s.dead τ.set.spare.toNat = true) = τ.s.dead sp from by
            rw [hspt]
            cases τ.s.dead sp
            · exact decide_eq_false (fun h => by cases h.2)
            · exact decide_eq_true ⟨hsp, rfl⟩)
          have d1 : ((sp : Int) != 255) = true := by rw [bne_iff_ne, ← hspe]; exact hsp
          rw [hspe] at c8
          clear hsp hspe hlts hin hspt
          go_region_held3 (fun w' => w'.cell? ⟨K.x, 8, none⟩ = some (.int .i64 (sp : Int)) ∧ w'.cell? ⟨K.x, 0, none⟩ = some (.pointer (some ⟨K.p, 0, none⟩))) (first | go_keep | exact ⟨c8, c0⟩ | exact ⟨Fr.cell HF2.out c8 (fun h => h), Fr.cell HF2.out c0 (fun h => h)⟩) (first
            | (go_at_call 74; (with_reducible refine (HDC.out).mono ?_); rintro e w2 ⟨rfl, hf2⟩; have HF2 := As.mk (show Fr None_ wr w2 from hf2.undrew); clear hf2)
            | fail)
          go_wp2_with fail
          go_meet
          case rel => exact ⟨by rw [H1.out], HF2⟩
      case rest =>
        obtain ⟨rfl, HF2⟩ := hcut
        rename World => w2
        have HA2 := As.mk (HAi.out.none_ HF2.out)
        have HFA := As.mk (HFi.out.after HF2.out (fun _ _ h => h.elim))
        clear c8 c10 c0
        go_upto_if 49 with (fail)
        go_cut [] (fun wx => As (ArAt wx τ.lookS K) ∧ As (Fr (fun b => b = K.x) w wx))
        case first =>
          by_cases hd : τ.set.spare ≠ 255 ∧ τ.s.dead τ.set.spare.toNat = true
          · have H1 := As.mk (show τ.lookS = { τ with set := { τ.set with spare := 255, done := 0 } } from if_pos hd)
            have d1 : decide (τ.set.spare ≠ 255 ∧ τ.s.dead τ.set.spare.toNat = true) = true := decide_eq_true hd
            rw [d1]
            clear hd d1
            go_upto_region 10 with fail
            obtain ⟨_, _, _, _, _, _, _, _, c8, _, c10, _⟩ := HA2.out.cs
            have hm0 := HA2.out.main
            have f8 := free_of (i := 8) hm0
            have f10 := free_of (i := 10) hm0
            have hs1 := heap_set hm0 8 (.int .i64 255)
            have hs2 := heap_set hs1 10 (.int .i64 0)
            have hf1 := fr_set1 (w' := w2) (b := K.x) (i := 8) (.int .i64 255)
            have hf2 := hf1.after (fr_set1 (w' := w2.setCell ⟨K.x, 8, none⟩ (.int .i64 255)) (b := K.x) (i := 10) (.int .i64 0)) (fun _ _ h => h)
            have HN := As.mk (HA2.out.put { τ with set := { τ.set with spare := 255, done := 0 } } rfl rfl rfl ⟨spare_ok HA2.out.ok.set, HA2.out.ok.more⟩ hf2 (by rw [hs2]; rfl))
            have HF3 := As.mk (HFA.out.after hf2 (fun _ _ h => h))
            clear hm0 hs1 hs2 hf1 hf2
            go_wp2_with fail
            go_meet
            case rel => exact ⟨⟨by rw [H1.out]; exact HN.out⟩, HF3⟩
          · have H1 := As.mk (show τ.lookS = τ from if_neg hd)
            have d1 : decide (τ.set.spare ≠ 255 ∧ τ.s.dead τ.set.spare.toNat = true) = false := decide_eq_false hd
            rw [d1]
            clear hd d1
            go_wp2_with fail
            go_meet
            case rel => exact ⟨⟨by rw [H1.out]; exact HA2.out⟩, HFA⟩
        case rest =>
          obtain ⟨HAc, HFc⟩ := hcut
          rename World => w3
          have HGS := As.mk (show τ.lookS.s = τ.s from by unfold Ar.lookS; split <;> rfl)
          generalize hρ : τ.lookS = ρ at *
          obtain ⟨_, _, _, _, _, c5, _, _, c8, _, c10, _⟩ := HAc.out.cs
          have hm0 := HAc.out.main
          have f10 := free_of (i := 10) hm0
          go_upto_region 11 with fail
          by_cases hdn : 0 < ρ.set.done
          · have d1 : decide (ρ.set.done > 0) = true := decide_eq_true hdn
            have hsp := (HAc.out.ok.set.dn hdn).2
            have hin := spare_in HAc.out.ok.set hsp
            obtain ⟨sp, hspe⟩ := Int.eq_ofNat_of_zero_le hin.1
            have hlts : sp < ρ.s.n := by unfold St.n; omega
            have hltI : (sp : Int) < (ρ.s.n : Int) := by omega
            have hspt : ρ.set.spare.toNat = sp := by omega
            have hst : Int.toNat (sp : Int) = sp := by omega
            have hvc := (HAc.out.volc hlts).1
            rw [hspe] at c8
            rcases ht : ρ.vol sp with _ | t
            · have hvp : w3.cell? ⟨K.V, sp, none⟩ = some (.pointer none) := by rw [hvc]; unfold vptr; rw [ht]
              have H1 := As.mk (show ρ.lookV = { ρ with set := { ρ.set with done := 0 } } from if_pos ⟨hdn, by rw [hspt]; exact ht⟩)
              clear hdn hsp hin hspe hlts hspt ht hvc f10 hm0
              go_quiet (fail)
              have HFX := As.mk (show Fr None_ w3 (w3.drewN nq) from (Fr.refl None_ w3).drewN nq)
              generalize w3.drewN nq = w5 at *
              have HA5 := As.mk (HAc.out.none_ HFX.out)
              have HF5 := As.mk (HFc.out.after HFX.out (fun _ _ h => h.elim))
              clear c5 c8 c10 hvp
              go_upto_region 12 with fail
              obtain ⟨_, _, _, _, _, _, _, _, _, _, c10, _⟩ := HA5.out.cs
              have hm0 := HA5.out.main
              have f10 := free_of (i := 10) hm0
              have hs1 := heap_set hm0 10 (.int .i64 0)
              have hf1 := fr_set1 (w' := w5) (b := K.x) (i := 10) (.int .i64 0)
              have HN := As.mk (HA5.out.put { ρ with set := { ρ.set with done := 0 } } rfl rfl rfl ⟨done_ok HA5.out.ok.set, HA5.out.ok.more⟩ hf1 (by rw [hs1]; rfl))
              have HF6 := As.mk (HF5.out.after hf1 (fun _ _ h => h))
              clear hm0 hs1 hf1
              go_wp2_with fail
              go_ret
              exact ⟨by rw [HLL.out]; rfl, by rw [HLL.out, H1.out]; exact HN.out, HF6.out⟩
            · have hvp : w3.cell? ⟨K.V, sp, none⟩ = some (.pointer (some ⟨(K.v sp).vb, 0, none⟩)) := by rw [hvc]; unfold vptr; rw [ht]
              have H1 := As.mk (show ρ.lookV = ρ from if_neg (fun h => by have := h.2; rw [hspt, ht] at this; cases this))
              clear hdn hsp hin hspe hlts hspt ht hvc f10 hm0
              go_quiet (fail)
              have HFX := As.mk (show Fr None_ w3 (w3.drewN nq) from (Fr.refl None_ w3).drewN nq)
              generalize w3.drewN nq = w5 at *
              have HA5 := As.mk (HAc.out.none_ HFX.out)
              have HF5 := As.mk (HFc.out.after HFX.out (fun _ _ h => h.elim))
              go_wp2_with fail
              go_ret
              exact ⟨by rw [HLL.out]; rfl, by rw [HLL.out, H1.out]; exact HA5.out, HF5.out⟩
          · have d1 : decide (ρ.set.done > 0) = false := decide_eq_false hdn
            have H1 := As.mk (show ρ.lookV = ρ from if_neg (fun h => hdn h.1))
            clear hdn f10 hm0
            go_quiet (fail)
            have HFX := As.mk (show Fr None_ w3 (w3.drewN nq) from (Fr.refl None_ w3).drewN nq)
            generalize w3.drewN nq = w5 at *
            have HA5 := As.mk (HAc.out.none_ HFX.out)
            have HF5 := As.mk (HFc.out.after HFX.out (fun _ _ h => h.elim))
            go_wp2_with fail
            go_ret
            exact ⟨by rw [HLL.out]; rfl, by rw [HLL.out, H1.out]; exact HA5.out, HF5.out⟩
end Go.Proofs.YteofgpaceeibpaaGreat.ArrH
namespace Go.Proofs.YteofgpaceeibpaaGreat.NandF
open Go.RowKit Go.Proofs.YteofgpaceeibpaaGreat.Gab Go.Proofs.YteofgpaceeibpaaGreat.Wr Go.Proofs.YteofgpaceeibpaaGreat.Geom Go.Proofs.YteofgpaceeibpaaGreat.Ref Go.Proofs.YteofgpaceeibpaaGreat.Heap Go.Proofs.YteofgpaceeibpaaGreat.Nand Go.Proofs.YteofgpaceeibpaaGreat.NandA Go.Proofs.YteofgpaceeibpaaGreat.NandB Go.Proofs.YteofgpaceeibpaaGreat.NandC Go.Proofs.YteofgpaceeibpaaGreat.NandD Go.Proofs.YteofgpaceeibpaaGreat.NandE Go.Proofs.YteofgpaceeibpaaGreat.Par
set_option linter.unusedVariables false
set_option linter.unusedSimpArgs false

/-- New chips. -/
def _root_.Go.Proofs.YteofgpaceeibpaaGreat.Nand.St.new (g : Geo) : St := ⟨g, fun _ _ => ⟨fun _ => none, 0, 0, false⟩, fun _ => false, [], 0, false⟩
theorem infoBool : (Tryz.prog.info? 4).map (fun i => (i.zero, i.size, i.bytes)) = some (some (.bool false), 1, 1) := by kernel_rfl
theorem infoBlk : (Tryz.prog.info? 89).map (fun i => (i.zero, i.size, i.bytes)) = some (some (.agg #[.slice none 0 0, .int .i64 0, .int .i64 0, .bool false]), 4, 48) := by kernel_rfl
theorem infoPg : (Tryz.prog.info? 176).map (fun i => (i.zero, i.size, i.bytes)) = some (some (.agg #[.slice none 0 0, .slice none 0 0]), 2, 48) := by kernel_rfl
theorem infoSB : (Tryz.prog.info? 86).map (fun i => (i.zero, i.size, i.bytes)) = some (some (.slice none 0 0), 1, 24) := by kernel_rfl
/-- make([]T, n), whatever the cells. -/
theorem run_makeV {P : Program} (t e : TypeId) (z : Value) (size bytes : Nat) (ht : P.underlying t = some (.slice e)) (hinfo : (P.info? e).map (fun i => (i.zero, i.size, i.bytes)) = some (some z, size, bytes)) (m : Int) (h0 : 0 ≤ m) (hm : m ≤ 100000) (hb : bytes ≤ 1000) :
    ∀ W : World, (Instr.makeSlice t (.int .i64 m) (.int .i64 m)).run P W = .ok (.slice (some ⟨W.heap.size, 0, none⟩) m.toNat m.toNat) (W.alloc (.cells (madeCells z.cells (m.toNat * size)) e)) := by
  intro W
  obtain ⟨i0, hi, hzz⟩ := Option.map_eq_some_iff.1 hinfo
  simp only [Prod.mk.injEq] at hzz
  obtain ⟨hz0, hz1, hz2⟩ := hzz
  have hmul : (bytes : Int) * m ≤ 1000 * 100000 := Int.mul_le_mul (by omega) hm h0 (by omega)
  rw [← hz1]
  exact run_make W t e i0 z ht hi hz0 .i64 .i64 m m h0 (Int.le_refl _) (by rw [hz2]; omega) (by omega)
theorem made_get {z : Array Value} {n j : Nat} (h : j < n) : (madeCells z n)[j]? = some (z[j % z.size]!) := by
  unfold madeCells
  rw [Array.getElem?_map, Array.getElem?_range, if_pos h]
  rfl
/-- A chip's blocks, all erased. -/
structure ZChip (w : World) (nb np base B : Nat) (P : Nat → Nat) : Prop where
  blk : ∃ cs, w.heap[B]? = some (.cells cs 89 (0, 0)) ∧ ∀ b, b < nb → cs[b * 4]? = some (.slice (some ⟨P b, 0, none⟩) np np) ∧ cs[b * 4 + 1]? = some (.int .i64 0) ∧ cs[b * 4 + 2]? = some (.int .i64 0) ∧ cs[b * 4 + 3]? = some (.bool false)
  pgs : ∀ b, b < nb → ∃ ps, w.heap[P b]? = some (.cells ps 176 (0, 0)) ∧ ps.size = np * 2 ∧ ∀ j, j < np * 2 → ps[j]? = some (.slice none 0 0)
  lo : base ≤ B ∧ ∀ b, b < nb → base ≤ P b
  inj : ∀ b b', b < nb → b' < nb → P b = P b' → b = b'
theorem ZChip.none_ {w w' : World} {nb np base B : Nat} {P : Nat → Nat} (h : ZChip w nb np base B P) (hf : Fr None_ w w') : ZChip w' nb np base B P :=
  ⟨by obtain ⟨cs, e, h1⟩ := h.blk; exact ⟨cs, hf.heap e (fun h => h), h1⟩, fun b hb => by obtain ⟨ps, e, h1⟩ := h.pgs b hb; exact ⟨ps, hf.heap e (fun h => h), h1⟩, h.lo, h.inj⟩
/-- All chips so far. -/
structure ZAll (w : World) (i nb np base : Nat) (B : Nat → Nat) (P : Nat → Nat → Nat) : Prop where
  chip : ∀ c, c < i → ZChip w nb np base (B c) (P c)
  injB : ∀ c c', c < i → c' < i → B c = B c' → c = c'
  injP : ∀ c b c' b', c < i → b < nb → c' < i → b' < nb → P c b = P c' b' → c = c' ∧ b = b'
theorem ZAll.none_ {w w' : World} {i nb np base : Nat} {B : Nat → Nat} {P : Nat → Nat → Nat} (h : ZAll w i nb np base B P) (hf : Fr None_ w w') : ZAll w' i nb np base B P := ⟨fun c hc => (h.chip c hc).none_ hf, h.injB, h.injP⟩
theorem ZAll.snoc {w w' : World} {i nb np base : Nat} {B : Nat → Nat} {P : Nat → Nat → Nat} (h : ZAll w i nb np base B P) (hf : Fr None_ w w') (hb : base ≤ w.heap.size) {Bn : Nat} {Pn : Nat → Nat} (hn : ZChip w' nb np w.heap.size Bn Pn) :
    ZAll w' (i + 1) nb np base (fun c => if c = i then Bn else B c) (fun c => if c = i then Pn else P c) := by
  have hlB : ∀ c, c < i → B c < w.heap.size := fun c hc => by
    obtain ⟨cs, e, _⟩ := (h.chip c hc).blk
    exact (Array.getElem?_eq_some_iff.1 e).1
  have hlP : ∀ c b, c < i → b < nb → P c b < w.heap.size := fun c b hc hb => by
    obtain ⟨cs, e, _⟩ := (h.chip c hc).pgs b hb
    exact (Array.getElem?_eq_some_iff.1 e).1
  refine ⟨fun c hc => ?_, fun c c' hc hc' e => ?_, fun c b c' b' hc hb1 hc' hb2 e => ?_⟩
  · by_cases ec : c = i
    · rw [if_pos ec, if_pos ec]
      exact ⟨hn.blk, hn.pgs, ⟨Nat.le_trans hb hn.lo.1, fun b hbb => Nat.le_trans hb (hn.lo.2 b hbb)⟩, hn.inj⟩
    · rw [if_neg ec, if_neg ec]
      exact (h.chip c (by omega)).none_ hf
  · by_cases e1 : c = i
    · by_cases e2 : c' = i
      · omega
      · rw [if_pos e1, if_neg e2] at e
        have := hlB c' (by omega)
        have := hn.lo.1
        omega
    · by_cases e2 : c' = i
      · rw [if_neg e1, if_pos e2] at e
        have := hlB c (by omega)
        have := hn.lo.1
        omega
      · rw [if_neg e1, if_neg e2] at e
        exact h.injB c c' (by omega) (by omega) e
  · by_cases e1 : c = i
    · by_cases e2 : c' = i
      · rw [if_pos e1, if_pos e2] at e
        exact ⟨by omega, hn.inj b b' hb1 hb2 e⟩
      · rw [if_pos e1, if_neg e2] at e
        have := hlP c' b' (by omega) hb2
        have := hn.lo.2 b hb1
        omega
    · by_cases e2 : c' = i
      · rw [if_neg e1, if_pos e2] at e
        have := hlP c b (by omega) hb1
        have := hn.lo.2 b' hb2
        omega
      · rw [if_neg e1, if_neg e2] at e
        exact h.injP c b c' b' (by omega) hb1 (by omega) hb2 e
theorem ZChip.fr {S : Nat → Prop} {w w' : World} {nb np base B : Nat} {P : Nat → Nat} (h : ZChip w nb np base B P) (hf : Fr S w w') (hS : ∀ b cs T, w.heap[b]? = some (.cells cs T (0, 0)) → T = 89 ∨ T = 176 → ¬ S b) : ZChip w' nb np base B P :=
  ⟨by obtain ⟨cs, e, h1⟩ := h.blk; exact ⟨cs, hf.heap e (hS _ _ _ e (.inl rfl)), h1⟩, fun b hb => by obtain ⟨ps, e, h1⟩ := h.pgs b hb; exact ⟨ps, hf.heap e (hS _ _ _ e (.inr rfl)), h1⟩, h.lo, h.inj⟩
theorem ZAll.fr {S : Nat → Prop} {w w' : World} {i nb np base : Nat} {B : Nat → Nat} {P : Nat → Nat → Nat} (h : ZAll w i nb np base B P) (hf : Fr S w w') (hS : ∀ b cs T, w.heap[b]? = some (.cells cs T (0, 0)) → T = 89 ∨ T = 176 → ¬ S b) : ZAll w' i nb np base B P := ⟨fun c hc => (h.chip c hc).fr hf hS, h.injB, h.injP⟩
/-- A chip whose first blocks have their pages. -/
structure ZPart (w : World) (j nb np base B : Nat) (P : Nat → Nat) : Prop where
  blk : ∃ cs, w.heap[B]? = some (.cells cs 89 (0, 0)) ∧ cs.size = nb * 4 ∧ (∀ b, b < nb → cs[b * 4 + 1]? = some (.int .i64 0) ∧ cs[b * 4 + 2]? = some (.int .i64 0) ∧ cs[b * 4 + 3]? = some (.bool false)) ∧ ∀ b, b < j → cs[b * 4]? = some (.slice (some ⟨P b, 0, none⟩) np np)
  pgs : ∀ b, b < j → ∃ ps, w.heap[P b]? = some (.cells ps 176 (0, 0)) ∧ ps.size = np * 2 ∧ ∀ q, q < np * 2 → ps[q]? = some (.slice none 0 0)
  lo : base ≤ B ∧ ∀ b, b < j → B < P b
  inj : ∀ b b', b < j → b' < j → P b = P b' → b = b'
theorem ZPart.start (w : World) (nb np : Nat) : ZPart (w.alloc (.cells (madeCells #[.slice none 0 0, .int .i64 0, .int .i64 0, .bool false] (nb * 4)) 89)) 0 nb np w.heap.size w.heap.size (fun _ => 0) := by
  refine ⟨⟨_, heap_alloc_new w _, by simp [madeCells], fun b hb => ?_, fun b hb => absurd hb (Nat.not_lt_zero _)⟩, fun b hb => absurd hb (Nat.not_lt_zero _), ⟨Nat.le_refl _, fun b hb => absurd hb (Nat.not_lt_zero _)⟩, fun b _ hb => absurd hb (Nat.not_lt_zero _)⟩
  rw [made_get (by omega), made_get (by omega), made_get (by omega)]
  have e1 : (b * 4 + 1) % 4 = 1 := by omega
  have e2 : (b * 4 + 2) % 4 = 2 := by omega
  have e3 : (b * 4 + 3) % 4 = 3 := by omega
  simp [e1, e2, e3]
theorem ZPart.step {w : World} {j nb np base B : Nat} {P : Nat → Nat} (h : ZPart w j nb np base B P) (hj : j < nb) :
    ZPart ((w.alloc (.cells (madeCells #[.slice none 0 0, .slice none 0 0] (np * 2)) 176)).setCell ⟨B, j * 4, none⟩ (.slice (some ⟨w.heap.size, 0, none⟩) np np)) (j + 1) nb np base B (fun b => if b = j then w.heap.size else P b) := by
  obtain ⟨cs, hb, hz, hr, hs⟩ := h.blk
  have hlt : B < w.heap.size := (Array.getElem?_eq_some_iff.1 hb).1
  have hb1 : (w.alloc (.cells (madeCells #[.slice none 0 0, .slice none 0 0] (np * 2)) 176)).heap[B]? = some (.cells cs 89 (0, 0)) := at_old _ hb
  have hf := fr_set1 (w' := w.alloc (.cells (madeCells #[.slice none 0 0, .slice none 0 0] (np * 2)) 176)) (b := B) (i := j * 4) (.slice (some ⟨w.heap.size, 0, none⟩) np np)
  have hP : ∀ b, b < j → P b < w.heap.size := fun b hb => by
    obtain ⟨ps, e, _⟩ := h.pgs b hb
    exact (Array.getElem?_eq_some_iff.1 e).1
  refine ⟨⟨_, heap_set hb1 _ _, by simpa using hz, fun b hb => ?_, fun b hb => ?_⟩, fun b hb => ?_, ⟨h.lo.1, fun b hb => ?_⟩, fun b b' hb hb' e => ?_⟩
  · rw [Array.getElem?_setIfInBounds_ne (by omega), Array.getElem?_setIfInBounds_ne (by omega), Array.getElem?_setIfInBounds_ne (by omega)]
    exact hr b hb
  · by_cases e : b = j
    · subst e
      rw [if_pos rfl, Array.getElem?_setIfInBounds_self_of_lt (by omega)]
    · rw [if_neg e, Array.getElem?_setIfInBounds_ne (by omega)]
      exact hs b (by omega)
  · by_cases e : b = j
    · subst e
      rw [if_pos rfl]
      refine ⟨_, hf.heap (heap_alloc_new w _) (by omega), by simp [madeCells], fun q hq => ?_⟩
      rw [made_get hq]
      have : q % 2 = 0 ∨ q % 2 = 1 := by omega
      rcases this with e | e <;> simp [e]
    · rw [if_neg e]
      obtain ⟨ps, e1, h1⟩ := h.pgs b (by omega)
      exact ⟨ps, hf.heap (at_old _ e1) (by have := h.lo.2 b (by omega); omega), h1⟩
  · by_cases e : b = j
    · rw [if_pos e]; exact hlt
    · rw [if_neg e]; exact h.lo.2 b (by omega)
  · by_cases e1 : b = j
    · by_cases e2 : b' = j
      · omega
      · rw [if_pos e1, if_neg e2] at e
        have := hP b' (by omega)
        omega
    · by_cases e2 : b' = j
      · rw [if_neg e1, if_pos e2] at e
        have := hP b (by omega)
        omega
      · rw [if_neg e1, if_neg e2] at e
        exact h.inj b b' (by omega) (by omega) e
theorem ZPart.done {w : World} {nb np base B : Nat} {P : Nat → Nat} (h : ZPart w nb nb np base B P) : ZChip w nb np base B P := by
  obtain ⟨cs, hb, hz, hr, hs⟩ := h.blk
  exact ⟨⟨cs, hb, fun b hb => ⟨hs b hb, hr b hb⟩⟩, h.pgs, ⟨h.lo.1, fun b hb => Nat.le_of_lt (Nat.lt_of_le_of_lt h.lo.1 (h.lo.2 b hb))⟩, h.inj⟩
/-- Chips that come: what New holds, i chips made. -/
structure Grow (w w' : World) (g : Geo) (p D i base : Nat) (A : Option Addr) (cap : Nat) (vs : List Value) (B : Nat → Nat) (P : Nat → Nat → Nat) : Prop where
  fr : Fr None_ w w'
  geo : w'.heap[w.heap.size]? = some (.cells #[.int .i64 g.c, .int .i64 g.b, .int .i64 g.p, .int .i64 g.s] 24 (0, 0))
  main : w'.heap[p]? = some (.cells #[.int .i64 g.c, .int .i64 g.b, .int .i64 g.p, .int .i64 g.s, .slice A i cap, .slice (some ⟨D, 0, none⟩) (g.c + 1).toNat (g.c + 1).toNat, .slice none 0 0, .int .i64 0, .bool false] 85 (0, 0))
  ded : w'.heap[D]? = some (.cells (madeCells #[.bool false] (g.c + 1).toNat) 4 (0, 0))
  row : RowV 86 1 w' base (.slice A i cap) i vs
  all : ZAll w' i g.b.toNat g.p.toNat base B P
  at_ : ∀ c, c < i → vs[c]? = some (.slice (some ⟨B c, 0, none⟩) g.b.toNat g.b.toNat)
  lo : w.heap.size ≤ D ∧ w.heap.size < p ∧ p < base ∧ D < base ∧ base ≤ w'.heap.size
theorem infoEv : (Tryz.prog.info? 50).map (fun i => (i.zero, i.size, i.bytes)) = some (some (.agg #[.int .i64 0, .int .i64 0, .int .i64 0, .slice none 0 0]), 4, 48) := by kernel_rfl
theorem append_nil (ty : TypeId) : ∀ W : World, (Builtin.append_ #[80, 80] ty #[.slice none 0 0, .slice none 0 0]).run Tryz.prog W = .ok (.slice none 0 0) W := by
  intro W
  obtain ⟨i0, hi, hzz⟩ := Option.map_eq_some_iff.1 infoEv
  simp [Builtin.append_, run_underlying Tryz.underlying80, sizeOf, typeInfo, hi, Builtin.lenOf, Builtin.firstCells]
end Go.Proofs.YteofgpaceeibpaaGreat.NandF
namespace Go.Proofs.YteofgpaceeibpaaGreat.NandG
open Go.RowKit Go.Proofs.YteofgpaceeibpaaGreat.Gab Go.Proofs.YteofgpaceeibpaaGreat.Wr Go.Proofs.YteofgpaceeibpaaGreat.Geom Go.Proofs.YteofgpaceeibpaaGreat.Ref Go.Proofs.YteofgpaceeibpaaGreat.Heap Go.Proofs.YteofgpaceeibpaaGreat.Nand Go.Proofs.YteofgpaceeibpaaGreat.NandA Go.Proofs.YteofgpaceeibpaaGreat.NandB Go.Proofs.YteofgpaceeibpaaGreat.NandC Go.Proofs.YteofgpaceeibpaaGreat.NandD Go.Proofs.YteofgpaceeibpaaGreat.NandE Go.Proofs.YteofgpaceeibpaaGreat.Par Go.Proofs.YteofgpaceeibpaaGreat.NandF
set_option linter.unusedVariables false
set_option linter.unusedSimpArgs false

theorem _root_.Go.Proofs.YteofgpaceeibpaaGreat.NandF.Grow.start {w w2 : World} {g : Geo} (hf : Fr None_ w w2) (hb : w2.heap[w.heap.size]? = some (.cells #[.int .i64 g.c, .int .i64 g.b, .int .i64 g.p, .int .i64 g.s] 24 (0, 0))) :
    Grow w (((w2.alloc (.cells (madeCells #[.bool false] (g.c + 1).toNat) 4)).alloc (.cells #[.int .i64 g.c, .int .i64 g.b, .int .i64 g.p, .int .i64 g.s, .slice none 0 0, .slice (some ⟨w2.heap.size, 0, none⟩) (g.c + 1).toNat (g.c + 1).toNat, .slice none 0 0, .int .i64 0, .bool false] 85)).drew) g (w2.heap.size + 1) w2.heap.size 0 (w2.heap.size + 2) none 0 [] (fun _ => 0) (fun _ _ => 0) := by
  have hlt := (Array.getElem?_eq_some_iff.1 hb).1
  have hd : ∀ w' : World, ∀ b : Nat, w'.drew.heap[b]? = w'.heap[b]? := fun _ _ => rfl
  refine ⟨((hf.alloc _).alloc _).drew, ?_, ?_, ?_, RowV.nil _ _ _ _, ⟨fun c hc => absurd hc (Nat.not_lt_zero _), fun c _ hc => absurd hc (Nat.not_lt_zero _), fun c _ _ _ hc => absurd hc (Nat.not_lt_zero _)⟩, fun c hc => absurd hc (Nat.not_lt_zero _), ⟨hf.size, by omega, by omega, by omega, ?_⟩⟩
  · rw [hd]
    exact at_old _ (at_old _ hb)
  · rw [hd]
    exact at_new _ (size_new _ rfl)
  · rw [hd]
    exact at_old _ (at_new _ rfl)
  · show w2.heap.size + 2 ≤ (World.alloc _ _).heap.size
    rw [size_new _ (size_new _ rfl)]
    exact Nat.le_refl _
theorem _root_.Go.Proofs.YteofgpaceeibpaaGreat.NandF.Grow.snoc {w w1 w2 w3 : World} {g : Geo} {p D i base : Nat} {A A3 : Option Addr} {cap c3 : Nat} {vs : List Value} {B : Nat → Nat} {P : Nat → Nat → Nat} (h : Grow w w1 g p D i base A cap vs B P) (hf : Fr None_ w1 w2) {Bn : Nat} {Pn : Nat → Nat} (hz : ZChip w2 g.b.toNat g.p.toNat w1.heap.size Bn Pn)
    (hr : RowV 86 1 w3 base (.slice A3 (i + 1) c3) (i + 1) (vs ++ [.slice (some ⟨Bn, 0, none⟩) g.b.toNat g.b.toNat])) (hf3 : Fr (fun b => (Value.slice A i cap).ownBlock = some b) w2 w3) :
    Grow w (w3.setCell ⟨p, 4, none⟩ (.slice A3 (i + 1) c3)) g p D (i + 1) base A3 c3 (vs ++ [.slice (some ⟨Bn, 0, none⟩) g.b.toNat g.b.toNat]) (fun c => if c = i then Bn else B c) (fun c => if c = i then Pn else P c) := by
  have hlo := h.lo
  have hrow2 := h.row.none_ hf
  have hown : ∀ b, (Value.slice A i cap).ownBlock = some b → base ≤ b ∧ ∃ cs, w2.heap[b]? = some (.cells cs 86 (0, 0)) := fun b hb => ⟨(hrow2.blk b hb).1, (hrow2.blk b hb).2.2⟩
  have hsb := fr_set1 (w' := w3) (b := p) (i := 4) (.slice A3 (i + 1) c3)
  have hm3 := hf3.heap (hf.heap h.main (fun h => h)) (fun hb => by have := (hown _ hb).1; omega)
  have hg3 := hf3.heap (hf.heap h.geo (fun h => h)) (fun hb => by have := (hown _ hb).1; omega)
  have hd3 := hf3.heap (hf.heap h.ded (fun h => h)) (fun hb => by have := (hown _ hb).1; omega)
  have hDp : D ≠ p := fun e => by
    have h1 := h.ded
    have h2 := h.main
    rw [e, h2] at h1
    injection h1 with h1
    injection h1 with _ h1
    exact absurd h1 (by decide)
  have hza := h.all.snoc hf (by omega) hz
  have hza3 := hza.fr hf3 (fun b cs T e ht hb => by
    obtain ⟨_, cs', e'⟩ := hown b hb
    rw [e] at e'
    injection e' with e'
    injection e' with _ e'
    subst e'
    rcases ht with ht | ht <;> exact absurd ht (by decide))
  refine ⟨((h.fr.after hf (fun _ _ h => h)).after hf3 (fun b hb hb2 => absurd hb (by have := (hown _ hb2).1; omega))).after hsb (fun b hb hb2 => absurd hb (by omega)), hsb.heap hg3 (by omega), ?_, hsb.heap hd3 hDp, hr.fr hsb (fun b hb e => by have := (hr.blk b hb).1; omega), ?_, fun c hc => ?_, ⟨hlo.1, hlo.2.1, hlo.2.2.1, hlo.2.2.2.1, ?_⟩⟩
  · have := heap_set hm3 4 (.slice A3 (i + 1) c3)
    simpa using this
  · refine hza3.fr hsb (fun b cs T e ht hb => ?_)
    subst hb
    rw [hm3] at e
    injection e with e
    injection e with _ e
    subst e
    rcases ht with ht | ht <;> exact absurd ht (by decide)
  · have hl : vs.length = i := by have := h.row.2; omega
    by_cases e : c = i
    · subst e
      rw [if_pos rfl, List.getElem?_append_right (by omega), hl]
      simp
    · rw [if_neg e, List.getElem?_append_left (by omega)]
      exact h.at_ c (by omega)
  · have := hf.size
    have := hf3.size
    have := hsb.size
    omega
theorem _root_.Go.Proofs.YteofgpaceeibpaaGreat.NandF.Grow.nand {w w1 : World} {g : Geo} (hg : g.Ok) {p D base : Nat} {A : Option Addr} {cap : Nat} {vs : List Value} {B : Nat → Nat} {P : Nat → Nat → Nat} (h : Grow w w1 g p D (g.c + 1).toNat base A cap vs B P) :
    ∃ L, Nand w1 p (St.new g) L ∧ ∀ b, NF p L (St.new g).n (St.new g).nb b → w.heap.size ≤ b := by
  have hlo := h.lo
  have hc := hg.c.1
  have hr0 := h.row.1
  rcases h.row.1.2 with ⟨e, hn⟩ | ⟨C, cap', cur, e, hb, hC, hcap, _⟩
  · omega
  · injection e with e1 e2 e3
    subst e1 e3
    refine ⟨⟨C, D, B, P, none, 0, 0, cap⟩, ?_, fun b hb2 => ?_⟩
    · exact {
        ok := hg
        main := h.main
        capn := hcap
        out := ⟨cur, hC, fun c hc => by
          have h1 := World.ownsRow.cells hr0 rfl c _ (h.at_ c hc)
          have h0 : (⟨C, 0, none⟩ : Addr).add c = ⟨C, c, none⟩ := by unfold Addr.add; by_cases e : c = 0 <;> simp [e]
          rw [h0] at h1
          simp [World.cell?, hC] at h1
          exact h1⟩
        ded := ⟨_, h.ded, fun c hc => (made_get hc).trans (by simp [Nat.mod_one]; rfl)⟩
        chp := fun c hc => (h.all.chip c hc).blk
        pgs := fun c b hc hb => by
          obtain ⟨ps, e, hz, hq⟩ := (h.all.chip c hc).pgs b hb
          exact ⟨ps, e, hz, fun q hq' => ⟨_, _, hq (q * 2) (by show q * 2 < g.p.toNat * 2; have : q < g.p.toNat := hq'; omega), hq (q * 2 + 1) (by have : q < g.p.toNat := hq'; omega), rfl, rfl⟩⟩
        injB := h.all.injB
        injP := h.all.injP
        evs := ⟨rfl, Nat.le_refl _, Nat.zero_le _, fun i hi => absurd hi (Nat.not_lt_zero _), fun h => absurd h (Nat.lt_irrefl _), fun i hi => absurd hi (Nat.not_lt_zero _)⟩ }
    · rcases hb2 with rfl | rfl | rfl | ⟨c, hc, rfl⟩ | ⟨c, k, hc, hk, rfl⟩
      · omega
      · omega
      · exact hlo.1
      · have := (h.all.chip c hc).lo.1
        show w.heap.size ≤ B c
        omega
      · have := (h.all.chip c hc).lo.2 k hk
        show w.heap.size ≤ P c k
        omega
set_option maxHeartbeats 4000000 in
set_option maxRecDepth 100000 in
theorem New_calls (g : Geo) (w : World) (hg : g.Ok) : Calls Tryz.prog 9 #[g.val, .slice none 0 0, .slice none 0 0] w fun e w' => ∃ p L, e = .returned (.tuple #[.pointer (some ⟨p, 0, none⟩), .int .i64 0]) ∧ Nand w' p (St.new g) L ∧ Fr None_ w w' ∧ ∀ b, NF p L (St.new g).n (St.new g).nb b → w.heap.size ≤ b := by
  have HC := As.mk (fun w => Check_calls g w hg)
  have HG := As.mk hg
  have h1 := hg.c.1
  have h2 := hg.c.2
  have h3 := hg.b.1
  have h4 := hg.b.2
  have h5 := hg.p.1
  have h6 := hg.p.2
  have h7 := hg.s.1
  have h8 := hg.s.2
  have HF1 := As.mk ((Fr.refl None_ w).alloc (.cells #[.int .i64 g.c, .int .i64 g.b, .int .i64 g.p, .int .i64 g.s] 24))
  have HB1 := As.mk (heap_alloc_new w (.cells #[.int .i64 g.c, .int .i64 g.b, .int .i64 g.p, .int .i64 g.s] 24))
  clear hg
  unfold Geo.val at HC ⊢
  go_enter Tryz.func9, Tryz.ntmps9
  go_upto_region 6 with (go_at_call 29; (with_reducible refine (HC.out _).mono ?_); rintro e w2 ⟨rfl, hf2⟩; have hB2 := hf2.heap HB1.out (fun h => h); have HF2 := As.mk (HF1.out.after hf2 (fun _ _ h => h)); have e0 := cell_is (v := .int .i64 g.c) (i := 0) hB2 rfl; have e1 := cell_is (v := .int .i64 g.b) (i := 1) hB2 rfl; have e2 := cell_is (v := .int .i64 g.p) (i := 2) hB2 rfl; have e3 := cell_is (v := .int .i64 g.s) (i := 3) hB2 rfl; have HB2 := As.mk hB2; clear hf2 hB2)
  have hmk := run_makeV (P := Tryz.prog) 82 4 (.bool false) 1 1 Tryz.underlying82 infoBool (g.c + 1) (by omega) (by omega) (by omega)
  have hap := append_nil
  have hz2 : w.heap.size < w2.heap.size := (Array.getElem?_eq_some_iff.1 HB2.out).1
  go_region
  have hgr := Grow.start HF2.out HB2.out
  have HGR := As.mk (show ∃ A cap vs B P, Grow w (((w2.alloc (.cells (madeCells #[.bool false] (g.c + 1).toNat) 4)).alloc (.cells #[.int .i64 g.c, .int .i64 g.b, .int .i64 g.p, .int .i64 g.s, .slice none 0 0, .slice (some ⟨w2.heap.size, 0, none⟩) (g.c + 1).toNat (g.c + 1).toNat, .slice none 0 0, .int .i64 0, .bool false] 85)).drew) g (w2.heap.size + 1) w2.heap.size 0 (w2.heap.size + 2) A cap vs B P from ⟨_, _, _, _, _, hgr⟩)
  have g0 := cell_is (v := .int .i64 g.c) (i := 0) hgr.geo rfl
  clear hgr hmk hap hz2 e0 e1 e2 e3 HB2 HF2
  generalize ((w2.alloc (.cells (madeCells #[.bool false] (g.c + 1).toNat) 4)).alloc (.cells #[.int .i64 g.c, .int .i64 g.b, .int .i64 g.p, .int .i64 g.s, .slice none 0 0, .slice (some ⟨w2.heap.size, 0, none⟩) (g.c + 1).toNat (g.c + 1).toNat, .slice none 0 0, .int .i64 0, .bool false] 85)).drew = w3 at *
  generalize w2.heap.size + 2 = base at *
  generalize w2.heap.size + 1 = p at *
  generalize w2.heap.size = D at *
  clear w2
  go_wp2_with fail
  clear g0
  obtain ⟨n, hn⟩ := Int.eq_ofNat_of_zero_le (show 0 ≤ g.c + 1 by omega)
  go_loopw [10, 11, 34, 41] (fun v10 v11 v34 v41 w' => ∃ i : Nat, v34 = .int .i64 (i : Int) ∧ (i : Int) ≤ g.c + 1 ∧ As (∃ A cap vs B P, Grow w w' g p D i base A cap vs B P)) (fun _ _ v34 _ _ => (g.c + 1).toNat - (intOf v34).toNat)
  case atStart => exact ⟨0, rfl, by omega, HGR⟩
  case round =>
    obtain ⟨i, rfl, hi, HX⟩ := hrel
    obtain ⟨A, cap, vs, B, P, hx⟩ := HX
    have HX := As.mk hx
    clear hx
    have g1 := cell_is (v := .int .i64 g.b) (i := 1) HX.out.geo rfl
    by_cases hlt : (i : Int) < g.c + 1
    · have hmk := run_makeV (P := Tryz.prog) 86 89 (.agg #[.slice none 0 0, .int .i64 0, .int .i64 0, .bool false]) 4 48 Tryz.underlying86 infoBlk g.b (by omega) (by omega) (by omega)
      have hmx : max g.b 0 = g.b := by omega
      go_wp2_with fail
      clear hmk hmx g1
      have HF0 := As.mk ((Fr.refl None_ wr).alloc (.cells (madeCells #[.slice none 0 0, .int .i64 0, .int .i64 0, .bool false] (g.b.toNat * 4)) 89))
      have HZ0 := As.mk (show ∃ P, ZPart (wr.alloc (.cells (madeCells #[.slice none 0 0, .int .i64 0, .int .i64 0, .bool false] (g.b.toNat * 4)) 89)) 0 g.b.toNat g.p.toNat wr.heap.size wr.heap.size P from ⟨_, ZPart.start wr g.b.toNat g.p.toNat⟩)
      generalize wr.alloc (.cells (madeCells #[.slice none 0 0, .int .i64 0, .int .i64 0, .bool false] (g.b.toNat * 4)) 89) = w4 at *
      go_loopw [11, 41] (fun v11 v41 w' => ∃ j : Nat, v41 = .int .i64 (j : Int) ∧ (j : Int) ≤ g.b ∧ As (Fr None_ wr w') ∧ As (∃ P, ZPart w' j g.b.toNat g.p.toNat wr.heap.size wr.heap.size P)) (fun _ v41 _ => g.b.toNat - (intOf v41).toNat)
      case atStart => exact ⟨0, rfl, by omega, HF0, HZ0⟩
      case round =>
        obtain ⟨j, rfl, hj, HF5, HZ5⟩ := hrel
        rename World => w5
        obtain ⟨P5, hz5⟩ := HZ5
        have HZ5 := As.mk hz5
        by_cases hlj : (j : Int) < g.b
        · have hmk := run_makeV (P := Tryz.prog) 87 176 (.agg #[.slice none 0 0, .slice none 0 0]) 2 48 Tryz.underlying87 infoPg g.p (by omega) (by omega) (by omega)
          have g2 := cell_is (v := .int .i64 g.p) (i := 2) (HF5.out.heap HX.out.geo (fun h => h)) rfl
          obtain ⟨cs, hb, hz, _, _⟩ := hz5.blk
          obtain ⟨u, kb⟩ : ∃ u, w5.cell? ⟨wr.heap.size, j * 4, none⟩ = some u := ⟨_, cell_is hb (Array.getElem?_eq_getElem (show j * 4 < cs.size by omega))⟩
          have kf := free_of (i := j * 4) hb
          have hBz : wr.heap.size < w5.heap.size := (Array.getElem?_eq_some_iff.1 hb).1
          have hst := ZPart.step hz5 (j := j) (by omega)
          rw [World.setCell_alloc_past _ _ _ _ hBz] at hst
          have HST := As.mk hst
          have hsf := (HF5.out.alloc (.cells (madeCells #[.slice none 0 0, .slice none 0 0] (g.p.toNat * 2)) 176)).setCell (p := ⟨wr.heap.size, j * 4, none⟩) (fun h => absurd h (Nat.lt_irrefl _)) (.slice (some ⟨w5.heap.size, 0, none⟩) g.p.toNat g.p.toNat)
          rw [World.setCell_alloc_past _ _ _ _ hBz] at hsf
          have HSF := As.mk hsf
          clear hb hz hst hsf hz5
          go_wp2_with fail
          exact ⟨⟨j + 1, rfl, by omega, HSF, ⟨_, HST.out⟩⟩, by simp [intOf]; omega⟩
        · obtain rfl : j = g.b.toNat := by omega
          have HCH := As.mk hz5.done
          have hm5 := HF5.out.heap HX.out.main (fun h => h)
          have hpb := HX.out.lo
          have m4 := cell_is (v := .slice A i cap) (i := 4) hm5 rfl
          have hrw := HX.out.row.none_ HF5.out
          have HRW := As.mk hrw
          have HM5 := As.mk hm5
          have HOW := As.mk (fun b hb => (hrw.blk b hb).1)
          have hsz := HF5.out.size
          clear hm5 hrw hz5
          go_wp2_with (at_builtin; (with_reducible refine appendV base rfl _ _ 83 86 (.slice none 0 0) 1 24 rfl Tryz.underlying83 infoSB rfl (by decide) (by decide) (.slice A i cap) i vs #[.slice (some ⟨wr.heap.size, 0, none⟩) g.b.toNat g.b.toNat] _ rfl rfl rfl rfl ?o0 HRW.out ?o2 ?o3 ?_); (case o0 => intro u hu; simp at hu; subst hu; rfl); (case o2 => omega); (case o3 => omega); intro v6 w6 hrow6 hfr6 hat6; have HR6 := As.mk hrow6; have HF6 := As.mk hfr6; have hm6 := hfr6.heap HM5.out (fun hb => absurd (HOW.out _ hb) (by omega)); have m6 := cell_is (v := .slice A i cap) (i := 4) hm6 rfl; have f6 := free_of (i := 4) hm6; clear hrow6 hfr6 hat6 hm6; obtain ⟨A6, c6, e6, _, _, _⟩ := HR6.out.rd; subst e6)
          refine ⟨⟨_, _, _, ⟨i + 1, rfl, by omega, ⟨_, _, _, _, _, HX.out.snoc HF5.out HCH.out HR6.out HF6.out⟩⟩, rfl, rfl, rfl⟩, by simp [intOf]; omega⟩
    · obtain rfl : i = (g.c + 1).toNat := by omega
      obtain ⟨L, hN, hL⟩ := HX.out.nand HG.out
      have HN := As.mk hN
      have HL := As.mk hL
      have HFR := As.mk HX.out.fr
      clear hN hL HX
      go_wp2_with fail
      go_loop [13, 65] (fun v13 v65 => v65 = .int .i64 0) (fun _ _ => 0)
      case atStart => rfl
      case round =>
        obtain rfl := hrel
        go_wp2_with fail
        go_ret2
        exact ⟨p, rfl, L, HN.out, HFR.out, HL.out⟩
end Go.Proofs.YteofgpaceeibpaaGreat.NandG
namespace Go.Proofs.YteofgpaceeibpaaGreat.ArrI
open Go.RowKit Go.Proofs.YteofgpaceeibpaaGreat.Gab Go.Proofs.YteofgpaceeibpaaGreat.Wr Go.Proofs.YteofgpaceeibpaaGreat.Geom Go.Proofs.YteofgpaceeibpaaGreat.Ref Go.Proofs.YteofgpaceeibpaaGreat.Nand Go.Proofs.YteofgpaceeibpaaGreat.NandA Go.Proofs.YteofgpaceeibpaaGreat.NandB Go.Proofs.YteofgpaceeibpaaGreat.NandC Go.Proofs.YteofgpaceeibpaaGreat.NandD Go.Proofs.YteofgpaceeibpaaGreat.NandE Go.Proofs.YteofgpaceeibpaaGreat.NandF Go.Proofs.YteofgpaceeibpaaGreat.NandH Go.Proofs.YteofgpaceeibpaaGreat.RemapA Go.Proofs.YteofgpaceeibpaaGreat.RemapB Go.Proofs.YteofgpaceeibpaaGreat.VolA Go.Proofs.YteofgpaceeibpaaGreat.VolD Go.Proofs.YteofgpaceeibpaaGreat.VolE Go.Proofs.YteofgpaceeibpaaGreat.VolF Go.Proofs.YteofgpaceeibpaaGreat.MemA Go.Proofs.YteofgpaceeibpaaGreat.MemB Go.Proofs.YteofgpaceeibpaaGreat.MemC Go.Proofs.YteofgpaceeibpaaGreat.ArrA Go.Proofs.YteofgpaceeibpaaGreat.ArrB Go.Proofs.YteofgpaceeibpaaGreat.ArrC Go.Proofs.YteofgpaceeibpaaGreat.ArrD Go.Proofs.YteofgpaceeibpaaGreat.ArrE Go.Proofs.YteofgpaceeibpaaGreat.ArrF Go.Proofs.YteofgpaceeibpaaGreat.ArrG Go.Proofs.YteofgpaceeibpaaGreat.ArrH
open Go.Proofs.YteofgpaceeibpaaGreat.Heap (cell_is heap_set fr_set1)
set_option linter.unusedVariables false
set_option linter.unusedSimpArgs false

/-- An array as it is made, ahead of its volumes. -/
structure Raw (w : World) (N p : Nat) (g : Geo) (n xb vb : Nat) (v1 : Value) : Prop where
  main : w.heap[xb]? = some (.cells #[.pointer (some ⟨p, 0, none⟩), .int .i64 g.c, .int .i64 g.b, .int .i64 g.p, .int .i64 g.s, .slice (some ⟨vb, 0, none⟩) n n, .int .u32 1, v1, .int .i64 g.c, .int .i64 255, .int .i64 0, .bool false] AT (0, 0))
  vols : w.heap[vb]? = some (.cells (madeCells #[.pointer none] n) PV (0, 0))
  row : Row 3 .i64 w N v1 (first g).chips
  nx : N ≤ xb
  nv : N ≤ vb
/-- Its volumes' row, made. -/
def Made (w0 w : World) (n vb : Nat) : Prop := w.heap[vb]? = some (.cells (madeCells #[.pointer none] n) PV (0, 0)) ∧ w0.heap.size ≤ vb
theorem Made.none_ {w0 w w' : World} {n vb : Nat} (h : Made w0 w n vb) (hf : Fr None_ w w') : Made w0 w' n vb := ⟨hf.heap h.1 (fun h => h), h.2⟩
theorem made_new {w0 w : World} (hf : Fr None_ w0 w) (n : Nat) : Made w0 (w.alloc (.cells (madeCells #[.pointer none] n) PV)) n w.heap.size := ⟨heap_alloc_new _ _, hf.size⟩
theorem raw_new {w0 w : World} {n vb : Nat} {g : Geo} {v1 : Value} (hf : Fr None_ w0 w) (hm : Made w0 w n vb) (hr : Row 3 .i64 w w0.heap.size v1 (first g).chips) (p : Nat) :
    Raw (w.alloc (.cells #[.pointer (some ⟨p, 0, none⟩), .int .i64 g.c, .int .i64 g.b, .int .i64 g.p, .int .i64 g.s, .slice (some ⟨vb, 0, none⟩) n n, .int .u32 1, v1, .int .i64 g.c, .int .i64 255, .int .i64 0, .bool false] AT)) w0.heap.size p g n w.heap.size vb v1 :=
  ⟨heap_alloc_new _ _, (hm.none_ ((Fr.refl None_ w).alloc _)).1, hr.none_ ((Fr.refl None_ w).alloc _), hf.size, hm.2⟩
theorem first_ok {g : Geo} (hg : g.Ok) {q : Int} (h0 : 0 ≤ q) (h1 : q < 4294967296) : ({ first g with seq := q } : MS).Ok g := by
  have hc := hg.c
  have hb := hg.b
  have hall : ({ first g with seq := q } : MS).all = (List.range (g.c.toNat + 1)).map Int.ofNat := by
    unfold MS.all first
    rw [if_neg (by show ¬ g.c = 255; omega), List.range_succ, List.map_append]
    congr 1
    show [g.c] = [((g.c.toNat : Nat) : Int)]
    rw [show ((g.c.toNat : Nat) : Int) = g.c by omega]
  refine ⟨?_, ⟨h0, h1⟩, ?_, ?_, .inl rfl, ⟨Int.le_refl 0, by show (0 : Int) ≤ g.b - 5; omega⟩, fun h => absurd h (Int.lt_irrefl 0)⟩
  · show (((List.range g.c.toNat).map Int.ofNat).length : Int) = g.c
    simp
    omega
  · rw [hall]
    intro x hx
    obtain ⟨j, hj, rfl⟩ := List.mem_map.1 hx
    have := List.mem_range.1 hj
    show (0 : Int) ≤ (j : Int) ∧ (j : Int) ≤ g.c
    omega
  · rw [hall]
    exact List.Pairwise.map _ (fun a b h e => h (Int.ofNat.inj e)) List.nodup_range
theorem own_eq {A : Option Addr} {n c : Nat} {xs : List Int} {w : World} {N : Nat} (h : Row 3 .i64 w N (.slice A n c) xs) (h0 : 0 < xs.length) : ∃ b, A = some ⟨b, 0, none⟩ ∧ N ≤ b ∧ n = xs.length ∧ n ≤ c ∧ ∃ cs, w.heap[b]? = some (.cells cs 3 (0, 0)) ∧ ∀ j, j < xs.length → cs[j]? = some (.int .i64 (xs.getD j 0)) := by
  have h9 := h
  rcases h.2 with ⟨e, hn⟩ | ⟨g, cap, cur, e, hg, hh, hc, hm, hs, ht⟩
  · omega
  · cases e
    refine ⟨g, rfl, hg, rfl, hc, cur, hh, fun j hj => ?_⟩
    have h1 := World.ownsRow.cells h9 rfl j _ (nums_get hj)
    rw [add_at] at h1
    simpa [World.cell?, hh] using h1
/-- It lies there as an array. -/
theorem raw_at {w : World} {N p xb vb : Nat} {s : St} {L : Lay} {v1 : Value} (h : Raw w N p s.g s.n xb vb v1) (hN : Nand w p s L) : ∃ cb cc, N ≤ cb ∧ ArAt w ⟨s, fun _ => none, first s.g, false⟩ ⟨L, p, xb, vb, cb, cc, fun _ => ⟨0, none, 0, 0, none, 0, 0⟩⟩ := by
  obtain ⟨A, n, c, rfl, h1, h2, h3⟩ := h.row.rd
  have hc := hN.ok.c
  have hl : (first s.g).chips.length = s.g.c.toNat := by simp [first]
  obtain ⟨b, rfl, hb, rfl, hcc, cs, hcs, hcj⟩ := own_eq h.row (by omega)
  have hm := h.main
  rw [hl] at hm hcc
  refine ⟨b, c, hb, ⟨hN, hm, hcc, ⟨_, h.vols, fun k hk => ?_⟩, fun k t hk e => (by cases e), ⟨cs, hcs, fun j hj => hcj j (by rw [hl]; exact hj)⟩, ⟨first_ok hN.ok (by decide) (by decide), fun k t hk e => (by cases e)⟩⟩⟩
  rw [made_get hk]
  simp [vptr, Nat.mod_one]
/-- A volume is put in. -/
def _root_.Go.Proofs.YteofgpaceeibpaaGreat.ArrA.Ar.vput (σ : Ar) (c : Nat) (t : Tab) : Ar := { σ with vol := fun k => if k = c then some t else σ.vol k }
def _root_.Go.Proofs.YteofgpaceeibpaaGreat.ArrA.ALay.vput (K : ALay) (c : Nat) (v : VLay) : ALay := { K with v := fun k => if k = c then v else K.v k }
theorem vputV {w : World} {σ : Ar} {K : ALay} (h : ArAt w σ K) {c : Nat} (hc : c < σ.s.n) {t : Tab} {v : VLay} (hv : VolAt w K.p c σ.s.g t v) (ht : t.Ok σ.s.g) (hoff : VOff v K.cb) : ArAt (w.setCell ⟨K.V, c, none⟩ (.pointer (some ⟨v.vb, 0, none⟩))) (σ.vput c t) (K.vput c v) := by
  obtain ⟨cs, e, hcs⟩ := h.vols
  have hf := fr_set1 (w' := w) (b := K.V) (i := c) (.pointer (some ⟨v.vb, 0, none⟩))
  have hne : ∀ {b : Nat} {cs : Array Value} {T : TypeId} {f : Nat × Nat}, w.heap[b]? = some (.cells cs T f) → T ≠ PV → ¬ b = K.V := fun hb hT => blk_ne hb e hT
  refine ⟨h.nand.one e hf ⟨⟨by decide, by decide, by decide, by decide, by decide⟩, by decide, by decide⟩, hf.heap h.main (hne h.main (by decide)), h.ccn, ⟨_, heap_set e _ _, fun k hk => ?_⟩, fun k u hk ek => ?_, ?_, ⟨h.ok.set, fun k u hk ek => ?_⟩⟩
  · by_cases ek : k = c
    · subst ek
      rw [Array.getElem?_setIfInBounds_self_of_lt (by have := hcs k hc; exact (Array.getElem?_eq_some_iff.1 this).1)]
      unfold vptr Ar.vput ALay.vput
      simp
    · rw [Array.getElem?_setIfInBounds_ne (fun h => ek h.symm)]
      have h1 := hcs k hk
      rw [h1]
      unfold vptr Ar.vput ALay.vput
      simp [ek]
  · by_cases ec : k = c
    · subst ec
      have h1 : (σ.vput k t).vol k = some t := by simp [Ar.vput]
      rw [h1] at ek
      injection ek with ek
      subst ek
      have h2 : (K.vput k v).v k = v := by simp [ALay.vput]
      rw [h2]
      exact ⟨hv.ty hf (fun b cs T f hb hT => hne hb (by rcases hT with rfl | rfl <;> decide)), hoff⟩
    · have h1 : (σ.vput c t).vol k = σ.vol k := by simp [Ar.vput, ec]
      rw [h1] at ek
      have h2 : (K.vput c v).v k = K.v k := by simp [ALay.vput, ec]
      rw [h2]
      have h3 := h.vol k u hk ek
      exact ⟨h3.1.ty hf (fun b cs T f hb hT => hne hb (by rcases hT with rfl | rfl <;> decide)), h3.2⟩
  · obtain ⟨ds, e2, hds⟩ := h.chips
    exact ⟨ds, hf.heap e2 (hne e2 (by decide)), hds⟩
  · by_cases ec : k = c
    · have h1 : (σ.vput c t).vol k = some t := by simp [Ar.vput, ec]
      rw [h1] at ek
      injection ek with ek
      subst ek
      exact ht
    · have h1 : (σ.vput c t).vol k = σ.vol k := by simp [Ar.vput, ec]
      rw [h1] at ek
      exact h.ok.more k u hk ek
theorem infoPV : (Tryz.prog.info? 95).map (fun i => (i.zero, i.size, i.bytes)) = some (some (.pointer none), 1, 8) := by kernel_rfl

/-- The chips are made ready. -/
def _root_.Go.Proofs.YteofgpaceeibpaaGreat.Nand.St.afN (s : St) : Nat → St × Int
  | 0 => (s, 0)
  | i + 1 => if (s.afN i).2 = 0 then (s.afN i).1.fmt i else s.afN i
def fvol (s : St) (i k : Nat) : Option Tab := if k < i then some (tabOf s.g).up else none
/-- The array as it is made. -/
def _root_.Go.Proofs.YteofgpaceeibpaaGreat.Nand.St.arN (s : St) (i : Nat) : Ar := ⟨(s.afN i).1, fvol s i, first s.g, false⟩
def _root_.Go.Proofs.YteofgpaceeibpaaGreat.Nand.St.ar0 (s : St) : Ar := ⟨(s.afN s.g.c.toNat).1, fvol s s.g.c.toNat, { first s.g with seq := 0 }, false⟩
def _root_.Go.Proofs.YteofgpaceeibpaaGreat.Nand.St.afmt (s : St) : Ar × Int := if (s.afN s.g.c.toNat).2 = 0 then s.ar0.save else (s.ar0, (s.afN s.g.c.toNat).2)
theorem fmt_g (s : St) (c : Nat) : (s.fmt c).1.g = s.g ∧ (s.fmt c).1.evs = s.evs := by
  have h := fmtN_g s c s.nb
  unfold St.fmt
  split
  · have h2 := lay_g (s.fmtN c s.nb).1 c (tabOf s.g).up.to.toNat (tabOf s.g).up
    exact ⟨h2.1.trans h.1, h2.2.trans h.2⟩
  · exact h
theorem safe_fmt {s : St} {n : Nat} (c : Nat) (hg : s.g.Ok) (h : s.Safe (n + 66)) : (s.fmt c).1.Safe n := by
  have hb := hg.b
  have h2 := safe_fmtN c s.nb (n + 2) (h.le (by unfold St.nb; omega))
  unfold St.fmt
  split
  · exact safe_lay h2 c _ _
  · exact h2.le (by omega)
theorem afN_g (s : St) : ∀ i, (s.afN i).1.g = s.g ∧ (s.afN i).1.evs = s.evs
  | 0 => ⟨rfl, rfl⟩
  | i + 1 => by
    have h := afN_g s i
    unfold St.afN
    split
    · have h2 := fmt_g (s.afN i).1 i
      exact ⟨h2.1.trans h.1, h2.2.trans h.2⟩
    · exact h
theorem safe_afN {s : St} (hg : s.g.Ok) : ∀ i n, s.Safe (n + 66 * i) → (s.afN i).1.Safe n
  | 0, n, h => h
  | i + 1, n, h => by
    have h2 := safe_afN hg i (n + 66) (by rw [show n + 66 + 66 * i = n + 66 * (i + 1) by omega]; exact h)
    unfold St.afN
    split
    · exact safe_fmt i (by rw [(afN_g s i).1]; exact hg) h2
    · exact h2.le (by omega)
theorem afN_stuck (s : St) : ∀ n m, n ≤ m → (s.afN n).2 ≠ 0 → s.afN m = s.afN n
  | n, 0, h, _ => by
    obtain rfl : n = 0 := by omega
    rfl
  | n, m + 1, h, hk => by
    by_cases e : n = m + 1
    · rw [e]
    · have ih := afN_stuck s n m (by omega) hk
      show (if (s.afN m).2 = 0 then _ else s.afN m) = _
      rw [ih, if_neg hk]
/-- It is new. -/
def ANew (N p : Nat) (L : Lay) (K : ALay) : Prop := K.L = L ∧ K.p = p ∧ N ≤ K.x ∧ N ≤ K.V ∧ N ≤ K.cb
def AFPost (p : Nat) (s : St) (L : Lay) (w : World) (e : Ending) (w' : World) : Prop := Fr (NF p L s.n s.nb) w w' ∧
  (((s.afmt).2 = 0 ∧ ∃ K, e = .returned (.tuple #[.pointer (some ⟨K.x, 0, none⟩), .int .i64 0]) ∧ ArAt w' s.afmt.1 K ∧ ANew w.heap.size p L K) ∨
   ((s.afmt).2 ≠ 0 ∧ e = .returned (.tuple #[.pointer none, .int .i64 s.afmt.2]) ∧ Nand w' p s.afmt.1.s L))

set_option maxHeartbeats 8000000 in
set_option maxRecDepth 100000 in
theorem Format_calls (p : Nat) (s : St) (L : Lay) (w : World) (hN : Nand w p s L) (m : Nat) (hs : s.Safe (m + 1200)) :
    Calls Tryz.prog 10 #[.pointer (some ⟨p, 0, none⟩)] w (AFPost p s L w) := by
  obtain ⟨nc, hnc⟩ : ∃ nc, s.g.c.toNat = nc := ⟨_, rfl⟩
  have HNN := As.mk hN
  have HGO := As.mk hN.ok
  have hgc := hN.ok.c
  obtain ⟨n, hn⟩ : ∃ n, s.n = n := ⟨_, rfl⟩
  have hnI : s.g.c + 1 = (n : Int) := by unfold St.n at hn; omega
  have hn17 : n ≤ 17 := by omega
  have HGE := As.mk (fun (w' : World) (hf : Fr None_ w w') => (Geo_calls p s L w' (hN.none_ hf)).mono (R' := fun e w'' => e = .returned s.g.val ∧ Fr None_ w w'' ∧ Fr None_ w' w'') (fun e w'' h => ⟨h.1, hf.after h.2 (fun _ _ h => h), h.2⟩))
  have HCH := As.mk (fun (w' : World) (hf : Fr None_ w w') => (Chips_calls p s L w' (hN.none_ hf)).mono (R' := fun e w'' => e = .returned (.int .i64 (n : Int)) ∧ Fr None_ w w'' ∧ Fr None_ w' w'') (fun e w'' h => ⟨by rw [← hnI]; exact h.1, hf.after h.2 (fun _ _ h => h), h.2⟩))
  have HFS := As.mk (fun (w' : World) (hf : Fr None_ w w') => (First_calls s.g w' hN.ok).mono (R' := fun e w'' => ∃ v1, e = .returned (.agg #[.int .u32 1, v1, .int .i64 s.g.c, .int .i64 255, .int .i64 0]) ∧ As (Row 3 .i64 w'' w.heap.size v1 (first s.g).chips) ∧ Fr None_ w w'' ∧ Fr None_ w' w'') (fun e w'' h => by
    obtain ⟨v, h1, ⟨v1, h2, h3⟩, h4⟩ := h
    exact ⟨v1, by rw [h1, h2]; rfl, ⟨h3.lower hf.size⟩, hf.after h4 (fun _ _ h => h), h4⟩))
  have hmk := run_makeV (P := Tryz.prog) 91 95 (.pointer none) 1 8 Tryz.underlying91 infoPV (n : Int) (by omega) (by omega) (by omega)
  rw [Int.toNat_natCast, Nat.mul_one] at hmk
  have hzz : (Value.pointer none).cells = #[.pointer none] := rfl
  rw [hzz] at hmk
  have HF := As.mk (Fr.refl None_ w).drew
  unfold Geo.val at HGE HFS
  have hncI : s.g.c = (nc : Int) := by omega
  have HNC := As.mk (And.intro hnc (And.intro hncI hn))
  have hncn : nc + 1 = n := by omega
  have HFM := As.mk (fun (i : Nat) (w' : World) (hi : i < nc) (hN' : Nand w' p (s.afN i).1 L) => VolF.Format_calls p i (s.afN i).1 L w' hN' (by unfold St.n; rw [(afN_g s i).1]; omega) 0 (safe_afN HGO.out i (0 + 66) (hs.le (by omega))))
  have HSV := As.mk (fun (K : ALay) (w' : World) (hA : ArAt w' s.ar0 K) => save_calls s.ar0 K w' hA (show (0 : Int) < 4294967295 by decide) 0 (safe_afN HGO.out s.g.c.toNat (0 + 34) (hs.le (by omega))))
  have HBD := As.mk (show ∀ (e : Ending) (w' : World) (i : Nat) (k : Int), i ≤ nc → (s.afN i).2 = k → k ≠ 0 → e = .returned (.tuple #[.pointer none, .int .i64 k]) → Nand w' p (s.afN i).1 L → Fr (NF p L s.n s.nb) w w' → AFPost p s L w e w' from by
    rintro e w' i k hi rfl hk h1 h2 h3
    have h4 : s.afN s.g.c.toNat = s.afN i := afN_stuck s i _ (by omega) hk
    have h5 : s.afmt = (s.ar0, (s.afN i).2) := by unfold St.afmt; rw [h4, if_neg hk]
    refine ⟨h3, .inr ⟨by rw [h5]; exact hk, by rw [h5]; exact h1, ?_⟩⟩
    rw [h5]
    show Nand w' p (s.afN s.g.c.toNat).1 L
    rw [h4]
    exact h2)
  have HOK := As.mk (show (s.afN nc).2 = 0 → s.afmt = s.ar0.save from fun hk => by unfold St.afmt; rw [hnc, if_pos hk])
  clear hN hgc hzz hs hnc hn hncI
  go_enter Tryz.func10, Tryz.ntmps10
  go_upto_region 3 with fail
  go_cut [4] (fun v4 wx => ∃ xb vb v1, v4 = .pointer (some ⟨xb, 0, none⟩) ∧ As (Fr None_ w wx) ∧ As (Raw wx w.heap.size p s.g n xb vb v1))
  case first =>
    have HK := As.mk True.intro
    go_region_held3 (fun _ => True) (first | go_keep | trivial) (first
      | (go_at_call 30; (with_reducible refine (HGE.out _ ?hx).mono ?_); (case hx => first | exact HF.out | exact HF.out.alloc _); rintro e w2 ⟨rfl, hf2, hg2⟩; (try have HV := As.mk (HV.out.none_ hg2)); (try have HV := As.mk ((made_new HF.out n).none_ hg2)); (have HF := As.mk hf2); (try have HR := As.mk (HR.out.none_ hg2)); (try have HR := As.mk ((HR.out.none_ ((Fr.refl None_ _).alloc _)).none_ hg2));  clear hf2 hg2)
      | (go_at_call 31; (with_reducible refine (HCH.out _ ?hx).mono ?_); (case hx => first | exact HF.out | exact HF.out.alloc _); rintro e w2 ⟨rfl, hf2, hg2⟩; (try have HV := As.mk (HV.out.none_ hg2)); (try have HV := As.mk ((made_new HF.out n).none_ hg2)); (have HF := As.mk hf2); (try have HR := As.mk (HR.out.none_ hg2)); clear hf2 hg2)
      | (go_at_call 32; (with_reducible refine (HFS.out _ ?hx).mono ?_); (case hx => first | exact HF.out | exact HF.out.alloc _); rintro e w2 ⟨v1, rfl, HR, hf2, hg2⟩; (try have HV := As.mk (HV.out.none_ hg2)); (try have HV := As.mk ((made_new HF.out n).none_ hg2)); (have HF := As.mk hf2);  clear hf2 hg2)
      | fail)
    all_goals
      go_wp2_with fail
      go_meet
      case rel => first
        | exact ⟨_, _, _, rfl, ⟨HF.out.alloc _⟩, ⟨raw_new HF.out HV.out HR.out p⟩⟩
        | exact ⟨_, _, _, rfl, ⟨(HF.out.alloc _).alloc _⟩, ⟨by have h := raw_new (HF.out.alloc _) (made_new HF.out n) (HR.out.none_ ((Fr.refl None_ _).alloc _)) p; rw [size_new _ rfl] at h; exact h⟩⟩
  case rest =>
    obtain ⟨xb, vb, v1, rfl, HF1, HR1⟩ := hcut
    rename World => w1
    obtain ⟨cb, cc, hcb, hA1⟩ := raw_at (by rw [HNC.out.2.2]; exact HR1.out) (HNN.out.none_ HF1.out)
    have HNEW := As.mk (And.intro HR1.out.nx (And.intro HR1.out.nv hcb))
    have HA1 := As.mk (show ∃ f, ArAt w1 (s.arN 0) ⟨L, p, xb, vb, cb, cc, f⟩ from ⟨_, by
      have e : s.arN 0 = ⟨s, fun _ => none, first s.g, false⟩ := by
        unfold St.arN
        congr 1
      rw [e]
      exact hA1⟩)
    have c1 := hA1.cs.2.1
    rw [show (s.g.c) = (nc : Int) from HNC.out.2.1] at c1
    have HFN := As.mk (HF1.out.mono (T := NF p L s.n s.nb) (fun _ _ h => h.elim))
    clear hA1 HR1 HGE HCH HFS hmk hcb
    go_wp2_with fail
    go_loopw [27] (fun v27 w' => ∃ i : Nat, v27 = .int .i64 (i : Int) ∧ i ≤ nc ∧ As ((s.afN i).2 = 0) ∧ As (Fr (NF p L s.n s.nb) w w') ∧ As (∃ f, ArAt w' (s.arN i) ⟨L, p, xb, vb, cb, cc, f⟩)) (fun v27 _ => nc - (intOf v27).toNat)
    case atStart => exact ⟨0, rfl, Nat.zero_le _, ⟨rfl⟩, HFN, HA1⟩
    case round =>
      obtain ⟨i, rfl, hi, HK, HFi, HAi⟩ := hrel
      clear c1
      obtain ⟨f, hAi⟩ := HAi.out
      have HAi := As.mk hAi
      clear hAi
      by_cases hlt : i < nc
      · have hltI : (i : Int) < (nc : Int) := by omega
        have HS1 := As.mk (show s.afN (i + 1) = (s.afN i).1.fmt i from by show (if (s.afN i).2 = 0 then _ else _) = _; rw [if_pos HK.out])
        have HFi2 := As.mk (HFM.out i wr hlt HAi.out.nand)
        unfold FmtPost at HFi2
        rw [← HS1.out] at HFi2
        have hgi := (afN_g s i).1
        have HGI := As.mk hgi
        have HGI1 := As.mk (afN_g s (i + 1)).1
        clear hgi
        go_wp2_with fail
        ((with_reducible refine (HFi2.out).mono ?_); rintro e w3 ⟨hn3, hf3, hor⟩)
        have HF3 := As.mk (HFi.out.after hf3 (fun b _ h => by unfold St.n St.nb at h ⊢; rw [HGI.out] at h; exact h))
        have HN3 := As.mk hn3
        rcases hor with ⟨hk, v, rfl, hv, hnw⟩ | ⟨hk, rfl⟩
        · have HK3 := As.mk hk
          have ht3 := HAi.out.turn hn3 (by show (s.afN (i + 1)).1.g = (s.afN i).1.g; rw [HGI.out, HGI1.out]) hf3
          have hin : i < n := by omega
          have hsn : ({ s.arN i with s := (s.afN (i + 1)).1 } : Ar).s.n = n := by
            show St.n (s.afN (i + 1)).1 = n
            unfold St.n
            rw [HGI1.out]
            have := HNC.out.2.1
            omega
          have hcbl : cb < wr.heap.size := by
            obtain ⟨ds, e2, _⟩ := HAi.out.chips
            exact (Array.getElem?_eq_some_iff.1 e2).1
          have hvp := vputV ht3 (c := i) (t := (tabOf s.g).up) (v := v) (by rw [hsn]; exact hin) (by
            show VolAt w3 p i (s.afN (i + 1)).1.g (tabOf s.g).up v
            rw [HGI1.out]
            rw [HGI.out] at hv
            exact hv) (by
            show (tabOf s.g).up.Ok (s.afN (i + 1)).1.g
            rw [HGI1.out]
            exact up_ok (tabOf_ok HGO.out) (show (0 : Int) < 4294967295 by decide)) ⟨fun ad e => by have := hnw.2.1 ad e; show ad.block ≠ cb; omega, fun ad e => by have := hnw.2.2 ad e; show ad.block ≠ cb; omega⟩
          have hput : ({ s.arN i with s := (s.afN (i + 1)).1 } : Ar).vput i (tabOf s.g).up = s.arN (i + 1) := by
            unfold Ar.vput St.arN
            congr 1
            funext k
            show (if k = i then some (tabOf s.g).up else fvol s i k) = fvol s (i + 1) k
            unfold fvol
            by_cases e : k = i
            · rw [if_pos e, if_pos (by omega)]
            · rw [if_neg e]
              by_cases e2 : k < i
              · rw [if_pos e2, if_pos (by omega)]
              · rw [if_neg e2, if_neg (by omega)]
          rw [hput] at hvp
          have HVP := As.mk hvp
          have hvs := ht3.vols
          obtain ⟨ds, e5, hds⟩ := hvs
          have vc := cell_is e5 (hds i (by rw [hsn]; exact hin))
          have vf := free_of (i := i) e5
          have hc5 := ht3.cs.2.2.2.2.2.1
          rw [hsn] at hc5
          have hinI : (i : Int) < (n : Int) := by omega
          have hit : Int.toNat (i : Int) = i := by omega
          have HF4 := As.mk (HF3.out.setCell (p := ⟨vb, i, none⟩) (fun h => absurd h (by have := HNEW.out.2.1; show ¬ vb < w.heap.size; omega)) (.pointer (some ⟨v.vb, 0, none⟩)))
          clear hk hv hnw hn3 hf3 ht3 hvp hput e5 hds hcbl hsn HFi2
          change w3.cell? ⟨xb, 5, none⟩ = some (.slice (some ⟨vb, 0, none⟩) n n) at hc5
          change w3.frozen? ⟨vb, i, none⟩ = false at vf
          go_wp2_with fail
          exact ⟨⟨i + 1, rfl, by omega, HK3, HF4, ⟨⟨_, HVP.out⟩⟩⟩, by simp [intOf]; omega⟩
        · have HBE := As.mk (fun e w' h1 h2 h3 => HBD.out e w' (i + 1) _ (by omega) rfl hk h1 h2 h3)
          have dk : ((s.afN (i + 1)).2 != 0) = true := by rw [bne_iff_ne]; exact hk
          generalize (s.afN (i + 1)).2 = k at *
          clear hk hn3 hf3 HFi2
          go_wp2_with fail
          go_ret2
          exact HBE.out _ _ rfl HN3.out HF3.out
      · obtain rfl : i = nc := by omega
        have hltI : ¬ (i : Int) < (i : Int) := by omega
        have hnc := HNC.out.1
        have HOK1 := As.mk (HOK.out HK.out)
        have hm0 := HAi.out.main
        have f6 := free_of (i := 6) hm0
        have c6 := HAi.out.cs.2.2.2.2.2.2.1
        have hs1 := heap_set hm0 6 (.int .u32 0)
        have hf1 := fr_set1 (w' := wr) (b := xb) (i := 6) (.int .u32 0)
        have hA0 := HAi.out.put s.ar0 (by show (s.afN s.g.c.toNat).1 = (s.afN i).1; rw [hnc]) (by show fvol s s.g.c.toNat = fvol s i; rw [hnc]) rfl ⟨by
          show ({ first s.g with seq := 0 } : MS).Ok (s.afN s.g.c.toNat).1.g
          rw [(afN_g s _).1]
          exact first_ok HGO.out (by decide) (by decide), by
          have hmo := HAi.out.ok.more
          show ∀ c t, c < (s.afN s.g.c.toNat).1.n → fvol s s.g.c.toNat c = some t → t.Ok (s.afN s.g.c.toNat).1.g
          rw [hnc]
          exact hmo⟩ hf1 (by
          rw [hs1]
          unfold acells
          show some (Obj.cells #[.pointer (some ⟨p, 0, none⟩), .int .i64 (s.afN i).1.g.c, .int .i64 (s.afN i).1.g.b, .int .i64 (s.afN i).1.g.p, .int .i64 (s.afN i).1.g.s, .slice (some ⟨vb, 0, none⟩) (s.afN i).1.n (s.afN i).1.n, .int .u32 0, .slice (some ⟨cb, 0, none⟩) (s.afN i).1.g.c.toNat cc, .int .i64 s.g.c, .int .i64 255, .int .i64 0, .bool false] AT (0, 0)) = some (Obj.cells #[.pointer (some ⟨p, 0, none⟩), .int .i64 (s.afN s.g.c.toNat).1.g.c, .int .i64 (s.afN s.g.c.toNat).1.g.b, .int .i64 (s.afN s.g.c.toNat).1.g.p, .int .i64 (s.afN s.g.c.toNat).1.g.s, .slice (some ⟨vb, 0, none⟩) (s.afN s.g.c.toNat).1.n (s.afN s.g.c.toNat).1.n, .int .u32 0, .slice (some ⟨cb, 0, none⟩) (s.afN s.g.c.toNat).1.g.c.toNat cc, .int .i64 s.g.c, .int .i64 255, .int .i64 0, .bool false] AT (0, 0))
          rw [hnc])
        have HF5 := As.mk (HFi.out.setCell (p := ⟨xb, 6, none⟩) (fun h => absurd h (by have := HNEW.out.1; show ¬ xb < w.heap.size; omega)) (.int .u32 0))
        have HSVi := As.mk (HSV.out ⟨L, p, xb, vb, cb, cc, f⟩ _ hA0)
        unfold SvPost at HSVi
        rw [← HOK1.out] at HSVi
        have hn0 : s.ar0.s.n = s.n ∧ s.ar0.s.nb = s.nb := by
          show St.n (s.afN s.g.c.toNat).1 = s.n ∧ St.nb (s.afN s.g.c.toNat).1 = s.nb
          unfold St.n St.nb
          rw [(afN_g s _).1]
          exact ⟨rfl, rfl⟩
        have HAF := As.mk (show ∀ b, b < w.heap.size → AF ⟨L, p, xb, vb, cb, cc, f⟩ s.ar0 b → NF p L s.n s.nb b from fun b hb h => by
          unfold AF at h
          rw [hn0.1, hn0.2] at h
          have h1 := HNEW.out.1
          have h2 := HNEW.out.2.1
          rcases h with h | h | h
          · exact h
          · exact absurd h (by show ¬ b = xb; omega)
          · exact absurd h (by show ¬ b = vb; omega))
        clear hm0 hs1 hf1 hA0 hnc hn0 HSV HFM HBD
        change wr.cell? ⟨xb, 6, none⟩ = some (.int .u32 1) at c6
        go_upto_region 13 with fail
        generalize wr.setCell ⟨xb, 6, none⟩ (.int .u32 0) = w5 at *
        go_wp2_with fail
        ((with_reducible refine (HSVi.out).mono ?_); rintro e w6 ⟨rfl, ha6, hf6⟩)
        have HA6 := As.mk ha6
        have HF6 := As.mk (HF5.out.after hf6 HAF.out)
        clear ha6 hf6 HSVi
        by_cases hk : s.afmt.2 = 0
        · have HPost := As.mk (show ∀ (e : Ending) (w' : World), e = .returned (.tuple #[.pointer (some ⟨xb, 0, none⟩), .int .i64 0]) → ArAt w' s.afmt.1 ⟨L, p, xb, vb, cb, cc, f⟩ → Fr (NF p L s.n s.nb) w w' → AFPost p s L w e w' from fun e w' h1 h2 h3 => ⟨h3, .inl ⟨hk, _, h1, h2, rfl, rfl, HNEW.out⟩⟩)
          rw [hk]
          clear hk
          go_wp2_with fail
          go_ret2
          exact HPost.out _ _ rfl HA6.out HF6.out
        · have dk : (s.afmt.2 != 0) = true := by rw [bne_iff_ne]; exact hk
          have HPost := As.mk (show ∀ (e : Ending) (w' : World), e = .returned (.tuple #[.pointer none, .int .i64 s.afmt.2]) → ArAt w' s.afmt.1 ⟨L, p, xb, vb, cb, cc, f⟩ → Fr (NF p L s.n s.nb) w w' → AFPost p s L w e w' from fun e w' h1 h2 h3 => ⟨h3, .inr ⟨hk, h1, h2.nand⟩⟩)
          generalize s.afmt.2 = k at *
          clear hk
          go_wp2_with fail
          go_ret2
          exact HPost.out _ _ rfl HA6.out HF6.out
end Go.Proofs.YteofgpaceeibpaaGreat.ArrI

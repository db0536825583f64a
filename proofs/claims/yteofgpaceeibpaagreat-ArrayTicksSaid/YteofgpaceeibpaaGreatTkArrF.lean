/- array: stand, Program. | array: what stays (plain); Erase. -/
import Derived.Test.YteofgpaceeibpaaGreatTkArrD
namespace Go.Proofs.YteofgpaceeibpaaGreat.ArrE
open Go.RowKit Gab Wr Geom Ref Nand NandA NandB NandC NandD NandE NandH RemapA RemapB VolA VolD VolE VolF MemA MemC ArrA ArrB ArrC ArrD
open Heap (cell_is heap_set fr_set1)
set_option linter.unusedVariables false
set_option linter.unusedSimpArgs false

/-- The chip that a member's block stands on now. -/
def _root_.Go.Proofs.YteofgpaceeibpaaGreat.ArrA.Ar.stand (σ : Ar) (m b : Nat) : Option Nat :=
  if σ.set.dead = (m : Int) then (if (b : Int) < σ.set.done ∧ (σ.vol σ.set.spare.toNat).isSome then some σ.set.spare.toNat else none) else some (σ.chip m)
theorem spare_ok {σ : Ar} (h : σ.Ok) (hs : σ.set.spare ≠ 255) : 0 ≤ σ.set.spare ∧ σ.set.spare ≤ σ.s.g.c := h.set.inr _ (by unfold MS.all; rw [if_neg hs]; simp)
theorem stand_some {w : World} {σ : Ar} {K : ALay} (h : ArAt w σ K) (hth : σ.There) (hl : σ.lost = false) {m b c : Nat} (hm : (m : Int) < σ.s.g.c) (hs : σ.stand m b = some c) : c < σ.s.n ∧ ∃ t, σ.vol c = some t := by
  have hgc := h.nand.ok.c
  unfold Ar.stand at hs
  split at hs
  · split at hs
    · rename_i h1 h2
      injection hs with hs
      have h3 := h.ok.set.dn (by omega)
      have h4 := spare_ok h.ok h3.2
      refine ⟨by unfold St.n; omega, ?_⟩
      rw [← hs]
      exact Option.isSome_iff_exists.1 h2.2
    · cases hs
  · rename_i h1
    injection hs with hs
    subst hs
    exact ⟨(h.chipc hm).2.1, hth hl m hm (fun e => h1 e.symm)⟩
def stv (σ : Ar) (K : ALay) (m b : Nat) : Value := match σ.stand m b with
  | some c => .tuple #[.pointer (some ⟨(K.v c).vb, 0, none⟩), .int .i64 (c : Int), .bool true]
  | none => .tuple #[.pointer none, .int .i64 0, .bool false]

set_option maxHeartbeats 8000000 in
set_option maxRecDepth 100000 in
theorem stand_calls (σ : Ar) (K : ALay) (m b : Nat) (w : World) (h : ArAt w σ K) (hth : σ.There) (hl : σ.lost = false) (hm : (m : Int) < σ.s.g.c) :
    Calls Tryz.prog 87 #[.pointer (some ⟨K.x, 0, none⟩), .int .i64 (m : Int), .int .i64 (b : Int)] w fun e w' => e = .returned (stv σ K m b) ∧ Fr None_ w w' := by
  have hgc := h.nand.ok.c
  obtain ⟨_, _, _, _, _, c5, _, c7, c8, c9, c10, _⟩ := h.cs
  obtain ⟨kc, hcn, hce⟩ := h.chipc hm
  have hmI : (m : Int) < (σ.s.g.c.toNat : Int) := by omega
  have hmn : m < σ.s.g.c.toNat := by omega
  have hmt : Int.toNat (m : Int) = m := by omega
  by_cases hd : σ.set.dead = (m : Int)
  · have d1 : ((m : Int) != σ.set.dead) = false := by rw [hd]; simp
    by_cases hb : (b : Int) < σ.set.done
    · have h3 := h.ok.set.dn (by omega)
      have h4 := spare_ok h.ok h3.2
      obtain ⟨sp, hsp⟩ := Int.eq_ofNat_of_zero_le h4.1
      have hspn : sp < σ.s.n := by unfold St.n; omega
      have hv := (h.volc hspn).1
      have d2 : decide ((b : Int) < σ.set.done) = true := decide_eq_true hb
      have d3 : (σ.set.spare != 255) = true := by rw [bne_iff_ne]; exact h3.2
      have hspt : σ.set.spare.toNat = sp := by omega
      rw [hsp] at c8 d3
      have hspI : (sp : Int) < (σ.s.n : Int) := by omega
      have hst : Int.toNat (sp : Int) = sp := by omega
      rcases hvs : σ.vol sp with _ | t
      · have HST := As.mk (show stv σ K m b = .tuple #[.pointer none, .int .i64 0, .bool false] from by unfold stv Ar.stand; rw [if_pos hd, hspt, hvs, if_neg (fun h => by cases h.2)])
        have hv2 : w.cell? ⟨K.V, sp, none⟩ = some (.pointer none) := by rw [hv]; unfold vptr; rw [hvs]
        clear h hth hl hm hd hb h3 h4 hsp hv hvs hce hspt
        go_enter Tryz.func87, Tryz.ntmps87
        go_upto_region 3 with fail
        go_quiet (fail)
        go_wp2_with fail
        go_ret3
        exact ⟨by rw [HST.out]; rfl, (Fr.refl None_ w).drewN nq⟩
      · have HST := As.mk (show stv σ K m b = .tuple #[.pointer (some ⟨(K.v sp).vb, 0, none⟩), .int .i64 (sp : Int), .bool true] from by unfold stv Ar.stand; rw [if_pos hd, hspt, hvs, if_pos ⟨hb, rfl⟩])
        have hv2 : w.cell? ⟨K.V, sp, none⟩ = some (.pointer (some ⟨(K.v sp).vb, 0, none⟩)) := by rw [hv]; unfold vptr; rw [hvs]
        clear h hth hl hm hd hb h3 h4 hsp hv hvs hce hspt
        go_enter Tryz.func87, Tryz.ntmps87
        go_upto_region 3 with fail
        go_quiet (fail)
        have c5' : (w.drewN nq).cell? ⟨K.x, 5, none⟩ = some (.slice (some ⟨K.V, 0, none⟩) σ.s.n σ.s.n) := c5
        have c8' : (w.drewN nq).cell? ⟨K.x, 8, none⟩ = some (.int .i64 (sp : Int)) := c8
        have v2' : (w.drewN nq).cell? ⟨K.V, sp, none⟩ = some (.pointer (some ⟨(K.v sp).vb, 0, none⟩)) := hv2
        have HF := As.mk ((Fr.refl None_ w).drewN nq)
        generalize w.drewN nq = w2 at *
        go_upto_region 4 with fail
        go_quiet (fail)
        go_wp2_with fail
        go_ret3
        exact ⟨by rw [HST.out]; rfl, HF.out.drewN nq⟩
    · have d2 : decide ((b : Int) < σ.set.done) = false := decide_eq_false hb
      have HST := As.mk (show stv σ K m b = .tuple #[.pointer none, .int .i64 0, .bool false] from by unfold stv Ar.stand; rw [if_pos hd, if_neg (fun h => hb h.1)])
      clear h hth hl hm hd hb hce
      go_enter Tryz.func87, Tryz.ntmps87
      go_upto_region 3 with fail
      go_quiet (fail)
      go_wp2_with fail
      go_ret3
      exact ⟨by rw [HST.out]; rfl, (Fr.refl None_ w).drewN nq⟩
  · have d1 : ((m : Int) != σ.set.dead) = true := by rw [bne_iff_ne]; exact fun e => hd e.symm
    obtain ⟨t, ht⟩ := hth hl m hm (fun e => hd e.symm)
    have hv := (h.volc hcn).1
    have hv2 : w.cell? ⟨K.V, σ.chip m, none⟩ = some (.pointer (some ⟨(K.v (σ.chip m)).vb, 0, none⟩)) := by rw [hv]; unfold vptr; rw [ht]
    have HST := As.mk (show stv σ K m b = .tuple #[.pointer (some ⟨(K.v (σ.chip m)).vb, 0, none⟩), .int .i64 (σ.chip m : Int), .bool true] from by unfold stv Ar.stand; rw [if_neg hd])
    have hcI : (σ.chip m : Int) < (σ.s.n : Int) := by omega
    have hct : Int.toNat (σ.chip m : Int) = σ.chip m := by omega
    generalize σ.chip m = c at *
    clear h hth hl hm hd ht hv hce
    go_enter Tryz.func87, Tryz.ntmps87
    go_upto_region 2 with fail
    go_quiet (fail)
    go_wp2_with fail
    go_ret3
    exact ⟨by rw [HST.out]; rfl, (Fr.refl None_ w).drewN nq⟩

/-- A page of a member's block is programmed: the array behind it, and the error. -/
def _root_.Go.Proofs.YteofgpaceeibpaaGreat.ArrA.Ar.prog (σ : Ar) (m b q : Nat) (d o : List Int) : Ar × Int :=
  if σ.lost then (σ, 74) else match σ.stand m b with
    | none => (σ, 71)
    | some c => if (σ.s.prog c ((σ.tab c).at b) q d o).2 = 71 then (if (Ar.died { σ with s := (σ.s.prog c ((σ.tab c).at b) q d o).1 } c).2 = 0 then ((Ar.died { σ with s := (σ.s.prog c ((σ.tab c).at b) q d o).1 } c).1, 71) else Ar.died { σ with s := (σ.s.prog c ((σ.tab c).at b) q d o).1 } c)
      else if (σ.s.prog c ((σ.tab c).at b) q d o).2 = 0 ∧ σ.set.dead = (m : Int) then ({ σ with s := (σ.s.prog c ((σ.tab c).at b) q d o).1 }, 71)
      else ({ σ with s := (σ.s.prog c ((σ.tab c).at b) q d o).1 }, (σ.s.prog c ((σ.tab c).at b) q d o).2)
def PgPost (σ : Ar) (K : ALay) (m b q : Nat) (d o : List Int) (w : World) (e : Ending) (w' : World) : Prop := e = .returned (.int .i64 (σ.prog m b q d o).2) ∧ ArAt w' (σ.prog m b q d o).1 K ∧ Fr (AF K σ) w w'

set_option maxHeartbeats 8000000 in
set_option maxRecDepth 100000 in
theorem Program_calls (σ : Ar) (K : ALay) (m b q : Nat) (D O : Option Addr) (nd cd no co : Nat) (d o : List Int) (w : World) (h : ArAt w σ K) (hth : σ.There) (hm : (m : Int) < σ.s.g.c) (hb : (b : Int) < σ.s.g.b - 5) (hq : q < σ.s.np) (n : Nat) (hs : σ.s.Safe (n + 1))
    (hD : RdN w (NF K.p K.L σ.s.n σ.s.nb) D nd d) (hO : RdN w (NF K.p K.L σ.s.n σ.s.nb) O no o) (hnd : (nd : Int) = σ.s.g.s) (hno : no = 64) (hrd : InR 256 d) (hro : InR 256 o) :
    Calls Tryz.prog 141 #[.pointer (some ⟨K.x, 0, none⟩), .int .i64 (m : Int), .int .i64 (b : Int), .int .i64 (q : Int), .slice D nd cd, .slice O no co] w (PgPost σ K m b q d o w) := by
  have HA := As.mk h
  have HIN := As.mk (in_calls σ K m b w h hm hb)
  have hgc := h.nand.ok.c
  have hlk : (σ.lost = false ∧ σ.lostK = 0) ∨ (σ.lost = true ∧ σ.lostK = 74) := by unfold Ar.lostK; cases σ.lost <;> simp
  rcases hlk with ⟨hl, hk⟩ | ⟨hl, hk⟩
  · rw [hk] at HIN
    have HSD := As.mk (fun (w' : World) (hf : Fr None_ w w') => stand_calls σ K m b w' (h.none_ hf) hth hl hm)
    rcases hst : σ.stand m b with _ | c
    · have hr : σ.prog m b q d o = (σ, 71) := by unfold Ar.prog; rw [hl, if_neg (by decide), hst]
      have hsv : stv σ K m b = .tuple #[.pointer none, .int .i64 0, .bool false] := by unfold stv; rw [hst]
      rw [hsv] at HSD
      have HPost := As.mk (show ∀ (e : Ending) (w' : World), e = .returned (.int .i64 71) → ArAt w' σ K → Fr None_ w w' → PgPost σ K m b q d o w e w' from fun e w' k1 k2 k3 => by
        unfold PgPost
        rw [hr]
        exact ⟨k1, k2, k3.mono (fun _ _ h => h.elim)⟩)
      clear h hth hm hb hq hs hl hk hr hst hsv hD hO hnd hno hrd hro
      go_enter Tryz.func141, Tryz.ntmps141
      go_wp2_with fail
      ((with_reducible refine (HIN.out).mono ?_); rintro e w1 ⟨rfl, hf1⟩)
      have HF1 := As.mk hf1
      have HSD1 := As.mk (HSD.out w1 hf1)
      clear hf1
      go_wp2_with fail
      ((with_reducible refine (HSD1.out).mono ?_); rintro e w2 ⟨rfl, hf2⟩)
      have HF2 := As.mk (HF1.out.after hf2 (fun _ _ h => h))
      have HA2 := As.mk (HA.out.none_ HF2.out)
      clear hf2 HSD1
      go_wp2_with fail
      go_ret
      exact HPost.out _ _ rfl HA2.out HF2.out
    · obtain ⟨hcn, t, ht⟩ := stand_some h hth hl hm hst
      have hvv := h.vol c t hcn ht
      have htok := h.ok.more _ t hcn ht
      have hlt : b < t.place.length := by rw [htok.len]; omega
      have htb : (σ.tab c).at b = t.at b := by unfold Ar.tab; rw [ht]; rfl
      have hsv : stv σ K m b = .tuple #[.pointer (some ⟨(K.v c).vb, 0, none⟩), .int .i64 (c : Int), .bool true] := by unfold stv; rw [hst]
      rw [hsv] at HSD
      have HPR := As.mk (fun (w' : World) (hf : Fr None_ w w') => VolA.Prog_calls K.p c σ.s K.L t (K.v c) b q D O nd cd no co d o w' (h.nand.none_ hf) (hvv.1.none_ hf) htok hcn hlt hq n hs (hD.none_ hf) (hO.none_ hf) hnd hno hrd hro)
      unfold PPost at HPR
      rw [← htb] at HPR
      have hsg := (prog_g σ.s c ((σ.tab c).at b) q d o).1
      have HR := As.mk (show σ.prog m b q d o = if (σ.s.prog c ((σ.tab c).at b) q d o).2 = 71 then (if (Ar.died { σ with s := (σ.s.prog c ((σ.tab c).at b) q d o).1 } c).2 = 0 then ((Ar.died { σ with s := (σ.s.prog c ((σ.tab c).at b) q d o).1 } c).1, 71) else Ar.died { σ with s := (σ.s.prog c ((σ.tab c).at b) q d o).1 } c)
        else if (σ.s.prog c ((σ.tab c).at b) q d o).2 = 0 ∧ σ.set.dead = (m : Int) then ({ σ with s := (σ.s.prog c ((σ.tab c).at b) q d o).1 }, 71)
        else ({ σ with s := (σ.s.prog c ((σ.tab c).at b) q d o).1 }, (σ.s.prog c ((σ.tab c).at b) q d o).2) from by unfold Ar.prog; rw [hl, if_neg (by decide), hst])
      generalize σ.s.prog c ((σ.tab c).at b) q d o = r at *
      have HDI := As.mk (fun (w' : World) (hA : ArAt w' { σ with s := r.1 } K) => died_calls { σ with s := r.1 } K c w' hA (by show c < St.n _; rw [(n_same hsg).1]; exact hcn))
      have HTU := As.mk (fun (w1 w' : World) (hf : Fr None_ w w1) (hN : Nand w' K.p r.1 K.L) (hf2 : Fr (NF K.p K.L σ.s.n σ.s.nb) w1 w') => (h.none_ hf).turn hN hsg hf2)
      clear h hth hm hb hq hs hl hk hst hsv hD hO hnd hno hrd hro ht hvv htok hlt htb hsg hcn
      go_enter Tryz.func141, Tryz.ntmps141
      go_wp2_with fail
      ((with_reducible refine (HIN.out).mono ?_); rintro e w1 ⟨rfl, hf1⟩)
      have HF1 := As.mk hf1
      have HSD1 := As.mk (HSD.out w1 hf1)
      clear hf1
      go_wp2_with fail
      ((with_reducible refine (HSD1.out).mono ?_); rintro e w2 ⟨rfl, hf2⟩)
      have HF2 := As.mk (HF1.out.after hf2 (fun _ _ h => h))
      have HPR2 := As.mk (HPR.out w2 HF2.out)
      clear hf2 HSD1
      go_wp2_with fail
      ((with_reducible refine (HPR2.out).mono ?_); rintro e w3 ⟨rfl, hn3, hf3⟩)
      have HA3 := As.mk (HTU.out w2 w3 HF2.out hn3 hf3)
      have HF3 := As.mk (show Fr (AF K σ) w w3 from HF2.out.trans hf3 (fun _ _ h => h.elim) (fun _ _ h => .inl h))
      clear hn3 hf3 HPR2
      by_cases hk7 : r.2 = 71
      · have HDD := As.mk (HDI.out w3 HA3.out)
        have HDS := As.mk (died_same { σ with s := r.1 } c)
        have HG := As.mk (show ∀ b, (b = K.x ∨ b = K.V) → AF K σ b from fun b h => by rcases h with h | h; exact .inr (.inl h); exact .inr (.inr h))
        by_cases hd0 : (Ar.died { σ with s := r.1 } c).2 = 0
        · have HPost := As.mk (show ∀ (e : Ending) (w' : World), e = .returned (.int .i64 71) → ArAt w' (Ar.died { σ with s := r.1 } c).1 K → Fr (AF K σ) w w' → PgPost σ K m b q d o w e w' from fun e w' k1 k2 k3 => by
            unfold PgPost
            rw [HR.out, if_pos hk7, if_pos hd0]
            exact ⟨k1, k2, k3⟩)
          unfold DiedPost at HDD
          rw [hd0] at HDD
          rw [hk7]
          clear hk7 hd0
          go_wp2_with fail
          ((with_reducible refine (HDD.out).mono ?_); rintro e w4 ⟨rfl, ha4, hf4⟩)
          have HA4 := As.mk ha4
          have HF4 := As.mk (HF3.out.after hf4 (fun b _ h => HG.out b h))
          clear ha4 hf4
          go_wp2_with fail
          go_ret
          exact HPost.out _ _ rfl HA4.out HF4.out
        · have hd4 : (Ar.died { σ with s := r.1 } c).2 = 74 := by rcases HDS.out.2 with h | h; exact absurd h hd0; exact h
          have HPost := As.mk (show ∀ (e : Ending) (w' : World), e = .returned (.int .i64 74) → ArAt w' (Ar.died { σ with s := r.1 } c).1 K → Fr (AF K σ) w w' → PgPost σ K m b q d o w e w' from fun e w' k1 k2 k3 => by
            unfold PgPost
            rw [HR.out, if_pos hk7, if_neg hd0, hd4]
            exact ⟨k1, k2, k3⟩)
          unfold DiedPost at HDD
          rw [hd4] at HDD
          rw [hk7]
          clear hk7 hd0 hd4
          go_wp2_with fail
          ((with_reducible refine (HDD.out).mono ?_); rintro e w4 ⟨rfl, ha4, hf4⟩)
          have HA4 := As.mk ha4
          have HF4 := As.mk (HF3.out.after hf4 (fun b _ h => HG.out b h))
          clear ha4 hf4
          go_wp2_with fail
          go_ret
          exact HPost.out _ _ rfl HA4.out HF4.out
      · have d7 : (r.2 == 71) = false := beq_eq_false_iff_ne.2 hk7
        have c9 := HA3.out.cs.2.2.2.2.2.2.2.2.2.1
        change w3.cell? ⟨K.x, 9, none⟩ = some (.int .i64 σ.set.dead) at c9
        by_cases hk0 : r.2 = 0
        · by_cases hdm : σ.set.dead = (m : Int)
          · have d9 : ((m : Int) == σ.set.dead) = true := beq_iff_eq.2 hdm.symm
            have HPost := As.mk (show ∀ (e : Ending) (w' : World), e = .returned (.int .i64 71) → ArAt w' { σ with s := r.1 } K → Fr (AF K σ) w w' → PgPost σ K m b q d o w e w' from fun e w' k1 k2 k3 => by
              unfold PgPost
              rw [HR.out, if_neg hk7, if_pos ⟨hk0, hdm⟩]
              exact ⟨k1, k2, k3⟩)
            rw [hk0]
            clear hk7 d7 hk0 hdm
            go_wp2_with fail
            go_ret
            exact HPost.out _ _ rfl HA3.out HF3.out
          · have d9 : ((m : Int) == σ.set.dead) = false := beq_eq_false_iff_ne.2 (fun e => hdm e.symm)
            have HPost := As.mk (show ∀ (e : Ending) (w' : World), e = .returned (.int .i64 0) → ArAt w' { σ with s := r.1 } K → Fr (AF K σ) w w' → PgPost σ K m b q d o w e w' from fun e w' k1 k2 k3 => by
              unfold PgPost
              rw [HR.out, if_neg hk7, if_neg (fun h => hdm h.2), hk0]
              exact ⟨k1, k2, k3⟩)
            rw [hk0]
            clear hk7 d7 hk0 hdm
            go_wp2_with fail
            go_ret
            exact HPost.out _ _ rfl HA3.out HF3.out
        · have d0 : (r.2 == 0) = false := beq_eq_false_iff_ne.2 hk0
          have HPost := As.mk (show ∀ (e : Ending) (w' : World), e = .returned (.int .i64 r.2) → ArAt w' { σ with s := r.1 } K → Fr (AF K σ) w w' → PgPost σ K m b q d o w e w' from fun e w' k1 k2 k3 => by
            unfold PgPost
            rw [HR.out, if_neg hk7, if_neg (fun h => hk0 h.1)]
            exact ⟨k1, k2, k3⟩)
          generalize r.2 = k at *
          clear hk7 hk0
          go_wp2_with fail
          go_ret
          exact HPost.out _ _ rfl HA3.out HF3.out
  · rw [hk] at HIN
    have hr : σ.prog m b q d o = (σ, 74) := by unfold Ar.prog; rw [hl, if_pos rfl]
    have HPost := As.mk (show ∀ (e : Ending) (w' : World), e = .returned (.int .i64 74) → ArAt w' σ K → Fr None_ w w' → PgPost σ K m b q d o w e w' from fun e w' k1 k2 k3 => by
      unfold PgPost
      rw [hr]
      exact ⟨k1, k2, k3.mono (fun _ _ h => h.elim)⟩)
    clear h hth hm hb hq hs hl hk hr hD hO hnd hno hrd hro
    go_enter Tryz.func141, Tryz.ntmps141
    go_wp2_with fail
    ((with_reducible refine (HIN.out).mono ?_); rintro e w1 ⟨rfl, hf1⟩)
    have HA1 := As.mk (HA.out.none_ hf1)
    have HF1 := As.mk hf1
    clear hf1
    go_wp2_with fail
    go_ret
    exact HPost.out _ _ rfl HA1.out HF1.out
end Go.Proofs.YteofgpaceeibpaaGreat.ArrE
namespace Go.Proofs.YteofgpaceeibpaaGreat.ArrF
open Go.RowKit Gab Wr Geom Ref Nand NandA NandB NandC NandD NandE NandH RemapA RemapB VolA VolD VolE VolF MemA MemC ArrA ArrB ArrC ArrD ArrE
open Heap (cell_is heap_set fr_set1)
set_option linter.unusedVariables false
set_option linter.unusedSimpArgs false

/-- Two members have not the same chip. -/
theorem chip_inj {σ : Ar} (h : σ.set.Ok σ.s.g) {m k : Nat} (hm : (m : Int) < σ.s.g.c) (hk : (k : Int) < σ.s.g.c) (e : σ.chip m = σ.chip k) : m = k := by
  have hl := h.len
  have hnd := (List.nodup_append.1 h.nd).1
  have hm' : m < σ.set.chips.length := by omega
  have hk' : k < σ.set.chips.length := by omega
  have r1 := h.inr σ.set.chips[m] (by unfold MS.all; simp)
  have r2 := h.inr σ.set.chips[k] (by unfold MS.all; simp)
  have e1 : σ.chip m = σ.set.chips[m].toNat := by unfold Ar.chip; rw [List.getD_eq_getElem?_getD, List.getElem?_eq_getElem hm']; rfl
  have e2 : σ.chip k = σ.set.chips[k].toNat := by unfold Ar.chip; rw [List.getD_eq_getElem?_getD, List.getElem?_eq_getElem hk']; rfl
  have e3 : σ.set.chips[m] = σ.set.chips[k] := by omega
  rcases Nat.lt_trichotomy m k with hlt | rfl | hlt
  · exact absurd e3 (List.pairwise_iff_getElem.1 hnd m k hm' hk' hlt)
  · rfl
  · exact absurd e3.symm (List.pairwise_iff_getElem.1 hnd k m hk' hm' hlt)
/-- The chip in reserve is no member's. -/
theorem spare_off {σ : Ar} (h : σ.set.Ok σ.s.g) {m : Nat} (hm : (m : Int) < σ.s.g.c) (hs : σ.set.spare ≠ 255) : (σ.chip m : Int) ≠ σ.set.spare := by
  have hl := h.len
  have hm' : m < σ.set.chips.length := by omega
  have r1 := h.inr σ.set.chips[m] (by unfold MS.all; simp)
  have e1 : σ.chip m = σ.set.chips[m].toNat := by unfold Ar.chip; rw [List.getD_eq_getElem?_getD, List.getElem?_eq_getElem hm']; rfl
  have hd := h.nd
  unfold MS.all at hd
  rw [if_neg hs] at hd
  intro e
  exact (List.nodup_append.1 hd).2.2 _ (List.getElem_mem hm') _ (List.mem_singleton_self _) (by omega)
theorem chip_range {σ : Ar} (h : σ.set.Ok σ.s.g) {m : Nat} (hm : (m : Int) < σ.s.g.c) : (σ.chip m : Int) ≤ σ.s.g.c ∧ σ.set.chips.getD m 0 = (σ.chip m : Int) := by
  have hl := h.len
  have hm' : m < σ.set.chips.length := by omega
  have r1 := h.inr σ.set.chips[m] (by unfold MS.all; simp)
  have e1 : σ.set.chips.getD m 0 = σ.set.chips[m] := by rw [List.getD_eq_getElem?_getD, List.getElem?_eq_getElem hm']; rfl
  unfold Ar.chip
  rw [e1]
  omega
/-- Which member's it is. -/
theorem idx_cases {σ : Ar} (h : σ.set.Ok σ.s.g) (c : Nat) : (idxOf σ.set.chips c = none ∧ ∀ m : Nat, (m : Int) < σ.s.g.c → σ.chip m ≠ c) ∨ ∃ m, idxOf σ.set.chips c = some m ∧ (m : Int) < σ.s.g.c ∧ σ.chip m = c := by
  have hl := h.len
  rcases hi : idxOf σ.set.chips c with _ | m
  · refine .inl ⟨rfl, fun m hm e => ?_⟩
    unfold idxOf at hi
    rw [List.find?_eq_none] at hi
    have := hi m (List.mem_range.2 (by omega))
    have h2 := (chip_range h hm).2
    rw [h2, e] at this
    simp at this
  · refine .inr ⟨m, rfl, ?_, ?_⟩
    · unfold idxOf at hi
      have := List.mem_range.1 (List.mem_of_find?_eq_some hi)
      omega
    · unfold idxOf at hi
      have h1 := List.mem_range.1 (List.mem_of_find?_eq_some hi)
      have h2 := List.find?_some hi
      have h3 := (chip_range h (show (m : Int) < σ.s.g.c by omega)).2
      simp only [beq_iff_eq] at h2
      omega
theorem there_died {σ : Ar} (hg : σ.s.g.Ok) (h : σ.set.Ok σ.s.g) (ht : σ.There) (c : Nat) (hc0 : c < σ.s.n) : (σ.died c).1.There := by
  unfold Ar.died
  split
  · rename_i hs
    intro hl m hm hd
    obtain ⟨t, e⟩ := ht hl m hm hd
    have hne : σ.set.spare ≠ 255 := by
      have := hg.c
      unfold St.n at hc0
      omega
    refine ⟨t, ?_⟩
    show (if σ.chip m = c then none else σ.vol (σ.chip m)) = some t
    rw [if_neg (fun e2 => spare_off h hm hne (by rw [hs, e2]))]
    exact e
  · rcases idx_cases h c with ⟨e, hno⟩ | ⟨k, e, hk, hc⟩
    · rw [e]
      intro hl m hm hd
      obtain ⟨t, e2⟩ := ht hl m hm hd
      refine ⟨t, ?_⟩
      show (if σ.chip m = c then none else σ.vol (σ.chip m)) = some t
      rw [if_neg (hno m hm)]
      exact e2
    · rw [e]
      show ((σ.drop c).gone k).1.There
      unfold Ar.gone
      split
      · rename_i hd1
        intro hl m hm hd
        obtain ⟨t, e2⟩ := ht hl m hm hd
        refine ⟨t, ?_⟩
        show (if σ.chip m = c then none else σ.vol (σ.chip m)) = some t
        rw [if_neg (fun e3 => hd (by rw [chip_inj h hm hk (e3.trans hc.symm)]; exact hd1.symm))]
        exact e2
      · split
        · rename_i hd1 hd2
          intro hl m hm hd
          have hd0 : (m : Int) ≠ σ.set.dead := fun e3 => by
            have h255 : σ.set.dead = 255 := hd2
            have := hg.c
            have hm2 : (m : Int) < σ.s.g.c := hm
            omega
          obtain ⟨t, e2⟩ := ht hl m hm hd0
          refine ⟨t, ?_⟩
          show (if σ.chip m = c then none else σ.vol (σ.chip m)) = some t
          rw [if_neg (fun e3 => hd (by rw [chip_inj h hm hk (e3.trans hc.symm)]))]
          exact e2
        · intro hl
          cases hl

/-! ### Erase -/
/-- A member's block is erased. -/
def _root_.Go.Proofs.YteofgpaceeibpaaGreat.ArrA.Ar.erase1 (σ : Ar) (m b : Nat) : Ar × Int := match σ.stand m b with
  | none => (σ, 0)
  | some c => if (σ.s.erase c ((σ.tab c).at b)).2 = 71 then Ar.died { σ with s := (σ.s.erase c ((σ.tab c).at b)).1 } c else ({ σ with s := (σ.s.erase c ((σ.tab c).at b)).1 }, (σ.s.erase c ((σ.tab c).at b)).2)
def _root_.Go.Proofs.YteofgpaceeibpaaGreat.ArrA.Ar.eraseN (σ : Ar) (b : Nat) : Nat → Ar × Int
  | 0 => (σ, 0)
  | i + 1 => if (σ.eraseN b i).2 = 0 then (σ.eraseN b i).1.erase1 i b else σ.eraseN b i
/-- A block of all members is erased. -/
def _root_.Go.Proofs.YteofgpaceeibpaaGreat.ArrA.Ar.erase (σ : Ar) (b : Nat) : Ar × Int := if σ.lost then (σ, 74) else σ.eraseN b σ.s.g.c.toNat
theorem eraseN_stuck (σ : Ar) (b : Nat) : ∀ n m, n ≤ m → (σ.eraseN b n).2 ≠ 0 → σ.eraseN b m = σ.eraseN b n
  | n, 0, h, _ => by
    obtain rfl : n = 0 := by omega
    rfl
  | n, m + 1, h, hk => by
    by_cases e : n = m + 1
    · rw [e]
    · have ih := eraseN_stuck σ b n m (by omega) hk
      show (if (σ.eraseN b m).2 = 0 then _ else σ.eraseN b m) = _
      rw [ih, if_neg hk]
/-- What a step keeps. -/
structure Kept (σ σ' : Ar) (k : Int) : Prop where
  g : σ'.s.g = σ.s.g
  there : σ.There → σ'.There
  lost : k = 0 → σ.lost = false → σ'.lost = false
theorem died_lost (σ : Ar) (c : Nat) (h : (σ.died c).2 = 0) : (σ.died c).1.lost = σ.lost := by
  unfold Ar.died at h ⊢
  split
  · rfl
  · rename_i hs
    rw [if_neg hs] at h
    rcases hi : idxOf σ.set.chips c with _ | m
    · rfl
    · rw [hi] at h
      simp only at h ⊢
      unfold Ar.gone at h ⊢
      split
      · rfl
      · rename_i h1
        rw [if_neg h1] at h
        split
        · rfl
        · rename_i h2
          rw [if_neg h2] at h
          cases h
theorem died_kept {σ : Ar} (hg : σ.s.g.Ok) (h : σ.set.Ok σ.s.g) (c : Nat) (hc : c < σ.s.n) : Kept σ (σ.died c).1 (σ.died c).2 :=
  ⟨by rw [(died_same σ c).1], fun ht => there_died hg h ht c hc, fun hk hl => by rw [died_lost σ c hk]; exact hl⟩
theorem Kept.trans {a b c : Ar} {k l : Int} (h : Kept a b k) (h2 : Kept b c l) (hk : k = 0) : Kept a c l := ⟨h2.g.trans h.g, fun ht => h2.there (h.there ht), fun hl hlo => h2.lost hl (h.lost hk hlo)⟩
def ErPost (σ : Ar) (K : ALay) (b : Nat) (w : World) (e : Ending) (w' : World) : Prop := e = .returned (.int .i64 (σ.erase b).2) ∧ ArAt w' (σ.erase b).1 K ∧ Fr (AF K σ) w w'
theorem safe_erase1 {σ : Ar} {n : Nat} (h : σ.s.Safe (n + 1)) (m b : Nat) : (σ.erase1 m b).1.s.Safe n := by
  unfold Ar.erase1
  split
  · exact h.le (Nat.le_succ n)
  · split
    · rw [(died_same _ _).1]; exact h.erase _ _
    · exact h.erase _ _
theorem safe_eraseN {σ : Ar} (b : Nat) : ∀ i n, σ.s.Safe (n + i) → (σ.eraseN b i).1.s.Safe n
  | 0, n, h => h
  | i + 1, n, h => by
    have h2 := safe_eraseN b i (n + 1) (by rw [show n + 1 + i = n + (i + 1) by omega]; exact h)
    unfold Ar.eraseN
    split
    · exact safe_erase1 h2 i b
    · exact h2.le (Nat.le_succ n)

set_option maxHeartbeats 8000000 in
set_option maxRecDepth 100000 in
theorem Erase_calls (σ : Ar) (K : ALay) (b : Nat) (w : World) (h : ArAt w σ K) (hth : σ.There) (hb : (b : Int) < σ.s.g.b - 5) (n : Nat) (hs : σ.s.Safe (n + 17)) :
    Calls Tryz.prog 50 #[.pointer (some ⟨K.x, 0, none⟩), .int .i64 (b : Int)] w (ErPost σ K b w) := by
  have HA := As.mk h
  have hgc := h.nand.ok.c
  have HIN := As.mk (show Calls Tryz.prog 55 #[.pointer (some ⟨K.x, 0, none⟩), .int .i64 0, .int .i64 (b : Int)] w _ from in_calls σ K 0 b w h (show (0 : Int) < σ.s.g.c by omega) hb)
  have hlk : (σ.lost = false ∧ σ.lostK = 0) ∨ (σ.lost = true ∧ σ.lostK = 74) := by unfold Ar.lostK; cases σ.lost <;> simp
  rcases hlk with ⟨hl, hk⟩ | ⟨hl, hk⟩
  · rw [hk] at HIN
    have HE := As.mk (show σ.erase b = σ.eraseN b σ.s.g.c.toNat from by unfold Ar.erase; rw [hl, if_neg (by decide)])
    have HTH := As.mk hth
    have HBB := As.mk hb
    have HSS := As.mk hs
    have HLO := As.mk hl
    obtain ⟨nc, hnc⟩ := Int.eq_ofNat_of_zero_le (show 0 ≤ σ.s.g.c by omega)
    have HNC := As.mk hnc
    have HGO := As.mk h.nand.ok
    have hn16 : nc ≤ 16 := by omega
    clear h hth hb hs hl hk hnc
    go_enter Tryz.func50, Tryz.ntmps50
    go_wp2_with fail
    ((with_reducible refine (HIN.out).mono ?_); rintro e w1 ⟨rfl, hf1⟩)
    have HA1 := As.mk (HA.out.none_ hf1)
    have HF1 := As.mk (show Fr (AF K σ) w w1 from hf1.mono (fun _ _ h => h.elim))
    have c1 := HA1.out.cs.2.1
    clear hf1 hgc
    go_wp2_with fail
    go_loopw [22] (fun v22 w' => ∃ i : Nat, v22 = .int .i64 (i : Int) ∧ i ≤ nc ∧ As ((σ.eraseN b i).2 = 0) ∧ As (ArAt w' (σ.eraseN b i).1 K) ∧ As (Kept σ (σ.eraseN b i).1 0) ∧ As (Fr (AF K σ) w w')) (fun v22 _ => nc - (intOf v22).toNat)
    case atStart => exact ⟨0, rfl, Nat.zero_le _, ⟨rfl⟩, HA1, ⟨⟨rfl, fun h => h, fun _ h => h⟩⟩, HF1⟩
    case round =>
      obtain ⟨i, rfl, hi, HK, HAi, HKE, HFi⟩ := hrel
      by_cases hlt : i < nc
      · have hltI : (i : Int) < σ.s.g.c := by have := HNC.out; omega
        have HS1 := As.mk (show σ.eraseN b (i + 1) = (σ.eraseN b i).1.erase1 i b from by show (if (σ.eraseN b i).2 = 0 then _ else _) = _; rw [if_pos HK.out])
        have hsg := HKE.out.g
        have hthi := HKE.out.there HTH.out
        have hlo := HKE.out.lost rfl HLO.out
        have hsaf := safe_eraseN b i (n + 1) (HSS.out.le (show n + 1 + i ≤ n + 17 by omega))
        have hAFe := AF.eq (K := K) hsg
        have HAFE := As.mk hAFe
        generalize hσi : (σ.eraseN b i).1 = τ at *
        have hmi : (i : Int) < τ.s.g.c := by rw [hsg]; exact hltI
        have hbi : (b : Int) < τ.s.g.b - 5 := by rw [hsg]; exact HBB.out
        have HSD := As.mk (stand_calls τ K i b wr HAi.out hthi hlo hmi)
        rcases hst : τ.stand i b with _ | c
        · have HN1 := As.mk (show σ.eraseN b (i + 1) = (τ, 0) from by rw [HS1.out]; unfold Ar.erase1; rw [hst])
          have hsv : stv τ K i b = .tuple #[.pointer none, .int .i64 0, .bool false] := by unfold stv; rw [hst]
          rw [hsv] at HSD
          clear hst hsv hsaf hAFe hσi hmi hbi hthi hlo hsg
          go_wp2_with fail
          ((with_reducible refine (HSD.out).mono ?_); rintro e w2 ⟨rfl, hf2⟩)
          have HA2 := As.mk (HAi.out.none_ hf2)
          have HF2 := As.mk (HFi.out.after hf2 (fun _ _ h => h.elim))
          clear hf2 HSD
          go_wp2_with fail
          exact ⟨⟨i + 1, rfl, by omega, ⟨by rw [HN1.out]⟩, ⟨by rw [HN1.out]; exact HA2.out⟩, ⟨by rw [HN1.out]; exact HKE.out⟩, HF2⟩, by simp [intOf]; omega⟩
        · obtain ⟨hcn, t, ht⟩ := stand_some HAi.out hthi hlo hmi hst
          have hvv := HAi.out.vol c t hcn ht
          have htok := HAi.out.ok.more _ t hcn ht
          have hltb : b < t.place.length := by rw [htok.len]; omega
          have htb : (τ.tab c).at b = t.at b := by unfold Ar.tab; rw [ht]; rfl
          have hsv : stv τ K i b = .tuple #[.pointer (some ⟨(K.v c).vb, 0, none⟩), .int .i64 (c : Int), .bool true] := by unfold stv; rw [hst]
          rw [hsv] at HSD
          have HPR := As.mk (fun (w' : World) (hf : Fr None_ wr w') => VolA.Erase_calls K.p c τ.s K.L t (K.v c) b w' (HAi.out.nand.none_ hf) (hvv.1.none_ hf) htok hcn hltb n hsaf)
          unfold ErasePost at HPR
          rw [← htb] at HPR
          have hrg := (erase_g τ.s c ((τ.tab c).at b)).1
          have hN1 : σ.eraseN b (i + 1) = if (τ.s.erase c ((τ.tab c).at b)).2 = 71 then Ar.died { τ with s := (τ.s.erase c ((τ.tab c).at b)).1 } c else ({ τ with s := (τ.s.erase c ((τ.tab c).at b)).1 }, (τ.s.erase c ((τ.tab c).at b)).2) := by rw [HS1.out]; unfold Ar.erase1; rw [hst]
          generalize τ.s.erase c ((τ.tab c).at b) = r at *
          have HN1 := As.mk hN1
          have hcr : c < r.1.n := by rw [(n_same hrg).1]; exact hcn
          have HDI := As.mk (fun (w' : World) (hA : ArAt w' { τ with s := r.1 } K) => died_calls { τ with s := r.1 } K c w' hA hcr)
          have HKD := As.mk (show Kept τ (Ar.died { τ with s := r.1 } c).1 (Ar.died { τ with s := r.1 } c).2 from by
            have h1 := died_kept (σ := { τ with s := r.1 }) (by show r.1.g.Ok; rw [hrg]; exact HAi.out.nand.ok) (by show τ.set.Ok r.1.g; rw [hrg]; exact HAi.out.ok.set) c hcr
            exact ⟨h1.g.trans hrg, fun ht => h1.there (fun hl m hm hd => ht hl m (by rw [← hrg]; exact hm) hd), h1.lost⟩)
          have HKS := As.mk (show Kept τ { τ with s := r.1 } 0 from ⟨hrg, fun ht hl m hm hd => ht hl m (by rw [← hrg]; exact hm) hd, fun _ h => h⟩)
          have HTU := As.mk (fun (w1 w' : World) (hf : Fr None_ wr w1) (hN : Nand w' K.p r.1 K.L) (hf2 : Fr (NF K.p K.L τ.s.n τ.s.nb) w1 w') => (HAi.out.none_ hf).turn hN hrg hf2)
          clear hst hsv hsaf hAFe hσi hmi hbi hthi hlo hsg hcn ht hvv htok hltb htb hrg hN1 hcr
          go_wp2_with fail
          ((with_reducible refine (HSD.out).mono ?_); rintro e w2 ⟨rfl, hf2⟩)
          have HPR2 := As.mk (HPR.out w2 hf2)
          have HF2 := As.mk hf2
          clear hf2 HSD
          go_wp2_with fail
          ((with_reducible refine (HPR2.out).mono ?_); rintro e w3 ⟨rfl, hn3, hf3⟩)
          have HA3 := As.mk (HTU.out w2 w3 HF2.out hn3 hf3)
          have HF3 := As.mk (show Fr (AF K σ) w w3 from (HFi.out.after HF2.out (fun _ _ h => h.elim)).after hf3 (fun b _ h => (HAFE.out b).1 (.inl h)))
          clear hn3 hf3 HPR2
          by_cases hk7 : r.2 = 71
          · have HDD := As.mk (HDI.out w3 HA3.out)
            have HN2 := As.mk (show σ.eraseN b (i + 1) = Ar.died { τ with s := r.1 } c from by rw [HN1.out, if_pos hk7])
            have HG := As.mk (show ∀ b, (b = K.x ∨ b = K.V) → AF K σ b from fun b h => by rcases h with h | h; exact .inr (.inl h); exact .inr (.inr h))
            unfold DiedPost at HDD
            rw [← HN2.out] at HDD HKD
            rw [hk7]
            clear hk7
            go_wp2_with fail
            ((with_reducible refine (HDD.out).mono ?_); rintro e w4 ⟨rfl, ha4, hf4⟩)
            have HA4 := As.mk ha4
            have HF4 := As.mk (HF3.out.after hf4 (fun b _ h => HG.out b h))
            clear ha4 hf4
            by_cases hk0 : (σ.eraseN b (i + 1)).2 = 0
            · have HK4 := As.mk hk0
              rw [hk0]
              rw [hk0] at HKD
              clear hk0
              go_wp2_with fail
              exact ⟨⟨i + 1, rfl, by omega, HK4, HA4, ⟨HKE.out.trans HKD.out rfl⟩, HF4⟩, by simp [intOf]; omega⟩
            · have d0 : ((σ.eraseN b (i + 1)).2 != 0) = true := by rw [bne_iff_ne]; exact hk0
              have HPost := As.mk (show ∀ (e : Ending) (w' : World), e = .returned (.int .i64 (σ.eraseN b (i + 1)).2) → ArAt w' (σ.eraseN b (i + 1)).1 K → Fr (AF K σ) w w' → ErPost σ K b w e w' from fun e w' k1 k2 k3 => by
                have : σ.erase b = σ.eraseN b (i + 1) := by rw [HE.out]; exact eraseN_stuck σ b (i + 1) _ (by have := HNC.out; omega) hk0
                unfold ErPost
                rw [this]
                exact ⟨k1, k2, k3⟩)
              generalize (σ.eraseN b (i + 1)).2 = k at *
              clear hk0
              go_wp2_with fail
              go_ret
              exact HPost.out _ _ rfl HA4.out HF4.out
          · have d7 : (r.2 == 71) = false := beq_eq_false_iff_ne.2 hk7
            have HN2 := As.mk (show σ.eraseN b (i + 1) = ({ τ with s := r.1 }, r.2) from by rw [HN1.out, if_neg hk7])
            by_cases hk0 : r.2 = 0
            · rw [hk0] at HN2 ⊢
              clear hk0 hk7 d7
              go_wp2_with fail
              exact ⟨⟨i + 1, rfl, by omega, ⟨by rw [HN2.out]⟩, ⟨by rw [HN2.out]; exact HA3.out⟩, ⟨by rw [HN2.out]; exact HKE.out.trans HKS.out rfl⟩, HF3⟩, by simp [intOf]; omega⟩
            · have d0 : (r.2 != 0) = true := by rw [bne_iff_ne]; exact hk0
              have HPost := As.mk (show ∀ (e : Ending) (w' : World), e = .returned (.int .i64 r.2) → ArAt w' { τ with s := r.1 } K → Fr (AF K σ) w w' → ErPost σ K b w e w' from fun e w' k1 k2 k3 => by
                have h1 : (σ.eraseN b (i + 1)).2 ≠ 0 := by rw [HN2.out]; exact hk0
                have : σ.erase b = σ.eraseN b (i + 1) := by rw [HE.out]; exact eraseN_stuck σ b (i + 1) _ (by have := HNC.out; omega) h1
                unfold ErPost
                rw [this, HN2.out]
                exact ⟨k1, k2, k3⟩)
              generalize r.2 = k at *
              clear hk0 hk7
              go_wp2_with fail
              go_ret
              exact HPost.out _ _ rfl HA3.out HF3.out
      · have hltI : ¬ (i : Int) < σ.s.g.c := by have := HNC.out; omega
        have HPost := As.mk (show ∀ (e : Ending) (w' : World), e = .returned (.int .i64 0) → ArAt w' (σ.eraseN b i).1 K → Fr (AF K σ) w w' → ErPost σ K b w e w' from fun e w' k1 k2 k3 => by
          have : σ.erase b = σ.eraseN b i := by rw [HE.out]; congr 1; have := HNC.out; omega
          unfold ErPost
          rw [this, HK.out]
          exact ⟨k1, k2, k3⟩)
        go_wp2_with fail
        go_ret
        exact HPost.out _ _ rfl HAi.out HFi.out
  · rw [hk] at HIN
    have hr : σ.erase b = (σ, 74) := by unfold Ar.erase; rw [hl, if_pos rfl]
    have HPost := As.mk (show ∀ (e : Ending) (w' : World), e = .returned (.int .i64 74) → ArAt w' σ K → Fr None_ w w' → ErPost σ K b w e w' from fun e w' k1 k2 k3 => by
      unfold ErPost
      rw [hr]
      exact ⟨k1, k2, k3.mono (fun _ _ h => h.elim)⟩)
    clear h hth hb hs hl hk hr
    go_enter Tryz.func50, Tryz.ntmps50
    go_wp2_with fail
    ((with_reducible refine (HIN.out).mono ?_); rintro e w1 ⟨rfl, hf1⟩)
    have HA1 := As.mk (HA.out.none_ hf1)
    have HF1 := As.mk hf1
    clear hf1
    go_wp2_with fail
    go_ret
    exact HPost.out _ _ rfl HA1.out HF1.out
end Go.Proofs.YteofgpaceeibpaaGreat.ArrF

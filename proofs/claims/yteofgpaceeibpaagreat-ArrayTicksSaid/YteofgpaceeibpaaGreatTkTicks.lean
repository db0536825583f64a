/- gabionlaw13.ArrayTicks. -/
import Derived.Test.YteofgpaceeibpaaGreatTkActD
import Derived.Test.YteofgpaceeibpaaGreatTkFmtd
import Derived.Test.YteofgpaceeibpaaGreatTkShape
import Derived.Deep.RegionHeld3
import Derived.BigQuiet
namespace Go.Proofs.YteofgpaceeibpaaGreat.Ticks
open Go.RowKit Gab Geom Ref Nand NandA NandE NandF NandG NandH VolA MemA MemC ArrA ArrB ArrD ArrI LawA HeldA ActD PlA PlB Shape TcPA TcPB TcPE TcPF TcPH Fmtd OpRow
open Kpt (H0 held_new)
open Heap (cell_is)
set_option linter.unusedVariables false
set_option linter.unusedSimpArgs false

theorem field_set1 (s sp dm dn : Int) (v1 : Value) (w : World) : (Instr.field 40 (.agg #[.int .u32 s, v1, .int .i64 sp, .int .i64 dm, .int .i64 dn]) 1).run Tryz.prog w = .ok v1 w := by kernel_rfl
theorem field_set2 (s sp dm dn : Int) (v1 : Value) (w : World) : (Instr.field 40 (.agg #[.int .u32 s, v1, .int .i64 sp, .int .i64 dm, .int .i64 dn]) 2).run Tryz.prog w = .ok (.int .i64 sp) w := by kernel_rfl
theorem field_set3 (s sp dm dn : Int) (v1 : Value) (w : World) : (Instr.field 40 (.agg #[.int .u32 s, v1, .int .i64 sp, .int .i64 dm, .int .i64 dn]) 3).run Tryz.prog w = .ok (.int .i64 dm) w := by kernel_rfl
/-- Blocks that a law has not made keep. -/
theorem fr_out {w w1 w2 : World} {F : Nat → Prop} (h : Fr None_ w w1) (hf : Fr F w1 w2) (hF : ∀ b, F b → w.heap.size ≤ b) : Fr None_ w w2 :=
  h.after hf (fun b hb h9 => absurd (hF b h9) (by omega))
theorem HeldAt.kf {w w' : World} {base : Nat} {H : Held} {Y : HLay} {σ : Ar} {K : ALay} (h : HeldAt w base H Y) (hA : ArAt w σ K) (hf : Fr (KF K σ) w w') : HeldAt w' base H Y :=
  h.ty hf (fun b cs T f hb hT h9 => by
    rcases h9 with h9 | h9
    · exact af_ty hA hb hT h9
    · subst h9
      obtain ⟨ds, e, _⟩ := hA.chips
      exact blk_ne hb e (by unfold HTy at hT; rcases hT with rfl | rfl | rfl | rfl <;> decide) rfl)
theorem geo_kf {w : World} {σ : Ar} {K : ALay} (hA : ArAt w σ K) {b : Nat} {cs : Array Value} {f : Nat × Nat} (hb : w.heap[b]? = some (.cells cs 24 f)) : ¬ KF K σ b := fun h9 => by
  rcases h9 with (ha | ha | ha) | h9
  · exact hA.nand.ne hb ⟨by decide, by decide, by decide, by decide, by decide⟩ ha
  · exact blk_ne hb hA.main (by decide) ha
  · obtain ⟨ds, e, _⟩ := hA.vols
    exact blk_ne hb e (by decide) ha
  · obtain ⟨ds, e, _⟩ := hA.chips
    exact blk_ne hb e (by decide) h9

set_option maxHeartbeats 8000000 in
set_option maxRecDepth 100000 in
theorem small_calls (chips dead : Int) (A : Option Addr) (n c : Nat) (again : Bool) (w : World) (hn : 30 < n) : Calls Tryz.prog 5 #[.agg #[.int .i64 chips, .int .i64 dead, .slice A n c, .bool again]] w fun e w' => e = .returned (.bool true) ∧ Fr None_ w w' := by
  have HKP := As.mk (fun w => Kpt.kept_calls w)
  have d1 : decide ((30 : Int) < (n : Int)) = true := decide_eq_true (by omega)
  have HF0 := As.mk ((Fr.refl None_ w).alloc (.cells #[.int .i64 chips, .int .i64 dead, .slice A n c, .bool again] 64))
  have hbx := heap_alloc_new w (.cells #[.int .i64 chips, .int .i64 dead, .slice A n c, .bool again] 64)
  have hfd1 := field_set1
  have hfd2 := field_set2
  have hfd3 := field_set3
  go_enter Tryz.func5, Tryz.ntmps5
  go_upto_region 1 with fail
  generalize w.alloc (.cells #[.int .i64 chips, .int .i64 dead, .slice A n c, .bool again] 64) = w0 at *
  have x0 := cell_is (i := 0) hbx rfl
  have x1 := cell_is (i := 1) hbx rfl
  have x2 := cell_is (i := 2) hbx rfl
  have x3 := cell_is (i := 3) hbx rfl
  clear hbx
  go_quiet (fail)
  have HF0d := As.mk (HF0.out.drewN nq)
  generalize w0.drewN nq = w0d at *
  clear x0 x1 x2 x3
  go_wp2_with fail
  ((with_reducible refine (HKP.out _).mono ?_); rintro e w1 ⟨rfl, hf1⟩)
  have HF1 := As.mk (HF0d.out.after hf1 (fun _ _ h => h))
  clear hf1
  go_wp2_with fail
  ((with_reducible refine (HKP.out _).mono ?_); rintro e w2 ⟨rfl, hf2⟩)
  have HF2 := As.mk (HF1.out.after hf2 (fun _ _ h => h))
  clear hf2
  go_wp2_with fail
  go_ret
  exact ⟨rfl, HF2.out⟩

set_option maxHeartbeats 16000000 in
set_option maxRecDepth 100000 in
theorem ticks_calls (chips dead : Int) (A : Option Addr) (n c : Nat) (again : Bool) (l : List (Int × Int × Int)) (w : World) (hl : OpsAt w A n l) (hn : n ≤ 30) : Calls Tryz.prog 5 #[.agg #[.int .i64 chips, .int .i64 dead, .slice A n c, .bool again]] w fun e w' => e = .returned (.bool true) ∧ Fr None_ w w' := by
  have hsh := shape_of chips
  have HGEO := As.mk (fun w => geo_calls chips w)
  obtain ⟨σ1, ef, hw1, hs1⟩ := new_at (geo_ok chips)
  have HFM := As.mk (fun w => formatted_calls chips σ1 ef hw1 w)
  obtain ⟨g, hg⟩ : ∃ g, geoOf chips = g := ⟨_, rfl⟩
  rw [hg] at hsh HGEO ef hw1
  have hok := hsh.ok
  have hg4 : g.b = 16 ∧ g.p = 4 ∧ g.s = 256 ∧ g.c ≤ 5 := by rcases hsh with rfl | rfl | rfl <;> exact ⟨rfl, rfl, rfl, by decide⟩
  have hgc := hok.c
  have hst1 := std_new hok hg4.2.2.1 hw1
  have HOK := As.mk hok
  have HG4 := As.mk hg4
  have HOP := As.mk hl
  have HST1 := As.mk hst1
  have HS1 := As.mk hs1
  have HVIR := As.mk (fun w => Virtual_calls g w hok)
  have HKP := As.mk (fun w => Kpt.kept_calls w)
  unfold FmPost at HFM
  unfold Geo.val at HGEO HVIR
  have h0 : IntKind.u64.wrap dead = u64of dead := IntKind.wrap_u64 _
  have h1 : 0 ≤ u64of dead := by unfold u64of; omega
  have h2 : u64of dead < 18446744073709551616 := by unfold u64of; omega
  have h3 : IntKind.u64.wrap g.c = g.c := by rw [IntKind.wrap_u64]; omega
  have h6 : IntKind.u64.wrap (Int.tmod (u64of dead) g.c) = u64of dead % g.c := by
    have hm := Int.emod_lt_of_pos (u64of dead) (show 0 < g.c by omega)
    have hm0 := Int.emod_nonneg (u64of dead) (show g.c ≠ 0 by omega)
    rw [Int.tmod_eq_emod_of_nonneg h1, IntKind.wrap_u64]
    omega
  obtain ⟨m, hm⟩ : ∃ m : Nat, u64of dead % g.c = (m : Int) := ⟨(u64of dead % g.c).toNat, by have hm0 := Int.emod_nonneg (u64of dead) (show g.c ≠ 0 by omega); omega⟩
  have hmc : (m : Int) < g.c := by rw [← hm]; exact Int.emod_lt_of_pos _ (by omega)
  rw [hm] at h6
  have h7 : IntKind.i64.wrap (m : Int) = (m : Int) := by rw [IntKind.wrap_i64]; omega
  have HMC := As.mk hmc
  have hgz : (g.c == 0) = false := beq_eq_false_iff_ne.2 (by omega)
  generalize u64of dead = ud at *
  have d1 : decide ((30 : Int) < (n : Int)) = false := decide_eq_false (by omega)
  have hg16 : g.b - 5 = 11 := by rw [hg4.1]; decide
  rw [hg16] at HVIR
  have HF0 := As.mk ((Fr.refl None_ w).alloc (.cells #[.int .i64 chips, .int .i64 dead, .slice A n c, .bool again] 64))
  have hm4 : m ≤ 4 := by omega
  clear hl ef hg hsh hok hw1 hs1 hst1 hg4 hmc hg16
  have hbx := heap_alloc_new w (.cells #[.int .i64 chips, .int .i64 dead, .slice A n c, .bool again] 64)
  have hfd1 := field_set1
  have hfd2 := field_set2
  have hfd3 := field_set3
  go_enter Tryz.func5, Tryz.ntmps5
  go_upto_region 1 with fail
  generalize w.alloc (.cells #[.int .i64 chips, .int .i64 dead, .slice A n c, .bool again] 64) = w0 at *
  have x0 := cell_is (i := 0) hbx rfl
  have x1 := cell_is (i := 1) hbx rfl
  have x2 := cell_is (i := 2) hbx rfl
  have x3 := cell_is (i := 3) hbx rfl
  clear hbx
  go_quiet (fail)
  have HF0d := As.mk (HF0.out.drewN nq)
  generalize w0.drewN nq = w0d at *
  clear x0 x1 x2 x3
  go_wp2_with fail
  ((with_reducible refine (HKP.out _).mono ?_); rintro e w1 ⟨rfl, hf1⟩)
  have HF1 := As.mk (HF0d.out.after hf1 (fun _ _ h => h))
  clear hf1
  go_wp2_with fail
  ((with_reducible refine (HGEO.out _).mono ?_); rintro e w2 ⟨rfl, hf2⟩)
  have HF2 := As.mk (HF1.out.after hf2 (fun _ _ h => h))
  have HGB := As.mk (heap_alloc_new w2 (.cells #[.int .i64 g.c, .int .i64 g.b, .int .i64 g.p, .int .i64 g.s] 24))
  have HF3 := As.mk (HF2.out.alloc (.cells #[.int .i64 g.c, .int .i64 g.b, .int .i64 g.p, .int .i64 g.s] 24))
  clear hf2
  go_upto_region 4 with fail
  generalize w2.alloc (.cells #[.int .i64 g.c, .int .i64 g.b, .int .i64 g.p, .int .i64 g.s] 24) = w3 at *
  have HGG := As.mk (show w.heap.size ≤ w2.heap.size from HF2.out.size)
  generalize w2.heap.size = gg at *
  go_wp2_with fail
  ((with_reducible refine (HFM.out _).mono ?_); rintro e w4 ⟨K, rfl, hA4, hlo, hcb, hf4⟩)
  have HA4 := As.mk hA4
  have HF4 := As.mk (HF3.out.after hf4 (fun _ _ h => h))
  have HGB4 := As.mk (hf4.heap HGB.out (fun h => h))
  have HLO := As.mk (show ∀ (σ : Ar), σ.s.g = g → ∀ b, KF K σ b → w.heap.size ≤ b from fun σ hσ b hb => by
    have hz := HF3.out.size
    rcases hb with hb | hb
    · exact Nat.le_trans hz (hlo b ((AF.eq (K := K) (σ := σ1) (σ' := σ) (by rw [hσ, HST1.out.whole.sees.g]) b).1 hb))
    · omega)
  clear hA4 hf4 hlo hcb
  have HH5 := As.mk (held_new (w := w4) (base := w4.heap.size) (Nat.le_refl _))
  have HHB := As.mk (show w.heap.size ≤ w4.heap.size ∧ gg < w4.heap.size from ⟨HF4.out.size, (Array.getElem?_eq_some_iff.1 HGB4.out).1⟩)
  have HF5 := As.mk (HF4.out.alloc (.cells #[.slice none 0 0, .slice none 0 0, .slice none 0 0, .slice none 0 0, .slice none 0 0, .int .i64 (-1)] HT))
  have HA5 := As.mk (HA4.out.none_ ((Fr.refl None_ w4).alloc (.cells #[.slice none 0 0, .slice none 0 0, .slice none 0 0, .slice none 0 0, .slice none 0 0, .int .i64 (-1)] HT)))
  have HGB5 := As.mk (((Fr.refl None_ w4).alloc (.cells #[.slice none 0 0, .slice none 0 0, .slice none 0 0, .slice none 0 0, .slice none 0 0, .int .i64 (-1)] HT)).heap HGB4.out (fun h => h))
  go_upto_region 9 with fail
  generalize w4.alloc (.cells #[.slice none 0 0, .slice none 0 0, .slice none 0 0, .slice none 0 0, .slice none 0 0, .int .i64 (-1)] HT) = w5 at *
  generalize w4.heap.size = hb at *
  go_wp2_with fail
  go_loopw [12] (fun v12 w' => ∃ (i : Int) (σ : Ar) (V : View) (H : Held) (Y : HLay), v12 = .int .i64 i ∧ 0 ≤ i ∧ i ≤ n ∧ As (Std σ g V H 1 ∧ σ.s.Safe (100000000 + 20 * (30 - i).toNat) ∧ ArAt w' σ K ∧ HeldAt w' hb H Y ∧ Y.hb = hb ∧ Fr None_ w w' ∧ w'.heap[gg]? = some (.cells #[.int .i64 g.c, .int .i64 g.b, .int .i64 g.p, .int .i64 g.s] 24 (0, 0)))) (fun v12 _ => n - (intOf v12).toNat)
  case atStart => exact ⟨0, σ1, _, _, _, rfl, by omega, by omega, ⟨HST1.out, HS1.out.le (by decide), HA5.out, HH5.out, rfl, HF5.out, HGB5.out⟩⟩
  case round =>
    obtain ⟨i, σ, V, H, Y, rfl, hi0, hin, HX⟩ := hrel
    rename World => w6
    by_cases hi : i < (n : Int)
    · have hops := HOP.out.none_ HX.out.2.2.2.2.2.1
      obtain ⟨ad, ax, kd, sg, cc, rfl, hax, a0, a1, a2, c0, c1⟩ := hops.one hi0 hi
      have hsz := Nat.lt_of_le_of_lt HX.out.2.2.2.1.low (Array.getElem?_eq_some_iff.1 HX.out.2.2.2.1.main).1
      have hact := act_any (n0 := 100000000 + 20 * (30 - (i + 1)).toNat) K hb Y kd sg cc w6 HX.out.1 HX.out.2.2.1 HX.out.2.2.2.1 (by omega) c0 c1 (HX.out.2.1.le (by omega))
      unfold ActAny at hact
      rw [HX.out.2.2.2.2.1] at hact
      have HACT := As.mk hact
      clear hact hops hsz
      go_wp2_with fail
      ((with_reducible refine (HACT.out).mono ?_); rintro e w7 ⟨rfl, σ', V', H', Y', hst, hsf, hA, hH, hY, hf⟩)
      have HN := As.mk (And.intro hst (And.intro hsf (And.intro hA (And.intro hH (And.intro hY (And.intro (show Fr None_ w w7 from fr_out HX.out.2.2.2.2.2.1 hf (fun b hb' => by
        rcases hb' with hb' | hb'
        · exact HLO.out σ HX.out.1.whole.sees.g b (.inl hb')
        · have := HHB.out.1; omega)) (show w7.heap[gg]? = some (.cells #[.int .i64 g.c, .int .i64 g.b, .int .i64 g.p, .int .i64 g.s] 24 (0, 0)) from hf.heap HX.out.2.2.2.2.2.2 (fun h9 => by
          rcases h9 with h9 | h9
          · exact geo_kf HX.out.2.2.1 HX.out.2.2.2.2.2.2 (.inl h9)
          · have := HHB.out.2; omega))))))))
      clear hst hsf hA hH hY hf
      go_wp2_with fail
      exact ⟨⟨i + 1, σ', V', H', Y', rfl, by omega, by omega, HN⟩, by simp [intOf]; omega⟩
    · have HST := As.mk HX.out.1
      have HSF := As.mk (show σ.s.Safe 100000000 from HX.out.2.1.le (by omega))
      have HA6 := As.mk HX.out.2.2.1
      have HH6 := As.mk HX.out.2.2.2.1
      have HY6 := As.mk HX.out.2.2.2.2.1
      have HF6 := As.mk HX.out.2.2.2.2.2.1
      have HGB6 := As.mk HX.out.2.2.2.2.2.2
      have HTK := As.mk (TckG.Tick_full σ K w6 HA6.out HST.out.whole.lost (by rw [HST.out.whole.set]; rfl))
      clear HX
      go_wp2_with fail
      ((with_reducible refine (HTK.out).mono ?_); rintro e w7 ⟨rfl, hf7⟩)
      have HA7 := As.mk (HA6.out.none_ hf7)
      have HH7 := As.mk (HH6.out.none_ hf7)
      have HF7 := As.mk (HF6.out.after hf7 (fun _ _ h => h))
      have HGB7 := As.mk (hf7.heap HGB6.out (fun h => h))
      clear hf7 HTK HA6 HH6 HF6 HGB6
      have z0 := cell_is (i := 0) HGB7.out rfl
      have hkl := Kill_calls K.p σ.s K.L m w7 HA7.out.nand (by unfold St.n; rw [HST.out.whole.sees.g]; have := HMC.out; omega)
      have HKL := As.mk hkl
      clear hkl
      go_wp2_with fail
      ((with_reducible refine (HKL.out).mono ?_); rintro e w8 ⟨rfl, hN8, hf8⟩)
      have HA8 := As.mk (show ArAt w8 { σ with s := σ.s.kill m } K from HA7.out.turn hN8 rfl hf8)
      have hfa8 : Fr (AF K σ) w7 w8 := hf8.mono (fun b _ h => .inl h)
      have HH8 := As.mk (HH7.out.af HA7.out hfa8)
      have HF8 := As.mk (fr_out HF7.out hfa8 (fun b hb' => HLO.out σ HST.out.whole.sees.g b (.inl hb')))
      have HGB8 := As.mk (hfa8.heap HGB7.out (fun h9 => geo_kf HA7.out HGB7.out (.inl h9)))
      clear hN8 hf8 hfa8 z0 HKL
      obtain ⟨τ, hth, hrd, hreb, hsf⟩ := std_kill HST.out HMC.out
      have hrc : Calls Tryz.prog 22 #[.pointer (some ⟨K.x, 0, none⟩), .int .i64 (m : Int), .int .i64 6, .int .i64 0] w8 (RdPost { σ with s := σ.s.kill m } K m 6 0 w8) := Read_calls { σ with s := σ.s.kill m } K m 6 0 w8 HA8.out hth (by show (m : Int) < σ.s.g.c; rw [HST.out.whole.sees.g]; exact HMC.out) (by show ((6 : Nat) : Int) < σ.s.g.b - 5; rw [HST.out.whole.sees.g, HG4.out.1]; decide) (by show 0 < σ.s.np; unfold St.np; rw [HST.out.whole.sees.g, HG4.out.2.1]; decide) 99999999 (safe_kill HSF.out m)
      unfold RdPost at hrc
      rw [hrd] at hrc
      have HRD := As.mk hrc
      have HREB := As.mk hreb
      have HSF9 := As.mk (hsf 99999999 HSF.out)
      clear hth hrd hrc hreb hsf
      go_wp2_with fail
      ((with_reducible refine (HRD.out).mono ?_); rintro e w9 ⟨Ax, nx, kx, Bx, jx, ix, rfl, hA9, hf9, _, _⟩)
      have HA9 := As.mk hA9
      have HH9 := As.mk (HH8.out.af HA8.out hf9)
      have HF9 := As.mk (fr_out HF8.out hf9 (fun b hb' => HLO.out _ (show σ.s.g = g from HST.out.whole.sees.g) b (.inl hb')))
      have HGB9 := As.mk (hf9.heap HGB8.out (fun h9 => geo_kf HA8.out HGB8.out (.inl h9)))
      have hse := ArrB.Set_calls τ K w9 hA9
      have HSE := As.mk (show Calls Tryz.prog 13 #[.pointer (some ⟨K.x, 0, none⟩)] w9 fun e w' => ∃ s v1 sp dn, e = .returned (.agg #[.int .u32 s, v1, .int .i64 sp, .int .i64 (m : Int), .int .i64 dn]) ∧ Fr None_ w9 w' from hse.mono (fun e w' h => by
        obtain ⟨v, rfl, ⟨v1, rfl, _⟩, hf⟩ := h
        exact ⟨_, v1, _, _, by rw [HREB.out.set], hf⟩))
      clear hA9 hf9 hse HRD
      go_wp2_with fail
      ((with_reducible refine (HSE.out).mono ?_); rintro e wa ⟨s1, v1, sp1, dn1, rfl, hfa⟩)
      have HAa := As.mk (HA9.out.none_ hfa)
      have HHa := As.mk (HH9.out.none_ hfa)
      have HFa := As.mk (HF9.out.after hfa (fun _ _ h => h))
      have HGBa := As.mk (hfa.heap HGB9.out (fun h => h))
      clear hfa HSE
      go_wp2_with fail
      go_loopw [13, 14, 19] (fun v13 v14 v19 w' => ∃ (b13 : Bool) (z14 : Int) (i : Int) (τ : Ar) (K' : ALay), v13 = .bool b13 ∧ v14 = .int .i64 z14 ∧ v19 = .int .i64 i ∧ 1 ≤ i ∧ i ≤ 11 ∧ As (TS g H m i.toNat τ ∧ τ.s.Safe (20 * (50000 * (12 - i).toNat)) ∧ ArAt w' τ K' ∧ KSame K K' ∧ HeldAt w' hb H Y ∧ Fr None_ w w' ∧ w'.heap[gg]? = some (.cells #[.int .i64 g.c, .int .i64 g.b, .int .i64 g.p, .int .i64 g.s] 24 (0, 0)))) (fun _ _ v19 _ => 11 - (intOf v19).toNat)
      case atStart => exact ⟨_, _, 1, τ, K, rfl, rfl, rfl, by omega, by omega, ⟨⟨_, .inl ⟨rfl, HREB.out⟩⟩, HSF9.out.le (by decide), HAa.out, KSame.refl K, HHa.out, HFa.out, HGBa.out⟩⟩
      case round =>
        clear HREB HSF9 HAa HHa HFa HGBa
        obtain ⟨b13, z14, j, τ, K', rfl, rfl, rfl, hj1, hj11, HX⟩ := hrel
        rename World => wb
        have z0 := cell_is (i := 0) HX.out.2.2.2.2.2.2 rfl
        have z1 := cell_is (i := 1) HX.out.2.2.2.2.2.2 rfl
        have z2 := cell_is (i := 2) HX.out.2.2.2.2.2.2 rfl
        have z3 := cell_is (i := 3) HX.out.2.2.2.2.2.2 rfl
        go_wp2_with fail
        ((with_reducible refine (HVIR.out _).mono ?_); rintro e wc ⟨rfl, hfc⟩)
        have HXc := As.mk (show TS g H m j.toNat τ ∧ τ.s.Safe (20 * (50000 * (12 - j).toNat)) ∧ ArAt wc τ K' ∧ KSame K K' ∧ HeldAt wc hb H Y ∧ Fr None_ w wc ∧ wc.heap[gg]? = some (.cells #[.int .i64 g.c, .int .i64 g.b, .int .i64 g.p, .int .i64 g.s] 24 (0, 0)) from
          ⟨HX.out.1, HX.out.2.1, HX.out.2.2.1.none_ hfc, HX.out.2.2.2.1, HX.out.2.2.2.2.1.none_ hfc, HX.out.2.2.2.2.2.1.after hfc (fun _ _ h => h), hfc.heap HX.out.2.2.2.2.2.2 (fun h => h)⟩)
        clear hfc HX z0 z1 z2 z3
        by_cases hj : j < 11
        · have htk := tick_any K' HXc.out.1 (by rw [HG4.out.1]; decide) (by omega) (by rw [HG4.out.1]; omega) (20 * (50000 * (12 - (j + 1)).toNat) + 400000) (HXc.out.2.1.le (by omega)) wc HXc.out.2.2.1
          unfold TickAny at htk
          rw [HXc.out.2.2.2.1.x] at htk
          obtain ⟨bb, hbb⟩ : ∃ bb : Bool, (j == 10) = bb := ⟨_, rfl⟩
          have hdec : decide (((j.toNat : Nat) : Int) = g.b - 5 - 1) = bb := by
            rw [← hbb, HG4.out.1]
            show decide (((j.toNat : Nat) : Int) = 10) = decide (j = 10)
            rw [decide_eq_decide]
            omega
          rw [hdec] at htk
          have HTK := As.mk htk
          clear htk hdec
          go_wp2_with fail
          ((with_reducible refine (HTK.out).mono ?_); rintro e wd ⟨rfl, τ2, K2, hts, hs2, hA2, hks, hf2⟩)
          have HHd := As.mk (HeldAt.kf HXc.out.2.2.2.2.1 HXc.out.2.2.1 hf2)
          have HFd := As.mk (fr_out HXc.out.2.2.2.2.2.1 hf2 (fun b hb' => HLO.out τ HXc.out.1.rdy.2.1 b ((kf_same HXc.out.2.2.2.1 rfl b).1 hb')))
          have HGBd := As.mk (hf2.heap HXc.out.2.2.2.2.2.2 (fun h9 => geo_kf HXc.out.2.2.1 HXc.out.2.2.2.2.2.2 h9))
          have HKS := As.mk (HXc.out.2.2.2.1.trans hks)
          have HTS := As.mk hts
          have HA2 := As.mk hA2
          have HS2 := As.mk hs2
          clear hts hs2 hA2 hks hf2 HTK
          have z0 := cell_is (i := 0) HGBd.out rfl
          have z1 := cell_is (i := 1) HGBd.out rfl
          have z2 := cell_is (i := 2) HGBd.out rfl
          have z3 := cell_is (i := 3) HGBd.out rfl
          go_wp2_with fail
          ((with_reducible refine (HVIR.out _).mono ?_); rintro e we ⟨rfl, hfe⟩)
          have HHe := As.mk (HHd.out.none_ hfe)
          have HFe := As.mk (HFd.out.after hfe (fun _ _ h => h))
          have HGBe := As.mk (hfe.heap HGBd.out (fun h => h))
          have HAe := As.mk (HA2.out.none_ hfe)
          clear hfe z0 z1 z2 z3
          obtain ⟨hhok, hgg', V', ch, dm, hrdy, hstd⟩ := HTS.out.rdy
          have hal := all_any K2 hb Y hrdy hstd hhok (50000 * (12 - (j + 1)).toNat) HS2.out we HAe.out HHe.out
          unfold AllAny at hal
          rw [HKS.out.x, HY6.out] at hal
          have HAL := As.mk hal
          have HGT := As.mk hgg'
          clear hal hrdy hstd hhok hgg'
          go_wp2_with fail
          ((with_reducible refine (HAL.out).mono ?_); rintro e wf ⟨rfl, k, hs3, hA3, hf3⟩)
          have HN := As.mk (show TS g H m (j + 1).toNat (adv τ2 k) ∧ (adv τ2 k).s.Safe (20 * (50000 * (12 - (j + 1)).toNat)) ∧ ArAt wf (adv τ2 k) K2 ∧ KSame K K2 ∧ HeldAt wf hb H Y ∧ Fr None_ w wf ∧ wf.heap[gg]? = some (.cells #[.int .i64 g.c, .int .i64 g.b, .int .i64 g.p, .int .i64 g.s] 24 (0, 0)) from
            ⟨by rw [show (j + 1).toNat = j.toNat + 1 by omega]; exact HTS.out.adv k, hs3, hA3, HKS.out, HHe.out.af HAe.out hf3, fr_out HFe.out hf3 (fun b hb' => HLO.out τ2 HGT.out b ((kf_same HKS.out rfl b).1 (.inl hb'))), hf3.heap HGBe.out (fun h9 => geo_kf HAe.out HGBe.out (.inl h9))⟩)
          clear hs3 hA3 hf3
          go_wp2_with fail
          exact ⟨⟨_, _, j + 1, adv τ2 k, K2, rfl, rfl, rfl, by omega, by omega, HN⟩, by simp [intOf]; omega⟩
        · have hM : ∃ V, Mad τ g V H m 11 := by
            obtain ⟨V', ⟨h, _⟩ | ⟨_, h, _⟩ | ⟨_, hM⟩⟩ := HXc.out.1
            · omega
            · rw [HG4.out.1] at h; omega
            · exact ⟨V', by rw [show ((j.toNat : Nat) : Int) = 11 by omega] at hM; exact hM⟩
          obtain ⟨VM, hM⟩ := hM
          have HM := As.mk hM
          have HKX := As.mk HXc.out.2.2.2.1.x
          have HS := As.mk (show τ.s.Safe 1000000 from HXc.out.2.1.le (by omega))
          clear hM
          have hgc3 : 3 ≤ g.c ∧ g.c ≤ 16 := HOK.out.c
          have hcI : ((g.c.toNat : Nat) : Int) = g.c := by omega
          cases again
          · have HSE := As.mk (fun (w' : World) (hf : Fr None_ wc w') => show Calls Tryz.prog 13 #[.pointer (some ⟨K.x, 0, none⟩)] w' fun e w'' => ∃ s ad nn c, e = .returned (.agg #[.int .u32 s, .slice (some ad) nn c, .int .i64 255, .int .i64 255, .int .i64 0]) ∧ (m : Int) < ((nn : Nat) : Int) ∧ w''.cell? (ad.add m) = some (.int .i64 g.c) ∧ Fr None_ w' w'' from by
              have h := ArrB.Set_calls τ K' w' (HXc.out.2.2.1.none_ hf)
              rw [HKX.out] at h
              refine h.mono (fun e w'' h => ?_)
              obtain ⟨v, rfl, ⟨v1, rfl, hrow⟩, hf⟩ := h
              obtain ⟨A', nn, c', rfl, hcd, hrd, _⟩ := hrow.rd
              have hrd := hrd.out
              rw [HM.out.set] at hrd ⊢
              have hll : (first g).chips.length = g.c.toNat := by simp [first]
              have hlen := hrd.1
              have hmc := HMC.out
              have hlen2 : ((first g).chips.set m g.c).length = nn := hlen
              rw [List.length_set, hll] at hlen2
              obtain ⟨ad, rfl, hc⟩ := hrd.2.2 (by omega)
              have hcm := hc m (by omega)
              have hx : (((first g).chips.set m g.c).getD m 0) = g.c := by
                rw [List.getD_eq_getElem?_getD, List.getElem?_set_self (by omega)]
                rfl
              refine ⟨_, ad, nn, c', rfl, by omega, ?_, hf⟩
              rw [hcm]
              show some (Value.int .i64 (((first g).chips.set m g.c).getD m 0)) = _
              rw [hx])
            have HFW := As.mk HXc.out.2.2.2.2.2.1
            have z0 := cell_is (i := 0) HXc.out.2.2.2.2.2.2 rfl
            clear HXc HM HS HKX
            go_upto_region 29 with fail
            go_region_with (first
              | ((with_reducible refine (HSE.out _ (Fr.refl None_ wc).drew).mono ?_); rintro e wp ⟨s1, ad, nn, c1, rfl, hmn, x1, hfp⟩; have HFP := As.mk ((Fr.refl None_ wc).drew.after hfp (fun _ _ h => h)); have z9 := HFP.out.cell z0 (fun h => h))
              | ((with_reducible refine (HSE.out _ HFP.out).mono ?_); rintro e wq ⟨s2, ad2, nn2, c2, rfl, hmn2, x2, hfq⟩; have HFQ := As.mk (HFP.out.after hfq (fun _ _ h => h)); have z8 := HFQ.out.cell z0 (fun h => h))
              | fail)
            all_goals
              go_wp2_with fail
              go_ret
              exact ⟨rfl, HFW.out.after HFQ.out (fun _ _ h => h)⟩
          · have z0 := cell_is (i := 0) HXc.out.2.2.2.2.2.2 rfl
            have hkl := Kill_calls K'.p τ.s K'.L g.c.toNat wc HXc.out.2.2.1.nand (by unfold St.n; rw [HM.out.rdy.sees.g]; omega)
            rw [hcI, HXc.out.2.2.2.1.p] at hkl
            have HKL := As.mk hkl
            clear hkl
            go_wp2_with fail
            ((with_reducible refine (HKL.out).mono ?_); rintro e wd ⟨rfl, hNd, hfd⟩)
            rw [← HXc.out.2.2.2.1.p] at hNd hfd
            have HAd := As.mk (show ArAt wd { τ with s := τ.s.kill g.c.toNat } K' from HXc.out.2.2.1.turn hNd rfl hfd)
            have hfad : Fr (AF K' τ) wc wd := hfd.mono (fun b _ h => .inl h)
            have HHd := As.mk (HXc.out.2.2.2.2.1.af HXc.out.2.2.1 hfad)
            have HGT := As.mk HM.out.rdy.sees.g
            have HLO2 := As.mk (show ∀ (σ : Ar), σ.s.g = g → ∀ b, AF K' σ b → w.heap.size ≤ b from fun σ hσ b hb' => HLO.out σ hσ b ((kf_same HXc.out.2.2.2.1 rfl b).1 (.inl hb')))
            have HFd := As.mk (fr_out HXc.out.2.2.2.2.2.1 hfad (fun b hb' => HLO2.out τ HGT.out b hb'))
            clear hNd hfd hfad z0 HKL
            obtain ⟨τ2, hth, hrd, hrdy, hstd, hsp, hdd, hsf⟩ := mad_kill HM.out
            have hrc : Calls Tryz.prog 22 #[.pointer (some ⟨K'.x, 0, none⟩), .int .i64 (m : Int), .int .i64 6, .int .i64 0] wd (RdPost { τ with s := τ.s.kill g.c.toNat } K' m 6 0 wd) := Read_calls { τ with s := τ.s.kill g.c.toNat } K' m 6 0 wd HAd.out hth (by show (m : Int) < τ.s.g.c; rw [HGT.out]; exact HMC.out) (by show ((6 : Nat) : Int) < τ.s.g.b - 5; rw [HGT.out, HG4.out.1]; decide) (by show 0 < τ.s.np; unfold St.np; rw [HGT.out, HG4.out.2.1]; decide) 999999 (safe_kill HS.out _)
            unfold RdPost at hrc
            rw [hrd, HKX.out] at hrc
            have HRD := As.mk hrc
            have HRDY := As.mk hrdy
            have HSTD := As.mk hstd
            have HSD := As.mk (And.intro hsp hdd)
            have HS2 := As.mk (hsf 999999 HS.out)
            have HHOK := As.mk HM.out.hok
            clear hth hrd hrc hrdy hstd hsp hdd hsf
            go_wp2_with fail
            ((with_reducible refine (HRD.out).mono ?_); rintro e we ⟨Ay, ny, ky, By, jy, iy, rfl, hAe, hfe, _, _⟩)
            have HAe := As.mk hAe
            have HHe := As.mk (HHd.out.af HAd.out hfe)
            have HFe := As.mk (fr_out HFd.out hfe (fun b hb' => HLO2.out _ (show τ.s.g = g from HGT.out) b hb'))
            have htn := TckG.Tick_none τ2 K' we hAe HRDY.out.lost (by rw [HSD.out.2]; have := HMC.out; omega) HSD.out.1
            rw [HKX.out] at htn
            have HTN := As.mk htn
            clear hAe hfe htn HRD
            go_wp2_with fail
            ((with_reducible refine (HTN.out).mono ?_); rintro e wf ⟨rfl, hff⟩)
            have HAf := As.mk (HAe.out.none_ hff)
            have HHf := As.mk (HHe.out.none_ hff)
            have HFf := As.mk (HFe.out.after hff (fun _ _ h => h))
            have hal := all_any K' hb Y HRDY.out HSTD.out HHOK.out 20000 (HS2.out.le (by decide)) wf HAf.out HHf.out
            unfold AllAny at hal
            rw [HKX.out, HY6.out] at hal
            have HAL := As.mk hal
            clear hff hal HTN
            go_wp2_with fail
            ((with_reducible refine (HAL.out).mono ?_); rintro e wg ⟨rfl, k, _, hAg, hfg⟩)
            have HFg := As.mk (fr_out HFf.out hfg (fun b hb' => HLO2.out τ2 HRDY.out.sees.g b hb'))
            have hlo := ArrA.Lost_calls (adv τ2 k) K' wg hAg
            rw [HKX.out, (adv_same τ2 k).2.2.1, HRDY.out.lost] at hlo
            have HLS := As.mk hlo
            clear hAg hfg hlo HAL
            go_wp2_with fail
            ((with_reducible refine (HLS.out).mono ?_); rintro e wh ⟨rfl, hfh⟩)
            have HFh := As.mk (HFg.out.after hfh (fun _ _ h => h))
            clear hfh
            go_wp2_with fail
            go_ret
            exact ⟨rfl, HFh.out⟩
end Go.Proofs.YteofgpaceeibpaaGreat.Ticks

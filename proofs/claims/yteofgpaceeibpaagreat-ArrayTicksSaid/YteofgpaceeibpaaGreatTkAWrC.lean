/- stripe.Write over an array: the walk. -/
import Derived.Test.YteofgpaceeibpaaGreatTkAOrdB
namespace Go.Proofs.YteofgpaceeibpaaGreat.AWrC
open Go.RowKit Gab Geom Ref Go.Proofs.YteofgpaceeibpaaGreat.Sum Par Fields Seal AOrd Nand NandA NandD NandE NandH MemA ArrA AWrA AWrB
open Wr (InR)
open Heap (cell_is)
open Str (pcells PPs parOf take_snoc add_next infoSl sealed_calls Of_calls)
set_option linter.unusedVariables false
set_option linter.unusedSimpArgs false

def WrPost (σ : Ar) (K : ALay) (X : Ar × Int × Int) (w : World) (e : Ending) (w' : World) : Prop := e = .returned (.int .i64 (wcode X)) ∧ ArAt w' X.1 K ∧ Fr (AF K σ) w w'
def PrPost (σ : Ar) (K : ALay) (r : Ar × Int) (w : World) (e : Ending) (w' : World) : Prop := e = .returned (.int .i64 r.2) ∧ ArAt w' r.1 K ∧ Fr (AF K σ) w w'
/-- One program of a row. -/
theorem Prog_any (σ τ : Ar) (K : ALay) (seg row m : Int) (D O : Option Addr) (nd cd co : Nat) (data oob : List Int) (w : World)
    (h : ArAt w τ K) (hth : τ.There) (hg : τ.s.g = σ.s.g) (ha : σ.s.g.At seg row) (hm0 : 0 ≤ m) (hm1 : m < σ.s.g.c) (hD : SlO (AF K σ) w (.slice D nd cd) data) (hO : SlO (AF K σ) w (.slice O 64 co) oob) (hl : (data.length : Int) = σ.s.g.s) (hrd : InR 256 data) (hro : InR 256 oob) (n : Nat) (hs : τ.s.Safe (n + 1)) :
    Calls Tryz.prog 141 #[.pointer (some ⟨K.x, 0, none⟩), .int .i64 m, .int .i64 seg, .int .i64 row, .slice D nd cd, .slice O 64 co] w (PrPost σ K (τ.prog m.toNat seg.toNat row.toNat data oob) w) := by
  obtain ⟨D', n', c', e1, h1, h2⟩ := hD.rdO
  injection e1 with e1 e2 e3
  subst e1 e2 e3
  obtain ⟨O', n'', c'', e1, h3, h4⟩ := hO.rdO
  injection e1 with e1 e2 e3
  subst e1 e2 e3
  have hnd : (nd : Int) = σ.s.g.s := by rw [← hl, h2.out.1.1]
  have hseg := ha.seg
  have hrow := ha.row
  obtain ⟨m', rfl⟩ := Int.eq_ofNat_of_zero_le hm0
  obtain ⟨b', rfl⟩ := Int.eq_ofNat_of_zero_le hseg.1
  obtain ⟨q', rfl⟩ := Int.eq_ofNat_of_zero_le hrow.1
  have hAE := ArrD.AF.eq (K := K) hg
  have hnf : ∀ b, NF K.p K.L τ.s.n τ.s.nb b → AF K σ b := fun b hb => (hAE b).1 (.inl hb)
  refine (ArrE.Program_calls τ K m' b' q' D O nd cd 64 co data oob w h hth (by rw [hg]; exact hm1) (by rw [hg]; exact hseg.2) (by unfold St.np; rw [hg]; omega) n hs ⟨h2.out.1, fun ad e hn hx => h2.out.2 ad e hn (hnf _ hx)⟩ ⟨h4.out.1, fun ad e hn hx => h4.out.2 ad e hn (hnf _ hx)⟩ (by rw [hg]; exact hnd) rfl hrd hro).mono ?_
  rintro r w' ⟨hr, hw, hf⟩
  exact ⟨hr, hw, hf.mono (fun b _ hb => (hAE b).1 hb)⟩

set_option maxHeartbeats 8000000 in
set_option maxRecDepth 100000 in
theorem Write_calls (σ : Ar) (K : ALay) (seg row : Int) (A : Option Addr) (n c : Nat) (vs : List Value) (l : List (Head × List Int)) (w : World) (hR : ArAt w σ K) (hth : σ.There) (ha : σ.s.g.At seg row) (hn : (n : Int) = σ.s.g.c - 1) (hC : RdCO (AF K σ) w A (n * 8) vs) (hS : SPs (AF K σ) w vs l)
    (hl : ∀ q ∈ l, (q.2.length : Int) = σ.s.g.s ∧ InR 256 q.2) (m0 : Nat) (hs : σ.s.Safe (m0 + 18)) :
    Calls Tryz.prog 47 #[dev K.x, .int .i64 seg, .int .i64 row, .slice A n c] w (WrPost σ K (σ.progs seg row (fun m => pageOf σ.s.g l seg row m) (orderOf σ.ahead σ.s.g.c)) w) := by
  have hok : σ.s.g.Ok := hR.nand.ok
  have HTH := As.mk hth
  have HLTF := As.mk (show ∀ b, AF K σ b → b < w.heap.size from fun b hb => by
    rcases hb with h | h | h
    · exact hR.nand.lt h
    · rw [h]; exact (Array.getElem?_eq_some_iff.1 hR.main).1
    · obtain ⟨cs, hv, _⟩ := hR.vols
      rw [h]; exact (Array.getElem?_eq_some_iff.1 hv).1)
  have HR := As.mk hR
  have HC := As.mk hC
  have HS := As.mk hS
  have HL := As.mk hl
  have HSF := As.mk hs
  have HLN : As (l.length = n) := ⟨by have h1 := hS.1; have h2 := hC.1.1; omega⟩
  have hc1 := hok.c
  have hb1 := hok.b
  have hp1 := hok.p
  have hs1 := hok.s
  have HG := As.mk (fun w' (hf : Fr None_ w w') => ArrA.Geo_calls σ K w' (hR.none_ hf))
  have HW := As.mk (fun w => Width_calls σ.s.g w hok)
  have HV := As.mk (fun w => Virtual_calls σ.s.g w hok)
  have HPX := As.mk (fun m (hm : 0 ≤ m ∧ m < σ.s.g.c) w => Slot_calls σ.s.g seg row m w hok ha hm.1 (by omega))
  have HAT := As.mk ha
  have hseg := ha.seg
  have hrow := ha.row
  have hb := hseg.2
  have HOK := As.mk hok
  unfold Geo.val at HG HW HV HPX
  have e1 : ((n : Int) != σ.s.g.c - 1) = false := by rw [hn]; simp
  have e2 : decide (seg < 0) = false := decide_eq_false (by omega)
  have e3 : decide (σ.s.g.b - 5 ≤ seg) = false := decide_eq_false (by omega)
  have e4 : decide (row < 0) = false := decide_eq_false (by omega)
  have e5 : decide (σ.s.g.p ≤ row) = false := decide_eq_false (by omega)
  have HNW := As.mk hn
  have hn1 : n ≤ 100 := by omega
  have HORD := As.mk (fun (w' : World) (h : ArAt w' σ K) => Order_calls σ K σ.s.g.c w' h ⟨by omega, by omega⟩)
  unfold dev at *
  clear hR hC hS hl hs ha hok hn hth
  go_enter Tryz.func47, Tryz.ntmps47
  go_wp2_with fail
  ((with_reducible refine (HG.out _ (Fr.refl _ _)).mono ?_); rintro e w1 ⟨rfl, hf1⟩)
  have HF1 := As.mk hf1
  clear hf1
  have hgeo := heap_alloc_new w1 (.cells #[.int .i64 σ.s.g.c, .int .i64 σ.s.g.b, .int .i64 σ.s.g.p, .int .i64 σ.s.g.s] 24)
  have HGEO := As.mk hgeo
  clear hgeo
  go_wp2_with fail
  ((with_reducible refine (HW.out _).mono ?_); rintro e w2 ⟨rfl, hf2⟩)
  have HGE2 := As.mk (hf2.heap HGEO.out (fun h => h))
  have HF2 := As.mk ((HF1.out.alloc _).after hf2 (fun _ _ h => h))
  have c0 := cell_is (i := 0) HGE2.out rfl
  have c1 := cell_is (i := 1) HGE2.out rfl
  have c2 := cell_is (i := 2) HGE2.out rfl
  have c3 := cell_is (i := 3) HGE2.out rfl
  clear hf2
  go_wp2_with fail
  ((with_reducible refine (HV.out _).mono ?_); rintro e w3 ⟨rfl, hf3⟩)
  have HGE3 := As.mk (hf3.heap HGE2.out (fun h => h))
  have HF3 := As.mk (HF2.out.after hf3 (fun _ _ h => h))
  clear c0 c1 c2 c3 hf3
  have c2 := cell_is (i := 2) HGE3.out rfl
  go_wp2_with fail
  clear c2
  have hzg : w.heap.size ≤ w1.heap.size := HF1.out.size
  generalize hg9 : w1.heap.size = g9 at *
  clear hg9
  have HSL : As (∀ i : Nat, i < l.length → (sealedOf l).take (i + 1) = (sealedOf l).take i ++ [((l.getD i noPage).2, sealOf (l.getD i noPage).1 (l.getD i noPage).2 [])]) := ⟨fun i hi => by
    have hi2 : i < (sealedOf l).length := by simp [sealedOf]; exact hi
    rw [take_snoc ([], []) hi2]
    congr 2
    simp [sealedOf, List.getD_eq_getElem?_getD, List.getElem?_eq_getElem hi]⟩
  go_loopw [10, 12, 53] (fun v10 v12 v53 w' => ∃ i : Int, ∃ vs10 : List Value, v53 = .int .i64 i ∧ 0 ≤ i ∧ i ≤ (n : Int) ∧ As (RowV 157 2 w' w.heap.size v10 i.toNat vs10) ∧ As (PPO (AF K σ) w' vs10 ((sealedOf l).take i.toNat)) ∧ As (Fr None_ w w' ∧ w'.heap[g9]? = some (.cells #[.int .i64 σ.s.g.c, .int .i64 σ.s.g.b, .int .i64 σ.s.g.p, .int .i64 σ.s.g.s] 24 (0, 0)))) (fun _ _ v53 _ => n - (intOf v53).toNat)
  case atStart => exact ⟨0, [], rfl, by omega, by omega, ⟨RowV.nil _ _ _ _⟩, ⟨PPO.nil _ _⟩, ⟨HF3.out, HGE3.out⟩⟩
  case round =>
    obtain ⟨i, vs10, rfl, hi0, hi, HX, HPP, HF⟩ := hrel
    obtain ⟨A1, cap1, e1, _, _, _⟩ := HX.out.rd
    subst e1
    by_cases hlt : i < (n : Int)
    · obtain ⟨ad, ax, D, nd, cd, rfl, hax, k0, k1, k2, k3, k4, k5, k6, k7, HD, HDS, HH⟩ := SPs.at_ (HC.out.none_ HF.out.1).1 (HS.out.none_ HF.out.1) i hi0 hlt
      have hil : i.toNat < l.length := by have := HLN.out; omega
      have HLI := As.mk (HL.out (l.getD i.toNat noPage) (by rw [List.getD_eq_getElem?_getD, List.getElem?_eq_getElem hil]; exact List.getElem_mem hil))
      have HTK := As.mk (HSL.out _ hil)
      have c3 := cell_is (i := 3) HF.out.2 rfl
      have hnd : ((nd : Int) != σ.s.g.s) = false := by have h1 := HD.out.2.1.1; have h2 := HLI.out.1; rw [bne_eq_false_iff_eq]; omega
      clear hil
      generalize l.getD i.toNat noPage = q at *
      have hl9 : g9 < wr.heap.size := World.block_lt_of_cell? wr ⟨g9, 3, none⟩ c3
      have HSE := As.mk (fun (w' : World) (hf : Fr None_ wr w') => sealed_calls q.1 D nd cd q.2 w' HH.out (HD.out.2.1.none_ hf) HLI.out.2 HD.out.1)
      unfold pcells at HSE
      go_wp2_with (first | (go_at_call 80; (with_reducible refine (HSE.out _ ?_).mono ?_); (focus repeat (first | exact Fr.refl _ _ | apply Fr.drew | apply Fr.drewN | apply Fr.alloc)); rintro e w4 ⟨v4, rfl, hrow4, hf4⟩; have HR4 := As.mk hrow4; have HF4 := As.mk (((Fr.refl None_ wr).alloc _).after hf4 (fun _ _ h => h)); clear hrow4 hf4; obtain ⟨A4, n4, c4, e4, _, _, _⟩ := HR4.out.rd; subst e4) | (at_builtin; (with_reducible refine appendV w.heap.size rfl _ _ 155 157 (.agg #[.slice none 0 0, .slice none 0 0]) 2 48 rfl Tryz.underlying155 infoPP rfl (by decide) (by decide) (.slice A1 i.toNat cap1) i.toNat vs10 #[.slice D nd cd, .slice A4 n4 c4] _ rfl rfl rfl rfl ?o0 (HX.out.none_ HF4.out) ?o2 ?o3 ?_); (case o0 => intro u hu; simp at hu; rcases hu with rfl | rfl <;> rfl); (case o2 => have := HF.out.1.size; have := HF4.out.size; omega); (case o3 => omega); intro v1 w5 hrow1 hfr1 hat1; have HR1 := As.mk hrow1; have HF5 := As.mk hfr1; clear hrow1 hfr1 hat1; obtain ⟨A5, c5, e5, _, _, _⟩ := HR1.out.rd; subst e5))
      have hn1 : (i + 1).toNat = i.toNat + 1 := by omega
      have hF4 : Fr None_ w w4 := HF.out.1.after HF4.out (fun _ _ h => h)
      have hX4 := HX.out.none_ HF4.out
      have hF5 : Fr None_ w w5 := RowV.grow hX4 hF4 HF5.out
      have hsd : SlO (AF K σ) w4 (.slice D nd cd) q.2 := HDS.out.none_ HF4.out
      have hso : SlO (AF K σ) w4 (.slice A4 n4 c4) (sealOf q.1 q.2 []) := SlO.of_row HLTF.out HR4.out (by have := HF.out.1.size; simp; omega)
      have hpp := ((HPP.out.none_ HF4.out).snoc hsd hso)
      refine ⟨⟨i + 1, vs10 ++ [.slice D nd cd, .slice A4 n4 c4], rfl, by omega, by omega, ⟨?_⟩, ⟨?_⟩, ⟨hF5, ?_⟩⟩, by simp [intOf]; omega⟩
      · rw [hn1]
        exact HR1.out
      · rw [hn1, HTK.out]
        refine hpp.fr HF5.out (fun b cs hb hb2 => ?_)
        exact Go.Proofs.YteofgpaceeibpaaGreat.Str.RowV.ne hX4 hb (by decide) hb2
      · exact HF5.out.heap (HF4.out.heap HF.out.2 (fun h => h)) (Go.Proofs.YteofgpaceeibpaaGreat.Str.RowV.ne hX4 (HF4.out.heap HF.out.2 (fun h => h)) (by decide))
    · have hin : i.toNat = n := by omega
      rw [hin] at HX HPP ⊢
      have hn0 : 0 < n := by have := HNW.out; omega
      have HPA : As (PPO (AF K σ) wr vs10 (sealedOf l)) := ⟨by
        have h := HPP.out
        rw [List.take_of_length_le (by simp [sealedOf]; have := HLN.out; omega)] at h
        exact h⟩
      clear HSL HPP hin
      obtain ⟨ad, ax, D, nd, cd, hA, hax, k0, k1, k2, _, _, _, _, _, _, _, hh0⟩ := SPs.at_ (HC.out.none_ HF.out.1).1 (HS.out.none_ HF.out.1) 0 (Int.le_refl _) (by omega)
      subst hA
      have hax0 : ad = ax := by rw [← hax]; rfl
      subst hax0
      change wr.cell? ⟨ad.block, ad.off + 1, none⟩ = some (.int .u32 (parHead l seg row).epoch) at k1
      change wr.cell? ⟨ad.block, ad.off + 2, none⟩ = some (.int .u32 (parHead l seg row).batch) at k2
      have HPO : As ((parHead l seg row).Ok) := ⟨⟨by show (0 : Int) ≤ 5 ∧ (5 : Int) < 256; decide, hh0.out.epoch, hh0.out.batch, by show 0 ≤ row ∧ row < 65536; omega, by show 0 ≤ seg ∧ seg < 65536; omega, by show (0 : Int) ≤ 0 ∧ (0 : Int) < 4294967296; decide, by show (0 : Int) ≤ 0 ∧ (0 : Int) < 4294967296; decide⟩⟩
      clear k0 hax hh0
      have HPH : As (parHead l seg row = ⟨5, (parHead l seg row).epoch, (parHead l seg row).batch, row, seg, 0, 0⟩) := ⟨rfl⟩
      have HPG : As (parPage σ.s.g l seg row = parOf σ.s.g.s.toNat (parHead l seg row) (sealedOf l)) := ⟨rfl⟩
      have hr1 := HX.out.rd
      have HPC := As.mk (fun (w' : World) (hf : Fr None_ wr w') => Of_calls σ.s.g.s.toNat (parHead l seg row) (sealedOf l) vs10 A1 n cap1 w' HPO.out (by
        obtain ⟨A', c', e, _, h3, _⟩ := hr1
        injection e with e1 e2 e3
        subst e1
        exact h3.out.none_ hf) (HPA.out.1.none_ hf) (fun q hq => by
          obtain ⟨q', hq', rfl⟩ := List.mem_map.1 hq
          have h1 := HL.out q' hq'
          exact ⟨by show q'.2.length = _; omega, sealOf_len _ _ _, h1.2, seal_range (fun x hx => by cases hx)⟩) hn0 (by omega) (by omega))
      unfold Head.vals at HPC
      rw [HPH.out] at HPC
      dsimp only at HPC
      generalize (parHead l seg row).epoch = ep at *
      generalize (parHead l seg row).batch = ba at *
      clear hr1
      have hwr : IntKind.u16.wrap row = row := by rw [IntKind.wrap_u16]; omega
      have hws : IntKind.u16.wrap seg = seg := by rw [IntKind.wrap_u16]; omega
      have hl9 : g9 < wr.heap.size := (Array.getElem?_eq_some_iff.1 HF.out.2).1
      go_upto_region 14 with fail
      go_region_held3 (fun w' => w'.cell? ⟨ad.block, ad.off + 1, none⟩ = some (.int .u32 ep) ∧ w'.cell? ⟨ad.block, ad.off + 2, none⟩ = some (.int .u32 ba)) (go_keep) (fail)
      go_wp2_with fail
      rw [← HPH.out] at HPC
      ((with_reducible refine (HPC.out _ ?_).mono ?_); (focus repeat (first | exact Fr.refl _ _ | apply Fr.drew | apply Fr.drewN | apply Fr.alloc)); rintro e w6 ⟨u1, u2, rfl, hrow1, hrow2, hf6⟩)
      rw [← HPG.out] at hrow1 hrow2
      have HRW1 := As.mk hrow1
      have HRW2 := As.mk hrow2
      have HF6 := As.mk ((((Fr.refl None_ wr).alloc _).drew).after hf6 (fun _ _ h => h))
      clear hrow1 hrow2 hf6
      obtain ⟨U1, n1, c1, e1', _, _, _⟩ := HRW1.out.rd
      obtain ⟨U2, n2, c2, e2', _, _, _⟩ := HRW2.out.rd
      subst e1' e2'
      have HGE6 := As.mk (HF6.out.heap HF.out.2 (fun h => h))
      have c0 := cell_is (i := 0) HGE6.out rfl
      have hl96 : g9 < w6.heap.size := (Array.getElem?_eq_some_iff.1 HGE6.out).1
      clear k1 k2 hl9
      have HR6 := As.mk ((HR.out.none_ HF.out.1).none_ HF6.out)
      go_wp2_with fail
      ((with_reducible refine (HORD.out _ ?k5).mono ?_); (case k5 => exact HR6.out.none_ ((Fr.refl None_ w6).alloc _)); rintro e w7 ⟨vo, rfl, hrowo, hf7⟩)
      have HF7 := As.mk (((HF.out.1.after HF6.out (fun _ _ h => h)).alloc _).after hf7 (fun _ _ h => h))
      have HZ6 : As (w.heap.size ≤ w6.heap.size) := ⟨(HF.out.1.after HF6.out (fun _ _ h => h)).size⟩
      have HGL := As.mk (hf7.heap (heap_alloc_new w6 (.cells #[.slice U1 n1 c1, .slice U2 n2 c2] 157)) (fun h => h))
      have HGE7 := As.mk (hf7.heap (at_old (.cells #[.slice U1 n1 c1, .slice U2 n2 c2] 157) HGE6.out) (fun h => h))
      have HR7 := As.mk (HR.out.none_ HF7.out)
      have HF67 := As.mk (((Fr.refl None_ w6).alloc (.cells #[.slice U1 n1 c1, .slice U2 n2 c2] 157)).after hf7 (fun _ _ h => h))
      have HU1 : As (SlO (AF K σ) w7 (.slice U1 n1 c1) (parPage σ.s.g l seg row).1) := ⟨SlO.of_row HLTF.out ((HRW1.out.none_ HF67.out)) (by have := HF.out.1.size; simp; omega)⟩
      have HU2 : As (SlO (AF K σ) w7 (.slice U2 n2 c2) (parPage σ.s.g l seg row).2) := ⟨SlO.of_row HLTF.out ((HRW2.out.none_ HF67.out)) (by have := HF.out.1.size; simp; omega)⟩
      have hn64 : n2 = 64 := by
        obtain ⟨A', n', c', e, _, h2⟩ := HU2.out.rdO
        injection e with e1 e2 e3
        rw [e2, ← h2.out.1.1]
        exact sealOf_len _ _ _
      subst hn64
      have HLP : As (((parPage σ.s.g l seg row).1.length : Int) = σ.s.g.s ∧ InR 256 (parPage σ.s.g l seg row).1 ∧ InR 256 (parPage σ.s.g l seg row).2) := ⟨by
        have hx : (parPage σ.s.g l seg row).1.length = σ.s.g.s.toNat := xorAll_len _ _ _ (by simp) (fun x hx => by
          obtain ⟨q, hq, rfl⟩ := List.mem_map.1 hx
          obtain ⟨q', hq', rfl⟩ := List.mem_map.1 hq
          have h1 := (HL.out q' hq').1
          show q'.2.length = _
          omega)
        exact ⟨by rw [hx]; omega, Go.Proofs.YteofgpaceeibpaaGreat.Str.xor_range _ _, seal_range (Go.Proofs.YteofgpaceeibpaaGreat.Str.xor_range _ _)⟩⟩
      have HA7 : As (RdCO (AF K σ) w7 A1 (n * 2) vs10) := ⟨RdCO.of_rowV (c := cap1) HLTF.out ((HX.out.none_ HF6.out).none_ HF67.out) (Nat.le_refl _)⟩
      have HP7 : As (PPO (AF K σ) w7 vs10 (sealedOf l)) := ⟨(HPA.out.none_ HF6.out).none_ HF67.out⟩
      have HOG : As (¬ AF K σ g9 ∧ ¬ AF K σ w6.heap.size) := ⟨fun h => absurd (HLTF.out _ h) (by omega), fun h => absurd (HLTF.out _ h) (by have := HZ6.out; omega)⟩
      have HZA : As (w.heap.size ≤ (w6.alloc (.cells #[.slice U1 n1 c1, .slice U2 64 c2] 157)).heap.size) := ⟨by have := HZ6.out; simp; omega⟩
      obtain ⟨Ao, no, co, eo, hmo, hdo, hao⟩ := hrowo.rd
      have HRO : As (Rd .i64 w7 Ao no (orderOf σ.ahead σ.s.g.c) ∧ ∀ ad, Ao = some ad → 0 < no → ¬ AF K σ ad.block) := ⟨hdo.out, fun ad' e _ h => absurd (HLTF.out _ h) (by have h1 := HZA.out; have h2 := (hrowo.blk _ (hao.out ad' e)).1; omega)⟩
      have HNO := As.mk hdo.out.1
      have HMO := As.mk (orderOf_len σ.ahead σ.s.g.c)
      have hno : no ≤ 17 := by have h1 := HNO.out; have h2 := HMO.out; omega
      have HPGE : As (∀ m, (pageOf σ.s.g l seg row m) = if σ.s.g.isData seg row m = true then (sealedOf l).getD (σ.s.g.slot seg row m).toNat ([], []) else parPage σ.s.g l seg row) := ⟨fun _ => rfl⟩
      have HMEM := As.mk (fun m hm => orderOf_mem (first := σ.ahead) (c := σ.s.g.c) (by omega) m hm)
      subst eo
      generalize hord : orderOf σ.ahead σ.s.g.c = ms at *
      have HOR := As.mk hord
      clear hf7 hrowo hord hdo
      generalize hgl : w6.heap.size = gl at *
      clear hgl HRW1 HRW2
      clear HF67 HF6
      go_wp2_with fail
      clear c0 hl96
      go_loopw [15, 17, 18, 19, 20, 21, 92] (fun v15 v17 v18 v19 v20 v21 v92 w' => ∃ i : Int, v92 = .int .i64 i ∧ 0 ≤ i ∧ i ≤ (no : Int) ∧ (∃ (k : Int) (τ : Ar), v15 = .int .i64 k ∧ As (σ.progs seg row (fun m => pageOf σ.s.g l seg row m) (ms.take i.toNat) = (τ, k, 0)) ∧ 0 ≤ k ∧ k ≤ i ∧ As (ArAt w' τ K ∧ τ.There ∧ τ.s.g = σ.s.g ∧ τ.s.Safe (m0 + (18 - i.toNat)))) ∧ As (Fr (AF K σ) w7 w')) (fun _ _ _ _ _ _ v92 _ => no - (intOf v92).toNat)
      case atStart => exact ⟨0, rfl, by omega, by omega, ⟨0, σ, rfl, ⟨rfl⟩, Int.le_refl _, Int.le_refl _, ⟨HR7.out, HTH.out, rfl, HSF.out⟩⟩, ⟨Fr.refl _ _⟩⟩
      case round =>
        obtain ⟨i, rfl, hi0, hi, ⟨k, τ, rfl, HK, hk0, hk1, HX2⟩, HST⟩ := hrel
        by_cases hlt : i < (no : Int)
        · obtain ⟨ado, eo, hco⟩ := (HRO.out.1.fr HST.out HRO.out.2).at_ i hi0 hlt
          subst eo
          have hil : i.toNat < ms.length := by have := HNO.out; omega
          have HTK : As (ms.take (i + 1).toNat = ms.take i.toNat ++ [ms.getD i.toNat 0]) := ⟨by rw [show (i + 1).toNat = i.toNat + 1 by omega]; exact take_snoc 0 hil⟩
          have hm := HMEM.out (ms.getD i.toNat 0) (by rw [List.getD_eq_getElem?_getD, List.getElem?_eq_getElem hil]; exact List.getElem_mem hil)
          generalize ms.getD i.toNat 0 = m at *
          obtain ⟨hm0, hm1⟩ := hm
          clear hil
          have hi18 : i.toNat < 18 := by omega
          have HGLr := As.mk (HST.out.heap HGL.out HOG.out.2)
          have HGEr := As.mk (HST.out.heap HGE7.out HOG.out.1)
          have u0 := cell_is (i := 0) HGLr.out rfl
          have u1 := cell_is (i := 1) HGLr.out rfl
          have g0 := cell_is (i := 0) HGEr.out rfl
          have g1 := cell_is (i := 1) HGEr.out rfl
          have g2 := cell_is (i := 2) HGEr.out rfl
          have g3 := cell_is (i := 3) HGEr.out rfl
          have lgl : gl < wr.heap.size := (Array.getElem?_eq_some_iff.1 HGLr.out).1
          have lge : g9 < wr.heap.size := (Array.getElem?_eq_some_iff.1 HGEr.out).1
          have HPM := As.mk (HPGE.out m)
          have HPS := As.mk (HPX.out m ⟨hm0, hm1⟩)
          have HSFI := As.mk (show τ.s.Safe (m0 + (18 - (i.toNat + 1)) + 1) from by rw [show m0 + (18 - (i.toNat + 1)) + 1 = m0 + (18 - i.toNat) by omega]; exact HX2.out.2.2.2)
          obtain ⟨r, hr⟩ : ∃ r, τ.prog m.toNat seg.toNat row.toNat (pageOf σ.s.g l seg row m).1 (pageOf σ.s.g l seg row m).2 = r := ⟨_, rfl⟩
          have HR0 := As.mk hr
          have HN := As.mk (show σ.progs seg row (fun m => pageOf σ.s.g l seg row m) (ms.take (i + 1).toNat) = pstep seg row (fun m => pageOf σ.s.g l seg row m) (τ, k, 0) m from by rw [HTK.out, progs_snoc, HK.out])
          have HN0 := As.mk (show r.2 = 0 → σ.progs seg row (fun m => pageOf σ.s.g l seg row m) (ms.take (i + 1).toNat) = (r.1, k, 0) from fun h => by
            rw [HN.out]
            unfold pstep
            dsimp only
            rw [hr, if_pos rfl, if_pos h])
          have HN71 := As.mk (show r.2 = 71 → σ.progs seg row (fun m => pageOf σ.s.g l seg row m) (ms.take (i + 1).toNat) = (r.1, k + 1, 0) from fun h => by
            rw [HN.out]
            unfold pstep
            dsimp only
            rw [hr, if_pos rfl, if_neg (by rw [h]; decide), if_pos h])
          have HNX := As.mk (show r.2 ≠ 0 → r.2 ≠ 71 → ∀ (e : Ending) (w' : World), e = .returned (.int .i64 r.2) → ArAt w' r.1 K → Fr (AF K σ) w7 w' → WrPost σ K (σ.progs seg row (fun m => pageOf σ.s.g l seg row m) (orderOf σ.ahead σ.s.g.c)) w e w' from fun h1 h2 e w' k1 k2 k3 => by
            have h3 : σ.progs seg row (fun m => pageOf σ.s.g l seg row m) (ms.take (i + 1).toNat) = (r.1, k, r.2) := by
              rw [HN.out]
              unfold pstep
              dsimp only
              rw [hr, if_pos rfl, if_neg h1, if_neg h2]
            have h4 : σ.progs seg row (fun m => pageOf σ.s.g l seg row m) (orderOf σ.ahead σ.s.g.c) = (r.1, k, r.2) := by
              rw [HOR.out, progs_stuck σ seg row _ ms (i + 1).toNat (by rw [h3]; exact h1), h3]
            rw [h4]
            refine ⟨?_, k2, (HF7.out.mono (T := AF K σ) (fun _ _ h => h.elim)).after k3 (fun _ _ h => h)⟩
            rw [k1]
            unfold wcode
            dsimp only
            rw [if_pos h1])
          have HRK := As.mk (show r.1.There ∧ r.1.s.g = σ.s.g ∧ r.1.s.Safe (m0 + (18 - (i + 1).toNat)) from by
            have hk := prog_keeps (σ := τ) (by rw [HX2.out.2.2.1]; exact HOK.out) HX2.out.1.ok.set m.toNat seg.toNat row.toNat (pageOf σ.s.g l seg row m).1 (pageOf σ.s.g l seg row m).2 (by rw [HX2.out.2.2.1]; omega)
            rw [hr] at hk
            refine ⟨hk.2.1 HX2.out.2.1, hk.1.trans HX2.out.2.2.1, ?_⟩
            rw [show (i + 1).toNat = i.toNat + 1 by omega]
            exact hk.2.2 _ HSFI.out)
          clear hr HN
          by_cases hd : σ.s.g.isData seg row m = true
          · rw [hd] at HPS HPM
            have hsr := slot_range HOK.out hm0 hm1 hd
            have HPM2 : As (pageOf σ.s.g l seg row m = (sealedOf l).getD (σ.s.g.slot seg row m).toNat ([], [])) := ⟨by rw [HPM.out]; rfl⟩
            clear hd HPM
            generalize σ.s.g.slot seg row m = sl at *
            obtain ⟨hs0, hs1⟩ := hsr
            have hsn : sl < (n : Int) := by have := HNW.out; omega
            obtain ⟨ad1, ax, D, nd, cd, O, no', co', eA1, hax, a1, a2, HD, HO⟩ := PPO.at_ (HA7.out.step HST.out).1 (HP7.out.step HST.out) sl hs0 hsn
            have hsl : sl.toNat < l.length := by have := HLN.out; omega
            have HQ := As.mk (sealed_get hsl)
            have HQL := As.mk (HL.out (l.getD sl.toNat noPage) (by rw [List.getD_eq_getElem?_getD, List.getElem?_eq_getElem hsl]; exact List.getElem_mem hsl))
            rw [HQ.out] at HD HO HPM2
            have hno64 : no' = 64 := by
              obtain ⟨A', n', c', e, _, h2⟩ := HO.out.rdO
              injection e with e1 e2 e3
              rw [e2, ← h2.out.1.1]
              exact sealOf_len _ _ _
            subst hno64
            subst eA1
            clear hsl
            have HPA1 := As.mk (show ∀ (e : Int), r.2 = e → ∀ (w8 : World), Fr None_ wr w8 → Calls Tryz.prog 141 #[.pointer (some ⟨K.x, 0, none⟩), .int .i64 m, .int .i64 seg, .int .i64 row, .slice D nd cd, .slice O 64 co'] w8 (fun x w' => x = .returned (.int .i64 e) ∧ ArAt w' r.1 K ∧ Fr (AF K σ) w8 w') from fun e he w8 hf => by
              have h1 := Prog_any σ τ K seg row m D O nd cd co' _ _ w8 (HX2.out.1.none_ hf) HX2.out.2.1 HX2.out.2.2.1 HAT.out hm0 hm1 (HD.out.none_ hf) (HO.out.none_ hf) HQL.out.1 HQL.out.2 (seal_range (fun x hx => by cases hx)) _ HSFI.out
              have h2 := HR0.out
              rw [HPM2.out] at h2
              dsimp only at h1 h2
              rw [h2] at h1
              unfold PrPost at h1
              rw [he] at h1
              exact h1)
            by_cases h0 : r.2 = 0
            · have HPE := As.mk (HPA1.out 0 h0)
              have HKG := As.mk (HN0.out h0)
              clear h0
              go_wp2_with (first | (go_at_call 83; (with_reducible refine (HPS.out _).mono ?_); rintro e w8 ⟨rfl, hf8⟩; have hgx := hf8.heap (heap_alloc_new wr _) (fun h => h); have x0 := cell_is (i := 0) hgx rfl; have x1 := cell_is (i := 1) hgx rfl; have y0 := free_of (i := 0) hgx; have y1 := free_of (i := 1) hgx; have HF8 := As.mk (((Fr.refl None_ wr).alloc _).after hf8 (fun _ _ h => h)); have HF9 := As.mk ((HF8.out.setCell (p := ⟨wr.heap.size, 0, none⟩) (fun h => absurd h (Nat.lt_irrefl _)) (.slice D nd cd)).setCell (p := ⟨wr.heap.size, 1, none⟩) (fun h => absurd h (Nat.lt_irrefl _)) (.slice O 64 co')); have b1 := HF8.out.cell a1 (fun h => h); have b2 := HF8.out.cell a2 (fun h => h); clear hgx hf8) | (go_at_call 141; (with_reducible refine (HPE.out _ HF9.out).mono ?_); rintro e w9 ⟨rfl, hR9, hf9⟩; have HR9 := As.mk hR9; have HF10 := As.mk ((HST.out.after HF9.out (fun _ _ h => h.elim)).after hf9 (fun _ _ h => h)); clear hR9 hf9))
              exact ⟨⟨i + 1, rfl, by omega, by omega, ⟨k, r.1, rfl, HKG, hk0, by omega, ⟨HR9.out, HRK.out⟩⟩, HF10⟩, by simp [intOf]; omega⟩
            · by_cases h71 : r.2 = 71
              · have HPE := As.mk (HPA1.out 71 h71)
                have HKG := As.mk (HN71.out h71)
                clear h0 h71
                go_wp2_with (first | (go_at_call 83; (with_reducible refine (HPS.out _).mono ?_); rintro e w8 ⟨rfl, hf8⟩; have hgx := hf8.heap (heap_alloc_new wr _) (fun h => h); have x0 := cell_is (i := 0) hgx rfl; have x1 := cell_is (i := 1) hgx rfl; have y0 := free_of (i := 0) hgx; have y1 := free_of (i := 1) hgx; have HF8 := As.mk (((Fr.refl None_ wr).alloc _).after hf8 (fun _ _ h => h)); have HF9 := As.mk ((HF8.out.setCell (p := ⟨wr.heap.size, 0, none⟩) (fun h => absurd h (Nat.lt_irrefl _)) (.slice D nd cd)).setCell (p := ⟨wr.heap.size, 1, none⟩) (fun h => absurd h (Nat.lt_irrefl _)) (.slice O 64 co')); have b1 := HF8.out.cell a1 (fun h => h); have b2 := HF8.out.cell a2 (fun h => h); clear hgx hf8) | (go_at_call 141; (with_reducible refine (HPE.out _ HF9.out).mono ?_); rintro e w9 ⟨rfl, hR9, hf9⟩; have HR9 := As.mk hR9; have HF10 := As.mk ((HST.out.after HF9.out (fun _ _ h => h.elim)).after hf9 (fun _ _ h => h)); clear hR9 hf9))
                exact ⟨⟨i + 1, rfl, by omega, by omega, ⟨k + 1, r.1, rfl, HKG, by omega, by omega, ⟨HR9.out, HRK.out⟩⟩, HF10⟩, by simp [intOf]; omega⟩
              · have HPE := As.mk (HPA1.out r.2 rfl)
                have HBE := As.mk (HNX.out h0 h71)
                have d0 : (r.2 == 0) = false := beq_eq_false_iff_ne.2 h0
                have d71 : (r.2 == 71) = false := beq_eq_false_iff_ne.2 h71
                generalize r.2 = ev at *
                clear h0 h71
                go_wp2_with (first | (go_at_call 83; (with_reducible refine (HPS.out _).mono ?_); rintro e w8 ⟨rfl, hf8⟩; have hgx := hf8.heap (heap_alloc_new wr _) (fun h => h); have x0 := cell_is (i := 0) hgx rfl; have x1 := cell_is (i := 1) hgx rfl; have y0 := free_of (i := 0) hgx; have y1 := free_of (i := 1) hgx; have HF8 := As.mk (((Fr.refl None_ wr).alloc _).after hf8 (fun _ _ h => h)); have HF9 := As.mk ((HF8.out.setCell (p := ⟨wr.heap.size, 0, none⟩) (fun h => absurd h (Nat.lt_irrefl _)) (.slice D nd cd)).setCell (p := ⟨wr.heap.size, 1, none⟩) (fun h => absurd h (Nat.lt_irrefl _)) (.slice O 64 co')); have b1 := HF8.out.cell a1 (fun h => h); have b2 := HF8.out.cell a2 (fun h => h); clear hgx hf8) | (go_at_call 141; (with_reducible refine (HPE.out _ HF9.out).mono ?_); rintro e w9 ⟨rfl, hR9, hf9⟩; have HR9 := As.mk hR9; have HF10 := As.mk ((HST.out.after HF9.out (fun _ _ h => h.elim)).after hf9 (fun _ _ h => h)); clear hR9 hf9))
                go_ret
                exact HBE.out _ _ rfl HR9.out HF10.out
          · have hdf : σ.s.g.isData seg row m = false := by simpa using hd
            rw [hdf] at HPS HPM
            have HPM2 : As (pageOf σ.s.g l seg row m = parPage σ.s.g l seg row) := ⟨by rw [HPM.out]; rfl⟩
            clear hd hdf HPM
            have HPA1 := As.mk (show ∀ (e : Int), r.2 = e → ∀ (w8 : World), Fr None_ wr w8 → Calls Tryz.prog 141 #[.pointer (some ⟨K.x, 0, none⟩), .int .i64 m, .int .i64 seg, .int .i64 row, .slice U1 n1 c1, .slice U2 64 c2] w8 (fun x w' => x = .returned (.int .i64 e) ∧ ArAt w' r.1 K ∧ Fr (AF K σ) w8 w') from fun e he w8 hf => by
              have h1 := Prog_any σ τ K seg row m U1 U2 n1 c1 c2 _ _ w8 (HX2.out.1.none_ hf) HX2.out.2.1 HX2.out.2.2.1 HAT.out hm0 hm1 ((HU1.out.step HST.out).none_ hf) ((HU2.out.step HST.out).none_ hf) HLP.out.1 HLP.out.2.1 HLP.out.2.2 _ HSFI.out
              have h2 := HR0.out
              rw [HPM2.out] at h2
              rw [h2] at h1
              unfold PrPost at h1
              rw [he] at h1
              exact h1)
            by_cases h0 : r.2 = 0
            · have HPE := As.mk (HPA1.out 0 h0)
              have HKG := As.mk (HN0.out h0)
              clear h0
              go_wp2_with (first | (go_at_call 83; (with_reducible refine (HPS.out _).mono ?_); rintro e w8 ⟨rfl, hf8⟩; have hgx := hf8.heap (heap_alloc_new wr _) (fun h => h); have x0 := cell_is (i := 0) hgx rfl; have x1 := cell_is (i := 1) hgx rfl; have HF9 := As.mk (((Fr.refl None_ wr).alloc _).after hf8 (fun _ _ h => h)); clear hgx hf8) | (go_at_call 141; (with_reducible refine (HPE.out _ HF9.out).mono ?_); rintro e w9 ⟨rfl, hR9, hf9⟩; have HR9 := As.mk hR9; have HF10 := As.mk ((HST.out.after HF9.out (fun _ _ h => h.elim)).after hf9 (fun _ _ h => h)); clear hR9 hf9))
              exact ⟨⟨i + 1, rfl, by omega, by omega, ⟨k, r.1, rfl, HKG, hk0, by omega, ⟨HR9.out, HRK.out⟩⟩, HF10⟩, by simp [intOf]; omega⟩
            · by_cases h71 : r.2 = 71
              · have HPE := As.mk (HPA1.out 71 h71)
                have HKG := As.mk (HN71.out h71)
                clear h0 h71
                go_wp2_with (first | (go_at_call 83; (with_reducible refine (HPS.out _).mono ?_); rintro e w8 ⟨rfl, hf8⟩; have hgx := hf8.heap (heap_alloc_new wr _) (fun h => h); have x0 := cell_is (i := 0) hgx rfl; have x1 := cell_is (i := 1) hgx rfl; have HF9 := As.mk (((Fr.refl None_ wr).alloc _).after hf8 (fun _ _ h => h)); clear hgx hf8) | (go_at_call 141; (with_reducible refine (HPE.out _ HF9.out).mono ?_); rintro e w9 ⟨rfl, hR9, hf9⟩; have HR9 := As.mk hR9; have HF10 := As.mk ((HST.out.after HF9.out (fun _ _ h => h.elim)).after hf9 (fun _ _ h => h)); clear hR9 hf9))
                exact ⟨⟨i + 1, rfl, by omega, by omega, ⟨k + 1, r.1, rfl, HKG, by omega, by omega, ⟨HR9.out, HRK.out⟩⟩, HF10⟩, by simp [intOf]; omega⟩
              · have HPE := As.mk (HPA1.out r.2 rfl)
                have HBE := As.mk (HNX.out h0 h71)
                have d0 : (r.2 == 0) = false := beq_eq_false_iff_ne.2 h0
                have d71 : (r.2 == 71) = false := beq_eq_false_iff_ne.2 h71
                generalize r.2 = ev at *
                clear h0 h71
                go_wp2_with (first | (go_at_call 83; (with_reducible refine (HPS.out _).mono ?_); rintro e w8 ⟨rfl, hf8⟩; have hgx := hf8.heap (heap_alloc_new wr _) (fun h => h); have x0 := cell_is (i := 0) hgx rfl; have x1 := cell_is (i := 1) hgx rfl; have HF9 := As.mk (((Fr.refl None_ wr).alloc _).after hf8 (fun _ _ h => h)); clear hgx hf8) | (go_at_call 141; (with_reducible refine (HPE.out _ HF9.out).mono ?_); rintro e w9 ⟨rfl, hR9, hf9⟩; have HR9 := As.mk hR9; have HF10 := As.mk ((HST.out.after HF9.out (fun _ _ h => h.elim)).after hf9 (fun _ _ h => h)); clear hR9 hf9))
                go_ret
                exact HBE.out _ _ rfl HR9.out HF10.out
        · have hte : ms.take i.toNat = ms := List.take_of_length_le (by have := HNO.out; omega)
          have HPost := As.mk (show ∀ (e : Ending) (w' : World) (c : Int), wcode (τ, k, 0) = c → e = .returned (.int .i64 c) → ArAt w' τ K → Fr (AF K σ) w7 w' → WrPost σ K (σ.progs seg row (fun m => pageOf σ.s.g l seg row m) (orderOf σ.ahead σ.s.g.c)) w e w' from fun e w' c h0 k1 k2 k3 => by
            have h4 : σ.progs seg row (fun m => pageOf σ.s.g l seg row m) (orderOf σ.ahead σ.s.g.c) = (τ, k, 0) := by
              rw [HOR.out, ← hte, HK.out]
            rw [h4]
            exact ⟨by rw [k1, h0], k2, (HF7.out.mono (T := AF K σ) (fun _ _ h => h.elim)).after k3 (fun _ _ h => h)⟩)
          clear hte
          by_cases hk1 : 1 < k
          · have HEE : As (wcode (τ, k, 0) = 74) := ⟨by unfold wcode; rw [if_neg (fun h => h rfl), if_pos hk1]⟩
            go_wp2
            go_ret
            exact HPost.out _ _ _ HEE.out rfl HX2.out.1 HST.out
          · have HEE : As (wcode (τ, k, 0) = 0) := ⟨by unfold wcode; rw [if_neg (fun h => h rfl), if_neg hk1]⟩
            go_wp2
            go_ret
            exact HPost.out _ _ _ HEE.out rfl HX2.out.1 HST.out
end Go.Proofs.YteofgpaceeibpaaGreat.AWrC

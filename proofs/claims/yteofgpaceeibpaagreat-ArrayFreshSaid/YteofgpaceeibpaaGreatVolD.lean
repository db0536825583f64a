/- vol: lay, save (nothing fails). -/
import Derived.Test.YteofgpaceeibpaaGreatVolC
import Derived.Test.YteofgpaceeibpaaGreatOS
namespace Go.Proofs.YteofgpaceeibpaaGreat.VolD
open Go.RowKit Go.Proofs.YteofgpaceeibpaaGreat.Gab Go.Proofs.YteofgpaceeibpaaGreat.Wr Go.Proofs.YteofgpaceeibpaaGreat.Geom Go.Proofs.YteofgpaceeibpaaGreat.Ref Go.Proofs.YteofgpaceeibpaaGreat.Nand Go.Proofs.YteofgpaceeibpaaGreat.NandA Go.Proofs.YteofgpaceeibpaaGreat.NandB Go.Proofs.YteofgpaceeibpaaGreat.NandC Go.Proofs.YteofgpaceeibpaaGreat.NandD Go.Proofs.YteofgpaceeibpaaGreat.NandE Go.Proofs.YteofgpaceeibpaaGreat.NandH Go.Proofs.YteofgpaceeibpaaGreat.RemapA Go.Proofs.YteofgpaceeibpaaGreat.RemapB Go.Proofs.YteofgpaceeibpaaGreat.RemapC Go.Proofs.YteofgpaceeibpaaGreat.RemapD Go.Proofs.YteofgpaceeibpaaGreat.RemapE Go.Proofs.YteofgpaceeibpaaGreat.RemapF Go.Proofs.YteofgpaceeibpaaGreat.RemapG Go.Proofs.YteofgpaceeibpaaGreat.VolA Go.Proofs.YteofgpaceeibpaaGreat.VolB Go.Proofs.YteofgpaceeibpaaGreat.VolC
open Go.Proofs.YteofgpaceeibpaaGreat.Heap (cell_is heap_set heap_set7 fr_set7)
set_option linter.unusedVariables false
set_option linter.unusedSimpArgs false

/-- What stands beside a table's page. -/
def _root_.Go.Proofs.YteofgpaceeibpaaGreat.RemapA.Tab.oob (t : Tab) (S : Nat) : List Int := Seal.sealOf t.hd (t.page S) []
/-- A table is written into a block: the chips behind it, and the error. -/
def _root_.Go.Proofs.YteofgpaceeibpaaGreat.Nand.St.lay (s : St) (c b : Nat) (t : Tab) : St × Int :=
  if (s.erase c b).2 = 0 then (s.erase c b).1.prog c b 0 (t.page s.g.s.toNat) (t.oob s.g.s.toNat) else s.erase c b
theorem lay_g (s : St) (c b : Nat) (t : Tab) : (s.lay c b t).1.g = s.g ∧ (s.lay c b t).1.evs = s.evs := by
  have h1 := erase_g s c b
  unfold St.lay
  split
  · have h2 := prog_g (s.erase c b).1 c b 0 (t.page s.g.s.toNat) (t.oob s.g.s.toNat)
    exact ⟨h2.1.trans h1.1, h2.2.trans h1.2⟩
  · exact h1
theorem safe_lay {s : St} {n : Nat} (h : s.Safe (n + 2)) (c b : Nat) (t : Tab) : (s.lay c b t).1.Safe n := by
  have h1 : (s.erase c b).1.Safe (n + 1) := St.Safe.erase (n := n + 1) h c b
  unfold St.lay
  split
  · exact h1.prog c b 0 _ _
  · exact h1.le (Nat.le_succ n)
def LayPost (p : Nat) (s : St) (L : Lay) (c b : Nat) (t : Tab) (w : World) (e : Ending) (w' : World) : Prop := e = .returned (.int .i64 (s.lay c b t).2) ∧ Nand w' p (s.lay c b t).1 L ∧ Fr (NF p L s.n s.nb) w w'
theorem seal_len (h : Fields.Head) (data b : List Int) : (Seal.sealOf h data b).length = 64 := OS.seal_len h data b
theorem own_some {ad : Addr} {n c : Nat} : (Value.slice (some ad) n c).ownBlock = some ad.block := rfl
theorem row_at0 {e : TypeId} {size : Nat} {w : World} {base : Nat} {v : Value} {n : Nat} {vs : List Value} (h : Par.RowV e size w base v n vs) (hn : 0 < n) : ∃ g c, v = .slice (some ⟨g, 0, none⟩) n c ∧ base ≤ g ∧ ∀ j, j < n * size → w.cell? ⟨g, j, none⟩ = some (vs.getD j undef) := by
  rcases h.1.2 with ⟨rfl, h0⟩ | ⟨g, cap, cur, rfl, hb, _⟩
  · omega
  · refine ⟨g, cap, rfl, hb, fun j hj => ?_⟩
    obtain ⟨A, c, e1, _, hr, _⟩ := h.rd
    injection e1 with ea eb ec
    subst ea
    obtain ⟨ad, ead, hc⟩ := hr.out.2 (by omega)
    injection ead with ead
    subst ead
    have := hc j hj
    rwa [add_at] at this
/-- A volume's cells, all. -/
def VCs (w : World) (p c : Nat) (g : Geo) (t : Tab) (v : VLay) : Prop :=
  w.cell? ⟨v.vb, 0, none⟩ = some (.pointer (some ⟨p, 0, none⟩)) ∧ w.cell? ⟨v.vb, 1, none⟩ = some (.int .i64 (c : Int)) ∧ w.cell? ⟨v.vb, 2, none⟩ = some (.int .i64 g.c) ∧ w.cell? ⟨v.vb, 3, none⟩ = some (.int .i64 g.b) ∧ w.cell? ⟨v.vb, 4, none⟩ = some (.int .i64 g.p) ∧ w.cell? ⟨v.vb, 5, none⟩ = some (.int .i64 g.s) ∧
  w.cell? ⟨v.vb, 6, none⟩ = some (.int .u32 t.seq) ∧ w.cell? ⟨v.vb, 7, none⟩ = some (.slice v.A1 v.n1 v.c1) ∧ w.cell? ⟨v.vb, 8, none⟩ = some (.slice v.A2 v.n2 v.c2) ∧ w.cell? ⟨v.vb, 9, none⟩ = some (.int .i64 t.t0) ∧ w.cell? ⟨v.vb, 10, none⟩ = some (.int .i64 t.t1)
theorem _root_.Go.Proofs.YteofgpaceeibpaaGreat.VolA.VolAt.vcs {w : World} {p c : Nat} {g : Geo} {t : Tab} {v : VLay} (h : VolAt w p c g t v) : VCs w p c g t v :=
  ⟨cell_is h.main rfl, cell_is h.main rfl, cell_is h.main rfl, cell_is h.main rfl, cell_is h.main rfl, cell_is h.main rfl, cell_is h.main rfl, cell_is h.main rfl, cell_is h.main rfl, cell_is h.main rfl, cell_is h.main rfl⟩
theorem _root_.Go.Proofs.YteofgpaceeibpaaGreat.VolA.VolAt.tabV {w : World} {p c : Nat} {g : Geo} {t : Tab} {v : VLay} (h : VolAt w p c g t v) : TabV w (.agg #[.int .u32 t.seq, .slice v.A1 v.n1 v.c1, .slice v.A2 v.n2 v.c2, .int .i64 t.t0, .int .i64 t.t1]) t := ⟨_, _, _, _, _, _, rfl, h.l1, h.r1, h.l2, h.r2⟩
/-- Bytes of a page that is to be written. -/
theorem page_ok {t : Tab} {g : Geo} (hg : g.Ok) (ht : t.Ok g) : InR 256 (t.page g.s.toNat) ∧ InR 256 (t.oob g.s.toNat) ∧ (t.page g.s.toNat).length = g.s.toNat := by
  have h := enc_length hg ht
  have h2 := hg.s
  refine ⟨Seal.pad_range (enc_range hg ht) _, ?_, ?_⟩
  · unfold Tab.oob Seal.sealOf
    exact Seal.inR_append (Seal.pad_range (Seal.inR_append (Seal.bytes_range _) (Seal.le_range 4 _)) _) (Seal.tail_range (fun x hx => by cases hx))
  · unfold Tab.page
    rw [padTo_length]
    omega

set_option maxHeartbeats 8000000 in
set_option maxRecDepth 100000 in
theorem lay_calls (p c b : Nat) (s : St) (L : Lay) (t : Tab) (v : VLay) (w : World) (hN : Nand w p s L) (hV : VolAt w p c s.g t v) (ht : t.Ok s.g) (hc : c < s.n) (hb : b < s.nb) (n : Nat) (hs : s.Safe (n + 2)) :
    Calls Tryz.prog 94 #[.pointer (some ⟨v.vb, 0, none⟩), .int .i64 (b : Int)] w (LayPost p s L c b t w) := by
  have HPG := As.mk (fun (w' : World) (hf : Fr None_ w w') => Pages_calls t s.g _ w' hN.ok ht (hV.none_ hf).tabV)
  have HV := As.mk hV
  have HN := As.mk hN
  have hcs := hV.vcs
  unfold VCs at hcs
  have HCS := As.mk (fun (w' : World) (hf : Fr None_ w w') => (hV.none_ hf).vcs)
  unfold VCs at HCS
  have HER := As.mk (fun (w' : World) (hf : Fr None_ w w') => Eras_calls p s L c b w' (hN.none_ hf) hc hb (n + 1) hs)
  have HC := As.mk (And.intro hc hb)
  have HS := As.mk hs
  have HP := As.mk (page_ok hN.ok ht)
  clear hN hV ht hc hb hs
  unfold Geo.val at HPG
  go_enter Tryz.func94, Tryz.ntmps94
  go_upto_region 1 with fail
  go_region_held3 (fun w' => w'.cell? ⟨v.vb, 0, none⟩ = some (.pointer (some ⟨p, 0, none⟩)) ∧ w'.cell? ⟨v.vb, 1, none⟩ = some (.int .i64 (c : Int)) ∧ w'.cell? ⟨v.vb, 2, none⟩ = some (.int .i64 s.g.c) ∧ w'.cell? ⟨v.vb, 3, none⟩ = some (.int .i64 s.g.b) ∧ w'.cell? ⟨v.vb, 4, none⟩ = some (.int .i64 s.g.p) ∧ w'.cell? ⟨v.vb, 5, none⟩ = some (.int .i64 s.g.s) ∧
      w'.cell? ⟨v.vb, 6, none⟩ = some (.int .u32 t.seq) ∧ w'.cell? ⟨v.vb, 7, none⟩ = some (.slice v.A1 v.n1 v.c1) ∧ w'.cell? ⟨v.vb, 8, none⟩ = some (.slice v.A2 v.n2 v.c2) ∧ w'.cell? ⟨v.vb, 9, none⟩ = some (.int .i64 t.t0) ∧ w'.cell? ⟨v.vb, 10, none⟩ = some (.int .i64 t.t1)) (first | go_keep | exact hcs | exact HCS.out _ HF2.out) (first
    | (go_at_call 116; (with_reducible refine (HPG.out _ (Fr.refl None_ w).drew).mono ?_); rintro e w2 ⟨r, rfl, hpg⟩; obtain ⟨vd, vo, hrow, hsd, hso, hfr, hyd, hyo⟩ := hpg; have HF2 := As.mk (show Fr None_ w w2 from hfr.undrew); have HROW := As.mk (show Par.RowV 189 2 w2 w.heap.size r 1 [vd, vo] from hrow); have HSD := As.mk hsd; have HSO := As.mk hso; have HYD := As.mk (show Young w vd from hyd); have HYO := As.mk (show Young w vo from hyo); clear hrow hsd hso hfr hyd hyo)
    | fail)
  have HNF : As (∀ b', NF p L s.n s.nb b' → b' < w.heap.size) := ⟨fun b' h => HN.out.lt h⟩
  obtain ⟨D, nd, cd, rfl, hcd, hD⟩ := HSD.out
  obtain ⟨O, no, co, rfl, hco, hO⟩ := HSO.out
  have HD : As (∀ w', Fr None_ w2 w' → RdN w' (NF p L s.n s.nb) D nd (t.page s.g.s.toNat)) := ⟨fun w' hf => ⟨hD.none_ hf, fun ad e hn hnf => by subst e; have h1 := HYD.out _ own_some; have h2 := HNF.out _ hnf; omega⟩⟩
  have HO : As (∀ w', Fr None_ w2 w' → RdN w' (NF p L s.n s.nb) O no (t.oob s.g.s.toNat)) := ⟨fun w' hf => ⟨hO.none_ hf, fun ad e hn hnf => by subst e; have h1 := HYO.out _ own_some; have h2 := HNF.out _ hnf; omega⟩⟩
  have hnd : nd = s.g.s.toNat := by rw [← hD.1, HP.out.2.2]
  have hno : no = 64 := by rw [← hO.1]; exact seal_len _ _ _
  have HNO := As.mk (And.intro hnd hno)
  have hcs := HCS.out w2 HF2.out
  obtain ⟨c0, c1, _, _, _, _, _, _, _, _, _⟩ := hcs
  obtain ⟨rb, c5, e5, hrb, hcell⟩ := row_at0 HROW.out (by decide)
  subst e5
  clear hD hO hnd hno hcd hco HPG HSD HSO
  go_upto_region 4 with fail
  go_region_held3 (fun w' => w'.cell? ⟨v.vb, 0, none⟩ = some (.pointer (some ⟨p, 0, none⟩)) ∧ w'.cell? ⟨v.vb, 1, none⟩ = some (.int .i64 (c : Int))) (first | go_keep | exact ⟨c0, c1⟩ | exact ⟨HV3.out.vcs.1, HV3.out.vcs.2.1⟩) (first
    | (go_at_call 58; (with_reducible refine (HER.out _ HF2.out.drew).mono ?_); rintro e w3 ⟨rfl, hn3, hf3⟩; have HN3 := As.mk hn3; have HF23 := As.mk (show Fr (NF p L s.n s.nb) w2 w3 from hf3.undrew); have HV3 := As.mk ((HV.out.none_ HF2.out).nf (HN.out.none_ HF2.out) hf3.undrew); clear hn3 hf3)
    | fail)
  have HF3 := As.mk (HF2.out.trans HF23.out (fun _ _ h => h.elim) (fun _ _ h => h))
  by_cases hk : (s.erase c b).2 = 0
  · have HLY := As.mk (show s.lay c b t = (s.erase c b).1.prog c b 0 (t.page s.g.s.toNat) (t.oob s.g.s.toNat) from by unfold St.lay; rw [if_pos hk])
    have hg1 := erase_g s c b
    have HSE := As.mk (St.Safe.erase (n := n + 1) HS.out c b)
    have HPR := As.mk (fun (w' : World) (hf : Fr None_ w3 w') => NandH.Prog_calls p (s.erase c b).1 L c b 0 D O nd cd no co (t.page s.g.s.toNat) (t.oob s.g.s.toNat) w' (HN3.out.none_ hf) (by unfold St.n; rw [hg1.1]; exact HC.out.1) (by unfold St.nb; rw [hg1.1]; exact HC.out.2) (by unfold St.np; rw [hg1.1]; have := HN.out.ok.p; omega) n HSE.out
      (by unfold St.n St.nb; rw [hg1.1]; exact ((HD.out w2 (Fr.refl _ _)).frame HF23.out).none_ hf) (by unfold St.n St.nb; rw [hg1.1]; exact ((HO.out w2 (Fr.refl _ _)).frame HF23.out).none_ hf) (by rw [hg1.1, HNO.out.1]; have := HN.out.ok.s; omega) HNO.out.2 HP.out.1 HP.out.2.1)
    unfold PPost at HPR
    rw [← HLY.out] at HPR
    have HNE : As (∀ b', NF p L (s.erase c b).1.n (s.erase c b).1.nb b' → NF p L s.n s.nb b') := ⟨fun b' h => by unfold St.n St.nb at h; rw [hg1.1] at h; exact h⟩
    rw [hk]
    have hnf5 : ∀ j, j < 2 → w3.cell? ⟨rb, j, none⟩ = some ([Value.slice D nd cd, Value.slice O no co].getD j undef) := fun j hj => HF23.out.cell (hcell j hj) (fun hnf => by have h1 := HNF.out _ hnf; have : rb < w.heap.size := h1; omega)
    have k0 := hnf5 0 (by decide)
    have k1 := hnf5 1 (by decide)
    simp only [List.getD_cons_zero, List.getD_cons_succ] at k0 k1
    clear hcell hnf5 hg1 hk
    go_wp2_with fail
    go_loopw [41] (fun v41 w' => (v41 = .int .i64 0 ∧ w' = w3) ∨ (v41 = .int .i64 1 ∧ As ((s.lay c b t).2 = 0) ∧ As (Nand w' p (s.lay c b t).1 L) ∧ As (Fr (NF p L s.n s.nb) w w'))) (fun v41 _ => 1 - (intOf v41).toNat)
    case atStart => exact .inl ⟨rfl, rfl⟩
    case round =>
      rcases hrel with ⟨rfl, rfl⟩ | ⟨rfl, HK, HN4, HF4⟩
      · obtain ⟨c0, c1, _, _, _, _, _, _, _, _, _⟩ := HV3.out.vcs
        go_upto_region 10 with fail
        have hfa : Fr None_ wr (wr.alloc (.cells #[.slice D nd cd, .slice O no co] 189)) := (Fr.refl None_ wr).alloc _
        have HA5 := As.mk (heap_alloc_new wr (.cells #[.slice D nd cd, .slice O no co] 189))
        have HV5 := As.mk (HV3.out.none_ hfa)
        have HFA := As.mk hfa
        have HPR5 := As.mk (show Calls Tryz.prog 101 #[.pointer (some ⟨p, 0, none⟩), .int .i64 (c : Int), .int .i64 (b : Int), .int .i64 0, .slice D nd cd, .slice O no co] _ _ from HPR.out _ hfa.drew)
        generalize wr.alloc (.cells #[.slice D nd cd, .slice O no co] 189) = w5 at *
        generalize hpb : wr.heap.size = pb at *
        have HPB := As.mk (show NF p L s.n s.nb pb → False from fun h => by have h1 := HNF.out _ h; have h2 := HF3.out.size; omega)
        have c0 := HV5.out.vcs.1
        have c1 := HV5.out.vcs.2.1
        have q0 := cell_is (v := .slice D nd cd) (i := 0) HA5.out rfl
        have q1 := cell_is (v := .slice O no co) (i := 1) HA5.out rfl
        clear hfa hpb
        go_region_held3 (fun w' => w'.cell? ⟨v.vb, 0, none⟩ = some (.pointer (some ⟨p, 0, none⟩)) ∧ w'.cell? ⟨v.vb, 1, none⟩ = some (.int .i64 (c : Int)) ∧ w'.cell? ⟨pb, 0, none⟩ = some (.slice D nd cd) ∧ w'.cell? ⟨pb, 1, none⟩ = some (.slice O no co)) (first | go_keep | exact ⟨c0, c1, q0, q1⟩ | exact ⟨HV6.out.vcs.1, HV6.out.vcs.2.1, Fr.cell HF56.out q0 HPB.out, Fr.cell HF56.out q1 HPB.out⟩) (first
          | (go_at_call 101; (with_reducible refine (HPR5.out).mono ?_); rintro e w6 ⟨rfl, hn6, hf6⟩; have HN6 := As.mk hn6; have HF56 := As.mk (show Fr (NF p L s.n s.nb) w5 w6 from (hf6.undrew).mono (fun b' _ h => HNE.out b' h)); have HV6 := As.mk (HV5.out.nf (HN3.out.none_ HFA.out) hf6.undrew); clear hn6 hf6)
          | fail)
        have HF6 := As.mk (HF3.out.after ((HFA.out.trans HF56.out (fun _ _ h => h.elim) (fun _ _ h => h))) (fun _ _ h => h))
        by_cases hk : (s.lay c b t).2 = 0
        · have HK := As.mk hk
          rw [hk]
          clear hk c0 c1 q0 q1
          go_wp2_with fail
          exact ⟨.inr ⟨rfl, HK, HN6, HF6⟩, by simp [intOf]⟩
        · have dk : ((s.lay c b t).2 != 0) = true := by rw [bne_iff_ne]; exact hk
          have HPost := As.mk (show ∀ (e : Ending) (w' : World), e = .returned (.int .i64 (s.lay c b t).2) → Nand w' p (s.lay c b t).1 L → Fr (NF p L s.n s.nb) w w' → LayPost p s L c b t w e w' from fun e w' h1 h2 h3 => ⟨h1, h2, h3⟩)
          generalize (s.lay c b t).2 = k at *
          clear hk c0 c1 q0 q1
          go_wp2_with fail
          go_ret
          exact HPost.out _ _ rfl HN6.out HF6.out
      · have HPost := As.mk (show ∀ (e : Ending) (w' : World), e = .returned (.int .i64 0) → Nand w' p (s.lay c b t).1 L → Fr (NF p L s.n s.nb) w w' → LayPost p s L c b t w e w' from fun e w' h1 h2 h3 => by unfold LayPost; rw [HK.out]; exact ⟨h1, h2, h3⟩)
        go_wp2_with fail
        go_ret
        exact HPost.out _ _ rfl HN4.out HF4.out
  · have HLY := As.mk (show s.lay c b t = s.erase c b from by unfold St.lay; rw [if_neg hk])
    have dk : ((s.erase c b).2 != 0) = true := by rw [bne_iff_ne]; exact hk
    have HPost := As.mk (show ∀ (e : Ending) (w' : World), e = .returned (.int .i64 (s.erase c b).2) → Nand w' p (s.erase c b).1 L → Fr (NF p L s.n s.nb) w w' → LayPost p s L c b t w e w' from fun e w' h1 h2 h3 => by unfold LayPost; rw [HLY.out]; exact ⟨h1, h2, h3⟩)
    generalize (s.erase c b).2 = k at *
    go_wp2_with fail
    go_ret
    exact HPost.out _ _ rfl HN3.out HF3.out
end Go.Proofs.YteofgpaceeibpaaGreat.VolD

/- vol: save (nothing fails). -/
import Derived.Test.YteofgpaceeibpaaGreatVolD
namespace Go.Proofs.YteofgpaceeibpaaGreat.VolE
open Go.RowKit Go.Proofs.YteofgpaceeibpaaGreat.Gab Go.Proofs.YteofgpaceeibpaaGreat.Wr Go.Proofs.YteofgpaceeibpaaGreat.Geom Go.Proofs.YteofgpaceeibpaaGreat.Ref Go.Proofs.YteofgpaceeibpaaGreat.Nand Go.Proofs.YteofgpaceeibpaaGreat.NandA Go.Proofs.YteofgpaceeibpaaGreat.NandB Go.Proofs.YteofgpaceeibpaaGreat.NandC Go.Proofs.YteofgpaceeibpaaGreat.NandD Go.Proofs.YteofgpaceeibpaaGreat.NandE Go.Proofs.YteofgpaceeibpaaGreat.NandH Go.Proofs.YteofgpaceeibpaaGreat.RemapA Go.Proofs.YteofgpaceeibpaaGreat.RemapB Go.Proofs.YteofgpaceeibpaaGreat.RemapC Go.Proofs.YteofgpaceeibpaaGreat.RemapD Go.Proofs.YteofgpaceeibpaaGreat.RemapE Go.Proofs.YteofgpaceeibpaaGreat.RemapF Go.Proofs.YteofgpaceeibpaaGreat.RemapG Go.Proofs.YteofgpaceeibpaaGreat.VolA Go.Proofs.YteofgpaceeibpaaGreat.VolB Go.Proofs.YteofgpaceeibpaaGreat.VolC Go.Proofs.YteofgpaceeibpaaGreat.VolD
open Go.Proofs.YteofgpaceeibpaaGreat.Heap (cell_is heap_set heap_set7 fr_set7 fr_set1)
set_option linter.unusedVariables false
set_option linter.unusedSimpArgs false

/-- A table whose number is one more. -/
def _root_.Go.Proofs.YteofgpaceeibpaaGreat.RemapA.Tab.up (t : Tab) : Tab := { t with seq := t.seq + 1 }
theorem up_ok {t : Tab} {g : Geo} (h : t.Ok g) (hs : t.seq < 4294967295) : t.up.Ok g := ⟨h.len, h.inr, h.nd, ⟨by show 0 ≤ t.seq + 1; have := h.seq; omega, by show t.seq + 1 < 4294967296; omega⟩, h.few⟩
/-- The block that the table goes to. -/
def _root_.Go.Proofs.YteofgpaceeibpaaGreat.RemapA.Tab.to (t : Tab) : Int := if t.seq % 2 = 0 then t.t0 else t.t1
theorem to_ok {t : Tab} {g : Geo} (h : t.Ok g) : 0 ≤ t.to ∧ t.to < g.b := by
  unfold Tab.to
  split
  · exact h.inr _ (by simp [Tab.all])
  · exact h.inr _ (by simp [Tab.all])
def _root_.Go.Proofs.YteofgpaceeibpaaGreat.Nand.St.vsave (s : St) (c : Nat) (t : Tab) : St × Int := s.lay c t.up.to.toNat t.up
def SavePost (p : Nat) (s : St) (L : Lay) (c : Nat) (t : Tab) (v : VLay) (w : World) (e : Ending) (w' : World) : Prop :=
  e = .returned (.int .i64 (s.vsave c t).2) ∧ Nand w' p (s.vsave c t).1 L ∧ VolAt w' p c s.g t.up v ∧ Fr (fun b => NF p L s.n s.nb b ∨ b = v.vb) w w'
theorem lay_code (s : St) (c b : Nat) (t : Tab) : (s.lay c b t).2 ≠ 70 := by
  unfold St.lay
  split
  · have := prog_code (s.erase c b).1 c b 0 (t.page s.g.s.toNat) (t.oob s.g.s.toNat); omega
  · have := erase_code s c b; omega
theorem i1_ne {w : World} {p c : Nat} {g : Geo} {t : Tab} {v : VLay} (h : VolAt w p c g t v) : (∀ ad, v.A1 = some ad → 0 < v.n1 → ¬ ad.block = v.vb) ∧ (∀ ad, v.A2 = some ad → 0 < v.n2 → ¬ ad.block = v.vb) := by
  refine ⟨fun ad e hn hb => ?_, fun ad e hn hb => ?_⟩
  · obtain ⟨cs, hc⟩ := h.i1 ad e hn
    rw [hb] at hc
    exact blk_ne h.main hc (by decide) rfl
  · obtain ⟨cs, hc⟩ := h.i2 ad e hn
    rw [hb] at hc
    exact blk_ne h.main hc (by decide) rfl

theorem i64_small (x : Int) (h0 : 0 ≤ x) (h1 : x < 100) : IntKind.i64.wrap x = x := i64_in _ (by omega) (by omega)

set_option maxHeartbeats 8000000 in
set_option maxRecDepth 100000 in
theorem save_calls (p c : Nat) (s : St) (L : Lay) (t : Tab) (v : VLay) (w : World) (hN : Nand w p s L) (hV : VolAt w p c s.g t v) (ht : t.Ok s.g) (hq : t.seq < 4294967295) (hc : c < s.n) (n : Nat) (hs : s.Safe (n + 2)) :
    Calls Tryz.prog 59 #[.pointer (some ⟨v.vb, 0, none⟩)] w (SavePost p s L c t v w) := by
  have hs0 := ht.seq
  have htu := up_ok ht hq
  have hto := to_ok htu
  have hsf := fr_set1 (w' := w) (b := v.vb) (i := 6) (.int .u32 (t.seq + 1))
  have hm1 : (w.setCell ⟨v.vb, 6, none⟩ (.int .u32 (t.seq + 1))).heap[v.vb]? = _ := heap_set hV.main 6 (.int .u32 (t.seq + 1))
  have hN1 := hN.one hV.main hsf ⟨⟨by decide, by decide, by decide, by decide, by decide⟩, by decide, by decide⟩
  have hV1 : VolAt (w.setCell ⟨v.vb, 6, none⟩ (.int .u32 (t.seq + 1))) p c s.g t.up v :=
    ⟨by rw [hm1]; rfl, hV.l1, hV.r1.fr hsf (i1_ne hV).1, hV.l2, hV.r2.fr hsf (i1_ne hV).2, hV.i1.fr hsf (i1_ne hV).1, hV.i2.fr hsf (i1_ne hV).2⟩
  have HLAY := As.mk (lay_calls p c t.up.to.toNat s L t.up v _ hN1 hV1 htu hc (by unfold St.nb; omega) n hs)
  have hne : ((s.lay c t.up.to.toNat t.up).2 != 70) = true := by rw [bne_iff_ne]; exact lay_code _ _ _ _
  have HPost := As.mk (show ∀ (e : Ending) (w' : World), LayPost p s L c t.up.to.toNat t.up (w.setCell ⟨v.vb, 6, none⟩ (.int .u32 (t.seq + 1))) e w' → SavePost p s L c t v w e w' from by
    rintro e w' ⟨h1, h2, h3⟩
    exact ⟨h1, h2, hV1.nf hN1 h3, hsf.trans h3 (fun _ _ h => .inr h) (fun _ _ h => .inl h)⟩)
  have c6 := cell_is (i := 6) hV.main rfl
  have f6 := free_of (i := 6) hV.main
  have d6 := cell_is (v := .int .u32 (t.seq + 1)) (i := 6) hV1.main rfl
  have d9 := cell_is (v := .int .i64 t.t0) (i := 9) hV1.main rfl
  have d10 := cell_is (v := .int .i64 t.t1) (i := 10) hV1.main rfl
  have HTO := As.mk (show t.up.to = if (t.seq + 1) % 2 = 0 then t.t0 else t.t1 from rfl)
  have hmd : (t.seq + 1) % 2 = 0 ∨ (t.seq + 1) % 2 = 1 := by omega
  have HTZ := As.mk (show ((t.up.to.toNat : Nat) : Int) = t.up.to by omega)
  have hwr : IntKind.u32.wrap (t.seq + 1) = t.seq + 1 := by rw [IntKind.wrap_u32]; omega
  have htd : (t.seq + 1).tmod 2 = (t.seq + 1) % 2 := by rw [Int.tmod_eq_emod_of_nonneg (by omega)]
  clear hN hV ht hq hc hs hs0 htu hto hsf hm1 hN1 hV1
  go_enter Tryz.func59, Tryz.ntmps59
  go_upto_region 2 with fail
  generalize w.setCell ⟨v.vb, 6, none⟩ (.int .u32 (t.seq + 1)) = w1 at *
  rw [HTZ.out] at HLAY
  generalize t.up.to.toNat = B at *
  go_loop [2] (fun v2 => v2 = .int .i64 0) (fun _ => 0)
  case atStart => rfl
  case round =>
    obtain rfl := hrel
    rcases hmd with hm | hm
    · skip
      rw [HTO.out, if_pos hm] at HLAY
      go_wp2_with fail
      ((with_reducible refine (HLAY.out).mono ?_); rintro e w2 hp)
      have HP2 := As.mk (HPost.out _ _ hp)
      obtain ⟨rfl, _, _⟩ := hp
      generalize (s.lay c B t.up).2 = k at *
      go_wp2_with fail
      go_ret
      exact HP2.out
    · skip
      rw [HTO.out, if_neg (by omega)] at HLAY
      go_wp2_with fail
      ((with_reducible refine (HLAY.out).mono ?_); rintro e w2 hp)
      have HP2 := As.mk (HPost.out _ _ hp)
      obtain ⟨rfl, _, _⟩ := hp
      generalize (s.lay c B t.up).2 = k at *
      go_wp2_with fail
      go_ret
      exact HP2.out
end Go.Proofs.YteofgpaceeibpaaGreat.VolE

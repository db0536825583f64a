/- Members in memory (gabionref10.Ram): Program and Erase. -/
import Derived.Test.YtlhgbamajabnfaaRam2
namespace Go.Proofs.Ytlhgbamajabnfaa.Ram
open Go.RowKit Go.Proofs.Ytlhgbamajabnfaa.Gab Go.Proofs.Ytlhgbamajabnfaa.Wr Go.Proofs.Ytlhgbamajabnfaa.Map Go.Proofs.Ytlhgbamajabnfaa.Geom Go.Proofs.Ytlhgbamajabnfaa.Ref
set_option linter.unusedVariables false
set_option linter.unusedSimpArgs false

/-- A block of bytes is none of theirs. -/
theorem Ram.off_type {w : World} {p : Nat} {s : St} {bp bg : Nat} {vo : Value} {f fg : Value → Value} (h : Ram w p s bp bg vo f fg) {b : Nat} {cs : Array Value} {T : TypeId} {fr : Nat × Nat} (hb : w.heap[b]? = some (.cells cs T fr)) (h1 : T ≠ 41) (h2 : T ≠ 3) : ¬ ft p bp bg vo b := by
  rintro (rfl | rfl | rfl | hr)
  · have h3 := h.blk
    rw [hb] at h3
    injection h3 with h3
    injection h3 with _ h3
    exact h1 h3
  · obtain ⟨es, c, h3⟩ := h.mp.blk
    rw [hb] at h3
    injection h3 with h3
    cases h3
  · obtain ⟨es, c, h3⟩ := h.mg.blk
    rw [hb] at h3
    injection h3 with h3
    cases h3
  · exact Row.ne h.row hb h2 hr
theorem Ram.apart {w : World} {p : Nat} {s : St} {bp bg : Nat} {vo : Value} {f fg : Value → Value} (h : Ram w p s bp bg vo f fg) : bp ≠ p ∧ bg ≠ p ∧ ¬ vo.ownBlock = some bp ∧ ¬ vo.ownBlock = some bg ∧ ¬ vo.ownBlock = some p := by
  obtain ⟨es, c, hp⟩ := h.mp.blk
  obtain ⟨es', c', hg⟩ := h.mg.blk
  have hb := h.blk
  refine ⟨?_, ?_, ?_, ?_, Row.ne h.row hb (by decide)⟩
  · rintro rfl
    rw [hp] at hb
    injection hb with hb
    cases hb
  · rintro rfl
    rw [hg] at hb
    injection hb with hb
    cases hb
  · intro hr
    obtain ⟨_, _, cs, hc⟩ := h.row.blk bp hr
    rw [hp] at hc
    injection hc with hc
    cases hc
  · intro hr
    obtain ⟨_, _, cs, hc⟩ := h.row.blk bg hr
    rw [hg] at hc
    injection hc with hc
    cases hc
def St.push (s : St) (x : Int) : St := { s with order := s.order ++ [x], cnt := s.cnt + 1 }
def St.lay (s : St) (m b q : Int) (xs : List Int) : St := { s with pages := fun m' b' q' => if m' = m ∧ b' = b ∧ q' = q then xs else s.pages m' b' q', cnt := s.cnt + 1 }
theorem Ram.push {w w1 : World} {p : Nat} {s : St} {bp bg : Nat} {vo : Value} {f fg : Value → Value} (h : Ram w p s bp bg vo f fg) (x : Int) (v1 : Value) (hrow : Row 3 .i64 w1 0 v1 (s.order ++ [x])) (hf : Fr (fun b => vo.ownBlock = some b) w w1)
    (hat : v1.ownBlock = vo.ownBlock ∨ ∃ b, v1.ownBlock = some b ∧ w.heap.size ≤ b) : Ram (w1.setCell ⟨p, 7, none⟩ v1) p (s.push x) bp bg v1 f fg ∧ Step p w (w1.setCell ⟨p, 7, none⟩ v1) := by
  obtain ⟨a1, a2, a3, a4, a5⟩ := h.apart
  have hb1 := hf.heap h.blk a5
  have hset : (w1.setCell ⟨p, 7, none⟩ v1).heap[p]? = some (.cells #[.int .i64 s.g.c, .int .i64 s.g.b, .int .i64 s.g.p, .int .i64 s.g.s, .map (some bp), .map (some bg), .int .i64 s.first, v1] 41 (0, 0)) := by
    simp [World.setCell, Array.getElem?_modify, hb1]
  have hF : Fr (fun b => b = p ∨ vo.ownBlock = some b) w (w1.setCell ⟨p, 7, none⟩ v1) := (hf.mono (fun i _ h => .inr h)).setCell (p := ⟨p, 7, none⟩) (fun _ => .inl rfl) v1
  have hft : ∀ b, b < w.heap.size → ft p bp bg v1 b → ft p bp bg vo b := by
    rintro b hb (h1 | h1 | h1 | h1)
    · exact .inl h1
    · exact .inr (.inl h1)
    · exact .inr (.inr (.inl h1))
    · rcases hat with h2 | ⟨b', h2, h3⟩
      · exact .inr (.inr (.inr (h2 ▸ h1)))
      · rw [h2] at h1
        injection h1 with h1
        omega
  refine ⟨⟨hset, h.ok, ?_, ?_, h.ne, ?_, ?_, h.gone, fun m b q => ?_⟩, ?_, fun b hb => ?_⟩
  · exact (h.mp.fr hF (fun h1 => h1.elim a1 a3)).mono (Nat.le_succ _)
  · exact (h.mg.fr hF (fun h1 => h1.elim a2 a4)).mono (Nat.le_succ _)
  · refine hrow.fr (S := fun b => b = p) ((Fr.refl (fun b => b = p) w1).setCell (p := ⟨p, 7, none⟩) (fun _ => rfl) v1) (fun b hb e => ?_)
    subst e
    exact Row.ne hrow hb1 (by decide) hb
  · have := h.len
    simp [St.push]
    omega
  · exact (h.pages m b q).fr hF (fun b _ h1 => h1.elim .inl (fun h2 => .inr (.inr (.inr h2)))) hft
  · refine hF.mono (fun i _ hi => ?_)
    rw [h.foot]
    rcases hi with h1 | h1
    · exact .inl h1
    · exact .inr (.inr (.inr h1))
  · rw [foot_is hset] at hb
    rw [h.foot]
    by_cases hlt : b < w.heap.size
    · exact .inl (hft b hlt hb)
    · exact .inr (by omega)
theorem Ram.lay {w w1 : World} {p : Nat} {s : St} {bp bg : Nat} {vo : Value} {f fg : Value → Value} (h : Ram w p s bp bg vo f fg) (m b q : Int) (v : Value) (xs : List Int) {base : Nat} (hrow : Row 5 .u8 w base v xs) (hr : InR 256 xs) (hl : (xs.length : Int) = s.g.s + 64)
    (hm : MapW Try.prog w1 45 bp (s.cnt + 1) (.slice none 0 0) (put f (key3 m b q) v)) (hf : Fr (fun x => x = bp) w w1) : Ram w1 p (s.lay m b q xs) bp bg vo (put f (key3 m b q) v) fg ∧ Step p w w1 := by
  obtain ⟨a1, a2, a3, a4, a5⟩ := h.apart
  have hb1 := hf.heap h.blk (fun e => a1 e.symm)
  obtain ⟨A, n, c, rfl, hnc, hrd, hA⟩ := hrow.rd
  refine ⟨⟨hb1, h.ok, hm, ?_, h.ne, ?_, Nat.le_succ_of_le h.len, h.gone, fun m' b' q' => ?_⟩, ?_, fun x hx => ?_⟩
  · exact (h.mg.fr hf (fun e => h.ne e.symm)).mono (Nat.le_succ _)
  · exact h.row.fr hf (fun x hx e => a3 (e ▸ hx))
  · show PageAt w1 _ s.g.s (put f (key3 m b q) (.slice A n c) (key3 m' b' q')) (if m' = m ∧ b' = b ∧ q' = q then xs else s.pages m' b' q')
    by_cases e : m' = m ∧ b' = b ∧ q' = q
    · rw [if_pos e]
      obtain ⟨rfl, rfl, rfl⟩ := e
      rw [put_same]
      refine ⟨A, n, c, rfl, hnc.out, hrd.out.fr hf (fun ad e hn hs => ?_), hr, .inr hl, fun ad e hn => ?_⟩
      · obtain ⟨_, _, cs, hc⟩ := hrow.blk ad.block (hA.out ad e)
        exact h.off_type hc (by decide) (by decide) (.inr (.inl hs))
      · obtain ⟨_, _, cs, hc⟩ := hrow.blk ad.block (hA.out ad e)
        exact h.off_type hc (by decide) (by decide)
    · rw [if_neg e, put_ne _ _ (fun e2 => e (key3_inj e2))]
      exact (h.pages m' b' q').fr hf (fun x _ hx => .inr (.inl hx)) (fun _ _ h => h)
  · refine hf.mono (fun i _ hi => ?_)
    rw [h.foot]
    exact .inr (.inl hi)
  · rw [foot_is hb1] at hx
    rw [h.foot]
    exact .inl hx

/-- What Program does: a page, and whether its member is there. -/
def St.err (s : St) (m : Int) : Int := if 0 < s.gone m then 71 else 0
def St.prog (s : St) (m b q : Int) (xs : List Int) : St := if 0 < s.gone m then s.push m else (s.push m).lay m b q xs

set_option maxHeartbeats 4000000 in
set_option maxRecDepth 100000 in
theorem Program_calls (p : Nat) (s : St) (m b q : Int) (D O : Option Addr) (nd cd co : Nat) (data oob : List Int) (w : World) (h : RamE w p s) (hi : In s.g m b q) (hD : RdO .u8 w p D nd data) (hO : RdO .u8 w p O 64 oob) (hcd : nd ≤ cd) (hrd : InR 256 data) (hro : InR 256 oob) (hnd : (nd : Int) = s.g.s) (hcnt : s.cnt ≤ 1000000000) :
    Calls Try.prog 109 #[.pointer (some ⟨p, 0, none⟩), .int .i64 m, .int .i64 b, .int .i64 q, .slice D nd cd, .slice O 64 co] w fun e w' => e = .returned (.int .i64 (s.err m)) ∧ RamE w' p (s.prog m b q (data ++ oob)) ∧ Step p w w' := by
  obtain ⟨bp, bg, vo, f, fg, h⟩ := h
  have c0 := cell_is (i := 0) h.blk rfl
  have c1 := cell_is (i := 1) h.blk rfl
  have c2 := cell_is (i := 2) h.blk rfl
  have c3 := cell_is (i := 3) h.blk rfl
  have hp : p < w.heap.size := (Array.getElem?_eq_some_iff.1 h.blk).1
  have hok := h.ok
  have hc := hok.c
  have hgb := hok.b
  have hgp := hok.p
  have hgs := hok.s
  obtain ⟨⟨m0, m1⟩, ⟨b0, b1⟩, q0, q1⟩ := hi
  have HG := As.mk (h.gone m (by omega) (by omega))
  have HM := As.mk h
  have HV := As.mk (fun w => Virtual_calls s.g w hok)
  have HD := As.mk hD
  have HO := As.mk hO
  have HRD := As.mk hrd
  have HRO := As.mk hro
  have HCD := As.mk hcd
  have HCN := As.mk hcnt
  have HND := As.mk hnd
  unfold Geo.val at HV
  have d1 : decide (m < 0) = false := decide_eq_false (by omega)
  have d2 : decide (s.g.c ≤ m) = false := decide_eq_false (by omega)
  have d3 : decide (b < 0) = false := decide_eq_false (by omega)
  have d4 : decide (s.g.b - 5 ≤ b) = false := decide_eq_false (by omega)
  have d5 : decide (q < 0) = false := decide_eq_false (by omega)
  have d6 : decide (s.g.p ≤ q) = false := decide_eq_false (by omega)
  have d8 : ((nd : Int) != s.g.s) = false := by rw [hnd]; simp
  have HPR : As (s.prog m b q (data ++ oob) = if 0 < s.gone m then s.push m else (s.push m).lay m b q (data ++ oob)) := ⟨rfl⟩
  clear h hok hD hO hrd hro hcd hcnt hnd
  go_enter Try.func109, Try.ntmps109
  go_wp2_with fail
  ((with_reducible refine (HV.out _).mono ?_); rintro e w1 ⟨rfl, hf1⟩; have HF1 := As.mk hf1; have HM1 := As.mk (HM.out.none_ hf1); clear hf1 c0 c1 c2 c3; have c2 := cell_is (i := 2) HM1.out.blk rfl; have c3 := cell_is (i := 3) HM1.out.blk rfl; have c7 := cell_is (i := 7) HM1.out.blk rfl)
  obtain ⟨Ao, no, cap, eo, hoc, hord, _⟩ := HM1.out.row.rd
  subst eo
  have HFS := As.mk (Step.none_ hp HF1.out)
  by_cases hgo : 0 < s.gone m
  · have d7 : decide (0 < s.gone m) = true := decide_eq_true hgo
    have HPG : As (s.prog m b q (data ++ oob) = s.push m ∧ s.err m = 71) := ⟨by rw [HPR.out, St.err, if_pos hgo, if_pos hgo]; exact ⟨rfl, rfl⟩⟩
    clear hgo
    go_wp2_with (first | (at_builtin; (with_reducible refine append1 0 rfl _ _ 39 3 .i64 8 rfl Try.underlying39 infoInt (by decide) (.slice Ao no cap) s.order _ rfl rfl HM1.out.row ?c0 ?c1 ?_); (case c0 => omega); (case c1 => have := HM1.out.len; have := HCN.out; omega); intro v1 w2 hrow1 hfr1 hat1; have hb2 := hfr1.heap HM1.out.blk HM1.out.apart.2.2.2.2; have f7 := free_of (i := 7) hb2; have k7 := cell_is (i := 7) hb2 rfl; have c5 := cell_is (i := 5) hb2 rfl; have HR1 := As.mk hrow1; have HQ := As.mk (HM1.out.push m v1 hrow1 hfr1 hat1); clear hrow1 hfr1 hat1 hb2 c2 c3 c7; obtain ⟨A1, n1, c1, e1, _⟩ := HR1.out.rd; subst e1) | (at_lookup; (with_reducible refine wp_look _ rfl _ _ 38 rfl 3 3 lawI Try.underlying38 (.int .i64 0) (zeroI _) bg _ fg rfl HQ.out.1.mg (.int .i64 m) rfl (keyOf_i ⟨by omega, by omega⟩) (.int .i64 (s.gone m)) HG.out ?_)))
    go_ret
    refine ⟨by rw [HPG.out.2]; rfl, ?_, HFS.out.trans HQ.out.2⟩
    rw [HPG.out.1]
    exact ⟨bp, bg, _, f, fg, HQ.out.1⟩
  · have d7 : decide (0 < s.gone m) = false := decide_eq_false hgo
    have HPG : As (s.prog m b q (data ++ oob) = (s.push m).lay m b q (data ++ oob) ∧ s.err m = 0) := ⟨by rw [HPR.out, St.err, if_neg hgo, if_neg hgo]; exact ⟨rfl, rfl⟩⟩
    clear hgo
    go_upto_region 6 with (first | (at_builtin; (with_reducible refine append1 0 rfl _ _ 39 3 .i64 8 rfl Try.underlying39 infoInt (by decide) (.slice Ao no cap) s.order _ rfl rfl HM1.out.row ?k0 ?k1 ?_); (case k0 => omega); (case k1 => have := HM1.out.len; have := HCN.out; omega); intro v1 w2 hrow1 hfr1 hat1; have hb2 := hfr1.heap HM1.out.blk HM1.out.apart.2.2.2.2; have f7 := free_of (i := 7) hb2; have k7 := cell_is (i := 7) hb2 rfl; have c5 := cell_is (i := 5) hb2 rfl; have c4 := cell_is (i := 4) hb2 rfl; have HR1 := As.mk hrow1; have HQ := As.mk (HM1.out.push m v1 hrow1 hfr1 hat1); clear hrow1 hfr1 hat1 hb2 c2 c3 c7; obtain ⟨A1, n1, c1, e1, _⟩ := HR1.out.rd; subst e1) | (at_lookup; (with_reducible refine wp_look _ rfl _ _ 38 rfl 3 3 lawI Try.underlying38 (.int .i64 0) (zeroI _) bg _ fg rfl HQ.out.1.mg (.int .i64 m) rfl (keyOf_i ⟨by omega, by omega⟩) (.int .i64 (s.gone m)) HG.out ?_)))
    have HSQ := As.mk (HFS.out.trans HQ.out.2)
    have hk4 := cell_is (i := 4) HQ.out.1.blk rfl
    have HPT : As (∀ w', Fr None_ (w2.setCell ⟨p, 7, none⟩ (.slice A1 n1 c1)) w' → Calls Try.prog 88 #[.slice D nd cd, .int .i64 0, .int .i64 (nd : Int)] w' fun e w'' => ∃ v, e = .returned v ∧ Row 5 .u8 w'' w'.heap.size v data ∧ Fr None_ w' w'') := ⟨fun w' hf => by
      have h := Part_calls D nd cd data 0 nd w' ((HD.out.step HSQ.out).1.none_ hf) HCD.out (by have := HND.out; omega) (by omega) (by omega) (by omega)
      simp only [Int.toNat_zero, List.drop_zero, Int.toNat_natCast] at h
      rw [List.take_of_length_le (by rw [HD.out.1.1]; exact Nat.le_refl _)] at h
      exact h⟩
    clear c4 c5 f7 k7
    generalize hw3 : w2.setCell ⟨p, 7, none⟩ (.slice A1 n1 c1) = w3 at *
    clear hw3
    have HKL := As.mk (keyOf_3 (m := m) (b := b) (q := q) ⟨by omega, by omega⟩ ⟨by omega, by omega⟩ ⟨by omega, by omega⟩)
    go_region_held3 (fun w' => w'.cell? ⟨p, 4, none⟩ = some (.map (some bp))) (first | go_keep | (refine Fr.cell ‹Fr None_ _ _› ?_ (fun h => h); go_keep)) (first | ((with_reducible refine (HPT.out _ ((Fr.refl None_ w3).drew)).mono ?_);  rintro e w4 ⟨vd, rfl, hrow4, hf4⟩; obtain ⟨Ad, ndd, cdd, ed, hdc, hdd, hda⟩ := hrow4.rd; subst ed) | ((with_reducible refine step_appendRow 0 rfl _ _ 23 5 .u8 1 rfl Try.underlying23 infoByte (by decide) (.slice Ad ndd cdd) data oob O 64 co rfl rfl (hrow4.lower (Nat.zero_le _)) ?h1 (Nat.zero_le _) ?h2 ?_); (case h1 => exact (HO.out.step HSQ.out).1.none_ ((Fr.refl None_ w3).drew.after hf4 (fun _ _ h => h))); (case h2 => have h1 := HD.out.1.1; have h2 := HND.out; omega); intro v5 w5 hrow5 hfr5 hat5; have hF5 : Fr None_ w3 w5 := row_grow hrow4 ((Fr.refl None_ w3).drew.after hf4 (fun _ _ h => h)) hfr5; have HM5 := As.mk (HQ.out.1.none_ hF5); obtain ⟨kl, hkl⟩ := HKL.out; obtain ⟨w6, hrun, hmap, hfr6⟩ := HM5.out.mp.store law3 Try.underlying37 (show s.cnt + 1 < maxLen by unfold maxLen; have := HCN.out; omega) hkl v5; have HROW := As.mk hrow5; have HMAP := As.mk hmap; have HFR6 := As.mk hfr6; have HF5 := As.mk hF5; unfold key3 at hrun; have hk5 := cell_is (i := 4) HM5.out.blk rfl; have hk6 := cell_is (i := 4) (hfr6.heap HM5.out.blk (fun e => HM5.out.apart.1 e.symm)) rfl; clear hrow5 hfr5 hat5 hmap hfr6 hkl hF5))
    all_goals
      go_wp2_with fail
      go_ret
      obtain ⟨hA, hB⟩ := HM5.out.lay m b q v5 (data ++ oob) HROW.out (by intro x hx; rcases List.mem_append.1 hx with h1 | h1; exact HRD.out x h1; exact HRO.out x h1) (by have h1 := HD.out.1.1; have h2 := HO.out.1.1; have h3 := HND.out; show ((data ++ oob).length : Int) = s.g.s + 64; rw [List.length_append]; omega) HMAP.out HFR6.out
      refine ⟨by rw [HPG.out.2]; rfl, ?_, HSQ.out.trans ((Step.none_ (Nat.lt_of_lt_of_le hp HSQ.out.fr.size) HF5.out).trans hB)⟩
      rw [HPG.out.1]
      exact ⟨bp, bg, _, _, fg, hA⟩

/-- A block's pages are gone: of all members below m, and of m those below q. -/
def St.wipe (s : St) (b m q : Int) : St := { s with pages := fun m' b' q' => if b' = b ∧ 0 ≤ m' ∧ 0 ≤ q' ∧ q' < s.g.p ∧ (m' < m ∨ (m' = m ∧ q' < q)) then [] else s.pages m' b' q' }
theorem Ram.wipe {w w1 : World} {p : Nat} {s : St} {bp bg : Nat} {vo : Value} {f fg : Value → Value} {b m q : Int} (h : Ram w p (s.wipe b m q) bp bg vo f fg) (hm : 0 ≤ m) (hq : 0 ≤ q) (hqp : q < s.g.p)
    (hmap : MapW Try.prog w1 45 bp s.cnt (.slice none 0 0) (put f (key3 m b q) (.slice none 0 0))) (hf : Fr (fun x => x = bp) w w1) : Ram w1 p (s.wipe b m (q + 1)) bp bg vo (put f (key3 m b q) (.slice none 0 0)) fg := by
  obtain ⟨a1, a2, a3, a4, a5⟩ := h.apart
  have hb1 := hf.heap h.blk (fun e => a1 e.symm)
  refine ⟨hb1, h.ok, hmap, h.mg.fr hf (fun e => h.ne e.symm), h.ne, h.row.fr hf (fun x hx e => a3 (e ▸ hx)), h.len, h.gone, fun m' b' q' => ?_⟩
  show PageAt w1 _ s.g.s (put f (key3 m b q) (.slice none 0 0) (key3 m' b' q')) (if b' = b ∧ 0 ≤ m' ∧ 0 ≤ q' ∧ q' < s.g.p ∧ (m' < m ∨ (m' = m ∧ q' < q + 1)) then [] else s.pages m' b' q')
  by_cases e : m' = m ∧ b' = b ∧ q' = q
  · obtain ⟨rfl, rfl, rfl⟩ := e
    rw [put_same, if_pos ⟨rfl, hm, hq, hqp, .inr ⟨rfl, by omega⟩⟩]
    exact PageAt.nil _ _ _
  · have he : (b' = b ∧ 0 ≤ m' ∧ 0 ≤ q' ∧ q' < s.g.p ∧ (m' < m ∨ (m' = m ∧ q' < q + 1))) ↔ (b' = b ∧ 0 ≤ m' ∧ 0 ≤ q' ∧ q' < s.g.p ∧ (m' < m ∨ (m' = m ∧ q' < q))) := by omega
    rw [put_ne _ _ (fun e2 => e (by have := key3_inj e2; exact this))]
    simp only [he]
    exact (h.pages m' b' q').fr hf (fun x _ hx => .inr (.inl hx)) (fun _ _ h => h)
theorem if_iff {p q : Prop} [Decidable p] [Decidable q] {α : Type} {a b : α} (h : p ↔ q) : (if p then a else b) = if q then a else b := by
  by_cases hp : p
  · rw [if_pos hp, if_pos (h.1 hp)]
  · rw [if_neg hp, if_neg (fun x => hp (h.2 x))]
theorem St.wipe_next (s : St) (b m : Int) (hm : 0 ≤ m) : s.wipe b m s.g.p = s.wipe b (m + 1) 0 := by
  unfold St.wipe
  congr 1
  funext m' b' q'
  exact if_iff (by omega)
theorem St.wipe_none (s : St) (b : Int) : s.wipe b 0 0 = s := by
  cases s with
  | mk g pages gone first order cnt =>
    unfold St.wipe
    congr 1
    funext m' b' q'
    exact if_neg (by omega)
/-- A block is erased. -/
def St.erase (s : St) (b : Int) : St := s.wipe b s.g.c 0

set_option maxHeartbeats 4000000 in
set_option maxRecDepth 100000 in
theorem Erase_calls (p : Nat) (s : St) (b : Int) (w : World) (h : RamE w p s) (hb : 0 ≤ b ∧ b < 1000) : Calls Try.prog 107 #[.pointer (some ⟨p, 0, none⟩), .int .i64 b] w fun e w' => e = .returned (.int .i64 0) ∧ RamE w' p (s.erase b) ∧ Step p w w' := by
  obtain ⟨bp, bg, vo, f, fg, h⟩ := h
  have hok := h.ok
  have hc := hok.c
  have hgp := hok.p
  have HM := As.mk h
  have HW := As.mk (s.wipe_none b)
  have HE : As (s.erase b = s.wipe b s.g.c 0) := ⟨rfl⟩
  have HN := As.mk (fun m (hm : 0 ≤ m) => s.wipe_next b m hm)
  clear h hok
  go_enter Try.func107, Try.ntmps107
  go_wp2
  go_loopw [5, 6] (fun v5 v6 w' => ∃ m : Int, v5 = .int .i64 m ∧ 0 ≤ m ∧ m ≤ s.g.c ∧ As (∃ f', Ram w' p (s.wipe b m 0) bp bg vo f' fg) ∧ As (Fr (fun x => x = bp) w w')) (fun v5 _ _ => (s.g.c - intOf v5).toNat)
  case atStart => exact ⟨0, rfl, by omega, by omega, ⟨f, by rw [HW.out]; exact HM.out⟩, ⟨Fr.refl _ _⟩⟩
  case round =>
    obtain ⟨m, rfl, m0, m1, HX, HF⟩ := hrel
    obtain ⟨f1, hx⟩ := HX.out
    have c0 := cell_is (i := 0) hx.blk rfl
    have HX1 := As.mk hx
    clear hx
    rw [show (s.wipe b m 0).g = s.g from rfl] at c0
    by_cases hlt : m < s.g.c
    · go_wp2
      clear c0
      go_loopw [6] (fun v6 w' => ∃ q : Int, v6 = .int .i64 q ∧ 0 ≤ q ∧ q ≤ s.g.p ∧ As (∃ f', Ram w' p (s.wipe b m q) bp bg vo f' fg) ∧ As (Fr (fun x => x = bp) w w')) (fun v6 _ => (s.g.p - intOf v6).toNat)
      case atStart => exact ⟨0, rfl, by omega, by omega, ⟨_, HX1.out⟩, HF⟩
      case round =>
        obtain ⟨q, rfl, q0, q1, HY, HG⟩ := hrel
        obtain ⟨f2, hy⟩ := HY.out
        have c2 := cell_is (i := 2) hy.blk rfl
        have c4 := cell_is (i := 4) hy.blk rfl
        have HY1 := As.mk hy
        clear hy
        rw [show (s.wipe b m q).g = s.g from rfl] at c2
        by_cases hlq : q < s.g.p
        · go_wp2_with (at_delete; (with_reducible refine wp_drop _ rfl _ _ 37 45 rfl 23 law3 Try.underlying37 (.slice none 0 0) bp _ f2 rfl HY1.out.mp (key3 m b q) rfl (keyOf_3 ⟨by omega, by omega⟩ ⟨by omega, by omega⟩ ⟨by omega, by omega⟩) ?_); intro w2 hmap hf2; have HMP := As.mk (HY1.out.wipe m0 q0 hlq hmap hf2); have HFF := As.mk (HG.out.after hf2 (fun _ _ h => h)); clear hmap hf2 c2 c4)
          refine ⟨⟨q + 1, by go_num, by omega, by omega, ⟨_, HMP.out⟩, HFF⟩, by simp [intOf]; omega⟩
        · have HQ : As (q = s.g.p) := ⟨by omega⟩
          go_wp2
          refine ⟨⟨m + 1, by go_num, by omega, by omega, ⟨f2, ?_⟩, HG⟩, by simp [intOf]; omega⟩
          have h1 := HY1.out
          rw [HQ.out, HN.out m m0] at h1
          exact h1
    · have HQ : As (m = s.g.c) := ⟨by omega⟩
      go_wp2
      go_ret
      refine ⟨rfl, ⟨bp, bg, vo, f1, fg, ?_⟩, HF.out.mono (fun i _ hi => (HM.out.foot i).2 (.inr (.inl hi))), fun x hx => .inl ?_⟩
      · have h1 := HX1.out
        rw [HQ.out] at h1
        rw [HE.out]
        exact h1
      · rw [HM.out.foot]
        rw [HX1.out.foot] at hx
        exact hx
end Go.Proofs.Ytlhgbamajabnfaa.Ram

/- The same pages; a page whose member is dead is read. -/
import Derived.Test.YtlhgbamajabnfaaCase
import Derived.Deep.RegionHeld3
namespace Go.Proofs.Ytlhgbamajabnfaa.Kept
open Go.RowKit Go.Proofs.Ytlhgbamajabnfaa.Gab Go.Proofs.Ytlhgbamajabnfaa.Map Go.Proofs.Ytlhgbamajabnfaa.Geom Go.Proofs.Ytlhgbamajabnfaa.Ram Go.Proofs.Ytlhgbamajabnfaa.Par Go.Proofs.Ytlhgbamajabnfaa.Fields Go.Proofs.Ytlhgbamajabnfaa.Ord Go.Proofs.Ytlhgbamajabnfaa.Write Go.Proofs.Ytlhgbamajabnfaa.Stripe Go.Proofs.Ytlhgbamajabnfaa.Ref Go.Proofs.Ytlhgbamajabnfaa.Case Go.Proofs.Ytlhgbamajabnfaa.SRead Go.Proofs.Ytlhgbamajabnfaa.Again
open Go.Proofs.Ytlhgbamajabnfaa.Wr (InR)
open Go.Proofs.Ytlhgbamajabnfaa.Str (pcells take_snoc add_next)
set_option linter.unusedVariables false
set_option linter.unusedSimpArgs false

set_option maxHeartbeats 1000000 in
set_option maxRecDepth 100000 in
theorem same_calls (h : Head) (A B : Option Addr) (n c m d : Nat) (xs : List Int) (w : World) (hA : Rd .u8 w A n xs) (hB : Rd .u8 w B m xs) (hx : InR 256 xs) :
    Calls Try.prog 25 #[.agg (pcells h (.slice A n c)), .agg (pcells h (.slice B m d))] w fun e w' => e = .returned (.bool true) ∧ Fr None_ w w' := by
  have HS := As.mk (fun (w' : World) (hf : Fr None_ w w') => Same_calls A B n c m d xs xs w' (hA.none_ hf) (hB.none_ hf) hx hx)
  simp only [decide_true] at HS
  unfold pcells
  clear hA hB hx
  go_enter Try.func25, Try.ntmps25
  go_wp2_with fail
  ((with_reducible refine (HS.out _ (((Fr.refl None_ w).alloc _).alloc _)).mono ?_); rintro e w1 ⟨rfl, rfl⟩)
  go_wp2_with fail
  go_ret
  exact ⟨rfl, ((Fr.refl None_ w).alloc _).alloc _⟩

/-! ### members of one's own -/
/-- A step of members that are all new leaves what was there. -/
theorem step_new {p : Nat} {w w1 w2 : World} (hF : Fr None_ w w1) (hb : ∀ b, Foot w1 p b → w.heap.size ≤ b) (hs : Ram.Step p w1 w2) : Fr None_ w w2 ∧ ∀ b, Foot w2 p b → w.heap.size ≤ b :=
  ⟨hF.after hs.fr (fun i hi h => absurd hi (by have := hb i h; omega)), fun b h => by
    rcases hs.foot b h with h1 | h1
    · exact hb b h1
    · exact Nat.le_trans hF.size h1⟩
def _root_.Go.Proofs.Ytlhgbamajabnfaa.Ram.St.kill (s : Ram.St) (m : Int) : Ram.St := { s with gone := fun n => if n = m then 1 else s.gone n, cnt := s.cnt + 1 }
theorem Ram.kill {w w1 : World} {p : Nat} {s : Ram.St} {bp bg : Nat} {vo : Value} {f fg : Value → Value} (h : Ram w p s bp bg vo f fg) (m : Int) (hm : MapW Try.prog w1 3 bg (s.cnt + 1) (.int .i64 0) (put fg (.int .i64 m) (.int .i64 1))) (hf : Fr (fun x => x = bg) w w1) :
    Ram w1 p (s.kill m) bp bg vo f (put fg (.int .i64 m) (.int .i64 1)) ∧ Ram.Step p w w1 := by
  obtain ⟨a1, a2, a3, a4, a5⟩ := h.apart
  have hb1 := hf.heap h.blk (fun e => a2 e.symm)
  refine ⟨⟨hb1, h.ok, (h.mp.fr hf (fun e => h.ne e)).mono (Nat.le_succ _), hm, h.ne, h.row.fr hf (fun x hx e => a4 (e ▸ hx)), Nat.le_succ_of_le h.len, fun n n0 n1 => ?_, fun m' b' q' => ?_⟩, ?_, fun x hx => ?_⟩
  · show put fg (.int .i64 m) (.int .i64 1) (.int .i64 n) = .int .i64 (if n = m then 1 else s.gone n)
    by_cases e : n = m
    · subst e
      rw [put_same, if_pos rfl]
    · rw [put_ne _ _ (fun e2 => e (by injection e2)), if_neg e]
      exact h.gone n n0 n1
  · exact (h.pages m' b' q').fr hf (fun x _ hx => .inr (.inr (.inl hx))) (fun _ _ h => h)
  · refine hf.mono (fun i _ hi => ?_)
    rw [h.foot]
    exact .inr (.inr (.inl hi))
  · rw [foot_is hb1] at hx
    rw [h.foot]
    exact .inl hx
def _root_.Go.Proofs.Ytlhgbamajabnfaa.Ram.St.lead (s : Ram.St) (m : Int) : Ram.St := { s with first := m }
theorem Ram.lead {w : World} {p : Nat} {s : Ram.St} {bp bg : Nat} {vo : Value} {f fg : Value → Value} (h : Ram w p s bp bg vo f fg) (m : Int) :
    Ram (w.setCell ⟨p, 6, none⟩ (.int .i64 m)) p (s.lead m) bp bg vo f fg ∧ Ram.Step p w (w.setCell ⟨p, 6, none⟩ (.int .i64 m)) := by
  obtain ⟨a1, a2, a3, a4, a5⟩ := h.apart
  have hset : (w.setCell ⟨p, 6, none⟩ (.int .i64 m)).heap[p]? = some (.cells #[.int .i64 s.g.c, .int .i64 s.g.b, .int .i64 s.g.p, .int .i64 s.g.s, .map (some bp), .map (some bg), .int .i64 m, vo] 41 (0, 0)) := by
    have h1 := h.blk
    simp [World.setCell, Array.getElem?_modify, h1]
  have hf : Fr (fun b => b = p) w (w.setCell ⟨p, 6, none⟩ (.int .i64 m)) := (Fr.refl (fun b => b = p) w).setCell (p := ⟨p, 6, none⟩) (fun _ => rfl) _
  refine ⟨⟨hset, h.ok, h.mp.fr hf a1, h.mg.fr hf a2, h.ne, h.row.fr hf (fun x hx e => a5 (e ▸ hx)), h.len, h.gone, fun m' b' q' => (h.pages m' b' q').fr hf (fun x _ hx => .inl hx) (fun _ _ h => h)⟩, ?_, fun x hx => ?_⟩
  · refine hf.mono (fun i _ hi => ?_)
    rw [h.foot]
    exact .inl hi
  · rw [foot_is hset] at hx
    rw [h.foot]
    exact .inl hx
/-- Behind a write. -/
theorem stands_written {s : Ram.St} {l : List (Head × List Int)} {seg row : Int} (hok : s.g.Ok) (ha : s.g.At seg row) (hl : LOk s.g l) (hg : ∀ m, 0 ≤ m → m < s.g.c → ¬ 0 < s.gone m) :
    Stands (s.progs seg row (fun m => (pageOf s.g l seg row m).1 ++ (pageOf s.g l seg row m).2) (orderOf s.first s.g.c)) l seg row (-1) := by
  obtain ⟨a1, a2, a3, a4, a5⟩ := progs_gone seg row (fun m => (pageOf s.g l seg row m).1 ++ (pageOf s.g l seg row m).2) (orderOf s.first s.g.c) s
  refine ⟨by rw [a2]; exact hok, by rw [a2]; exact ha, by rw [a2]; exact hl, fun m m0 m1 _ => ?_, fun m m0 m1 _ => ?_⟩
  · rw [a1]
    rw [a2] at m1
    exact hg m m0 m1
  · rw [a2] at m1
    rw [progs_pages, if_pos ⟨mem_order m0 m1, rfl, rfl, hg m m0 m1⟩, a2]
theorem Stands.kill {s : Ram.St} {l : List (Head × List Int)} {seg row : Int} (h : Stands s l seg row (-1)) (x : Int) : Stands (s.kill x) l seg row x :=
  ⟨h.ok, h.at_, h.lok, fun m m0 m1 hm => by show ¬ 0 < (if m = x then (1 : Int) else s.gone m); rw [if_neg hm]; exact h.gone m m0 m1 (by omega), fun m m0 m1 hm => h.pages m m0 m1 (by omega)⟩
theorem SPs.step {w w' : World} {p : Nat} {vs : List Value} {l : List (Head × List Int)} (h : SPs w p vs l) (hs : Ram.Step p w w') : SPs w' p vs l := ⟨h.1, fun j hj d => ⟨(h.2 j hj d).1, (h.2 j hj d).2.1.step hs, (h.2 j hj d).2.2⟩⟩
theorem goneIn_none {s : Ram.St} : ∀ (ms : List Int) (k : Int), (∀ m ∈ ms, ¬ 0 < s.gone m) → ms.foldl (fun (k : Int) m => if 0 < s.gone m then k + 1 else k) k = k
  | [], k, _ => rfl
  | m :: ms, k, h => by
    rw [List.foldl_cons, if_neg (h m List.mem_cons_self)]
    exact goneIn_none ms k (fun x hx => h x (List.mem_cons_of_mem _ hx))
theorem order_len {first c : Int} (h : ¬ (0 ≤ first ∧ first < c)) : (orderOf first c).length = c.toNat := by
  unfold orderOf pre
  rw [if_neg h, List.nil_append, List.filter_eq_self.2]
  · simp [upTo]
  · intro m hm
    unfold upTo at hm
    obtain ⟨k, hk, rfl⟩ := List.mem_map.1 hm
    have := List.mem_range.1 hk
    simp only [decide_eq_true_eq, Int.ofNat_eq_natCast]
    omega

def kc : Cs := ⟨0, 6, 2, 0, 0, none, 0, 0, none, 0, 0, none, 0, 0⟩
def kg : Geo := ⟨3, 20, 6, 256⟩
theorem kg_at : kg.At 6 2 := ⟨by show (0 : Int) ≤ 6 ∧ (6 : Int) < 20 - 5; decide, by show (0 : Int) ≤ 2 ∧ (2 : Int) < 6; decide⟩
set_option maxHeartbeats 8000000 in
set_option maxRecDepth 100000 in
theorem kept_calls (w : World) : Calls Try.prog 12 #[] w fun e w' => e = .returned (.bool true) ∧ Fr None_ w w' := by
  have HSH := As.mk (fun w => shape_calls kc w)
  have hge : kc.geo = kg := rfl
  have hok := kc.geo_ok
  have HPG := As.mk (fun (p : Nat) (s : Ram.St) (w : World) (hR : RamE w p s) => pages_calls kc p s [] [] w hR ⟨rfl, fun h hh => (by cases hh), fun h => absurd h (by decide)⟩ (by decide) (Rd.nil _ _ _) (fun y hy => by cases hy))
  have HNW := As.mk (fun w => New_calls kc.geo w hok)
  rw [hge] at HSH HNW HPG hok
  have HMB := As.mk (fun (w : World) => Member_calls kg 6 2 0 w hok kg_at (by decide) (by decide))
  unfold Cs.cells kc at *
  dsimp only at HSH HNW HPG
  have hgv : kg.val = .agg #[.int .i64 3, .int .i64 20, .int .i64 6, .int .i64 256] := rfl
  rw [hgv] at HSH HNW HMB
  have HOK := As.mk hok
  have HBX := As.mk (heap_alloc_new w (.cells #[.int .i64 0, .int .i64 6, .int .i64 2, .slice none 0 0, .slice none 0 0, .int .i64 0, .int .i64 0, .slice none 0 0] 25))
  clear hge hok hgv
  go_enter Try.func12, Try.ntmps12
  go_wp2_with fail
  ((with_reducible refine (HSH.out _).mono ?_); rintro e w1 ⟨rfl, hf1⟩)
  have HB1 := As.mk (hf1.heap HBX.out (fun h => h))
  have HF1 := As.mk (((Fr.refl None_ w).alloc _).after hf1 (fun _ _ h => h))
  clear hf1
  go_wp2_with fail
  ((with_reducible refine (HNW.out _).mono ?_); rintro e w2 ⟨p, rfl, hR2, hf2, hn2⟩)
  have HB2 := As.mk (hf2.heap HB1.out (fun h => h))
  have HR2 := As.mk hR2
  have HF2 := As.mk (show Fr None_ w w2 ∧ ∀ b, Foot w2 p b → w.heap.size ≤ b from ⟨HF1.out.after hf2 (fun _ _ h => h), fun b hb => Nat.le_trans HF1.out.size (hn2 b hb)⟩)
  clear hf2 hn2 hR2
  have b0 := cell_is (i := 0) HB2.out rfl
  have b1 := cell_is (i := 1) HB2.out rfl
  have b2 := cell_is (i := 2) HB2.out rfl
  have b3 := cell_is (i := 3) HB2.out rfl
  have b4 := cell_is (i := 4) HB2.out rfl
  have b5 := cell_is (i := 5) HB2.out rfl
  have b6 := cell_is (i := 6) HB2.out rfl
  have b7 := cell_is (i := 7) HB2.out rfl
  go_wp2_with fail
  ((with_reducible refine (HPG.out p _ _ HR2.out).mono ?_); rintro e w3 ⟨A, c, n, vs, l, rfl, hn, hC, hS, hl, hf3⟩)
  have HF3 := As.mk hf3
  have HN := As.mk hn
  have HC := As.mk hC
  have HS := As.mk hS
  have HL := As.mk hl
  have HR3 := As.mk (HR2.out.none_ hf3)
  have HF3w := As.mk (step_new HF2.out.1 HF2.out.2 (Ram.Step.none_ HR2.out.lt hf3))
  clear b0 b1 b2 b3 b4 b5 b6 b7 hf3 hn hC hS hl
  have HWR := As.mk (Write_calls p (Ram.St.new kg) 6 2 A n c vs l w3 HR3.out kg_at HN.out HC.out HS.out (fun q hq => HL.out.data q hq) (by decide))
  rw [show errOf (goneIn (Ram.St.new kg) (orderOf (Ram.St.new kg).first (Ram.St.new kg).g.c)) = 0 from by rw [show goneIn (Ram.St.new kg) (orderOf (Ram.St.new kg).first (Ram.St.new kg).g.c) = 0 from goneIn_none _ _ (fun m _ => by show ¬ (0 : Int) < 0; decide)]; rfl] at HWR
  have HST := As.mk (stands_written (s := Ram.St.new kg) (l := l) HOK.out kg_at HL.out (fun m _ _ => by show ¬ (0 : Int) < 0; decide))
  have HPF := As.mk (progs_gone 6 2 (fun m => (pageOf (Ram.St.new kg).g l 6 2 m).1 ++ (pageOf (Ram.St.new kg).g l 6 2 m).2) (orderOf (Ram.St.new kg).first (Ram.St.new kg).g.c) (Ram.St.new kg))
  have HOL : As ((orderOf (Ram.St.new kg).first (Ram.St.new kg).g.c).length = 3) := ⟨order_len (by show ¬ (0 ≤ (-1 : Int) ∧ (-1 : Int) < 3); decide)⟩
  unfold dev at HWR
  go_wp2_with fail
  ((with_reducible refine (HWR.out).mono ?_); rintro e w4 ⟨rfl, hR4, hS4⟩)
  have HR4 := As.mk hR4
  have HF4 := As.mk (step_new HF3w.out.1 HF3w.out.2 hS4)
  have HC4 := As.mk (HC.out.step hS4)
  have HS4 := As.mk hS4
  clear hR4 hS4
  have HS4' := As.mk (SPs.step HS.out HS4.out)
  generalize hs1 : (Ram.St.new kg).progs 6 2 (fun m => (pageOf (Ram.St.new kg).g l 6 2 m).1 ++ (pageOf (Ram.St.new kg).g l 6 2 m).2) (orderOf (Ram.St.new kg).first (Ram.St.new kg).g.c) = s1 at *
  have HG1 : As (s1.g = kg) := ⟨HPF.out.2.1⟩
  have HCN : As (s1.cnt ≤ 100) := ⟨by have h1 := HPF.out.2.2.2.2; have h2 := HOL.out; have h3 : (Ram.St.new kg).cnt = 0 := rfl; omega⟩
  have HOR : As (s1.order.length = 3) := ⟨by rw [HPF.out.2.2.2.1, List.length_append, HOL.out]; rfl⟩
  clear hs1
  obtain ⟨bp, bg, vo, f, fg, h4⟩ := HR4.out
  have c0 := cell_is (i := 0) h4.blk rfl
  have c1 := cell_is (i := 1) h4.blk rfl
  have c2 := cell_is (i := 2) h4.blk rfl
  have c3 := cell_is (i := 3) h4.blk rfl
  have c5 := cell_is (i := 5) h4.blk rfl
  rw [HG1.out] at c0 c1 c2 c3
  change w4.cell? ⟨p, 0, none⟩ = some (.int .i64 3) at c0
  change w4.cell? ⟨p, 1, none⟩ = some (.int .i64 20) at c1
  change w4.cell? ⟨p, 2, none⟩ = some (.int .i64 6) at c2
  change w4.cell? ⟨p, 3, none⟩ = some (.int .i64 256) at c3
  have H4 := As.mk h4
  clear h4
  have hdm := mem_range HOK.out 6 2 0 (by decide) (by show (0 : Int) < 3 - 1; decide)
  have HDM := As.mk (show kg.mem 6 2 0 = kg.mem 6 2 (0 : Nat) from rfl)
  generalize hdmg : kg.mem 6 2 0 = dm at *
  have HDME := As.mk hdmg
  have hdm3 : 0 ≤ dm ∧ dm < 3 := ⟨hdm.1, hdm.2.1⟩
  obtain ⟨hdm0, hdm1⟩ := hdm3
  clear hdm hdmg
  go_upto_region 6 with fail
  go_cut [] (fun wc => ∃ (fg' : Value → Value), As (Ram wc p (s1.kill dm) bp bg vo f fg') ∧ As (Ram.Step p w4 wc))
  case first =>
    go_region_held3 (fun w' => w'.cell? ⟨p, 0, none⟩ = some (.int .i64 3) ∧ w'.cell? ⟨p, 1, none⟩ = some (.int .i64 20) ∧ w'.cell? ⟨p, 2, none⟩ = some (.int .i64 6) ∧ w'.cell? ⟨p, 3, none⟩ = some (.int .i64 256) ∧ w'.cell? ⟨p, 5, none⟩ = some (.map (some bg))) (first | go_keep | (refine ⟨?_, ?_, ?_, ?_, ?_⟩ <;> (refine Fr.cell ‹Fr None_ _ _› ?_ (fun h => h); go_keep)) | exact hks) (first | ((with_reducible refine (HMB.out _).mono ?_); rintro e w5 ⟨rfl, hf5⟩; have hF5 : Fr None_ w4 w5 := (Fr.refl None_ w4).drew.after hf5 (fun _ _ h => h); have H5 := As.mk (H4.out.none_ hF5); have HF5 := As.mk hF5; obtain ⟨kl, hkl⟩ := keyOf_i (m := dm) ⟨by omega, by omega⟩; obtain ⟨w6, hrun, hmap, hfr6⟩ := H5.out.mg.store lawI Try.underlying38 (show s1.cnt < maxLen by unfold maxLen; have := HCN.out; omega) hkl (.int .i64 1); have HK := As.mk (Ram.kill H5.out dm hmap hfr6); have hb6 := HK.out.1.blk; have hks : w6.cell? ⟨p, 0, none⟩ = some (.int .i64 3) ∧ w6.cell? ⟨p, 1, none⟩ = some (.int .i64 20) ∧ w6.cell? ⟨p, 2, none⟩ = some (.int .i64 6) ∧ w6.cell? ⟨p, 3, none⟩ = some (.int .i64 256) ∧ w6.cell? ⟨p, 5, none⟩ = some (.map (some bg)) := ⟨by have h := cell_is (i := 0) hb6 rfl; rw [show (s1.kill dm).g = s1.g from rfl, HG1.out] at h; exact h, by have h := cell_is (i := 1) hb6 rfl; rw [show (s1.kill dm).g = s1.g from rfl, HG1.out] at h; exact h, by have h := cell_is (i := 2) hb6 rfl; rw [show (s1.kill dm).g = s1.g from rfl, HG1.out] at h; exact h, by have h := cell_is (i := 3) hb6 rfl; rw [show (s1.kill dm).g = s1.g from rfl, HG1.out] at h; exact h, cell_is (i := 5) hb6 rfl⟩; clear hmap hfr6 hkl hb6))
    all_goals
      go_wp2_with fail
      go_meet
      case rel => exact ⟨_, ⟨HK.out.1⟩, ⟨(Ram.Step.none_ HR4.out.lt HF5.out).trans HK.out.2⟩⟩
  case rest =>
    obtain ⟨fg', HK, HSK⟩ := hcut
    have HRK : As (RamE wc p (s1.kill dm)) := ⟨⟨bp, bg, vo, f, fg', HK.out⟩⟩
    have HKG : As ((s1.kill dm).g = kg) := ⟨HG1.out⟩
    have hl0 : 0 < l.length := by have h1 := HL.out.len; have h2 : kg.c = 3 := rfl; omega
    have HSTK := As.mk (Stands.kill HST.out dm)
    have HRDS := As.mk (reads hl0 HSTK.out (fun _ => .inl (by show (0 : Int) < if dm = dm then 1 else s1.gone dm; rw [if_pos rfl]; decide)))
    have HRD := As.mk (SRead.Read_calls p (s1.kill dm) 6 2 0 wc (l.getD 0 noPage).1 (l.getD 0 noPage).2 HRK.out (by rw [HKG.out]; exact kg_at) (Int.le_refl _) (by rw [HKG.out]; show (0 : Int) < 3 - 1; decide) HRDS.out)
    have HFC := As.mk (step_new HF4.out.1 HF4.out.2 HSK.out)
    have HSC := As.mk (SPs.step HS4'.out HSK.out)
    have HCC := As.mk (HC4.out.step HSK.out)
    clear c0 c1 c2 c3 c5
    generalize hq : l.getD 0 noPage = q at *
    have HQ := As.mk hq
    clear hq
    unfold dev pcells at HRD
    go_wp2_with fail
    ((with_reducible refine (HRD.out).mono ?_); rintro e w5 ⟨v5, rfl, hrow5, hf5⟩)
    have HR5 := As.mk hrow5
    have HF5 := As.mk hf5
    clear hrow5 hf5
    obtain ⟨A5, n5, c5', e5, hm5, hd5, _⟩ := HR5.out.rd
    subst e5
    go_upto_region 8 with fail
    have hnew := heap_alloc_new w5 (.cells #[.int .u8 q.1.kind, .int .u32 q.1.epoch, .int .u32 q.1.batch, .int .u16 q.1.index, .int .u16 q.1.count, .int .u32 q.1.block, .int .u32 q.1.more, .slice A5 n5 c5'] 56)
    have HF6 := As.mk (HF5.out.alloc (.cells #[.int .u8 q.1.kind, .int .u32 q.1.epoch, .int .u32 q.1.batch, .int .u16 q.1.index, .int .u16 q.1.count, .int .u32 q.1.block, .int .u32 q.1.more, .slice A5 n5 c5'] 56))
    have hd6 := hd5.out.none_ ((Fr.refl None_ w5).alloc (.cells #[.int .u8 q.1.kind, .int .u32 q.1.epoch, .int .u32 q.1.batch, .int .u16 q.1.index, .int .u16 q.1.count, .int .u32 q.1.block, .int .u32 q.1.more, .slice A5 n5 c5'] 56))
    generalize w5.alloc (.cells #[.int .u8 q.1.kind, .int .u32 q.1.epoch, .int .u32 q.1.batch, .int .u16 q.1.index, .int .u16 q.1.count, .int .u32 q.1.block, .int .u32 q.1.more, .slice A5 n5 c5'] 56) = w6 at *
    generalize hgt : w5.heap.size = gt at *
    clear hgt
    have hpc := HRK.out.lt
    obtain ⟨ad, ax, D, nd, cd, hA, hax, l0, l1, l2, l3, l4, l5, l6, l7, HDD, _, _⟩ := SPs.at_ (HCC.out.none_ hpc HF6.out).1 (HSC.out.none_ hpc HF6.out) 0 (Int.le_refl _) (by have h1 := HN.out; have h2 : kg.c = 3 := rfl; omega)
    subst hA
    have hax0 : ad = ax := by rw [← hax]; rfl
    subst hax0
    rw [show l.getD (Int.toNat 0) noPage = q from HQ.out] at l0 l1 l2 l3 l4 l5 l6 HDD
    have k0 := cell_is (i := 0) hnew rfl
    have k1 := cell_is (i := 1) hnew rfl
    have k2 := cell_is (i := 2) hnew rfl
    have k3 := cell_is (i := 3) hnew rfl
    have k4 := cell_is (i := 4) hnew rfl
    have k5 := cell_is (i := 5) hnew rfl
    have k6 := cell_is (i := 6) hnew rfl
    have k7 := cell_is (i := 7) hnew rfl
    have HD6 := As.mk hd6
    have h6 := HK.out.none_ HF6.out
    have HK6 := As.mk h6
    obtain ⟨Ao, no, co, eo, _, hdo, _⟩ := h6.row.rd
    have hno : no = 3 := by rw [← hdo.out.1]; exact HOR.out
    have j7 := cell_is (i := 7) h6.blk rfl
    rw [eo, hno] at j7
    have hn0 : 0 < n := by have h1 := HN.out; have h2 : kg.c = 3 := rfl; omega
    have hrng : InR 256 q.2 := by rw [← HQ.out]; exact (HL.out.data _ (getD_mem hl0 _)).2
    have HSM := As.mk (fun (w' : World) (hf : Fr None_ w6 w') => same_calls q.1 A5 D n5 c5' nd cd q.2 w' (HD6.out.none_ hf) (HDD.out.2.1.none_ hf) hrng)
    unfold pcells at HSM
    have HOO := As.mk eo
    clear hnew hd6 h6 hdo hno eo hax hl0 hrng
    go_region_held3 (fun w' => w'.cell? ⟨gt, 0, none⟩ = some (.int .u8 q.1.kind) ∧ w'.cell? ⟨gt, 1, none⟩ = some (.int .u32 q.1.epoch) ∧ w'.cell? ⟨gt, 2, none⟩ = some (.int .u32 q.1.batch) ∧ w'.cell? ⟨gt, 3, none⟩ = some (.int .u16 q.1.index) ∧ w'.cell? ⟨gt, 4, none⟩ = some (.int .u16 q.1.count) ∧ w'.cell? ⟨gt, 5, none⟩ = some (.int .u32 q.1.block) ∧ w'.cell? ⟨gt, 6, none⟩ = some (.int .u32 q.1.more) ∧ w'.cell? ⟨gt, 7, none⟩ = some (.slice A5 n5 c5') ∧ w'.cell? ad = some (.int .u8 q.1.kind) ∧ w'.cell? ⟨ad.block, ad.off + 1, none⟩ = some (.int .u32 q.1.epoch) ∧ w'.cell? ⟨ad.block, ad.off + 2, none⟩ = some (.int .u32 q.1.batch) ∧ w'.cell? ⟨ad.block, ad.off + 3, none⟩ = some (.int .u16 q.1.index) ∧ w'.cell? ⟨ad.block, ad.off + 4, none⟩ = some (.int .u16 q.1.count) ∧ w'.cell? ⟨ad.block, ad.off + 5, none⟩ = some (.int .u32 q.1.block) ∧ w'.cell? ⟨ad.block, ad.off + 6, none⟩ = some (.int .u32 q.1.more) ∧ w'.cell? ⟨ad.block, ad.off + 7, none⟩ = some (.slice D nd cd) ∧ w'.cell? ⟨p, 7, none⟩ = some (.slice Ao 3 co)) (first | go_keep | (refine ⟨?_, ?_, ?_, ?_, ?_, ?_, ?_, ?_, ?_, ?_, ?_, ?_, ?_, ?_, ?_, ?_, ?_⟩ <;> (refine Fr.cell ‹Fr None_ w6.drew _› ?_ (fun h => h); go_keep))) (first | ((with_reducible refine (HSM.out _ ((Fr.refl None_ w6).drew)).mono ?_); rintro e w7 ⟨rfl, hf7⟩))
    all_goals
      go_wp2_with fail
      go_ret
      refine ⟨rfl, ?_⟩
      exact (HFC.out.1.after HF6.out (fun _ _ h => h)).after ((Fr.refl None_ w6).drew.after hf7 (fun _ _ h => h)) (fun _ _ h => h)
end Go.Proofs.Ytlhgbamajabnfaa.Kept

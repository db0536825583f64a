/- vol: Format (nothing fails). -/
import Derived.Test.YteofgpaceeibpaaGreatTkBlank
namespace Go.Proofs.YteofgpaceeibpaaGreat.VolF
open Go.RowKit Gab Wr Geom Ref Nand NandA NandB NandC NandD NandE NandH RemapA RemapB RemapC RemapD RemapE RemapF RemapG VolA VolB VolC VolD VolE
open Heap (cell_is heap_set heap_set7 fr_set7 fr_set1)
open Rdz (infoIn)
set_option linter.unusedVariables false
set_option linter.unusedSimpArgs false

/-- The first blocks of a chip are erased. -/
def _root_.Go.Proofs.YteofgpaceeibpaaGreat.Nand.St.fmtN (s : St) (c : Nat) : Nat → St × Int
  | 0 => (s, 0)
  | n + 1 => if (s.fmtN c n).2 = 0 then (s.fmtN c n).1.erase c n else s.fmtN c n
theorem fmtN_g (s : St) (c : Nat) : ∀ n, (s.fmtN c n).1.g = s.g ∧ (s.fmtN c n).1.evs = s.evs
  | 0 => ⟨rfl, rfl⟩
  | n + 1 => by
    have h := fmtN_g s c n
    unfold St.fmtN
    split
    · have h2 := erase_g (s.fmtN c n).1 c n
      exact ⟨h2.1.trans h.1, h2.2.trans h.2⟩
    · exact h
theorem safe_fmtN {s : St} (c : Nat) : ∀ n m, s.Safe (m + n) → (s.fmtN c n).1.Safe m
  | 0, m, h => h
  | n + 1, m, h => by
    have h2 := safe_fmtN c n (m + 1) (by rw [show m + 1 + n = m + (n + 1) by omega]; exact h)
    unfold St.fmtN
    split
    · exact h2.erase c n
    · exact h2.le (Nat.le_succ m)
theorem fmtN_stuck (s : St) (c : Nat) : ∀ n m, n ≤ m → (s.fmtN c n).2 ≠ 0 → s.fmtN c m = s.fmtN c n
  | n, 0, h, _ => by
    obtain rfl : n = 0 := by omega
    rfl
  | n, m + 1, h, hk => by
    by_cases e : n = m + 1
    · rw [e]
    · have ih := fmtN_stuck s c n m (by omega) hk
      show (if (s.fmtN c m).2 = 0 then _ else s.fmtN c m) = _
      rw [ih, if_neg hk]
def ints (a n : Nat) : List Int := (List.range n).map fun j => ((a + j : Nat) : Int)
/-- The table of a chip that was made ready, ahead of its first save. -/
def tabOf (g : Geo) : Tab := ⟨0, ints 2 (g.b - 5).toNat, ints (g.b - 3).toNat 3, 0, 1⟩
theorem tabOf_ok {g : Geo} (hg : g.Ok) : (tabOf g).Ok g := by
  have hb := hg.b
  have hall : (tabOf g).all = ints 2 (g.b - 2).toNat ++ [0, 1] := by
    unfold Tab.all tabOf
    congr 1
    unfold ints
    rw [show (g.b - 2).toNat = (g.b - 5).toNat + 3 by omega, List.range_add, List.map_append, List.map_map]
    congr 1
    apply List.map_congr_left
    intro j _
    show (((g.b - 3).toNat + j : Nat) : Int) = ((2 + ((g.b - 5).toNat + j) : Nat) : Int)
    omega
  refine ⟨by simp [tabOf, ints], ?_, ?_, ⟨Int.le_refl 0, show (0 : Int) < 4294967296 by decide⟩, by simp [tabOf, ints]⟩
  · rw [hall]
    intro x hx
    simp only [ints, List.mem_append, List.mem_map, List.mem_range, List.mem_cons, List.not_mem_nil, or_false] at hx
    rcases hx with ⟨j, hj, rfl⟩ | rfl | rfl <;> omega
  · rw [hall, List.nodup_append]
    refine ⟨?_, by decide, ?_⟩
    · unfold ints
      rw [List.Nodup, List.pairwise_map]
      exact List.nodup_range.imp (fun h e => h (by omega))
    · intro x hx y hy
      simp only [ints, List.mem_map, List.mem_range] at hx
      obtain ⟨j, hj, rfl⟩ := hx
      simp at hy
      omega
/-- A chip is made ready: the chips behind it, and the error. -/
def _root_.Go.Proofs.YteofgpaceeibpaaGreat.Nand.St.fmt (s : St) (c : Nat) : St × Int := if (s.fmtN c s.nb).2 = 0 then (s.fmtN c s.nb).1.vsave c (tabOf s.g) else s.fmtN c s.nb
/-- A volume that is new. -/
def VNew (N : Nat) (v : VLay) : Prop := N ≤ v.vb ∧ (∀ ad, v.A1 = some ad → N ≤ ad.block) ∧ (∀ ad, v.A2 = some ad → N ≤ ad.block)
def FmtPost (p : Nat) (s : St) (L : Lay) (c : Nat) (w : World) (e : Ending) (w' : World) : Prop :=
  Nand w' p (s.fmt c).1 L ∧ Fr (NF p L s.n s.nb) w w' ∧ (((s.fmt c).2 = 0 ∧ ∃ v, e = .returned (.tuple #[.pointer (some ⟨v.vb, 0, none⟩), .int .i64 0]) ∧ VolAt w' p c s.g (tabOf s.g).up v ∧ VNew w.heap.size v) ∨
    ((s.fmt c).2 ≠ 0 ∧ e = .returned (.tuple #[.pointer none, .int .i64 (s.fmt c).2])))

theorem ints_snoc (a n : Nat) : ints a (n + 1) = ints a n ++ [((a + n : Nat) : Int)] := by simp [ints, List.range_succ]
theorem ints_len (a n : Nat) : (ints a n).length = n := by simp [ints]
theorem ints_get (a n j : Nat) (h : j < n) : (ints a n).getD j 0 = ((a + j : Nat) : Int) := by simp [ints, List.getD_eq_getElem?_getD, h]

theorem run_sl3 (gb n c N : Nat) (h : 3 ≤ N) (h2 : N ≤ n) (h3 : n ≤ c) (x : Int) (hx : x = (N : Int)) : ∀ W : World,
    (Instr.slice 38 (.slice (some ⟨gb, 0, none⟩) n c) (some (.int .i64 2)) (some (.int .i64 x)) (some (.int .i64 x))).run Tryz.prog W = .ok (.slice (some ⟨gb, 2, none⟩) (N - 2) (N - 2)) W := by
  intro W
  subst hx
  have h4 : N ≤ c := by omega
  have h5 : 2 ≤ N := by omega
  have h6 : ¬ N = 2 := by omega
  have h7 : ¬ N - 2 = 0 := by omega
  simp [Instr.slice, Instr.sliceBounds, Instr.sliceBound, asIntOf, run_underlying Tryz.underlying38, go_sem, h2, h3, h4, h5, h6, h7, Addr.add]
  intro hh
  omega
theorem run_sl1 (gb n c N : Nat) (h : 3 ≤ N) (h2 : N + 3 ≤ n) (h3 : n ≤ c) (x : Int) (hx : x = (N : Int)) : ∀ W : World,
    (Instr.slice 38 (.slice (some ⟨gb, 0, none⟩) n c) (some (.int .i64 x)) none none).run Tryz.prog W = .ok (.slice (some ⟨gb, N, none⟩) (n - N) (c - N)) W := by
  intro W
  subst hx
  have h4 : N ≤ c := by omega
  have h5 : N ≤ n := by omega
  have h6 : ¬ c = N := by omega
  have h7 : ¬ c - N = 0 := by omega
  have h8 : ¬ N = 0 := by omega
  simp [Instr.slice, Instr.sliceBounds, Instr.sliceBound, asIntOf, run_underlying Tryz.underlying38, go_sem, h2, h3, h4, h5, h6, h7, h8, Addr.add]

theorem rd_ints {w : World} {gb n a k : Nat} (h : Rd .i64 w (some ⟨gb, 0, none⟩) n (ints 0 n)) (hk : a + k ≤ n) : Rd .i64 w (some ⟨gb, a, none⟩) k (ints a k) := by
  refine ⟨ints_len _ _, by have := h.2.1; omega, fun _ => ⟨_, rfl, fun j hj => ?_⟩⟩
  obtain ⟨ad, e, hc⟩ := h.at_ ((a + j : Nat) : Int) (by omega) (by omega)
  injection e with e
  subst e
  rw [Int.toNat_natCast, ints_get 0 n (a + j) (by omega), add_at] at hc
  rw [ints_get a k j hj]
  have : (⟨gb, a, none⟩ : Addr).add j = ⟨gb, a + j, none⟩ := by unfold Addr.add; split <;> simp_all
  rw [this, hc, Nat.zero_add]
theorem set_tab {w : World} {b : Nat} {T : TypeId} {a0 a1 a2 a3 a4 a5 a6 a7 a8 a9 a10 : Value} (h : w.heap[b]? = some (.cells #[a0, a1, a2, a3, a4, a5, a6, a7, a8, a9, a10] T (0, 0))) (v6 v7 v8 v9 v10 : Value) :
    (((((w.setCell ⟨b, 6, none⟩ v6).setCell ⟨b, 7, none⟩ v7).setCell ⟨b, 8, none⟩ v8).setCell ⟨b, 9, none⟩ v9).setCell ⟨b, 10, none⟩ v10).heap[b]? = some (.cells #[a0, a1, a2, a3, a4, a5, v6, v7, v8, v9, v10] T (0, 0)) ∧
    Fr (fun i => i = b) w (((((w.setCell ⟨b, 6, none⟩ v6).setCell ⟨b, 7, none⟩ v7).setCell ⟨b, 8, none⟩ v8).setCell ⟨b, 9, none⟩ v9).setCell ⟨b, 10, none⟩ v10) := by
  have h0 := heap_set h 6 v6
  have h1 := heap_set h0 7 v7
  have h2 := heap_set h1 8 v8
  have h3 := heap_set h2 9 v9
  have h4 := heap_set h3 10 v10
  refine ⟨by rw [h4]; simp, (((((Fr.refl (fun i => i = b) w).setCell (p := ⟨b, 6, none⟩) (fun _ => rfl) v6).setCell (p := ⟨b, 7, none⟩) (fun _ => rfl) v7).setCell (p := ⟨b, 8, none⟩) (fun _ => rfl) v8).setCell (p := ⟨b, 9, none⟩) (fun _ => rfl) v9).setCell (p := ⟨b, 10, none⟩) (fun _ => rfl) v10⟩

set_option maxHeartbeats 8000000 in
set_option maxRecDepth 100000 in
theorem Format_calls (p c : Nat) (s : St) (L : Lay) (w : World) (hN : Nand w p s L) (hc : c < s.n) (n : Nat) (hs : s.Safe (n + 66)) :
    Calls Tryz.prog 33 #[.pointer (some ⟨p, 0, none⟩), .int .i64 (c : Int)] w (FmtPost p s L c w) := by
  have hgb := hN.ok.b
  obtain ⟨nb, hnb⟩ := Int.eq_ofNat_of_zero_le (show 0 ≤ s.g.b by omega)
  have hsn : s.nb = nb := by unfold St.nb; omega
  have HGE := As.mk (Geo_calls p s L w hN)
  have HN := As.mk hN
  have HSN := As.mk hsn
  have HER := As.mk (fun (i : Nat) (w' : World) (hi : i < nb) (hN' : Nand w' p (s.fmtN c i).1 L) => Eras_calls p (s.fmtN c i).1 L c i w' hN' (by unfold St.n; rw [(fmtN_g s c i).1]; exact hc) (by unfold St.nb; rw [(fmtN_g s c i).1]; omega) 0 (safe_fmtN c i 1 (hs.le (by omega))))
  have HSV := As.mk (fun (v : VLay) (w' : World) (hN' : Nand w' p (s.fmtN c nb).1 L) (hV : VolAt w' p c s.g (tabOf s.g) v) => save_calls p c (s.fmtN c nb).1 L (tabOf s.g) v w' hN' (by rw [(fmtN_g s c nb).1]; exact hV) (by rw [(fmtN_g s c nb).1]; exact tabOf_ok hN.ok) (show (0 : Int) < 4294967295 by decide) (by unfold St.n; rw [(fmtN_g s c nb).1]; exact hc) 0 (safe_fmtN c nb 2 (hs.le (by omega))))
  have HVI := As.mk (fun w => Virtual_calls s.g w hN.ok)
  have hn16 : 16 ≤ nb ∧ nb ≤ 64 := by omega
  have HBD := As.mk (show ∀ (e : Ending) (w' : World) (i : Nat) (k : Int), i ≤ nb → (s.fmtN c i).2 = k → k ≠ 0 → e = .returned (.tuple #[.pointer none, .int .i64 k]) → Nand w' p (s.fmtN c i).1 L → Fr (NF p L s.n s.nb) w w' → FmtPost p s L c w e w' from by
    rintro e w' i k hi rfl hk h1 h2 h3
    have h4 : s.fmt c = s.fmtN c i := by
      have h5 := fmtN_stuck s c i s.nb (by omega) hk
      unfold St.fmt
      rw [h5, if_neg hk]
    refine ⟨by rw [h4]; exact h2, h3, .inr ⟨by rw [h4]; exact hk, by rw [h4]; exact h1⟩⟩)
  unfold Geo.val at HGE HVI
  have HNB := As.mk hnb
  clear hN hc hs hgb hsn hnb
  go_enter Tryz.func33, Tryz.ntmps33
  go_wp2_with fail
  ((with_reducible refine (HGE.out).mono ?_); rintro e w1 ⟨rfl, hf1⟩)
  have HF1 := As.mk hf1
  have hfa : Fr None_ w1 (w1.alloc (.cells #[.pointer (some ⟨p, 0, none⟩), .int .i64 (c : Int), .int .i64 s.g.c, .int .i64 s.g.b, .int .i64 s.g.p, .int .i64 s.g.s, .int .u32 0, .slice none 0 0, .slice none 0 0, .int .i64 0, .int .i64 0] 137)) := (Fr.refl None_ w1).alloc _
  have HB2 := As.mk (heap_alloc_new w1 (.cells #[.pointer (some ⟨p, 0, none⟩), .int .i64 (c : Int), .int .i64 s.g.c, .int .i64 s.g.b, .int .i64 s.g.p, .int .i64 s.g.s, .int .u32 0, .slice none 0 0, .slice none 0 0, .int .i64 0, .int .i64 0] 137))
  have hs2 : (w1.alloc (.cells #[.pointer (some ⟨p, 0, none⟩), .int .i64 (c : Int), .int .i64 s.g.c, .int .i64 s.g.b, .int .i64 s.g.p, .int .i64 s.g.s, .int .u32 0, .slice none 0 0, .slice none 0 0, .int .i64 0, .int .i64 0] 137)).heap.size = w1.heap.size + 1 := size_new _ rfl
  have hz1 := hf1.size
  have HN2 := As.mk ((HN.out.none_ hf1).none_ hfa)
  have HF2 := As.mk ((hf1.after hfa (fun _ _ h => h)).mono (T := NF p L s.n s.nb) (fun _ _ h => h.elim))
  clear hf1 hfa HGE
  go_upto_region 5 with fail
  generalize w1.alloc (.cells #[.pointer (some ⟨p, 0, none⟩), .int .i64 (c : Int), .int .i64 s.g.c, .int .i64 s.g.b, .int .i64 s.g.p, .int .i64 s.g.s, .int .u32 0, .slice none 0 0, .slice none 0 0, .int .i64 0, .int .i64 0] 137) = w2 at *
  generalize w1.heap.size = vb at *
  have c3 := cell_is (v := .int .i64 s.g.b) (i := 3) HB2.out rfl
  go_wp2_with fail
  go_loopw [7, 25] (fun v7 v25 w' => ∃ i : Nat, v25 = .int .i64 (i : Int) ∧ i ≤ nb ∧ As ((s.fmtN c i).2 = 0) ∧ As (Nand w' p (s.fmtN c i).1 L) ∧ As (Fr (NF p L s.n s.nb) w w') ∧ As (w'.heap[vb]? = some (.cells #[.pointer (some ⟨p, 0, none⟩), .int .i64 (c : Int), .int .i64 s.g.c, .int .i64 s.g.b, .int .i64 s.g.p, .int .i64 s.g.s, .int .u32 0, .slice none 0 0, .slice none 0 0, .int .i64 0, .int .i64 0] 137 (0, 0))) ∧ As (Row 3 .i64 w' (vb + 1) v7 (ints 0 i)) ∧ vb < w'.heap.size) (fun _ v25 _ => nb - (intOf v25).toNat)
  case atStart => exact ⟨0, rfl, Nat.zero_le _, ⟨rfl⟩, HN2, HF2, HB2, ⟨Row.nil _ _ _ _⟩, by omega⟩
  case round =>
    obtain ⟨i, rfl, hi, HK, HNi, HFi, HBi, HRi, hzi⟩ := hrel
    have HNF : As (∀ b, NF p L (s.fmtN c i).1.n (s.fmtN c i).1.nb b ↔ NF p L s.n s.nb b) := ⟨fun b => by unfold St.n St.nb; rw [(fmtN_g s c i).1]⟩
    have HRN : As (∀ w', Fr (NF p L (s.fmtN c i).1.n (s.fmtN c i).1.nb) wr w' → Row 3 .i64 w' (vb + 1) u7 (ints 0 i)) := ⟨fun w' hf => HRi.out.fr hf (fun b hb => by obtain ⟨_, _, cs, hc⟩ := HRi.out.blk b hb; exact HNi.out.ne hc ⟨by decide, by decide, by decide, by decide, by decide⟩)⟩
    obtain ⟨A7, n7, c7, e7, _, hd7, _⟩ := HRi.out.rd
    subst e7
    have hn7 : n7 = i := by rw [← hd7.out.1, ints_len]
    subst hn7
    clear hd7
    by_cases hlt : n7 < nb
    · have hltI : (n7 : Int) < s.g.b := by have := HNB.out; omega
      have HS1 := As.mk (show s.fmtN c (n7 + 1) = (s.fmtN c n7).1.erase c n7 from by show (if (s.fmtN c n7).2 = 0 then (s.fmtN c n7).1.erase c n7 else s.fmtN c n7) = _; rw [if_pos HK.out])
      have HEi := As.mk (HER.out n7 wr hlt HNi.out)
      unfold ErasePost at HEi
      rw [← HS1.out] at HEi
      go_wp2_with fail
      ((with_reducible refine (HEi.out).mono ?_); rintro e w3 ⟨rfl, hn3, hf3⟩)
      have HN3 := As.mk hn3
      have HF3 := As.mk (HFi.out.after hf3 (fun b _ h => (HNF.out b).1 h))
      have HB3 := As.mk (hf3.heap HBi.out (HNi.out.ne HBi.out ⟨by decide, by decide, by decide, by decide, by decide⟩))
      have HR3 := As.mk (HRN.out w3 hf3)
      have hz3 := hf3.size
      clear hn3 hf3 HEi
      have hec : (s.fmtN c (n7 + 1)).2 = 0 ∨ (s.fmtN c (n7 + 1)).2 = 71 ∨ (s.fmtN c (n7 + 1)).2 = 72 := by rw [HS1.out]; exact erase_code _ _ _
      by_cases hk : (s.fmtN c (n7 + 1)).2 = 0
      · have HK3 := As.mk hk
        have HSN := As.mk (ints_snoc 0 n7)
        rw [hk]
        have hl7 := ints_len 0 n7
        clear hk hec
        go_wp2_with (at_builtin; (with_reducible refine append1 (vb + 1) rfl _ _ 38 3 .i64 8 rfl Tryz.underlying38 infoIn (by decide) (.slice A7 n7 c7) (ints 0 n7) _ rfl rfl HR3.out ?k0 ?k1 ?_); (case k0 => omega); (case k1 => omega); intro v4 w4 hrow4 hfr4 hat4; have HR4 := As.mk hrow4; have HF34 := As.mk hfr4; clear hrow4 hfr4 hat4)
        have hown : ∀ b, (Value.slice A7 n7 c7).ownBlock = some b → vb + 1 ≤ b ∧ ∃ cs, w3.heap[b]? = some (.cells cs 3 (0, 0)) := fun b hb => ⟨(HR3.out.blk b hb).1, (HR3.out.blk b hb).2.2⟩
        refine ⟨⟨n7 + 1, rfl, by omega, HK3, ⟨HN3.out.typed HF34.out (fun b cs T f hs hc => ?_)⟩, ⟨HF3.out.after HF34.out (fun b hb hs => absurd hb (by have := (hown b hs).1; omega))⟩, ⟨HF34.out.heap HB3.out (fun hs => by have := (hown _ hs).1; omega)⟩, ⟨?_⟩, by have := HF34.out.size; omega⟩, by simp [intOf]; omega⟩
        · obtain ⟨_, cs', hc'⟩ := hown b hs
          rw [hc'] at hc
          injection hc with hc
          injection hc with _ hc
          subst hc
          exact ⟨⟨by decide, by decide, by decide, by decide, by decide⟩, by decide, by decide⟩
        · rw [HSN.out]
          simpa using HR4.out
      · have HBE := As.mk (fun e w' h1 h2 h3 => HBD.out e w' (n7 + 1) _ (by omega) rfl hk h1 h2 h3)
        generalize (s.fmtN c (n7 + 1)).2 = k at *
        have d0 : (k == 0) = false := beq_eq_false_iff_ne.2 hk
        have d1 : (k == 70) = false := by rw [beq_eq_false_iff_ne]; omega
        go_wp2_with fail
        go_ret2
        exact HBE.out _ _ rfl HN3.out HF3.out
    · obtain rfl : n7 = nb := by omega
      have hltI : ¬ (n7 : Int) < s.g.b := by have := HNB.out; omega
      clear HER HBD HRN
      obtain ⟨gb, c7', e7, hgb7, hcell7⟩ : ∃ gb c7', Value.slice A7 n7 c7 = .slice (some ⟨gb, 0, none⟩) n7 c7' ∧ vb + 1 ≤ gb ∧ n7 ≤ c7' ∧ (∃ cs, wr.heap[gb]? = some (.cells cs 3 (0, 0))) ∧ Rd .i64 wr (some ⟨gb, 0, none⟩) n7 (ints 0 n7) := by
        rcases HRi.out.2 with ⟨e, h0⟩ | ⟨gb, cap, cur, e, hb, hg, hc, _⟩
        · rw [ints_len] at h0; omega
        · obtain ⟨A', n', c', e', _, hd', _⟩ := HRi.out.rd
          rw [ints_len] at e
          rw [e] at e'
          injection e' with ea eb ec
          subst ea eb ec
          exact ⟨gb, _, e, hb, by rw [ints_len] at hc; exact hc, ⟨cur, hg⟩, hd'.out⟩
      injection e7 with ea eb ec
      subst ea ec
      obtain ⟨hc7, htb, hrd⟩ := hcell7
      have hk0 := hrd.at_ 0 (by omega) (by omega)
      have hk1 := hrd.at_ 1 (by omega) (by omega)
      obtain ⟨ad0, ea0, k0⟩ := hk0
      injection ea0 with ea0
      subst ea0
      obtain ⟨ad1, ea1, k1⟩ := hk1
      injection ea1 with ea1
      subst ea1
      rw [show Int.toNat 0 = 0 by decide, ints_get 0 n7 0 (by omega), add_at] at k0
      rw [show Int.toNat 1 = 1 by decide, ints_get 0 n7 1 (by omega), add_at] at k1
      have k0' : wr.cell? ⟨gb, 0, none⟩ = some (.int .i64 0) := k0
      have k1' : wr.cell? ⟨gb, 1, none⟩ = some (.int .i64 1) := k1
      have c2 := cell_is (v := .int .i64 s.g.c) (i := 2) HBi.out rfl
      have c3 := cell_is (v := .int .i64 s.g.b) (i := 3) HBi.out rfl
      have c4 := cell_is (v := .int .i64 s.g.p) (i := 4) HBi.out rfl
      have c5 := cell_is (v := .int .i64 s.g.s) (i := 5) HBi.out rfl
      have HRD := As.mk hrd
      have HTB := As.mk htb
      clear k0 k1 hrd htb
      have hwv : IntKind.i64.wrap (2 + (s.g.b - 5)) = s.g.b - 3 := by rw [i64_in _ (by have := HNB.out; omega) (by have := HNB.out; omega)]; omega
      have d15 : decide ((n7 : Int) < s.g.b - 3) = false := decide_eq_false (by have := HNB.out; omega)
      go_wp2_with fail
      ((with_reducible refine (HVI.out _).mono ?_); rintro e w5 ⟨rfl, hf5⟩)
      have k0 := hf5.cell k0' (fun h => h)
      have k1 := hf5.cell k1' (fun h => h)
      have HN5 := As.mk (HNi.out.none_ hf5)
      have HF5 := As.mk (HFi.out.after hf5 (fun _ _ h => h.elim))
      have HB5 := As.mk (hf5.heap HBi.out (fun h => h))
      have HRD5 := As.mk (HRD.out.none_ hf5)
      have HTB5 : As (∃ cs, w5.heap[gb]? = some (.cells cs 3 (0, 0))) := ⟨by obtain ⟨cs, h⟩ := HTB.out; exact ⟨cs, hf5.heap h (fun h => h)⟩⟩
      have hs3 := run_sl3 gb n7 c7 (n7 - 3) (by omega) (by omega) hc7 (s.g.b - 3) (by have := HNB.out; omega)
      have hs1 := run_sl1 gb n7 c7 (n7 - 3) (by omega) (by omega) hc7 (s.g.b - 3) (by have := HNB.out; omega)
      have q6 := cell_is (v := .int .u32 0) (i := 6) HB5.out rfl
      have q7 := cell_is (v := .slice none 0 0) (i := 7) HB5.out rfl
      have q8 := cell_is (v := .slice none 0 0) (i := 8) HB5.out rfl
      have q9 := cell_is (v := .int .i64 0) (i := 9) HB5.out rfl
      have q10 := cell_is (v := .int .i64 0) (i := 10) HB5.out rfl
      have f6 := free_of (i := 6) HB5.out
      have f7 := free_of (i := 7) HB5.out
      have f8 := free_of (i := 8) HB5.out
      have f9 := free_of (i := 9) HB5.out
      have f10 := free_of (i := 10) HB5.out
      have hni0 : (0 : Int) < (n7 : Int) := by omega
      have hni1 : (1 : Int) < (n7 : Int) := by omega
      have hnn0 : 0 < n7 := by omega
      have hnn1 : 1 < n7 := by omega
      clear c2 c3 c4 c5 k0' k1' hf5
      go_upto_region 18 with fail
      go_region
      obtain ⟨hm6, hs6⟩ := set_tab HB5.out (.int .u32 0) (.slice (some ⟨gb, 2, none⟩) (n7 - 3 - 2) (n7 - 3 - 2)) (.slice (some ⟨gb, n7 - 3, none⟩) (n7 - (n7 - 3)) (c7 - (n7 - 3))) (.int .i64 0) (.int .i64 1)
      have hd6 : Fr None_ (((((w5.setCell ⟨vb, 6, none⟩ (.int .u32 0)).setCell ⟨vb, 7, none⟩ (.slice (some ⟨gb, 2, none⟩) (n7 - 3 - 2) (n7 - 3 - 2))).setCell ⟨vb, 8, none⟩ (.slice (some ⟨gb, n7 - 3, none⟩) (n7 - (n7 - 3)) (c7 - (n7 - 3)))).setCell ⟨vb, 9, none⟩ (.int .i64 0)).setCell ⟨vb, 10, none⟩ (.int .i64 1)) (((((w5.setCell ⟨vb, 6, none⟩ (.int .u32 0)).setCell ⟨vb, 7, none⟩ (.slice (some ⟨gb, 2, none⟩) (n7 - 3 - 2) (n7 - 3 - 2))).setCell ⟨vb, 8, none⟩ (.slice (some ⟨gb, n7 - 3, none⟩) (n7 - (n7 - 3)) (c7 - (n7 - 3)))).setCell ⟨vb, 9, none⟩ (.int .i64 0)).setCell ⟨vb, 10, none⟩ (.int .i64 1)).drew := (Fr.refl None_ _).drew
      generalize (((((w5.setCell ⟨vb, 6, none⟩ (.int .u32 0)).setCell ⟨vb, 7, none⟩ (.slice (some ⟨gb, 2, none⟩) (n7 - 3 - 2) (n7 - 3 - 2))).setCell ⟨vb, 8, none⟩ (.slice (some ⟨gb, n7 - 3, none⟩) (n7 - (n7 - 3)) (c7 - (n7 - 3)))).setCell ⟨vb, 9, none⟩ (.int .i64 0)).setCell ⟨vb, 10, none⟩ (.int .i64 1)) = w6 at *
      have hB5n := HB5.out
      have HN6 := As.mk ((HN5.out.one hB5n hs6 ⟨⟨by decide, by decide, by decide, by decide, by decide⟩, by decide, by decide⟩).none_ hd6)
      have hgbv : gb ≠ vb := by omega
      have HRD6 := As.mk ((HRD5.out.fr hs6 (fun ad e _ hh => by injection e with e; subst e; exact hgbv hh)).none_ hd6)
      have hzz : w.heap.size ≤ vb := hz1
      have HF6 := As.mk ((HF5.out.after hs6 (fun b hb e => by omega)).drew)
      have HTB6 : ∃ cs, w6.drew.heap[gb]? = some (.cells cs 3 (0, 0)) := by obtain ⟨cs, h⟩ := HTB5.out; exact ⟨cs, hs6.heap h hgbv⟩
      have hgN := HNB.out
      have e1 : n7 - 3 - 2 = (s.g.b - 5).toNat := by omega
      have e2 : n7 - (n7 - 3) = 3 := by omega
      have e3 : (s.g.b - 3).toNat = n7 - 3 := by omega
      have HV6 := As.mk (show VolAt w6.drew p c s.g (tabOf s.g) ⟨vb, some ⟨gb, 2, none⟩, n7 - 3 - 2, n7 - 3 - 2, some ⟨gb, n7 - 3, none⟩, n7 - (n7 - 3), c7 - (n7 - 3)⟩ from
        ⟨hm6, Nat.le_refl _, by show Rd .i64 _ _ (n7 - 3 - 2) (ints 2 (s.g.b - 5).toNat); rw [e1]; exact rd_ints HRD6.out (by omega), by show n7 - (n7 - 3) ≤ c7 - (n7 - 3); omega, by show Rd .i64 _ _ (n7 - (n7 - 3)) (ints (s.g.b - 3).toNat 3); rw [e2, e3]; exact rd_ints HRD6.out (by omega), fun ad e _ => by injection e with e; subst e; exact HTB6, fun ad e _ => by injection e with e; subst e; exact HTB6⟩)
      have HSA := As.mk (HSV.out _ w6.drew HN6.out HV6.out)
      have HVN := As.mk (show VNew w.heap.size ⟨vb, some ⟨gb, 2, none⟩, n7 - 3 - 2, n7 - 3 - 2, some ⟨gb, n7 - 3, none⟩, n7 - (n7 - 3), c7 - (n7 - 3)⟩ from ⟨hzz, fun ad e => by injection e with e; subst e; show w.heap.size ≤ gb; omega, fun ad e => by injection e with e; subst e; show w.heap.size ≤ gb; omega⟩)
      have HNF : As (∀ b, NF p L (s.fmtN c n7).1.n (s.fmtN c n7).1.nb b ↔ NF p L s.n s.nb b) := ⟨fun b => by unfold St.n St.nb; rw [(fmtN_g s c n7).1]⟩
      have HFM := As.mk (show s.fmt c = (s.fmtN c n7).1.vsave c (tabOf s.g) from by unfold St.fmt; rw [HSN.out, if_pos HK.out])
      unfold SavePost at HSA
      rw [← HFM.out, (fmtN_g s c n7).1] at HSA
      clear hm6 hs6 hd6 hs3 hs1 q6 q7 q8 q9 q10 f6 f7 f8 f9 f10 k0 k1 e1 e2 e3 HTB6 hB5n
      have hgN2 := hgN
      clear hgN
      go_wp2_with fail
      ((with_reducible refine (HSA.out).mono ?_); rintro e w7 ⟨rfl, hn7', hv7, hf7⟩)
      have HN7 := As.mk hn7'
      have HV7 := As.mk hv7
      have HF7 := As.mk (HF6.out.after hf7 (fun b hb h => by
        rcases h with h | h
        · exact (HNF.out b).1 h
        · have h2 : b = vb := h
          omega))
      clear hn7' hv7 hf7 HSA
      by_cases hk : (s.fmt c).2 = 0
      · have HPost := As.mk (show ∀ (e : Ending) (w' : World) (v : VLay), e = .returned (.tuple #[.pointer (some ⟨v.vb, 0, none⟩), .int .i64 0]) → Nand w' p (s.fmt c).1 L → Fr (NF p L s.n s.nb) w w' → VolAt w' p c s.g (tabOf s.g).up v → VNew w.heap.size v → FmtPost p s L c w e w' from fun e w' v h1 h2 h3 h4 h5 => ⟨h2, h3, .inl ⟨hk, v, h1, h4, h5⟩⟩)
        rw [hk]
        clear hk
        go_wp2_with fail
        go_ret2
        exact HPost.out _ _ _ rfl HN7.out HF7.out HV7.out HVN.out
      · have HPost := As.mk (show ∀ (e : Ending) (w' : World), e = .returned (.tuple #[.pointer none, .int .i64 (s.fmt c).2]) → Nand w' p (s.fmt c).1 L → Fr (NF p L s.n s.nb) w w' → FmtPost p s L c w e w' from fun e w' h1 h2 h3 => ⟨h2, h3, .inr ⟨hk, h1⟩⟩)
        have dk : ((s.fmt c).2 != 0) = true := by rw [bne_iff_ne]; exact hk
        generalize (s.fmt c).2 = k at *
        clear hk
        go_wp2_with fail
        go_ret2
        exact HPost.out _ _ rfl HN7.out HF7.out
end Go.Proofs.YteofgpaceeibpaaGreat.VolF

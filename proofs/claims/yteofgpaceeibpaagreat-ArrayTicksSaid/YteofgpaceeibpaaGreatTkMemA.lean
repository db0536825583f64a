/- remap: Check of good tables. | member: sets in memory, Check of good ones. -/
import Derived.Test.YteofgpaceeibpaaGreatTkAIter
import Derived.BigQuiet
namespace Go.Proofs.YteofgpaceeibpaaGreat.RemapB
open Go.RowKit Gab Wr Geom Ref Heap RemapA
set_option linter.unusedVariables false
set_option linter.unusedSimpArgs false

def _root_.Go.Proofs.YteofgpaceeibpaaGreat.RemapA.Tab.all (t : Tab) : List Int := t.place ++ t.spare ++ [t.t0, t.t1]
/-- A good table of a shape. -/
structure _root_.Go.Proofs.YteofgpaceeibpaaGreat.RemapA.Tab.Ok (t : Tab) (g : Geo) : Prop where
  len : t.place.length = (g.b - 5).toNat
  inr : ∀ x ∈ t.all, 0 ≤ x ∧ x < g.b
  nd : t.all.Nodup
  seq : 0 ≤ t.seq ∧ t.seq < 4294967296
  few : t.spare.length ≤ 64
def _root_.Go.Proofs.YteofgpaceeibpaaGreat.RemapA.Tab.lst (t : Tab) (k : Nat) : List Int := if k = 0 then t.place else if k = 1 then t.spare else [t.t0, t.t1]
def _root_.Go.Proofs.YteofgpaceeibpaaGreat.RemapA.Tab.pre (t : Tab) (k : Nat) : List Int := if k = 0 then [] else if k = 1 then t.place else if k = 2 then t.place ++ t.spare else t.all
theorem pre_succ (t : Tab) {k : Nat} (hk : k < 3) : t.pre (k + 1) = t.pre k ++ t.lst k := by
  have : k = 0 ∨ k = 1 ∨ k = 2 := by omega
  rcases this with rfl | rfl | rfl <;> simp [Tab.pre, Tab.lst, Tab.all]
theorem fresh {t : Tab} {g : Geo} (h : t.Ok g) {k i : Nat} (hk : k < 3) (hi : i < (t.lst k).length) : 0 ≤ (t.lst k).getD i 0 ∧ (t.lst k).getD i 0 < g.b ∧ (t.lst k).getD i 0 ∉ t.pre k ++ (t.lst k).take i := by
  obtain ⟨post, he⟩ : ∃ post, t.all = (t.pre k ++ t.lst k) ++ post := by
    have : k = 0 ∨ k = 1 ∨ k = 2 := by omega
    rcases this with rfl | rfl | rfl
    · exact ⟨t.spare ++ [t.t0, t.t1], by simp [Tab.pre, Tab.lst, Tab.all]⟩
    · exact ⟨[t.t0, t.t1], by simp [Tab.pre, Tab.lst, Tab.all]⟩
    · exact ⟨[], by simp [Tab.pre, Tab.lst, Tab.all]⟩
  have hg : (t.lst k).getD i 0 = (t.lst k)[i] := by simp [List.getD_eq_getElem?_getD, List.getElem?_eq_getElem hi]
  rw [hg]
  have hr := h.inr (t.lst k)[i] (by rw [he]; simp)
  refine ⟨hr.1, hr.2, fun hm => ?_⟩
  have hnd := h.nd
  have hs : t.lst k = (t.lst k).take i ++ (t.lst k)[i] :: (t.lst k).drop (i + 1) := by rw [← List.drop_eq_getElem_cons hi, List.take_append_drop]
  have he2 : t.all = (t.pre k ++ (t.lst k).take i) ++ ((t.lst k)[i] :: ((t.lst k).drop (i + 1) ++ post)) := by
    rw [he, List.append_assoc, List.append_assoc]
    congr 1
    calc t.lst k ++ post = ((t.lst k).take i ++ (t.lst k)[i] :: (t.lst k).drop (i + 1)) ++ post := by rw [← hs]
      _ = _ := by rw [List.append_assoc, List.cons_append]
  rw [he2] at hnd
  exact (List.nodup_append.1 hnd).2.2 _ hm _ (List.mem_cons_self) rfl
/-- Which blocks came. -/
def mark (N : Nat) (l : List Int) : List Int := (List.range N).map fun b : Nat => if (b : Int) ∈ l then 1 else 0
theorem mark_length (N : Nat) (l : List Int) : (mark N l).length = N := by simp [mark]
theorem mark_nil (N : Nat) : mark N [] = List.replicate N 0 := by
  apply List.ext_getElem
  · simp [mark]
  · intro i h1 h2
    simp [mark]
theorem mark_at {N : Nat} {l : List Int} {x : Int} (h0 : 0 ≤ x) (h1 : x < N) (hx : x ∉ l) : (mark N l).getD x.toNat 0 = 0 := by
  have h : x.toNat < N := by omega
  have e : ((x.toNat : Nat) : Int) = x := by omega
  simp [mark, List.getD_eq_getElem?_getD, h, e, hx]
theorem mark_set {N : Nat} {l : List Int} {x : Int} (h0 : 0 ≤ x) (h1 : x < N) : (mark N l).set x.toNat 1 = mark N (l ++ [x]) := by
  apply List.ext_getElem
  · simp [mark]
  · intro i h2 h3
    rw [List.getElem_set]
    simp only [mark, List.getElem_map, List.getElem_range, List.mem_append, List.mem_singleton]
    by_cases e : x.toNat = i
    · rw [if_pos e, if_pos (.inr (by omega))]
    · rw [if_neg e]
      by_cases e2 : (i : Int) ∈ l
      · rw [if_pos e2, if_pos (.inl e2)]
      · rw [if_neg e2, if_neg (by rintro (h | h); exact e2 h; omega)]
theorem infoInt : (Tryz.prog.info? 3).map (fun i => (i.zero, i.size, i.bytes)) = some (some (.int .i64 0), 1, 8) := by kernel_rfl

theorem infoSI : (Tryz.prog.info? 38).map (fun i => (i.zero, i.size, i.bytes)) = some (some (.slice none 0 0), 1, 24) := by kernel_rfl
theorem run_index3 (A0 A1 A2 : Option Addr) (n0 n1 n2 c0 c1 c2 : Nat) (k : Nat) (hk : k < 3) : ∀ W : World, (Instr.index 227 (.agg #[.slice A0 n0 c0, .slice A1 n1 c1, .slice A2 n2 c2]) (.int .i64 (k : Int))).run Tryz.prog W = .ok (if k = 0 then .slice A0 n0 c0 else if k = 1 then .slice A1 n1 c1 else .slice A2 n2 c2) W := by
  intro W
  have hu := Tryz.underlying227
  obtain ⟨i0, hi, hzz⟩ := Option.map_eq_some_iff.1 infoSI
  simp only [Prod.mk.injEq] at hzz
  obtain ⟨hz0, hz1, hz2⟩ := hzz
  have : k = 0 ∨ k = 1 ∨ k = 2 := by omega
  rcases this with rfl | rfl | rfl
  · simp [Instr.index, run_underlying hu, asIntOf, sizeOf, typeInfo, hi, hz0, hz1, hz2, go_sem]
  · simp [Instr.index, run_underlying hu, asIntOf, sizeOf, typeInfo, hi, hz0, hz1, hz2, go_sem]
  · simp [Instr.index, run_underlying hu, asIntOf, sizeOf, typeInfo, hi, hz0, hz1, hz2, go_sem]
structure Ck (w w' : World) (t : Tab) (g : Geo) (A1 A2 : Option Addr) (n1 c1 n2 c2 gs nb : Nat) (l : List Int) : Prop where
  fr : Fr None_ w w'
  tab : w'.heap[w.heap.size]? = some (.cells #[.int .u32 t.seq, .slice A1 n1 c1, .slice A2 n2 c2, .int .i64 t.t0, .int .i64 t.t1] 135 (0, 0))
  geo : w'.heap[w.heap.size + 1]? = some (.cells #[.int .i64 g.c, .int .i64 g.b, .int .i64 g.p, .int .i64 g.s] 24 (0, 0))
  row : RowAt 3 .i64 w' gs gs nb nb (mark nb l)
  lt : w.heap.size + 1 < gs
theorem Ck.step {w w' : World} {t : Tab} {g : Geo} {A1 A2 : Option Addr} {n1 c1 n2 c2 gs nb : Nat} {l : List Int} (h : Ck w w' t g A1 A2 n1 c1 n2 c2 gs nb l) {x : Int} (h0 : 0 ≤ x) (h1 : x < nb) : Ck w (w'.setCell ⟨gs, x.toNat, none⟩ (.int .i64 1)) t g A1 A2 n1 c1 n2 c2 gs nb (l ++ [x]) := by
  have hlt := h.lt
  have hsb := fr_set1 (w' := w') (b := gs) (i := x.toNat) (.int .i64 1)
  have hr := h.row.store x 1
  rw [mark_set h0 h1] at hr
  exact ⟨h.fr.after hsb (fun b hb e => by omega), hsb.heap h.tab (by omega), hsb.heap h.geo (by omega), hr, hlt⟩
set_option maxHeartbeats 4000000 in
set_option maxRecDepth 100000 in
theorem Check_calls (t : Tab) (g : Geo) (v : Value) (w : World) (hg : g.Ok) (ht : t.Ok g) (hv : TabV w v t) : Calls Tryz.prog 124 #[v, g.val] w fun e w' => e = .returned (.int .i64 0) ∧ Fr None_ w w' := by
  obtain ⟨A1, n1, c1, A2, n2, c2, rfl, h1, hR1, h2, hR2⟩ := hv
  have HC := As.mk (fun w => Geom.Check_calls g w hg)
  have HV := As.mk (fun w => Virtual_calls g w hg)
  have HOK := As.mk ht
  have HR1 := As.mk hR1
  have HR2 := As.mk hR2
  have h3 := hg.b.1
  have h4 := hg.b.2
  have hn1 : (n1 : Int) = g.b - 5 := by have := hR1.1; have := ht.len; omega
  have hF1 := ((Fr.refl None_ w).alloc (.cells #[.int .u32 t.seq, .slice A1 n1 c1, .slice A2 n2 c2, .int .i64 t.t0, .int .i64 t.t1] 135))
  have hB1 := (heap_alloc_new w (.cells #[.int .u32 t.seq, .slice A1 n1 c1, .slice A2 n2 c2, .int .i64 t.t0, .int .i64 t.t1] 135))
  have hF2 := hF1.alloc (.cells #[.int .i64 g.c, .int .i64 g.b, .int .i64 g.p, .int .i64 g.s] 24)
  have hB2 := at_old (.cells #[.int .i64 g.c, .int .i64 g.b, .int .i64 g.p, .int .i64 g.s] 24) hB1
  have hG2 := at_new (.cells #[.int .i64 g.c, .int .i64 g.b, .int .i64 g.p, .int .i64 g.s] 24) (size_new (.cells #[.int .u32 t.seq, .slice A1 n1 c1, .slice A2 n2 c2, .int .i64 t.t0, .int .i64 t.t1] 135) (rfl : w.heap.size = w.heap.size))
  have HF2 := As.mk hF2
  have HB2 := As.mk hB2
  have HG2 := As.mk hG2
  clear hF1 hB1 hF2 hB2 hG2 hR1 hR2 ht hg
  unfold Geo.val at HC HV ⊢
  go_enter Tryz.func124, Tryz.ntmps124
  go_upto_region 4 with (go_at_call 29; (with_reducible refine (HC.out _).mono ?_); rintro e w2 ⟨rfl, hf2⟩; have hB3 := hf2.heap HB2.out (fun h => h); have hG3 := hf2.heap HG2.out (fun h => h); have HF3 := As.mk (HF2.out.after hf2 (fun _ _ h => h)); have HB3 := As.mk hB3; have HG3 := As.mk hG3; clear hf2 hB3 hG3)
  have b1 := cell_is (v := .slice A1 n1 c1) (i := 1) HB3.out rfl
  have b2 := cell_is (v := .slice A2 n2 c2) (i := 2) HB3.out rfl
  have e0 := cell_is (v := .int .i64 g.c) (i := 0) HG3.out rfl
  have e1 := cell_is (v := .int .i64 g.b) (i := 1) HG3.out rfl
  have e2 := cell_is (v := .int .i64 g.p) (i := 2) HG3.out rfl
  have e3 := cell_is (v := .int .i64 g.s) (i := 3) HG3.out rfl
  go_region_held3 (fun w' => w'.cell? ⟨w.heap.size, 1, none⟩ = some (.slice A1 n1 c1) ∧ w'.cell? ⟨w.heap.size + 1, 0, none⟩ = some (.int .i64 g.c) ∧ w'.cell? ⟨w.heap.size + 1, 1, none⟩ = some (.int .i64 g.b) ∧ w'.cell? ⟨w.heap.size + 1, 2, none⟩ = some (.int .i64 g.p) ∧ w'.cell? ⟨w.heap.size + 1, 3, none⟩ = some (.int .i64 g.s)) (first | go_keep | (refine ⟨?_, ?_, ?_, ?_, ?_⟩ <;> (refine Fr.cell ‹Fr None_ _ _› ?_ (fun h => h); go_keep))) (first | (go_at_call 23; (with_reducible refine (HV.out _).mono ?_); rintro e w3 ⟨rfl, hf3⟩))
  have hh := ‹w3.cell? ⟨w.heap.size, 1, none⟩ = some (.slice A1 n1 c1) ∧ _›
  have HF4 := As.mk (HF3.out.after ((Fr.refl None_ w2).drew.after hf3 (fun _ _ h => h)) (fun _ _ h => h))
  have HB4 := As.mk (((Fr.refl None_ w2).drew.after hf3 (fun _ _ h => h)).heap HB3.out (fun h => h))
  have HG4 := As.mk (((Fr.refl None_ w2).drew.after hf3 (fun _ _ h => h)).heap HG3.out (fun h => h))
  clear hh b1 b2 e0 e1 e2 e3 HF3 HB3 HG3 hf3 HB2 HG2 HF2
  have e1 := cell_is (v := .int .i64 g.b) (i := 1) HG4.out rfl
  obtain ⟨nb, hnb⟩ := Int.eq_ofNat_of_zero_le (show 0 ≤ g.b by omega)
  have hmk := Gab.run_make (P := Tryz.prog) 38 3 .i64 8 Tryz.underlying38 infoInt (by decide) nb (by omega)
  go_upto_region 7 with fail
  have HF5 := As.mk (HF4.out.alloc (.cells (madeCells #[.int .i64 0] nb) 3))
  have HB5 := As.mk (at_old (.cells (madeCells #[.int .i64 0] nb) 3) HB4.out)
  have HG5 := As.mk (at_old (.cells (madeCells #[.int .i64 0] nb) 3) HG4.out)
  have HX5 := As.mk (show RowAt 3 .i64 (w3.alloc (.cells (madeCells #[.int .i64 0] nb) 3)) w3.heap.size w3.heap.size nb nb (mark nb []) from ⟨mark_length _ _, by rw [mark_nil]; exact Row.made w3 w3.heap.size 3 .i64 nb (Nat.le_refl _) (by omega)⟩)
  have HNB := As.mk hnb
  clear hnb
  have hz3 := HF4.out.size
  have hzg := (Array.getElem?_eq_some_iff.1 HG4.out).1
  clear hmk e1 HF4 HB4 HG4
  generalize w3.alloc (.cells (madeCells #[.int .i64 0] nb) 3) = w5 at *
  generalize w3.heap.size = gs at *
  have b1 := cell_is (v := .slice A1 n1 c1) (i := 1) HB5.out rfl
  have b2 := cell_is (v := .slice A2 n2 c2) (i := 2) HB5.out rfl
  go_quiet (fail)
  have HK := As.mk (show Ck w (w5.drewN nq) t g A1 A2 n1 c1 n2 c2 gs nb (t.pre 0) from
    ⟨HF5.out.drewN nq, ((Fr.refl None_ w5).drewN nq).heap HB5.out (fun h => h), ((Fr.refl None_ w5).drewN nq).heap HG5.out (fun h => h), ⟨HX5.out.1, HX5.out.2.fr ((Fr.refl None_ w5).drewN nq) (fun _ _ h => h)⟩, hzg⟩)
  clear b1 b2 HF5 HB5 HG5 HX5
  generalize w5.drewN nq = w6 at *
  go_wp2_with fail
  go_loopw [8, 10, 32, 37] (fun v8 v10 v32 v37 w' => ∃ k : Nat, v32 = .int .i64 (k : Int) ∧ k ≤ 3 ∧ As (Ck w w' t g A1 A2 n1 c1 n2 c2 gs nb (t.pre k))) (fun _ _ v32 _ _ => 3 - (intOf v32).toNat)
  case atStart => exact ⟨0, rfl, by omega, HK⟩
  case round =>
    obtain ⟨k, rfl, hk, HX⟩ := hrel
    by_cases hlt : k < 3
    · have hltI : (k : Int) < 3 := by omega
      obtain ⟨Ak, nk, ck, hix, hck, hRK⟩ : ∃ Ak nk ck, (∀ W : World, (Instr.index 227 (.agg #[.slice A1 n1 c1, .slice A2 n2 c2, .slice (some ⟨w.heap.size, 3, none⟩) 2 2]) (.int .i64 (k : Int))).run Tryz.prog W = .ok (.slice Ak nk ck) W) ∧ nk ≤ ck ∧ ∀ w' l, Ck w w' t g A1 A2 n1 c1 n2 c2 gs nb l → Rd .i64 w' Ak nk (t.lst k) := by
        have hr3 := run_index3 A1 A2 (some ⟨w.heap.size, 3, none⟩) n1 n2 2 c1 c2 2 k hlt
        have : k = 0 ∨ k = 1 ∨ k = 2 := by omega
        rcases this with rfl | rfl | rfl
        · exact ⟨_, _, _, hr3, h1, fun w' l h => HR1.out.none_ h.fr⟩
        · exact ⟨_, _, _, hr3, h2, fun w' l h => HR2.out.none_ h.fr⟩
        · refine ⟨_, _, _, hr3, Nat.le_refl _, fun w' l h => ⟨rfl, by decide, fun _ => ⟨_, rfl, fun j hj => ?_⟩⟩⟩
          have : j = 0 ∨ j = 1 := by omega
          rcases this with rfl | rfl
          · exact cell_is (i := 3) h.tab rfl
          · exact cell_is (i := 4) h.tab rfl
      have HRK := As.mk hRK
      have HFS := As.mk (fun i hi => fresh HOK.out (k := k) (i := i) hlt hi)
      have HPS := As.mk (pre_succ t hlt)
      have hnk : nk = (t.lst k).length := (hRK _ _ HX.out).1.symm
      have HNK := As.mk hnk
      have hnk63 : nk ≤ 9223372036854775807 := (hRK _ _ HX.out).2.1
      clear hRK hnk
      go_wp2_with fail
      clear hix
      have HX0 := As.mk (show Ck w wr t g A1 A2 n1 c1 n2 c2 gs nb (t.pre k ++ (t.lst k).take 0) from by rw [List.take_zero, List.append_nil]; exact HX.out)
      go_loopw [10, 37] (fun v10 v37 w' => ∃ i : Nat, v37 = .int .i64 (i : Int) ∧ i ≤ nk ∧ As (Ck w w' t g A1 A2 n1 c1 n2 c2 gs nb (t.pre k ++ (t.lst k).take i))) (fun _ v37 _ => nk - (intOf v37).toNat)
      case atStart => exact ⟨0, rfl, Nat.zero_le _, HX0⟩
      case round =>
        obtain ⟨i, rfl, hi, HY⟩ := hrel
        by_cases hli : i < nk
        · have hliI : (i : Int) < (nk : Int) := by omega
          obtain ⟨ad, rfl, hc⟩ := (HRK.out _ _ HY.out).at_ i (by omega) hliI
          have hx := HFS.out i (by have := HNK.out; omega)
          have HTK := As.mk (show (t.lst k).take (i + 1) = (t.lst k).take i ++ [(t.lst k).getD i 0] from by
            have hl : i < (t.lst k).length := by have := HNK.out; omega
            rw [List.take_succ_eq_append_getElem hl]
            simp [List.getD_eq_getElem?_getD, List.getElem?_eq_getElem hl])
          simp only [Int.toNat_natCast] at hc
          generalize (t.lst k).getD i 0 = x at *
          obtain ⟨hx0, hx1, hx2⟩ := hx
          have hxn : x < (nb : Int) := by have := HNB.out; omega
          have e1 := cell_is (v := .int .i64 g.b) (i := 1) HY.out.geo rfl
          obtain ⟨hs1, hs2⟩ := HY.out.row.cell x hx0 hxn
          rw [mark_at hx0 hxn hx2] at hs1
          have HST := As.mk (HY.out.step hx0 hxn)
          clear hx2
          have d1 : decide (x < 0) = false := decide_eq_false (by omega)
          have d2 : decide (g.b ≤ x) = false := decide_eq_false (by omega)
          go_wp2_with fail
          refine ⟨⟨i + 1, rfl, by omega, ⟨?_⟩⟩, by simp [intOf]; omega⟩
          rw [HTK.out, ← List.append_assoc]
          exact HST.out
        · have HXN := As.mk (show Ck w wr t g A1 A2 n1 c1 n2 c2 gs nb (t.pre (k + 1)) from by
            have h := HY.out
            rw [List.take_of_length_le (by have := HNK.out; omega), ← HPS.out] at h
            exact h)
          have hliI : ¬ (i : Int) < (nk : Int) := by omega
          go_wp2_with fail
          exact ⟨⟨k + 1, rfl, by omega, HXN⟩, by simp [intOf]; omega⟩
    · have hltI : ¬ (k : Int) < 3 := by omega
      have hfr := HX.out.fr
      clear HX
      go_wp2_with fail
      go_ret
      exact ⟨rfl, hfr⟩
end Go.Proofs.YteofgpaceeibpaaGreat.RemapB
namespace Go.Proofs.YteofgpaceeibpaaGreat.MemA
open Go.RowKit Gab Wr Geom Ref Heap RemapB
set_option linter.unusedVariables false
set_option linter.unusedSimpArgs false

/-- A set of members. -/
structure MS where
  seq : Int
  chips : List Int
  spare : Int
  dead : Int
  done : Int
/-- A value that is one. -/
def MSV (w : World) (v : Value) (m : MS) : Prop := ∃ A n c, v = .agg #[.int .u32 m.seq, .slice A n c, .int .i64 m.spare, .int .i64 m.dead, .int .i64 m.done] ∧ n ≤ c ∧ Rd .i64 w A n m.chips
theorem MSV.none_ {w w' : World} {v : Value} {m : MS} (h : MSV w v m) (hf : Fr None_ w w') : MSV w' v m := by
  obtain ⟨A, n, c, rfl, h1, h2⟩ := h
  exact ⟨A, n, c, rfl, h1, h2.none_ hf⟩
/-- The chips that it names. -/
def MS.all (m : MS) : List Int := m.chips ++ (if m.spare = 255 then [] else [m.spare])
/-- A good set of a shape. -/
structure MS.Ok (m : MS) (g : Geo) : Prop where
  len : (m.chips.length : Int) = g.c
  seq : 0 ≤ m.seq ∧ m.seq < 4294967296
  inr : ∀ x ∈ m.all, 0 ≤ x ∧ x ≤ g.c
  nd : m.all.Nodup
  dead : m.dead = 255 ∨ (0 ≤ m.dead ∧ m.dead < g.c)
  done : 0 ≤ m.done ∧ m.done ≤ g.b - 5
  dn : 0 < m.done → m.dead ≠ 255 ∧ m.spare ≠ 255
theorem all_fresh {m : MS} {g : Geo} (h : m.Ok g) {i : Nat} (hi : i < m.all.length) : 0 ≤ m.all.getD i 0 ∧ m.all.getD i 0 ≤ g.c ∧ m.all.getD i 0 ∉ m.all.take i := by
  have hg : m.all.getD i 0 = m.all[i] := by simp [List.getD_eq_getElem?_getD, List.getElem?_eq_getElem hi]
  rw [hg]
  have hr := h.inr m.all[i] (List.getElem_mem hi)
  refine ⟨hr.1, hr.2, fun hm => ?_⟩
  have hnd := h.nd
  have hs : m.all = m.all.take i ++ m.all[i] :: m.all.drop (i + 1) := by rw [← List.drop_eq_getElem_cons hi, List.take_append_drop]
  rw [hs] at hnd
  have h2 := (List.nodup_append.1 hnd).2.2
  exact h2 _ hm _ (List.mem_cons_self) rfl
theorem wp_region_class {P : Program} {id : Nat} {Q : Exit → Act → World → Prop} {a : Act} {w : World} {l : List Oper} (C : World → Prop) (hm : P.follows .mixedOrders = true) (hB : Region.lexB .any l.toArray = true) (hC : C w.drew)
    (h : wpQuiet P l.toArray C (fun a' => ∀ w', C w' → Q .normal a' w') l a) : (Code.region id l.toArray true).wp P Q a w := wp_region_quiet hm hB hC (by simpa using h)
theorem infoIn : (Tryz.prog.info? 3).map (fun i => (i.zero, i.size, i.bytes)) = some (some (.int .i64 0), 1, 8) := by kernel_rfl

set_option maxHeartbeats 8000000 in
set_option maxRecDepth 100000 in
theorem Check_calls (m : MS) (g : Geo) (v : Value) (w : World) (hg : g.Ok) (ht : m.Ok g) (hv : MSV w v m) : Calls Tryz.prog 72 #[v, g.val] w fun e w' => e = .returned (.int .i64 0) ∧ Fr None_ w w' := by
  obtain ⟨A1, n1, c1, rfl, h1, hR1⟩ := hv
  have HC := As.mk (fun w => Geom.Check_calls g w hg)
  have HV := As.mk (fun w => Virtual_calls g w hg)
  have HOK := As.mk ht
  have HR1 := As.mk hR1
  have h3 := hg.b
  have h4 := hg.c
  have hn1 : (n1 : Int) = g.c := by have := hR1.1; have := ht.len; omega
  have hF1 := ((Fr.refl None_ w).alloc (.cells #[.int .u32 m.seq, .slice A1 n1 c1, .int .i64 m.spare, .int .i64 m.dead, .int .i64 m.done] 40))
  have hB1 := (heap_alloc_new w (.cells #[.int .u32 m.seq, .slice A1 n1 c1, .int .i64 m.spare, .int .i64 m.dead, .int .i64 m.done] 40))
  have hF2 := hF1.alloc (.cells #[.int .i64 g.c, .int .i64 g.b, .int .i64 g.p, .int .i64 g.s] 24)
  have hB2 := at_old (.cells #[.int .i64 g.c, .int .i64 g.b, .int .i64 g.p, .int .i64 g.s] 24) hB1
  have hG2 := at_new (.cells #[.int .i64 g.c, .int .i64 g.b, .int .i64 g.p, .int .i64 g.s] 24) (size_new (.cells #[.int .u32 m.seq, .slice A1 n1 c1, .int .i64 m.spare, .int .i64 m.dead, .int .i64 m.done] 40) (rfl : w.heap.size = w.heap.size))
  have HF2 := As.mk hF2
  have HB2 := As.mk hB2
  have HG2 := As.mk hG2
  have hdn := ht.done
  have hdd := ht.dead
  have hdx := ht.dn
  clear hF1 hB1 hF2 hB2 hG2 hR1 ht hg
  unfold Geo.val at HC HV ⊢
  go_enter Tryz.func72, Tryz.ntmps72
  go_upto_region 4 with (go_at_call 29; (with_reducible refine (HC.out _).mono ?_); rintro e w2 ⟨rfl, hf2⟩; have hB3 := hf2.heap HB2.out (fun h => h); have hG3 := hf2.heap HG2.out (fun h => h); have HF3 := As.mk (HF2.out.after hf2 (fun _ _ h => h)); have HB3 := As.mk hB3; have HG3 := As.mk hG3; clear hf2 hB3 hG3)
  have b1 := cell_is (v := .slice A1 n1 c1) (i := 1) HB3.out rfl
  have b2 := cell_is (v := .int .i64 m.spare) (i := 2) HB3.out rfl
  have b3 := cell_is (v := .int .i64 m.dead) (i := 3) HB3.out rfl
  have b4 := cell_is (v := .int .i64 m.done) (i := 4) HB3.out rfl
  have e0 := cell_is (v := .int .i64 g.c) (i := 0) HG3.out rfl
  have e1 := cell_is (v := .int .i64 g.b) (i := 1) HG3.out rfl
  have e2 := cell_is (v := .int .i64 g.p) (i := 2) HG3.out rfl
  have e3 := cell_is (v := .int .i64 g.s) (i := 3) HG3.out rfl
  have dl : ((n1 : Int) != g.c) = false := by rw [hn1]; simp
  have d0 : decide (m.done < 0) = false := decide_eq_false (by omega)
  have d1 : decide (g.b - 5 < m.done) = false := decide_eq_false (by omega)
  have dd : ((m.dead != 255) = false) ∨ ((m.dead != 255) = true ∧ decide (m.dead < 0) = false ∧ decide (g.c ≤ m.dead) = false) := by
    rcases hdd with h | h
    · exact .inl (by rw [h]; rfl)
    · exact .inr ⟨by rw [bne_iff_ne]; omega, decide_eq_false (by omega), decide_eq_false (by omega)⟩
  have dx : (decide (0 < m.done) = false) ∨ (decide (0 < m.done) = true ∧ (m.dead == 255) = false ∧ (m.spare == 255) = false) := by
    by_cases h : 0 < m.done
    · exact .inr ⟨decide_eq_true h, beq_eq_false_iff_ne.2 (hdx h).1, beq_eq_false_iff_ne.2 (hdx h).2⟩
    · exact .inl (decide_eq_false h)
  clear hdn hdd hdx
  go_cut [64] (fun v64 wx => v64 = .bool false ∧ As (Fr None_ w2 wx))
  case first =>
    rcases dd with k1 | ⟨k1, k2, k3⟩ <;> rcases dx with k4 | ⟨k4, k5, k6⟩
    all_goals
      refine wp_region_class (C := fun w' => Fr None_ w2 w') (by kernel_rfl) (by kernel_rfl) ((Fr.refl None_ w2).drew) ?_
      repeat (first
      | go_big_quiet_skip
      | (go_big_quiet_want; go_big_quiet_op; go_big_quiet_on)
      | (go_big_quiet_want; go_big_quiet_op; apply Exists.intro; refine ⟨fun _ _ => rfl, ?_⟩; go_big_quiet_on)
      | (go_big_quiet_want; refine ⟨.int .i64 (n1 : Int), fun w hw => ?_, ?_⟩; (focus (go_simp; done)); (simp only [Act.put, List.setIfInBounds_toArray, List.set_cons_zero, List.set_cons_succ]); go_big_quiet_on)
      | (go_big_quiet_want; refine ⟨.slice A1 n1 c1, fun w hw => ?_, ?_⟩; (focus (have z0 := Fr.cell hw b1 (fun h => h); go_simp; done)); (simp only [Act.put, List.setIfInBounds_toArray, List.set_cons_zero, List.set_cons_succ]); go_big_quiet_on)
      | (go_big_quiet_want; refine ⟨.int .i64 m.spare, fun w hw => ?_, ?_⟩; (focus (have z0 := Fr.cell hw b2 (fun h => h); go_simp; done)); (simp only [Act.put, List.setIfInBounds_toArray, List.set_cons_zero, List.set_cons_succ]); go_big_quiet_on)
      | (go_big_quiet_want; refine ⟨.int .i64 m.dead, fun w hw => ?_, ?_⟩; (focus (have z0 := Fr.cell hw b3 (fun h => h); go_simp; done)); (simp only [Act.put, List.setIfInBounds_toArray, List.set_cons_zero, List.set_cons_succ]); go_big_quiet_on)
      | (go_big_quiet_want; refine ⟨.int .i64 m.done, fun w hw => ?_, ?_⟩; (focus (have z0 := Fr.cell hw b4 (fun h => h); go_simp; done)); (simp only [Act.put, List.setIfInBounds_toArray, List.set_cons_zero, List.set_cons_succ]); go_big_quiet_on)
      | (go_big_quiet_want; refine ⟨.int .i64 g.c, fun w hw => ?_, ?_⟩; (focus (have z0 := Fr.cell hw e0 (fun h => h); go_simp; done)); (simp only [Act.put, List.setIfInBounds_toArray, List.set_cons_zero, List.set_cons_succ]); go_big_quiet_on)
      | (go_big_quiet_want; refine ⟨.agg #[.int .i64 g.c, .int .i64 g.b, .int .i64 g.p, .int .i64 g.s], fun w hw => ?_, ?_⟩; (focus (have z0 := Fr.cell hw e0 (fun h => h); have z1 := Fr.cell hw e1 (fun h => h); have z2 := Fr.cell hw e2 (fun h => h); have z3 := Fr.cell hw e3 (fun h => h); go_simp; done)); (simp only [Act.put, List.setIfInBounds_toArray, List.set_cons_zero, List.set_cons_succ]); go_big_quiet_on)
      | (go_big_quiet_want; go_big_quiet_op; apply Exists.intro; refine ⟨fun _ => ?_, ?_⟩; (focus (intro hw; exact (HV.out _).mono (fun e w' h => ⟨h.1, Fr.after hw h.2 (fun _ _ h => h)⟩))); go_big_quiet_on))
      refine wpQuiet_nil ?_
      intro w3 hf3
      go_wp2_with fail
      go_meet
      case rel => exact ⟨rfl, ⟨hf3⟩⟩
  case rest =>
    obtain ⟨rfl, HX4⟩ := hcut
    clear dl d0 d1 dd dx b1 b2 b3 b4 e0 e1 e2 e3
    rename World => w4
    have hB4 := HX4.out.heap HB3.out (fun h => h)
    have hG4 := HX4.out.heap HG3.out (fun h => h)
    have HF4 := As.mk (HF3.out.after HX4.out (fun _ _ h => h))
    have HB4 := As.mk hB4
    have HG4 := As.mk hG4
    have e0 := cell_is (v := .int .i64 g.c) (i := 0) hG4 rfl
    obtain ⟨nb, hnb⟩ := Int.eq_ofNat_of_zero_le (show 0 ≤ g.c + 1 by omega)
    have hmk := Gab.run_make (P := Tryz.prog) 38 3 .i64 8 Tryz.underlying38 infoIn (by decide) nb (by omega)
    have hwg : IntKind.i64.wrap (g.c + 1) = g.c + 1 := i64_in _ (by omega) (by omega)
    go_upto_region 7 with fail
    have HF5 := As.mk (HF4.out.alloc (.cells (madeCells #[.int .i64 0] nb) 3))
    have HB5 := As.mk (at_old (.cells (madeCells #[.int .i64 0] nb) 3) HB4.out)
    have HG5 := As.mk (at_old (.cells (madeCells #[.int .i64 0] nb) 3) HG4.out)
    have HX5 := As.mk (show RowAt 3 .i64 (w4.alloc (.cells (madeCells #[.int .i64 0] nb) 3)) w4.heap.size w4.heap.size nb nb (RemapB.mark nb []) from ⟨RemapB.mark_length _ _, by rw [RemapB.mark_nil]; exact Row.made w4 w4.heap.size 3 .i64 nb (Nat.le_refl _) (by omega)⟩)
    have hz4 := HF4.out.size
    have hz5 := HF5.out.size
    have hg5 : w.heap.size + 1 < w4.heap.size := (Array.getElem?_eq_some_iff.1 HG4.out).1
    have hs5 : (w4.alloc (.cells (madeCells #[.int .i64 0] nb) 3)).heap.size = w4.heap.size + 1 := size_new _ rfl
    clear hmk HF4 HB4 HG4 e0 hB4 hG4 hwg
    generalize w4.alloc (.cells (madeCells #[.int .i64 0] nb) 3) = w5 at *
    generalize w4.heap.size = gs at *
    have b1 := cell_is (v := .slice A1 n1 c1) (i := 1) HB5.out rfl
    have HR5 := As.mk (HR1.out.none_ HF5.out)
    go_upto_if 74 with (at_builtin; (with_reducible refine appendRow (gs + 1) rfl _ _ 38 3 .i64 8 rfl Tryz.underlying38 infoIn (by decide) (.slice none 0 0) [] m.chips A1 n1 c1 rfl rfl (Row.nil _ _ _ _) HR5.out (Nat.le_of_eq hs5.symm) ?k1 ?_); (case k1 => simp; omega); intro v1 w6 hrow1 hfr1 hat1; have HR6 := As.mk (show Row 3 .i64 w6 (gs + 1) v1 m.chips from by simpa using hrow1); have HF56 := As.mk (show Fr None_ w5 w6 from (Fr.refl None_ w5).after hfr1 (fun _ _ h => by cases h)); have hz6 := HF56.out.size; have b2 := cell_is (v := .int .i64 m.spare) (i := 2) (HF56.out.heap HB5.out (fun h => h)) rfl; clear hrow1 hfr1 hat1; obtain ⟨A6, n6, c6, e6, _, _, _⟩ := HR6.out.rd; subst e6)
    clear b1 HR5
    go_cut [7] (fun v7 wx => As (Row 3 .i64 wx (gs + 1) v7 m.all) ∧ As (Fr None_ w5 wx))
    case first =>
      by_cases hsp : m.spare = 255
      · have d2 : (m.spare != 255) = false := by rw [hsp]; rfl
        have HAL := As.mk (show m.all = m.chips from by unfold MS.all; rw [if_pos hsp, List.append_nil])
        clear hsp
        go_wp2_with fail
        go_meet
        case rel => exact ⟨⟨by rw [HAL.out]; exact HR6.out⟩, HF56⟩
      · have d2 : (m.spare != 255) = true := by rw [bne_iff_ne]; exact hsp
        have HAL := As.mk (show m.all = m.chips ++ [m.spare] from by unfold MS.all; rw [if_neg hsp])
        have hlc : m.chips.length ≤ 16 := by have := HOK.out.len; omega
        clear hsp
        go_wp2_with (at_builtin; (with_reducible refine append1 (gs + 1) rfl _ _ 38 3 .i64 8 rfl Tryz.underlying38 infoIn (by decide) (.slice A6 n6 c6) m.chips _ rfl rfl HR6.out ?k0 ?k1 ?_); (case k0 => omega); (case k1 => omega); intro v7 w7 hrow7 hfr7 hat7; have HR7 := As.mk hrow7; have HF67 := As.mk hfr7; clear hrow7 hfr7 hat7)
        go_meet
        case rel => exact ⟨⟨by rw [HAL.out]; exact HR7.out⟩, ⟨HF56.out.after HF67.out (fun b hb hh => absurd hb (by have := (HR6.out.blk b hh).1; omega))⟩⟩
    case rest =>
      obtain ⟨HR7, HF7⟩ := hcut
      rename World => w7
      clear b2 hz6 HF56 HR6
      obtain ⟨A7, n7, c7, e7, hm7, hd7, ho7⟩ := HR7.out.rd
      subst e7
      have HLN := As.mk hd7.out.1
      have hn7 : n7 ≤ 100 := by
        have h1 := hd7.out.1
        have h2 := HOK.out.len
        have h3 : m.all.length ≤ m.chips.length + 1 := by unfold MS.all; split <;> simp
        omega
      have HS7 := As.mk (show RowAt 3 .i64 w7 gs gs nb nb (RemapB.mark nb (m.all.take 0)) from ⟨by simpa using RemapB.mark_length nb [], by rw [List.take_zero]; exact HX5.out.2.none_ HF7.out⟩)
      have HG7 := As.mk (HF7.out.heap HG5.out (fun h => h))
      have HF17 := As.mk (HF5.out.after HF7.out (fun _ _ h => h))
      clear HB5 HX5 HG5
      go_wp2_with fail
      go_loopw [9, 82] (fun v9 v82 w' => ∃ i : Nat, v82 = .int .i64 (i : Int) ∧ i ≤ n7 ∧ As (RowAt 3 .i64 w' gs gs nb nb (RemapB.mark nb (m.all.take i))) ∧ As (Fr (fun b => b = gs) w7 w')) (fun _ v82 _ => n7 - (intOf v82).toNat)
      case atStart => exact ⟨0, rfl, Nat.zero_le _, HS7, ⟨Fr.refl _ _⟩⟩
      case round =>
        obtain ⟨i, rfl, hi, HY, HF⟩ := hrel
        by_cases hli : i < n7
        · have hliI : (i : Int) < (n7 : Int) := by omega
          have hdw : Rd .i64 wr A7 n7 m.all := hd7.out.fr HF.out (fun ad e hn hh => by have := (HR7.out.blk _ (ho7.out ad e)).1; omega)
          obtain ⟨ad, rfl, hc⟩ := hdw.at_ i (by omega) hliI
          have hx := all_fresh HOK.out (i := i) (by have := HLN.out; omega)
          have HTK := As.mk (show m.all.take (i + 1) = m.all.take i ++ [m.all.getD i 0] from by
            have hl : i < m.all.length := by have := HLN.out; omega
            rw [List.take_succ_eq_append_getElem hl]
            simp [List.getD_eq_getElem?_getD, List.getElem?_eq_getElem hl])
          simp only [Int.toNat_natCast] at hc
          generalize m.all.getD i 0 = x at *
          obtain ⟨hx0, hx1, hx2⟩ := hx
          have hxn : x < (nb : Int) := by omega
          have e0 := cell_is (v := .int .i64 g.c) (i := 0) (HF.out.heap HG7.out (by omega)) rfl
          obtain ⟨hs1, hs2⟩ := HY.out.cell x hx0 hxn
          rw [RemapB.mark_at hx0 hxn hx2] at hs1
          have HST := As.mk (show RowAt 3 .i64 (wr.setCell ⟨gs, x.toNat, none⟩ (.int .i64 1)) gs gs nb nb (RemapB.mark nb (m.all.take (i + 1))) from by
            have hr := HY.out.store x 1
            rw [RemapB.mark_set hx0 hxn] at hr
            rw [HTK.out]
            exact hr)
          clear hx2 hdw
          have d1 : decide (x < 0) = false := decide_eq_false (by omega)
          have d2 : decide (g.c < x) = false := decide_eq_false (by omega)
          go_wp2_with fail
          exact ⟨⟨i + 1, rfl, by omega, HST, ⟨HF.out.after (fr_set1 _) (fun _ _ e => e)⟩⟩, by simp [intOf]; omega⟩
        · have hliI : ¬ (i : Int) < (n7 : Int) := by omega
          have hff := HF17.out.after HF.out (fun b hb e => by omega)
          go_wp2_with fail
          go_ret
          exact ⟨rfl, hff⟩
end Go.Proofs.YteofgpaceeibpaaGreat.MemA

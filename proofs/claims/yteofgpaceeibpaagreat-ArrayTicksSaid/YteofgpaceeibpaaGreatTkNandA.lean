/- nand: full, Geo, Chips, at. -/
import Derived.Test.YteofgpaceeibpaaGreatTkNand
import Derived.Test.YteofgpaceeibpaaGreatTkStr
import Derived.Deep.RegionHeld3
import Derived.Handy
namespace Go.Proofs.YteofgpaceeibpaaGreat.NandA
open Go.RowKit Gab Wr Geom Ref Heap Nand
set_option linter.unusedVariables false
set_option linter.unusedSimpArgs false

set_option maxHeartbeats 2000000 in
set_option maxRecDepth 100000 in
theorem full_calls (n : Nat) (w : World) (hn : n ≤ 1000000) :
    Calls Tryz.prog 104 #[.int .i64 (n : Int)] w fun e w' => ∃ v, e = .returned v ∧ Row 5 .u8 w' w.heap.size v (List.replicate n 255) ∧ Fr None_ w w' := by
  have hmk := Gab.run_make (P := Tryz.prog) 48 5 .u8 1 Tryz.underlying48 infoByte (by decide) n (by omega)
  have HR0 := As.mk (Row.made w w.heap.size 5 .u8 n (Nat.le_refl _) (by omega))
  have HF0 : As (Fr None_ w (w.alloc (.cells (madeCells #[.int .u8 0] n) 5))) := ⟨(Fr.refl None_ w).alloc _⟩
  go_enter Tryz.func104, Tryz.ntmps104
  go_wp2
  generalize w.alloc (.cells (madeCells #[.int .u8 0] n) 5) = w1 at *
  clear hmk
  go_loopw [4, 9] (fun v4 v9 w' => ∃ i : Nat, v9 = .int .i64 (i : Int) ∧ i ≤ n ∧ As (RowAt 5 .u8 w' w.heap.size w.heap.size n n (List.replicate i 255 ++ List.replicate (n - i) 0)) ∧ As (Fr None_ w w')) (fun _ v9 _ => n - (intOf v9).toNat)
  case atStart => exact ⟨0, rfl, Nat.zero_le _, ⟨by simp, by simpa using HR0.out⟩, HF0⟩
  case round =>
    obtain ⟨i, rfl, hi, HR, HF⟩ := hrel
    by_cases hlt : i < n
    · have hltI : (i : Int) < (n : Int) := by omega
      have hc := (HR.out.cell i (by omega) hltI).1
      have hfz := (HR.out.cell i (by omega) hltI).2
      have hst := As.mk (HR.out.store (i : Int) 255)
      have hii : Int.toNat (i : Int) = i := by omega
      rw [hii] at hc hfz hst
      have hset : (List.replicate i (255 : Int) ++ List.replicate (n - i) 0).set i 255 = List.replicate (i + 1) 255 ++ List.replicate (n - (i + 1)) 0 := by
        rw [List.set_append_right _ _ (by simp)]
        rw [show n - i = (n - (i + 1)) + 1 by omega, List.replicate_succ, List.length_replicate, Nat.sub_self, List.set_cons_zero, List.replicate_succ', List.append_assoc]
        rfl
      have HSE := As.mk hset
      clear hset
      generalize (List.replicate i (255 : Int) ++ List.replicate (n - i) 0).getD i 0 = z at *
      go_wp2
      refine ⟨⟨i + 1, rfl, by omega, ⟨?_⟩, ⟨HF.out.setCell (fun h => absurd h (Nat.lt_irrefl _)) _⟩⟩, by simp [intOf]; omega⟩
      have h2 := hst.out
      rw [HSE.out] at h2
      exact h2
    · have hltI : ¬ (i : Int) < (n : Int) := by omega
      obtain rfl : i = n := by omega
      have HR2 := As.mk HR.out.2
      go_wp2
      go_ret
      exact ⟨_, rfl, by simpa using HR2.out, HF.out⟩

set_option maxHeartbeats 1000000 in
set_option maxRecDepth 100000 in
theorem Geo_calls (p : Nat) (s : St) (L : Lay) (w : World) (h : Nand w p s L) : Calls Tryz.prog 30 #[.pointer (some ⟨p, 0, none⟩)] w fun e w' => e = .returned s.g.val ∧ Fr None_ w w' := by
  have c0 := cell_is (i := 0) h.main rfl
  have c1 := cell_is (i := 1) h.main rfl
  have c2 := cell_is (i := 2) h.main rfl
  have c3 := cell_is (i := 3) h.main rfl
  try dsimp only at c0 c1 c2 c3
  have hp : p < w.heap.size := (Array.getElem?_eq_some_iff.1 h.main).1
  unfold Geo.val
  clear h
  go_enter Tryz.func30, Tryz.ntmps30
  go_wp2
  exact bodyPost_ret (v := .agg #[.int .i64 s.g.c, .int .i64 s.g.b, .int .i64 s.g.p, .int .i64 s.g.s]) (by simp [results, Tryz.results30, go_sem]) rfl ⟨rfl, (Fr.refl None_ w).alloc _⟩
set_option maxHeartbeats 1000000 in
set_option maxRecDepth 100000 in
theorem Chips_calls (p : Nat) (s : St) (L : Lay) (w : World) (h : Nand w p s L) : Calls Tryz.prog 31 #[.pointer (some ⟨p, 0, none⟩)] w fun e w' => e = .returned (.int .i64 (s.g.c + 1)) ∧ Fr None_ w w' := by
  have c4 := cell_is (i := 4) h.main rfl
  have hn : ((s.n : Nat) : Int) = s.g.c + 1 := by unfold St.n; have := h.ok.c; omega
  have HN := As.mk hn
  try dsimp only at c4
  clear h hn
  go_enter Tryz.func31, Tryz.ntmps31
  go_wp2
  go_ret
  exact ⟨by rw [← HN.out]; rfl, Fr.refl _ _⟩

/-! ### events -/
def noEv : Ev := ⟨0, 0, 0, []⟩
def Ev.now (x : Ev) (ops : Int) : Bool := decide (x.op = ops) && (decide (1 ≤ x.kind) && decide (x.kind ≤ 3))
def _root_.Go.Proofs.YteofgpaceeibpaaGreat.Nand.St.ev (s : St) : Option Ev := s.evs.find? (fun x => Ev.now x s.ops)
/-- An event as a value. -/
def EvV (w : World) (F : Nat → Prop) (v : Value) (x : Ev) : Prop := ∃ LA ln lc, v = .agg #[.int .i64 x.op, .int .i64 x.kind, .int .i64 x.chip, .slice LA ln lc] ∧ ln ≤ lc ∧ Rd .u8 w LA ln x.left ∧ InR 256 x.left ∧ ∀ ad, LA = some ad → 0 < ln → ¬ F ad.block
theorem EvV.none_ {w w' : World} {F : Nat → Prop} {v : Value} {x : Ev} (h : EvV w F v x) (hf : Fr None_ w w') : EvV w' F v x := by
  obtain ⟨LA, ln, lc, h1, h2, h3, h4, h5⟩ := h
  exact ⟨LA, ln, lc, h1, h2, h3.none_ hf, h4, h5⟩
theorem EvV.zero (w : World) (F : Nat → Prop) : EvV w F (.agg #[.int .i64 0, .int .i64 0, .int .i64 0, .slice none 0 0]) noEv := ⟨none, 0, 0, rfl, Nat.le_refl _, Rd.nil _ _ _, fun x h => (by cases h), fun ad e => (by cases e)⟩
theorem find_none {l : List Ev} {f : Ev → Bool} (h : ∀ i, i < l.length → ∀ e, l[i]? = some e → f e = false) : l.find? f = none := by
  rw [List.find?_eq_none]
  intro x hx hf
  obtain ⟨i, hi, e⟩ := List.getElem_of_mem hx
  have := h i hi x (by rw [List.getElem?_eq_getElem hi, e])
  rw [this] at hf
  cases hf
theorem find_at {l : List Ev} {f : Ev → Bool} {i : Nat} {e : Ev} (he : l[i]? = some e) (hf : f e = true) (h : ∀ j, j < i → ∀ e', l[j]? = some e' → f e' = false) : l.find? f = some e := by
  rw [List.find?_eq_some_iff_getElem]
  obtain ⟨hi, e1⟩ := List.getElem?_eq_some_iff.1 he
  refine ⟨hf, i, hi, e1, fun j hj => ?_⟩
  have := h j hj (l[j]) (List.getElem?_eq_getElem (by omega))
  rw [this]
  rfl
def AtPost (s : St) (F : Nat → Prop) (w : World) (e : Ending) (w' : World) : Prop := ∃ v, e = .returned (.tuple #[v, .bool s.ev.isSome]) ∧ EvV w' F v (s.ev.getD noEv) ∧ Fr None_ w w'
set_option maxHeartbeats 4000000 in
set_option maxRecDepth 100000 in
theorem at_calls (p : Nat) (s : St) (L : Lay) (w : World) (h : Nand w p s L) : Calls Tryz.prog 115 #[.pointer (some ⟨p, 0, none⟩)] w (AtPost s (NF p L s.n s.nb) w) := by
  have HE := As.mk h.evs
  have HM := As.mk h.main
  have hlen := h.evs.len
  have HLE := As.mk hlen
  have hfew := h.evs.few
  have HF1 := As.mk ((Fr.refl None_ w).alloc (.cells #[.int .i64 0, .int .i64 0, .int .i64 0, .slice none 0 0] 50))
  have HB1 := As.mk (heap_alloc_new w (.cells #[.int .i64 0, .int .i64 0, .int .i64 0, .slice none 0 0] 50))
  have HYes := As.mk (fun (e : Ending) (w' : World) (x : Ev) (v : Value) (hs : s.ev = some x) (h1 : e = .returned (.tuple #[v, .bool true])) (h2 : EvV w' (NF p L s.n s.nb) v x) (h3 : Fr None_ w w') => show AtPost s (NF p L s.n s.nb) w e w' from ⟨v, by rw [h1, hs]; rfl, by rw [hs]; exact h2, h3⟩)
  have HNo := As.mk (fun (e : Ending) (w' : World) (v : Value) (hs : s.ev = none) (h1 : e = .returned (.tuple #[v, .bool false])) (h2 : EvV w' (NF p L s.n s.nb) v noEv) (h3 : Fr None_ w w') => show AtPost s (NF p L s.n s.nb) w e w' from ⟨v, by rw [h1, hs]; rfl, by rw [hs]; exact h2, h3⟩)
  clear h hlen
  go_enter Tryz.func115, Tryz.ntmps115
  have m6 := cell_is (i := 6) (HF1.out.heap HM.out (fun h => h)) rfl
  try dsimp only at m6
  go_wp2_with fail
  generalize w.alloc (.cells #[.int .i64 0, .int .i64 0, .int .i64 0, .slice none 0 0] 50) = w1 at *
  clear m6
  go_loopw [5, 11] (fun v5 v11 w' => ∃ i : Nat, v11 = .int .i64 (i : Int) ∧ i ≤ L.en ∧ As (∀ j, j < i → ∀ e, s.evs[j]? = some e → Ev.now e s.ops = false) ∧ As (Fr None_ w w' ∧ w'.heap[w.heap.size]? = some (.cells #[.int .i64 0, .int .i64 0, .int .i64 0, .slice none 0 0] 50 (0, 0)))) (fun _ v11 _ => L.en - (intOf v11).toNat)
  case atStart => exact ⟨0, rfl, Nat.zero_le _, ⟨fun j hj => absurd hj (Nat.not_lt_zero _)⟩, ⟨HF1.out, HB1.out⟩⟩
  case round =>
    obtain ⟨i, rfl, hi, HJ, HQ⟩ := hrel
    by_cases hlt : i < L.en
    · have hltI : (i : Int) < (L.en : Int) := by omega
      obtain ⟨ad, x, LA, ln, lc, eA, hx, c0, c1, c2, c3, h7, h8, h9, h10, h11⟩ := HE.out.cells i (by have := HLE.out; omega)
      have HX := As.mk hx
      replace c0 := HQ.out.1.cell c0 (fun h => h)
      replace c1 := HQ.out.1.cell c1 (fun h => h)
      replace c2 := HQ.out.1.cell c2 (fun h => h)
      replace c3 := HQ.out.1.cell c3 (fun h => h)
      have HV := As.mk (show EvV w (NF p L s.n s.nb) (.agg #[.int .i64 x.op, .int .i64 x.kind, .int .i64 x.chip, .slice LA ln lc]) x from ⟨LA, ln, lc, rfl, h7, h8, h9, h11⟩)
      have m7 := cell_is (i := 7) (HQ.out.1.heap HM.out (fun h => h)) rfl
      try dsimp only at m7
      rw [Str.add_next _ _ _ (by decide)] at c1 c2 c3
      clear hx h7 h8 h9 h10 h11
      have hh : ((x.op == s.ops) = false) ∨ ((x.op == s.ops) = true ∧ decide (1 ≤ x.kind) = false) ∨ ((x.op == s.ops) = true ∧ decide (1 ≤ x.kind) = true ∧ decide (x.kind ≤ 3) = false) ∨ ((x.op == s.ops) = true ∧ decide (1 ≤ x.kind) = true ∧ decide (x.kind ≤ 3) = true) := by
        simp only [beq_iff_eq, beq_eq_false_iff_ne, decide_eq_true_eq, decide_eq_false_iff_not]
        omega
      rcases hh with d1 | ⟨d1, d2⟩ | ⟨d1, d2, d3⟩ | ⟨d1, d2, d3⟩
      · have HN := As.mk (show Ev.now x s.ops = false from by unfold Ev.now; rw [show decide (x.op = s.ops) = false from decide_eq_false (beq_eq_false_iff_ne.1 d1)]; rfl)
        go_upto_region 4 with fail
        have hfx : Fr None_ wr (wr.alloc (.cells #[.int .i64 x.op, .int .i64 x.kind, .int .i64 x.chip, .slice LA ln lc] 50)) := (Fr.refl None_ wr).alloc _
        have HBX := As.mk (heap_alloc_new wr (.cells #[.int .i64 x.op, .int .i64 x.kind, .int .i64 x.chip, .slice LA ln lc] 50))
        generalize wr.alloc (.cells #[.int .i64 x.op, .int .i64 x.kind, .int .i64 x.chip, .slice LA ln lc] 50) = wx at *
        have m7 := hfx.cell m7 (fun h => h)
        have e0 := cell_is (i := 0) HBX.out rfl
        have e1 := cell_is (i := 1) HBX.out rfl
        have e2 := cell_is (i := 2) HBX.out rfl
        have e3 := cell_is (i := 3) HBX.out rfl
        try dsimp only at e0 e1 e2 e3
        go_quiet (fail)
        have HFQ := As.mk (show Fr None_ wr (wx.drewN nq) from hfx.drewN nq)
        have HQ2 := As.mk (And.intro (HQ.out.1.after HFQ.out (fun _ _ h => h)) (HFQ.out.heap HQ.out.2 (fun h => h)))
        have HBQ := As.mk (show (wx.drewN nq).heap[wr.heap.size]? = some (.cells #[.int .i64 x.op, .int .i64 x.kind, .int .i64 x.chip, .slice LA ln lc] 50 (0, 0)) from HBX.out)
        clear hfx m7 e0 e1 e2 e3 HBX
        generalize wx.drewN nq = wq at *
        go_wp2_with fail
        exact ⟨⟨i + 1, rfl, by omega, ⟨fun j hj e he => by
          by_cases ej : j = i
          · subst ej
            rw [HX.out] at he
            injection he with he
            subst he
            exact HN.out
          · exact HJ.out j (by omega) e he⟩, HQ2⟩, by simp [intOf]; omega⟩
      · have HN := As.mk (show Ev.now x s.ops = false from by unfold Ev.now; rw [d2]; simp)
        go_upto_region 4 with fail
        have hfx : Fr None_ wr (wr.alloc (.cells #[.int .i64 x.op, .int .i64 x.kind, .int .i64 x.chip, .slice LA ln lc] 50)) := (Fr.refl None_ wr).alloc _
        have HBX := As.mk (heap_alloc_new wr (.cells #[.int .i64 x.op, .int .i64 x.kind, .int .i64 x.chip, .slice LA ln lc] 50))
        generalize wr.alloc (.cells #[.int .i64 x.op, .int .i64 x.kind, .int .i64 x.chip, .slice LA ln lc] 50) = wx at *
        have m7 := hfx.cell m7 (fun h => h)
        have e0 := cell_is (i := 0) HBX.out rfl
        have e1 := cell_is (i := 1) HBX.out rfl
        have e2 := cell_is (i := 2) HBX.out rfl
        have e3 := cell_is (i := 3) HBX.out rfl
        try dsimp only at e0 e1 e2 e3
        go_quiet (fail)
        have HFQ := As.mk (show Fr None_ wr (wx.drewN nq) from hfx.drewN nq)
        have HQ2 := As.mk (And.intro (HQ.out.1.after HFQ.out (fun _ _ h => h)) (HFQ.out.heap HQ.out.2 (fun h => h)))
        have HBQ := As.mk (show (wx.drewN nq).heap[wr.heap.size]? = some (.cells #[.int .i64 x.op, .int .i64 x.kind, .int .i64 x.chip, .slice LA ln lc] 50 (0, 0)) from HBX.out)
        clear hfx m7 e0 e1 e2 e3 HBX
        generalize wx.drewN nq = wq at *
        go_wp2_with fail
        exact ⟨⟨i + 1, rfl, by omega, ⟨fun j hj e he => by
          by_cases ej : j = i
          · subst ej
            rw [HX.out] at he
            injection he with he
            subst he
            exact HN.out
          · exact HJ.out j (by omega) e he⟩, HQ2⟩, by simp [intOf]; omega⟩
      · have HN := As.mk (show Ev.now x s.ops = false from by unfold Ev.now; rw [d3]; simp)
        go_upto_region 4 with fail
        have hfx : Fr None_ wr (wr.alloc (.cells #[.int .i64 x.op, .int .i64 x.kind, .int .i64 x.chip, .slice LA ln lc] 50)) := (Fr.refl None_ wr).alloc _
        have HBX := As.mk (heap_alloc_new wr (.cells #[.int .i64 x.op, .int .i64 x.kind, .int .i64 x.chip, .slice LA ln lc] 50))
        generalize wr.alloc (.cells #[.int .i64 x.op, .int .i64 x.kind, .int .i64 x.chip, .slice LA ln lc] 50) = wx at *
        have m7 := hfx.cell m7 (fun h => h)
        have e0 := cell_is (i := 0) HBX.out rfl
        have e1 := cell_is (i := 1) HBX.out rfl
        have e2 := cell_is (i := 2) HBX.out rfl
        have e3 := cell_is (i := 3) HBX.out rfl
        try dsimp only at e0 e1 e2 e3
        go_quiet (fail)
        have HFQ := As.mk (show Fr None_ wr (wx.drewN nq) from hfx.drewN nq)
        have HQ2 := As.mk (And.intro (HQ.out.1.after HFQ.out (fun _ _ h => h)) (HFQ.out.heap HQ.out.2 (fun h => h)))
        have HBQ := As.mk (show (wx.drewN nq).heap[wr.heap.size]? = some (.cells #[.int .i64 x.op, .int .i64 x.kind, .int .i64 x.chip, .slice LA ln lc] 50 (0, 0)) from HBX.out)
        clear hfx m7 e0 e1 e2 e3 HBX
        generalize wx.drewN nq = wq at *
        go_wp2_with fail
        exact ⟨⟨i + 1, rfl, by omega, ⟨fun j hj e he => by
          by_cases ej : j = i
          · subst ej
            rw [HX.out] at he
            injection he with he
            subst he
            exact HN.out
          · exact HJ.out j (by omega) e he⟩, HQ2⟩, by simp [intOf]; omega⟩
      · have HN := As.mk (show s.ev = some x from find_at HX.out (by unfold Ev.now; rw [show decide (x.op = s.ops) = true from decide_eq_true (beq_iff_eq.1 d1), d2, d3]; rfl) HJ.out)
        go_upto_region 4 with fail
        have hfx : Fr None_ wr (wr.alloc (.cells #[.int .i64 x.op, .int .i64 x.kind, .int .i64 x.chip, .slice LA ln lc] 50)) := (Fr.refl None_ wr).alloc _
        have HBX := As.mk (heap_alloc_new wr (.cells #[.int .i64 x.op, .int .i64 x.kind, .int .i64 x.chip, .slice LA ln lc] 50))
        generalize wr.alloc (.cells #[.int .i64 x.op, .int .i64 x.kind, .int .i64 x.chip, .slice LA ln lc] 50) = wx at *
        have m7 := hfx.cell m7 (fun h => h)
        have e0 := cell_is (i := 0) HBX.out rfl
        have e1 := cell_is (i := 1) HBX.out rfl
        have e2 := cell_is (i := 2) HBX.out rfl
        have e3 := cell_is (i := 3) HBX.out rfl
        try dsimp only at e0 e1 e2 e3
        go_quiet (fail)
        have HFQ := As.mk (show Fr None_ wr (wx.drewN nq) from hfx.drewN nq)
        have HQ2 := As.mk (And.intro (HQ.out.1.after HFQ.out (fun _ _ h => h)) (HFQ.out.heap HQ.out.2 (fun h => h)))
        have HBQ := As.mk (show (wx.drewN nq).heap[wr.heap.size]? = some (.cells #[.int .i64 x.op, .int .i64 x.kind, .int .i64 x.chip, .slice LA ln lc] 50 (0, 0)) from HBX.out)
        clear hfx m7 e0 e1 e2 e3 HBX
        generalize wx.drewN nq = wq at *
        have e0 := cell_is (i := 0) HBQ.out rfl
        have e1 := cell_is (i := 1) HBQ.out rfl
        have e2 := cell_is (i := 2) HBQ.out rfl
        have e3 := cell_is (i := 3) HBQ.out rfl
        have r0 := cell_is (i := 0) HQ2.out.2 rfl
        have r1 := cell_is (i := 1) HQ2.out.2 rfl
        have r2 := cell_is (i := 2) HQ2.out.2 rfl
        have r3 := cell_is (i := 3) HQ2.out.2 rfl
        have f0 := free_of (i := 0) HQ2.out.2
        have f1 := free_of (i := 1) HQ2.out.2
        have f2 := free_of (i := 2) HQ2.out.2
        have f3 := free_of (i := 3) HQ2.out.2
        try dsimp only at e0 e1 e2 e3 r0 r1 r2 r3
        go_wp2_with fail
        obtain ⟨s1, s2, s3⟩ := set4 HQ2.out.1 (Nat.le_refl _) HQ2.out.2 (.int .i64 x.op) (.int .i64 x.kind) (.int .i64 x.chip) (.slice LA ln lc)
        have hv := HV.out.none_ s1
        clear r0 r1 r2 r3 f0 f1 f2 f3 e0 e1 e2 e3 s3
        generalize (((wq.setCell ⟨w.heap.size, 0, none⟩ (.int .i64 x.op)).setCell ⟨w.heap.size, 1, none⟩ (.int .i64 x.kind)).setCell ⟨w.heap.size, 2, none⟩ (.int .i64 x.chip)).setCell ⟨w.heap.size, 3, none⟩ (.slice LA ln lc) = wf at *
        have r0 := cell_is (i := 0) s2 rfl
        have r1 := cell_is (i := 1) s2 rfl
        have r2 := cell_is (i := 2) s2 rfl
        have r3 := cell_is (i := 3) s2 rfl
        exact bodyPost_ret (v := .tuple #[.agg #[.int .i64 x.op, .int .i64 x.kind, .int .i64 x.chip, .slice LA ln lc], .bool true]) (by simp [results, Tryz.results115, go_sem, r0, r1, r2, r3]) rfl (HYes.out _ _ x _ HN.out rfl hv s1)
    · have hltI : ¬ (i : Int) < (L.en : Int) := by omega
      obtain rfl : i = L.en := by omega
      have HN := As.mk (show s.ev = none from find_none (fun j hj e he => HJ.out j (by have := HLE.out; omega) e he))
      have r0 := cell_is (i := 0) HQ.out.2 rfl
      have r1 := cell_is (i := 1) HQ.out.2 rfl
      have r2 := cell_is (i := 2) HQ.out.2 rfl
      have r3 := cell_is (i := 3) HQ.out.2 rfl
      have f0 := free_of (i := 0) HQ.out.2
      have f1 := free_of (i := 1) HQ.out.2
      have f2 := free_of (i := 2) HQ.out.2
      have f3 := free_of (i := 3) HQ.out.2
      try dsimp only at r0 r1 r2 r3
      go_wp2_with fail
      obtain ⟨s1, s2, s3⟩ := set4 HQ.out.1 (Nat.le_refl _) HQ.out.2 (.int .i64 0) (.int .i64 0) (.int .i64 0) (.slice none 0 0)
      clear r0 r1 r2 r3 f0 f1 f2 f3 s3
      generalize (((wr.setCell ⟨w.heap.size, 0, none⟩ (.int .i64 0)).setCell ⟨w.heap.size, 1, none⟩ (.int .i64 0)).setCell ⟨w.heap.size, 2, none⟩ (.int .i64 0)).setCell ⟨w.heap.size, 3, none⟩ (.slice none 0 0) = wf at *
      have r0 := cell_is (i := 0) s2 rfl
      have r1 := cell_is (i := 1) s2 rfl
      have r2 := cell_is (i := 2) s2 rfl
      have r3 := cell_is (i := 3) s2 rfl
      exact bodyPost_ret (v := .tuple #[.agg #[.int .i64 0, .int .i64 0, .int .i64 0, .slice none 0 0], .bool false]) (by simp [results, Tryz.results115, go_sem, r0, r1, r2, r3]) rfl (HNo.out _ _ _ HN.out rfl (EvV.zero _ _) s1)
end Go.Proofs.YteofgpaceeibpaaGreat.NandA

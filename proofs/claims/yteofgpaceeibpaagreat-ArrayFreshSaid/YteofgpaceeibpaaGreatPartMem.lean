/- member: sets in memory, Check of good ones. | member: Page of good sets. | member: First, Full, Newest. | member: Newest. | member: Parse's closure, of a good set's bytes. | member: Parse, of a good set's page, or of one that is none. -/
import Derived.Test.YteofgpaceeibpaaGreatRemapB
import Derived.BigQuiet
import Derived.Test.YteofgpaceeibpaaGreatRemapC
import Derived.Test.YteofgpaceeibpaaGreatSeal
import Derived.Deep.RegionHeld3
import Derived.Test.YteofgpaceeibpaaGreatRemapF
import Derived.Test.YteofgpaceeibpaaGreatPar
import Derived.Test.YteofgpaceeibpaaGreatRdz
import Derived.Test.YteofgpaceeibpaaGreatOpen
namespace Go.Proofs.YteofgpaceeibpaaGreat.MemA
open Go.RowKit Go.Proofs.YteofgpaceeibpaaGreat.Gab Go.Proofs.YteofgpaceeibpaaGreat.Wr Go.Proofs.YteofgpaceeibpaaGreat.Geom Go.Proofs.YteofgpaceeibpaaGreat.Ref Go.Proofs.YteofgpaceeibpaaGreat.Heap Go.Proofs.YteofgpaceeibpaaGreat.RemapB
set_option linter.unusedVariables false
set_option linter.unusedSimpArgs false

/-- A set of members. -/
structure MS where
  seq : Int
  chips : List Int
  spare : Int
  dead : Int
  done : Int
/-- A value that is one. -/
def MSV (w : World) (v : Value) (m : MS) : Prop := ∃ A n c, v = .agg #[.int .u32 m.seq, .slice A n c, .int .i64 m.spare, .int .i64 m.dead, .int .i64 m.done] ∧ n ≤ c ∧ Rd .i64 w A n m.chips
theorem MSV.none_ {w w' : World} {v : Value} {m : MS} (h : MSV w v m) (hf : Fr None_ w w') : MSV w' v m := by
  obtain ⟨A, n, c, rfl, h1, h2⟩ := h
  exact ⟨A, n, c, rfl, h1, h2.none_ hf⟩
/-- The chips that it names. -/
def MS.all (m : MS) : List Int := m.chips ++ (if m.spare = 255 then [] else [m.spare])
/-- A good set of a shape. -/
structure MS.Ok (m : MS) (g : Geo) : Prop where
  len : (m.chips.length : Int) = g.c
  seq : 0 ≤ m.seq ∧ m.seq < 4294967296
  inr : ∀ x ∈ m.all, 0 ≤ x ∧ x ≤ g.c
  nd : m.all.Nodup
  dead : m.dead = 255 ∨ (0 ≤ m.dead ∧ m.dead < g.c)
  done : 0 ≤ m.done ∧ m.done ≤ g.b - 5
  dn : 0 < m.done → m.dead ≠ 255 ∧ m.spare ≠ 255
theorem all_fresh {m : MS} {g : Geo} (h : m.Ok g) {i : Nat} (hi : i < m.all.length) : 0 ≤ m.all.getD i 0 ∧ m.all.getD i 0 ≤ g.c ∧ m.all.getD i 0 ∉ m.all.take i := by
  have hg : m.all.getD i 0 = m.all[i] := by simp [List.getD_eq_getElem?_getD, List.getElem?_eq_getElem hi]
  rw [hg]
  have hr := h.inr m.all[i] (List.getElem_mem hi)
  refine ⟨hr.1, hr.2, fun hm => ?_⟩
  have hnd := h.nd
  have hs : m.all = m.all.take i ++ m.all[i] :: m.all.drop (i + 1) := by rw [← List.drop_eq_getElem_cons hi, List.take_append_drop]
  rw [hs] at hnd
  have h2 := (List.nodup_append.1 hnd).2.2
  exact h2 _ hm _ (List.mem_cons_self) rfl
theorem wp_region_class {P : Program} {id : Nat} {Q : Exit → Act → World → Prop} {a : Act} {w : World} {l : List Oper} (C : World → Prop) (hm : P.follows .mixedOrders = true) (hB : Region.lexB .any l.toArray = true) (hC : C w.drew)
    (h : wpQuiet P l.toArray C (fun a' => ∀ w', C w' → Q .normal a' w') l a) : (Code.region id l.toArray true).wp P Q a w := wp_region_quiet hm hB hC (by simpa using h)
theorem infoIn : (Tryz.prog.info? 3).map (fun i => (i.zero, i.size, i.bytes)) = some (some (.int .i64 0), 1, 8) := by kernel_rfl

set_option maxHeartbeats 8000000 in
set_option maxRecDepth 100000 in
theorem Check_calls (m : MS) (g : Geo) (v : Value) (w : World) (hg : g.Ok) (ht : m.Ok g) (hv : MSV w v m) : Calls Tryz.prog 72 #[v, g.val] w fun e w' => e = .returned (.int .i64 0) ∧ Fr None_ w w' := by
  obtain ⟨A1, n1, c1, rfl, h1, hR1⟩ := hv
  have HC := As.mk (fun w => Geom.Check_calls g w hg)
  have HV := As.mk (fun w => Virtual_calls g w hg)
  have HOK := As.mk ht
  have HR1 := As.mk hR1
  have h3 := hg.b
  have h4 := hg.c
  have hn1 : (n1 : Int) = g.c := by have := hR1.1; have := ht.len; omega
  have hF1 := ((Fr.refl None_ w).alloc (.cells #[.int .u32 m.seq, .slice A1 n1 c1, .int .i64 m.spare, .int .i64 m.dead, .int .i64 m.done] 40))
  have hB1 := (heap_alloc_new w (.cells #[.int .u32 m.seq, .slice A1 n1 c1, .int .i64 m.spare, .int .i64 m.dead, .int .i64 m.done] 40))
  have hF2 := hF1.alloc (.cells #[.int .i64 g.c, .int .i64 g.b, .int .i64 g.p, .int .i64 g.s] 24)
  have hB2 := at_old (.cells #[.int .i64 g.c, .int .i64 g.b, .int .i64 g.p, .int .i64 g.s] 24) hB1
  have hG2 := at_new (.cells #[.int .i64 g.c, .int .i64 g.b, .int .i64 g.p, .int .i64 g.s] 24) (size_new (.cells #[.int .u32 m.seq, .slice A1 n1 c1, .int .i64 m.spare, .int .i64 m.dead, .int .i64 m.done] 40) (rfl : w.heap.size = w.heap.size))
  have HF2 := As.mk hF2
  have HB2 := As.mk hB2
  have HG2 := As.mk hG2
  have hdn := ht.done
  have hdd := ht.dead
  have hdx := ht.dn
  clear hF1 hB1 hF2 hB2 hG2 hR1 ht hg
  unfold Geo.val at HC HV ⊢
  go_enter Tryz.func72, Tryz.ntmps72
  go_upto_region 4 with (go_at_call 29; (with_reducible refine (HC.out _).mono ?_); rintro e w2 ⟨rfl, hf2⟩; have hB3 := hf2.heap HB2.out (fun h => h); have hG3 := hf2.heap HG2.out (fun h => h); have HF3 := As.mk (HF2.out.after hf2 (fun _ _ h => h)); have HB3 := As.mk hB3; have HG3 := As.mk hG3; clear hf2 hB3 hG3)
  have b1 := cell_is (v := .slice A1 n1 c1) (i := 1) HB3.out rfl
  have b2 := cell_is (v := .int .i64 m.spare) (i := 2) HB3.out rfl
  have b3 := cell_is (v := .int .i64 m.dead) (i := 3) HB3.out rfl
  have b4 := cell_is (v := .int .i64 m.done) (i := 4) HB3.out rfl
  have e0 := cell_is (v := .int .i64 g.c) (i := 0) HG3.out rfl
  have e1 := cell_is (v := .int .i64 g.b) (i := 1) HG3.out rfl
  have e2 := cell_is (v := .int .i64 g.p) (i := 2) HG3.out rfl
  have e3 := cell_is (v := .int .i64 g.s) (i := 3) HG3.out rfl
  have dl : ((n1 : Int) != g.c) = false := by rw [hn1]; simp
  have d0 : decide (m.done < 0) = false := decide_eq_false (by omega)
  have d1 : decide (g.b - 5 < m.done) = false := decide_eq_false (by omega)
  have dd : ((m.dead != 255) = false) ∨ ((m.dead != 255) = true ∧ decide (m.dead < 0) = false ∧ decide (g.c ≤ m.dead) = false) := by
    rcases hdd with h | h
    · exact .inl (by rw [h]; rfl)
    · exact .inr ⟨by rw [bne_iff_ne]; omega, decide_eq_false (by omega), decide_eq_false (by omega)⟩
  have dx : (decide (0 < m.done) = false) ∨ (decide (0 < m.done) = true ∧ (m.dead == 255) = false ∧ (m.spare == 255) = false) := by
    by_cases h : 0 < m.done
    · exact .inr ⟨decide_eq_true h, beq_eq_false_iff_ne.2 (hdx h).1, beq_eq_false_iff_ne.2 (hdx h).2⟩
    · exact .inl (decide_eq_false h)
  clear hdn hdd hdx
  go_cut [64] (fun v64 wx => v64 = .bool false ∧ As (Fr None_ w2 wx))
  case first =>
    rcases dd with k1 | ⟨k1, k2, k3⟩ <;> rcases dx with k4 | ⟨k4, k5, k6⟩
    all_goals
      refine wp_region_class (C := fun w' => Fr None_ w2 w') (by kernel_rfl) (by kernel_rfl) ((Fr.refl None_ w2).drew) ?_
      repeat (first
      | go_big_quiet_skip
      | (go_big_quiet_want; go_big_quiet_op; go_big_quiet_on)
      | (go_big_quiet_want; go_big_quiet_op; apply Exists.intro; refine ⟨fun _ _ => rfl, ?_⟩; go_big_quiet_on)
      | (go_big_quiet_want; refine ⟨.int .i64 (n1 : Int), fun w hw => ?_, ?_⟩; (focus (go_simp; done)); (simp only [Act.put, List.setIfInBounds_toArray, List.set_cons_zero, List.set_cons_succ]); go_big_quiet_on)
      | (go_big_quiet_want; refine ⟨.slice A1 n1 c1, fun w hw => ?_, ?_⟩; (focus (have z0 := Fr.cell hw b1 (fun h => h); go_simp; done)); (simp only [Act.put, List.setIfInBounds_toArray, List.set_cons_zero, List.set_cons_succ]); go_big_quiet_on)
      | (go_big_quiet_want; refine ⟨.int .i64 m.spare, fun w hw => ?_, ?_⟩; (focus (have z0 := Fr.cell hw b2 (fun h => h); go_simp; done)); (simp only [Act.put, List.setIfInBounds_toArray, List.set_cons_zero, List.set_cons_succ]); go_big_quiet_on)
      | (go_big_quiet_want; refine ⟨.int .i64 m.dead, fun w hw => ?_, ?_⟩; (focus (have z0 := Fr.cell hw b3 (fun h => h); go_simp; done)); (simp only [Act.put, List.setIfInBounds_toArray, List.set_cons_zero, List.set_cons_succ]); go_big_quiet_on)
      | (go_big_quiet_want; refine ⟨.int .i64 m.done, fun w hw => ?_, ?_⟩; (focus (have z0 := Fr.cell hw b4 (fun h => h); go_simp; done)); (simp only [Act.put, List.setIfInBounds_toArray, List.set_cons_zero, List.set_cons_succ]); go_big_quiet_on)
      | (go_big_quiet_want; refine ⟨.int .i64 g.c, fun w hw => ?_, ?_⟩; (focus (have z0 := Fr.cell hw e0 (fun h => h); go_simp; done)); (simp only [Act.put, List.setIfInBounds_toArray, List.set_cons_zero, List.set_cons_succ]); go_big_quiet_on)
      | (go_big_quiet_want; refine ⟨.agg #[.int .i64 g.c, .int .i64 g.b, .int .i64 g.p, .int .i64 g.s], fun w hw => ?_, ?_⟩; (focus (have z0 := Fr.cell hw e0 (fun h => h); have z1 := Fr.cell hw e1 (fun h => h); have z2 := Fr.cell hw e2 (fun h => h); have z3 := Fr.cell hw e3 (fun h => h); go_simp; done)); (simp only [Act.put, List.setIfInBounds_toArray, List.set_cons_zero, List.set_cons_succ]); go_big_quiet_on)
      | (go_big_quiet_want; go_big_quiet_op; apply Exists.intro; refine ⟨fun _ => ?_, ?_⟩; (focus (intro hw; exact (HV.out _).mono (fun e w' h => ⟨h.1, Fr.after hw h.2 (fun _ _ h => h)⟩))); go_big_quiet_on))
      refine wpQuiet_nil ?_
      intro w3 hf3
      go_wp2_with fail
      go_meet
      case rel => exact ⟨rfl, ⟨hf3⟩⟩
  case rest =>
    obtain ⟨rfl, HX4⟩ := hcut
    clear dl d0 d1 dd dx b1 b2 b3 b4 e0 e1 e2 e3
    rename World => w4
    have hB4 := HX4.out.heap HB3.out (fun h => h)
    have hG4 := HX4.out.heap HG3.out (fun h => h)
    have HF4 := As.mk (HF3.out.after HX4.out (fun _ _ h => h))
    have HB4 := As.mk hB4
    have HG4 := As.mk hG4
    have e0 := cell_is (v := .int .i64 g.c) (i := 0) hG4 rfl
    obtain ⟨nb, hnb⟩ := Int.eq_ofNat_of_zero_le (show 0 ≤ g.c + 1 by omega)
    have hmk := Gab.run_make (P := Tryz.prog) 38 3 .i64 8 Tryz.underlying38 infoIn (by decide) nb (by omega)
    have hwg : IntKind.i64.wrap (g.c + 1) = g.c + 1 := i64_in _ (by omega) (by omega)
    go_upto_region 7 with fail
    have HF5 := As.mk (HF4.out.alloc (.cells (madeCells #[.int .i64 0] nb) 3))
    have HB5 := As.mk (at_old (.cells (madeCells #[.int .i64 0] nb) 3) HB4.out)
    have HG5 := As.mk (at_old (.cells (madeCells #[.int .i64 0] nb) 3) HG4.out)
    have HX5 := As.mk (show RowAt 3 .i64 (w4.alloc (.cells (madeCells #[.int .i64 0] nb) 3)) w4.heap.size w4.heap.size nb nb (RemapB.mark nb []) from ⟨RemapB.mark_length _ _, by rw [RemapB.mark_nil]; exact Row.made w4 w4.heap.size 3 .i64 nb (Nat.le_refl _) (by omega)⟩)
    have hz4 := HF4.out.size
    have hz5 := HF5.out.size
    have hg5 : w.heap.size + 1 < w4.heap.size := (Array.getElem?_eq_some_iff.1 HG4.out).1
    have hs5 : (w4.alloc (.cells (madeCells #[.int .i64 0] nb) 3)).heap.size = w4.heap.size + 1 := size_new _ rfl
    clear hmk HF4 HB4 HG4 e0 hB4 hG4 hwg
    generalize w4.alloc (.cells (madeCells #[.int .i64 0] nb) 3) = w5 at *
    generalize w4.heap.size = gs at *
    have b1 := cell_is (v := .slice A1 n1 c1) (i := 1) HB5.out rfl
    have HR5 := As.mk (HR1.out.none_ HF5.out)
    go_upto_if 74 with (at_builtin; (with_reducible refine appendRow (gs + 1) rfl _ _ 38 3 .i64 8 rfl Tryz.underlying38 infoIn (by decide) (.slice none 0 0) [] m.chips A1 n1 c1 rfl rfl (Row.nil _ _ _ _) HR5.out (Nat.le_of_eq hs5.symm) ?k1 ?_); (case k1 => simp; omega); intro v1 w6 hrow1 hfr1 hat1; have HR6 := As.mk (show Row 3 .i64 w6 (gs + 1) v1 m.chips from by simpa using hrow1); have HF56 := As.mk (show Fr None_ w5 w6 from (Fr.refl None_ w5).after hfr1 (fun _ _ h => by cases h)); have hz6 := HF56.out.size; have b2 := cell_is (v := .int .i64 m.spare) (i := 2) (HF56.out.heap HB5.out (fun h => h)) rfl; clear hrow1 hfr1 hat1; obtain ⟨A6, n6, c6, e6, _, _, _⟩ := HR6.out.rd; subst e6)
    clear b1 HR5
    go_cut [7] (fun v7 wx => As (Row 3 .i64 wx (gs + 1) v7 m.all) ∧ As (Fr None_ w5 wx))
    case first =>
      by_cases hsp : m.spare = 255
      · have d2 : (m.spare != 255) = false := by rw [hsp]; rfl
        have HAL := As.mk (show m.all = m.chips from by unfold MS.all; rw [if_pos hsp, List.append_nil])
        clear hsp
        go_wp2_with fail
        go_meet
        case rel => exact ⟨⟨by rw [HAL.out]; exact HR6.out⟩, HF56⟩
      · have d2 : (m.spare != 255) = true := by rw [bne_iff_ne]; exact hsp
        have HAL := As.mk (show m.all = m.chips ++ [m.spare] from by unfold MS.all; rw [if_neg hsp])
        have hlc : m.chips.length ≤ 16 := by have := HOK.out.len; omega
        clear hsp
        go_wp2_with (at_builtin; (with_reducible refine append1 (gs + 1) rfl _ _ 38 3 .i64 8 rfl Tryz.underlying38 infoIn (by decide) (.slice A6 n6 c6) m.chips _ rfl rfl HR6.out ?k0 ?k1 ?_); (case k0 => omega); (case k1 => omega); intro v7 w7 hrow7 hfr7 hat7; have HR7 := As.mk hrow7; have HF67 := As.mk hfr7; clear hrow7 hfr7 hat7)
        go_meet
        case rel => exact ⟨⟨by rw [HAL.out]; exact HR7.out⟩, ⟨HF56.out.after HF67.out (fun b hb hh => absurd hb (by have := (HR6.out.blk b hh).1; omega))⟩⟩
    case rest =>
      obtain ⟨HR7, HF7⟩ := hcut
      rename World => w7
      clear b2 hz6 HF56 HR6
      obtain ⟨A7, n7, c7, e7, hm7, hd7, ho7⟩ := HR7.out.rd
      subst e7
      have HLN := As.mk hd7.out.1
      have hn7 : n7 ≤ 100 := by
        have h1 := hd7.out.1
        have h2 := HOK.out.len
        have h3 : m.all.length ≤ m.chips.length + 1 := by unfold MS.all; split <;> simp
        omega
      have HS7 := As.mk (show RowAt 3 .i64 w7 gs gs nb nb (RemapB.mark nb (m.all.take 0)) from ⟨by simpa using RemapB.mark_length nb [], by rw [List.take_zero]; exact HX5.out.2.none_ HF7.out⟩)
      have HG7 := As.mk (HF7.out.heap HG5.out (fun h => h))
      have HF17 := As.mk (HF5.out.after HF7.out (fun _ _ h => h))
      clear HB5 HX5 HG5
      go_wp2_with fail
      go_loopw [9, 82] (fun v9 v82 w' => ∃ i : Nat, v82 = .int .i64 (i : Int) ∧ i ≤ n7 ∧ As (RowAt 3 .i64 w' gs gs nb nb (RemapB.mark nb (m.all.take i))) ∧ As (Fr (fun b => b = gs) w7 w')) (fun _ v82 _ => n7 - (intOf v82).toNat)
      case atStart => exact ⟨0, rfl, Nat.zero_le _, HS7, ⟨Fr.refl _ _⟩⟩
      case round =>
        obtain ⟨i, rfl, hi, HY, HF⟩ := hrel
        by_cases hli : i < n7
        · have hliI : (i : Int) < (n7 : Int) := by omega
          have hdw : Rd .i64 wr A7 n7 m.all := hd7.out.fr HF.out (fun ad e hn hh => by have := (HR7.out.blk _ (ho7.out ad e)).1; omega)
          obtain ⟨ad, rfl, hc⟩ := hdw.at_ i (by omega) hliI
          have hx := all_fresh HOK.out (i := i) (by have := HLN.out; omega)
          have HTK := As.mk (show m.all.take (i + 1) = m.all.take i ++ [m.all.getD i 0] from by
            have hl : i < m.all.length := by have := HLN.out; omega
            rw [List.take_succ_eq_append_getElem hl]
            simp [List.getD_eq_getElem?_getD, List.getElem?_eq_getElem hl])
          simp only [Int.toNat_natCast] at hc
          generalize m.all.getD i 0 = x at *
          obtain ⟨hx0, hx1, hx2⟩ := hx
          have hxn : x < (nb : Int) := by omega
          have e0 := cell_is (v := .int .i64 g.c) (i := 0) (HF.out.heap HG7.out (by omega)) rfl
          obtain ⟨hs1, hs2⟩ := HY.out.cell x hx0 hxn
          rw [RemapB.mark_at hx0 hxn hx2] at hs1
          have HST := As.mk (show RowAt 3 .i64 (wr.setCell ⟨gs, x.toNat, none⟩ (.int .i64 1)) gs gs nb nb (RemapB.mark nb (m.all.take (i + 1))) from by
            have hr := HY.out.store x 1
            rw [RemapB.mark_set hx0 hxn] at hr
            rw [HTK.out]
            exact hr)
          clear hx2 hdw
          have d1 : decide (x < 0) = false := decide_eq_false (by omega)
          have d2 : decide (g.c < x) = false := decide_eq_false (by omega)
          go_wp2_with fail
          exact ⟨⟨i + 1, rfl, by omega, HST, ⟨HF.out.after (fr_set1 _) (fun _ _ e => e)⟩⟩, by simp [intOf]; omega⟩
        · have hliI : ¬ (i : Int) < (n7 : Int) := by omega
          have hff := HF17.out.after HF.out (fun b hb e => by omega)
          go_wp2_with fail
          go_ret
          exact ⟨rfl, hff⟩
end Go.Proofs.YteofgpaceeibpaaGreat.MemA
namespace Go.Proofs.YteofgpaceeibpaaGreat.MemB
open Go.RowKit Go.Proofs.YteofgpaceeibpaaGreat.Gab Go.Proofs.YteofgpaceeibpaaGreat.Wr Go.Proofs.YteofgpaceeibpaaGreat.Geom Go.Proofs.YteofgpaceeibpaaGreat.Ref Go.Proofs.YteofgpaceeibpaaGreat.Heap Go.Proofs.YteofgpaceeibpaaGreat.MemA
open Go.Proofs.YteofgpaceeibpaaGreat.RemapC (wr_sep)
set_option linter.unusedVariables false
set_option linter.unusedSimpArgs false

/-- A set's bytes. -/
def _root_.Go.Proofs.YteofgpaceeibpaaGreat.MemA.MS.enc (m : MS) (g : Geo) : List Int := les 4 [m.seq] ++ les 1 ((m.chips.length : Int) :: m.chips) ++ les 1 [m.spare, m.dead, m.done] ++ les 2 [g.b, g.p, g.s]
def _root_.Go.Proofs.YteofgpaceeibpaaGreat.MemA.MS.page (m : MS) (g : Geo) : List Int := padTo (m.enc g) g.s.toNat
def _root_.Go.Proofs.YteofgpaceeibpaaGreat.MemA.MS.hd (m : MS) : Fields.Head := ⟨2, m.seq, 0, 0, 1, 0, 0⟩
def _root_.Go.Proofs.YteofgpaceeibpaaGreat.MemA.MS.oob (m : MS) (g : Geo) : List Int := Seal.sealOf m.hd (m.page g) []
theorem enc_length {m : MS} {g : Geo} (hg : g.Ok) (h : m.Ok g) : 1 ≤ (m.enc g).length ∧ (m.enc g).length ≤ 256 := by
  have h1 := h.len
  have h2 := hg.c
  unfold MS.enc
  simp only [List.length_append, les_length, List.length_cons, List.length_nil]
  omega
def PagePost (m : MS) (g : Geo) (w : World) (e : Ending) (w' : World) : Prop := ∃ vd vo, e = .returned (.tuple #[vd, vo, .int .i64 0]) ∧ Row 5 .u8 w' w.heap.size vd (m.page g) ∧ Row 5 .u8 w' w.heap.size vo (m.oob g) ∧ Fr None_ w w'
/-- A set that is written: its writer, and what it reads. -/
structure Mw (w w' : World) (m : MS) (g : Geo) (A1 : Option Addr) (n1 c1 p : Nat) (xs : List Int) : Prop where
  fr : Fr None_ w w'
  wr : Wr w' p p xs
  set : w'.heap[w.heap.size]? = some (.cells #[.int .u32 m.seq, .slice A1 n1 c1, .int .i64 m.spare, .int .i64 m.dead, .int .i64 m.done] 40 (0, 0))
  geo : w'.heap[w.heap.size + 1]? = some (.cells #[.int .i64 g.c, .int .i64 g.b, .int .i64 g.p, .int .i64 g.s] 24 (0, 0))
  lo : w.heap.size + 1 < p
theorem Mw.step {w wa wb : World} {m : MS} {g : Geo} {A1 : Option Addr} {n1 c1 p : Nat} {xs ys : List Int} (h : Mw w wa m g A1 n1 c1 p xs) (hw : Wr wb p p ys) (hs : Step p wa wb) : Mw w wb m g A1 n1 c1 p ys := by
  have hlo := h.lo
  exact ⟨h.fr.after hs.fr (fun b hb e => absurd e (wr_sep h.wr (by omega))), hw, hs.fr.heap h.set (wr_sep h.wr (by omega)), hs.fr.heap h.geo (wr_sep h.wr hlo), hlo⟩
theorem Mw.none_ {w wa wb : World} {m : MS} {g : Geo} {A1 : Option Addr} {n1 c1 p : Nat} {xs : List Int} (h : Mw w wa m g A1 n1 c1 p xs) (hf : Fr None_ wa wb) : Mw w wb m g A1 n1 c1 p xs :=
  ⟨h.fr.after hf (fun _ _ h => h), h.wr.none_ hf, hf.heap h.set (fun h => h), hf.heap h.geo (fun h => h), h.lo⟩

theorem Mw.u32 {w W : World} {m : MS} {g : Geo} {A1 : Option Addr} {n1 c1 p : Nat} {xs : List Int} (h : Mw w W m g A1 n1 c1 p xs) {b n : Nat} {l : List Int} (hb : Fields.Bx W p (.slice (some ⟨b, 0, none⟩) n n) 37 .u32 l) (hn : l.length = n) (hr : InR 4294967296 l) (hl : xs.length ≤ 1000) (hn2 : n ≤ 100) :
    Calls Tryz.prog 96 #[.pointer (some ⟨p, 0, none⟩), .slice (some ⟨b, 0, none⟩) n n] W fun e w' => e = .returned (.pointer (some ⟨p, 0, none⟩)) ∧ Mw w w' m g A1 n1 c1 p (xs ++ les 4 l) ∧ Step p W w' := by
  obtain ⟨A, eA, hR, hS⟩ := hb.rd (by omega)
  injection eA with e1 e2 e3
  subst e1
  rw [hn] at hR hS
  exact (U32_calls p p xs l _ n n W h.wr (Nat.le_of_lt h.wr.lt) hR hr hS (by omega)).mono (fun e w' k => ⟨k.1, h.step k.2.1 k.2.2, k.2.2⟩)
theorem Mw.u8 {w W : World} {m : MS} {g : Geo} {A1 : Option Addr} {n1 c1 p : Nat} {xs : List Int} (h : Mw w W m g A1 n1 c1 p xs) {b n : Nat} {l : List Int} (hb : Fields.Bx W p (.slice (some ⟨b, 0, none⟩) n n) 5 .u8 l) (hn : l.length = n) (hr : InR 256 l) (hl : xs.length ≤ 1000) (hn2 : n ≤ 100) :
    Calls Tryz.prog 97 #[.pointer (some ⟨p, 0, none⟩), .slice (some ⟨b, 0, none⟩) n n] W fun e w' => e = .returned (.pointer (some ⟨p, 0, none⟩)) ∧ Mw w w' m g A1 n1 c1 p (xs ++ les 1 l) ∧ Step p W w' := by
  obtain ⟨A, eA, hR, hS⟩ := hb.rd (by omega)
  injection eA with e1 e2 e3
  subst e1
  rw [hn] at hR hS
  exact (U8_calls p p xs l _ n n W h.wr (Nat.le_of_lt h.wr.lt) hR hr hS (by omega)).mono (fun e w' k => ⟨k.1, h.step k.2.1 k.2.2, k.2.2⟩)
theorem Mw.u16 {w W : World} {m : MS} {g : Geo} {A1 : Option Addr} {n1 c1 p : Nat} {xs : List Int} (h : Mw w W m g A1 n1 c1 p xs) {b n : Nat} {l : List Int} (hb : Fields.Bx W p (.slice (some ⟨b, 0, none⟩) n n) 110 .u16 l) (hn : l.length = n) (hr : InR 65536 l) (hl : xs.length ≤ 1000) (hn2 : n ≤ 100) :
    Calls Tryz.prog 98 #[.pointer (some ⟨p, 0, none⟩), .slice (some ⟨b, 0, none⟩) n n] W fun e w' => e = .returned (.pointer (some ⟨p, 0, none⟩)) ∧ Mw w w' m g A1 n1 c1 p (xs ++ les 2 l) ∧ Step p W w' := by
  obtain ⟨A, eA, hR, hS⟩ := hb.rd (by omega)
  injection eA with e1 e2 e3
  subst e1
  rw [hn] at hR hS
  exact (U16_calls p p xs l _ n n W h.wr (Nat.le_of_lt h.wr.lt) hR hr hS (by omega)).mono (fun e w' k => ⟨k.1, h.step k.2.1 k.2.2, k.2.2⟩)
/-- A slice that is made ahead of a writer's call. -/
theorem Mw.made {w W : World} {m : MS} {g : Geo} {A1 : Option Addr} {n1 c1 p : Nat} {xs : List Int} (h : Mw w W m g A1 n1 c1 p xs) (e : TypeId) (k : IntKind) (l : List Int) : Fields.Bx (W.alloc (.cells (nums k l).toArray e)) p (.slice (some ⟨W.heap.size, 0, none⟩) l.length l.length) e k l := Fields.Bx.made e k l h.wr.lt h.wr.row_lt
theorem Bx.drew {w : World} {p : Nat} {v : Value} {e : TypeId} {k : IntKind} {l : List Int} (h : Fields.Bx w p v e k l) : Fields.Bx w.drew p v e k l := h

set_option maxHeartbeats 4000000 in
set_option maxRecDepth 100000 in
theorem Page_calls (m : MS) (g : Geo) (v : Value) (w : World) (hg : g.Ok) (ht : m.Ok g) (hv : MSV w v m) : Calls Tryz.prog 60 #[v, g.val] w (PagePost m g w) := by
  have HCK := As.mk (fun (w' : World) (hf : Fr None_ w w') => MemA.Check_calls m g v w' hg ht (hv.none_ hf))
  obtain ⟨A1, n1, c1, rfl, h1, hR1⟩ := hv
  have HR1 := As.mk hR1
  have HG := As.mk hg
  have HM := As.mk ht
  have hF1 := ((Fr.refl None_ w).alloc (.cells #[.int .u32 m.seq, .slice A1 n1 c1, .int .i64 m.spare, .int .i64 m.dead, .int .i64 m.done] 40))
  have hB1 := (heap_alloc_new w (.cells #[.int .u32 m.seq, .slice A1 n1 c1, .int .i64 m.spare, .int .i64 m.dead, .int .i64 m.done] 40))
  have HF2 := As.mk (hF1.alloc (.cells #[.int .i64 g.c, .int .i64 g.b, .int .i64 g.p, .int .i64 g.s] 24))
  have HB2 := As.mk (at_old (.cells #[.int .i64 g.c, .int .i64 g.b, .int .i64 g.p, .int .i64 g.s] 24) hB1)
  have HG2 := As.mk (at_new (.cells #[.int .i64 g.c, .int .i64 g.b, .int .i64 g.p, .int .i64 g.s] 24) (size_new (.cells #[.int .u32 m.seq, .slice A1 n1 c1, .int .i64 m.spare, .int .i64 m.dead, .int .i64 m.done] 40) (rfl : w.heap.size = w.heap.size)))
  have hc3 := hg.c
  have hlen := ht.len
  have hq := ht.seq
  have hn1 : (n1 : Int) = g.c := by have := hR1.1; omega
  have hn16 : n1 ≤ 16 := by omega
  have HN1 := As.mk hn1
  clear hF1 hB1 hR1 hg ht hn1 hlen
  unfold Geo.val at HCK ⊢
  go_enter Tryz.func60, Tryz.ntmps60
  go_upto_region 5 with (go_at_call 72; (with_reducible refine (HCK.out _ HF2.out).mono ?_); rintro e w3 ⟨rfl, hf3⟩; have HN3 := As.mk (show Mw w (w3.alloc (.cells #[.slice none 0 0] 182)) m g A1 n1 c1 w3.heap.size [] from ⟨(HF2.out.after hf3 (fun _ _ h => h)).alloc _, Wr.new (heap_alloc_new w3 _) _ (Nat.le_refl _), at_old _ (hf3.heap HB2.out (fun h => h)), at_old _ (hf3.heap HG2.out (fun h => h)), (Array.getElem?_eq_some_iff.1 (hf3.heap HG2.out (fun h => h))).1⟩); clear hf3)
  generalize w3.alloc (.cells #[.slice none 0 0] 182) = w4 at *
  generalize w3.heap.size = p at *
  go_cut [] (fun wx => As (Mw w wx m g A1 n1 c1 p ([] ++ les 4 [m.seq] ++ les 1 [(n1 : Int)])))
  case first =>
    have hz4 := HN3.out.wr.lt
    have MA0 := HN3.out.none_ ((Fr.refl None_ w4).alloc (.cells #[.int .u32 m.seq] 37))
    have MB0 := HN3.out.none_ ((Fr.refl None_ w4).alloc (.cells #[.int .u8 (n1 : Int)] 5))
    have MA := As.mk (MA0.none_ (Fr.refl None_ _).drew)
    have MB := As.mk (MB0.none_ (Fr.refl None_ _).drew)
    have MAB := As.mk ((MA0.none_ ((Fr.refl None_ _).alloc (.cells #[.int .u8 (n1 : Int)] 5))).none_ (Fr.refl None_ _).drew)
    have MBA := As.mk ((MB0.none_ ((Fr.refl None_ _).alloc (.cells #[.int .u32 m.seq] 37))).none_ (Fr.refl None_ _).drew)
    have XA := As.mk (Bx.drew (HN3.out.made 37 .u32 [m.seq]))
    have XAB := As.mk (Bx.drew ((HN3.out.made 37 .u32 [m.seq]).alloc MA0.wr.lt (.cells #[.int .u8 (n1 : Int)] 5)))
    have XBA := As.mk (Bx.drew (MB0.made 37 .u32 [m.seq]))
    have YAB := As.mk (Bx.drew (MA0.made 5 .u8 [(n1 : Int)]))
    have YBA := As.mk (Bx.drew ((HN3.out.made 5 .u8 [(n1 : Int)]).alloc MB0.wr.lt (.cells #[.int .u32 m.seq] 37)))
    have hsa : (w4.alloc (.cells #[.int .u32 m.seq] 37)).heap.size = w4.heap.size + 1 := size_new _ rfl
    have hsb : (w4.alloc (.cells #[.int .u8 (n1 : Int)] 5)).heap.size = w4.heap.size + 1 := size_new _ rfl
    rw [hsa] at YAB
    rw [hsb] at XBA
    clear MA0 MB0 hsa hsb
    have s0 := cell_is (v := .int .u32 m.seq) (i := 0) HN3.out.set rfl
    have s1 := cell_is (v := .slice A1 n1 c1) (i := 1) HN3.out.set rfl
    have hw8 : IntKind.u8.wrap (n1 : Int) = n1 := by rw [IntKind.wrap_u8]; omega
    have CA := As.mk (MA.out.u32 (b := w4.heap.size) (n := 1) (l := [m.seq]) XA.out rfl (by intro x hx; simp at hx; omega) (by simp) (by decide))
    have CAB := As.mk (MAB.out.u32 (b := w4.heap.size) (n := 1) (l := [m.seq]) XAB.out rfl (by intro x hx; simp at hx; omega) (by simp) (by decide))
    have CBA := As.mk (MBA.out.u32 (b := w4.heap.size + 1) (n := 1) (l := [m.seq]) XBA.out rfl (by intro x hx; simp at hx; omega) (by simp) (by decide))
    have HU8 := As.mk (fun (W : World) (b : Nat) (hM : Mw w W m g A1 n1 c1 p ([] ++ les 4 [m.seq])) (hY : Fields.Bx W p (.slice (some ⟨b, 0, none⟩) 1 1) 5 .u8 [(n1 : Int)]) => hM.u8 (b := b) (n := 1) (l := [(n1 : Int)]) hY rfl (by intro x hx; simp at hx; omega) (by simp [les_length]) (by decide))
    go_region_held3 (fun w' => w'.cell? ⟨w.heap.size, 0, none⟩ = some (.int .u32 m.seq) ∧ w'.cell? ⟨w.heap.size, 1, none⟩ = some (.slice A1 n1 c1)) (first | go_keep | exact ⟨s0, s1⟩ | exact ⟨cell_is MA.out.set rfl, cell_is MA.out.set rfl⟩ | exact ⟨cell_is MB.out.set rfl, cell_is MB.out.set rfl⟩ | exact ⟨cell_is MAB.out.set rfl, cell_is MAB.out.set rfl⟩ | exact ⟨cell_is MBA.out.set rfl, cell_is MBA.out.set rfl⟩ | exact ⟨cell_is HM6.out.set rfl, cell_is HM6.out.set rfl⟩ | exact ⟨cell_is (HM6.out.none_ ((Fr.refl None_ _).alloc _)).set rfl, cell_is (HM6.out.none_ ((Fr.refl None_ _).alloc _)).set rfl⟩ | exact ⟨cell_is HM7.out.set rfl, cell_is HM7.out.set rfl⟩) (first
      | (go_at_call 96; (with_reducible refine (CA.out).mono ?_); rintro e w6 ⟨rfl, hm6, hs6⟩; have HM6 := As.mk hm6; clear hm6 hs6)
      | (go_at_call 96; (with_reducible refine (CAB.out).mono ?_); rintro e w6 ⟨rfl, hm6, hs6⟩; have HM6 := As.mk hm6; have HY6 := As.mk (show Fields.Bx w6 p (.slice (some ⟨w4.heap.size + 1, 0, none⟩) 1 1) 5 .u8 [(n1 : Int)] from YAB.out.step hs6); clear hm6 hs6)
      | (go_at_call 96; (with_reducible refine (CBA.out).mono ?_); rintro e w6 ⟨rfl, hm6, hs6⟩; have HM6 := As.mk hm6; have HY6 := As.mk (show Fields.Bx w6 p (.slice (some ⟨w4.heap.size, 0, none⟩) 1 1) 5 .u8 [(n1 : Int)] from YBA.out.step hs6); clear hm6 hs6)
      | (go_at_call 97; (with_reducible refine (HU8.out w6 _ HM6.out HY6.out).mono ?_); rintro e w7 ⟨rfl, hm7, _⟩; have HM7 := As.mk hm7; clear hm7)
      | (go_at_call 97; have HY7 := (show Fields.Bx (w6.alloc (.cells #[.int .u8 (n1 : Int)] 5)) p (.slice (some ⟨w6.heap.size, 0, none⟩) 1 1) 5 .u8 [(n1 : Int)] from HM6.out.made 5 .u8 [(n1 : Int)]); (with_reducible refine (HU8.out _ w6.heap.size (HM6.out.none_ ((Fr.refl None_ _).alloc _)) HY7).mono ?_); rintro e w7 ⟨rfl, hm7, _⟩; have HM7 := As.mk hm7; clear hm7)
      | fail)
    all_goals
      go_wp2_with fail
      go_meet
      case rel => exact HM7
  case rest =>
    have HM8 := hcut
    clear hcut HN3
    rename World => w8
    have s1 := cell_is (v := .slice A1 n1 c1) (i := 1) HM8.out.set rfl
    have HM8' := As.mk (show Mw w w8 m g A1 n1 c1 p ([] ++ les 4 [m.seq] ++ les 1 [(n1 : Int)] ++ les 1 (m.chips.take 0)) from by simpa [les] using HM8.out)
    have HCR := As.mk (show ∀ x ∈ m.chips, 0 ≤ x ∧ x < 256 from fun x hx => by have h1 := HM.out.inr x (by simp [MS.all, hx]); have h2 := HG.out.c; omega)
    have HLN := As.mk (show m.chips.length = n1 from HR1.out.1)
    go_wp2_with fail
    clear s1
    go_loopw [10, 33] (fun v10 v33 w' => ∃ i : Nat, v33 = .int .i64 (i : Int) ∧ i ≤ n1 ∧ As (Mw w w' m g A1 n1 c1 p ([] ++ les 4 [m.seq] ++ les 1 [(n1 : Int)] ++ les 1 (m.chips.take i)))) (fun _ v33 _ => n1 - (intOf v33).toNat)
    case atStart => exact ⟨0, rfl, Nat.zero_le _, HM8'⟩
    case round =>
      obtain ⟨i, rfl, hi, HX⟩ := hrel
      by_cases hlt : i < n1
      · have hltI : (i : Int) < (n1 : Int) := by omega
        have hRi := HR1.out.none_ HX.out.fr
        obtain ⟨ad, rfl, hc⟩ := hRi.at_ i (by omega) hltI
        have hxm : 0 ≤ m.chips.getD i 0 ∧ m.chips.getD i 0 < 256 := by
          rw [List.getD_eq_getElem?_getD, List.getElem?_eq_getElem (by have := HLN.out; omega)]
          exact HCR.out _ (List.getElem_mem _)
        have HTK := As.mk (show les 1 (m.chips.take (i + 1)) = les 1 (m.chips.take i) ++ les 1 [m.chips.getD i 0] from by
          rw [les_snoc 1 (by have := HLN.out; omega)]
          congr 1)
        have HKL := As.mk (show (m.chips.take i).length ≤ 16 from by rw [List.length_take]; omega)
        simp only [Int.toNat_natCast] at hc
        generalize m.chips.getD i 0 = x at *
        have hwx : IntKind.u8.wrap x = x := by rw [IntKind.wrap_u8]; omega
        have HMa := As.mk (HX.out.none_ ((Fr.refl None_ wr).alloc (.cells #[.int .u8 x] 5)))
        have HYa := As.mk (show Fields.Bx (wr.alloc (.cells #[.int .u8 x] 5)) p (.slice (some ⟨wr.heap.size, 0, none⟩) 1 1) 5 .u8 [x] from HX.out.made 5 .u8 [x])
        have HCa := As.mk (HMa.out.u8 (b := wr.heap.size) (n := 1) (l := [x]) HYa.out rfl (by intro y hy; simp at hy; omega) (by have := HKL.out; simp [les_length]; omega) (by decide))
        clear hRi
        go_wp2_with fail
        ((with_reducible refine (HCa.out).mono ?_); rintro e w9 ⟨rfl, hm9, _⟩)
        have HM9 := As.mk hm9
        clear hm9
        go_wp2_with fail
        refine ⟨⟨i + 1, rfl, by omega, ⟨?_⟩⟩, by simp [intOf]; omega⟩
        rw [HTK.out, ← List.append_assoc]
        exact HM9.out
      · have hltI : ¬ (i : Int) < (n1 : Int) := by omega
        have HMc := As.mk (show Mw w wr m g A1 n1 c1 p ([] ++ les 4 [m.seq] ++ les 1 [(n1 : Int)] ++ les 1 m.chips) from by have h := HX.out; rw [List.take_of_length_le (by have := HLN.out; omega)] at h; exact h)
        go_upto_region 11 with fail
        have hgb := HG.out.b
        have hgp := HG.out.p
        have hgs := HG.out.s
        have hgc := HG.out.c
        have hdd := HM.out.dead
        have hdn := HM.out.done
        have hsp : 0 ≤ m.spare ∧ m.spare < 256 := by
          by_cases e : m.spare = 255
          · omega
          · have h1 := HM.out.inr m.spare (by unfold MS.all; rw [if_neg e]; simp); omega
        have hde : 0 ≤ m.dead ∧ m.dead < 256 := by omega
        have hw1 : IntKind.u8.wrap m.spare = m.spare := by rw [IntKind.wrap_u8]; omega
        have hw2 : IntKind.u8.wrap m.dead = m.dead := by rw [IntKind.wrap_u8]; omega
        have hw3 : IntKind.u8.wrap m.done = m.done := by rw [IntKind.wrap_u8]; omega
        have hw4 : IntKind.u16.wrap g.b = g.b := by rw [IntKind.wrap_u16]; omega
        have hw5 : IntKind.u16.wrap g.p = g.p := by rw [IntKind.wrap_u16]; omega
        have hw6 : IntKind.u16.wrap g.s = g.s := by rw [IntKind.wrap_u16]; omega
        have HRG := As.mk (And.intro hsp (And.intro hde (And.intro hdn (And.intro hgb (And.intro hgp hgs)))))
        clear hdd hdn hsp hde hgb hgp hgs hgc HX hltI hlt hi
        go_cut [] (fun wx => As (Mw w wx m g A1 n1 c1 p (([] ++ les 4 [m.seq] ++ les 1 [(n1 : Int)] ++ les 1 m.chips) ++ les 1 [m.spare, m.dead, m.done] ++ les 2 [g.b, g.p, g.s])))
        case first =>
          have HL0 : As ((([] ++ les 4 [m.seq] ++ les 1 [(n1 : Int)] ++ les 1 m.chips)).length ≤ 100) := ⟨by have := HLN.out; simp [les_length]; omega⟩
          have HL1 : As ((([] ++ les 4 [m.seq] ++ les 1 [(n1 : Int)] ++ les 1 m.chips) ++ les 1 [m.spare, m.dead, m.done]).length ≤ 200) := ⟨by have := HLN.out; simp [les_length]; omega⟩
          generalize ([] ++ les 4 [m.seq] ++ les 1 [(n1 : Int)] ++ les 1 m.chips) = xs at *
          have MA0 := HMc.out.none_ ((Fr.refl None_ wr).alloc (.cells #[.int .u8 m.spare, .int .u8 m.dead, .int .u8 m.done] 5))
          have MB0 := HMc.out.none_ ((Fr.refl None_ wr).alloc (.cells #[.int .u16 g.b, .int .u16 g.p, .int .u16 g.s] 110))
          have MA := As.mk (MA0.none_ (Fr.refl None_ _).drew)
          have MB := As.mk (MB0.none_ (Fr.refl None_ _).drew)
          have MAB := As.mk ((MA0.none_ ((Fr.refl None_ _).alloc (.cells #[.int .u16 g.b, .int .u16 g.p, .int .u16 g.s] 110))).none_ (Fr.refl None_ _).drew)
          have MBA := As.mk ((MB0.none_ ((Fr.refl None_ _).alloc (.cells #[.int .u8 m.spare, .int .u8 m.dead, .int .u8 m.done] 5))).none_ (Fr.refl None_ _).drew)
          have XA := As.mk (Bx.drew (HMc.out.made 5 .u8 [m.spare, m.dead, m.done]))
          have XAB := As.mk (Bx.drew ((HMc.out.made 5 .u8 [m.spare, m.dead, m.done]).alloc MA0.wr.lt (.cells #[.int .u16 g.b, .int .u16 g.p, .int .u16 g.s] 110)))
          have XBA := As.mk (Bx.drew (MB0.made 5 .u8 [m.spare, m.dead, m.done]))
          have YAB := As.mk (Bx.drew (MA0.made 110 .u16 [g.b, g.p, g.s]))
          have YBA := As.mk (Bx.drew ((HMc.out.made 110 .u16 [g.b, g.p, g.s]).alloc MB0.wr.lt (.cells #[.int .u8 m.spare, .int .u8 m.dead, .int .u8 m.done] 5)))
          have hsa : (wr.alloc (.cells #[.int .u8 m.spare, .int .u8 m.dead, .int .u8 m.done] 5)).heap.size = wr.heap.size + 1 := size_new _ rfl
          have hsb : (wr.alloc (.cells #[.int .u16 g.b, .int .u16 g.p, .int .u16 g.s] 110)).heap.size = wr.heap.size + 1 := size_new _ rfl
          rw [hsa] at YAB
          rw [hsb] at XBA
          clear MA0 MB0 hsa hsb
          have CA := As.mk (MA.out.u8 (b := wr.heap.size) (n := 3) (l := [m.spare, m.dead, m.done]) XA.out rfl (by have h := HRG.out; intro x hx; simp at hx; rcases hx with rfl | rfl | rfl <;> omega) (by have := HL0.out; omega) (by decide))
          have CAB := As.mk (MAB.out.u8 (b := wr.heap.size) (n := 3) (l := [m.spare, m.dead, m.done]) XAB.out rfl (by have h := HRG.out; intro x hx; simp at hx; rcases hx with rfl | rfl | rfl <;> omega) (by have := HL0.out; omega) (by decide))
          have CBA := As.mk (MBA.out.u8 (b := wr.heap.size + 1) (n := 3) (l := [m.spare, m.dead, m.done]) XBA.out rfl (by have h := HRG.out; intro x hx; simp at hx; rcases hx with rfl | rfl | rfl <;> omega) (by have := HL0.out; omega) (by decide))
          have HU8 := As.mk (fun (W : World) (b : Nat) (hM : Mw w W m g A1 n1 c1 p (xs ++ les 1 [m.spare, m.dead, m.done])) (hY : Fields.Bx W p (.slice (some ⟨b, 0, none⟩) 3 3) 110 .u16 [g.b, g.p, g.s]) => hM.u16 (b := b) (n := 3) (l := [g.b, g.p, g.s]) hY rfl (by have h := HRG.out; intro x hx; simp at hx; rcases hx with rfl | rfl | rfl <;> omega) (by have := HL1.out; omega) (by decide))
          have z0 := cell_is (v := .int .i64 m.spare) (i := 2) HMc.out.set rfl
          have z1 := cell_is (v := .int .i64 m.dead) (i := 3) HMc.out.set rfl
          have z2 := cell_is (v := .int .i64 m.done) (i := 4) HMc.out.set rfl
          have z3 := cell_is (v := .int .i64 g.b) (i := 1) HMc.out.geo rfl
          have z4 := cell_is (v := .int .i64 g.p) (i := 2) HMc.out.geo rfl
          have z5 := cell_is (v := .int .i64 g.s) (i := 3) HMc.out.geo rfl
          go_region_held3 (fun w' => w'.cell? ⟨w.heap.size, 2, none⟩ = some (.int .i64 m.spare) ∧ w'.cell? ⟨w.heap.size, 3, none⟩ = some (.int .i64 m.dead) ∧ w'.cell? ⟨w.heap.size, 4, none⟩ = some (.int .i64 m.done) ∧ w'.cell? ⟨w.heap.size + 1, 1, none⟩ = some (.int .i64 g.b) ∧ w'.cell? ⟨w.heap.size + 1, 2, none⟩ = some (.int .i64 g.p) ∧ w'.cell? ⟨w.heap.size + 1, 3, none⟩ = some (.int .i64 g.s)) (first | go_keep | exact ⟨z0, z1, z2, z3, z4, z5⟩ | exact ⟨cell_is MA.out.set rfl, cell_is MA.out.set rfl, cell_is MA.out.set rfl, cell_is MA.out.geo rfl, cell_is MA.out.geo rfl, cell_is MA.out.geo rfl⟩ | exact ⟨cell_is MB.out.set rfl, cell_is MB.out.set rfl, cell_is MB.out.set rfl, cell_is MB.out.geo rfl, cell_is MB.out.geo rfl, cell_is MB.out.geo rfl⟩ | exact ⟨cell_is MAB.out.set rfl, cell_is MAB.out.set rfl, cell_is MAB.out.set rfl, cell_is MAB.out.geo rfl, cell_is MAB.out.geo rfl, cell_is MAB.out.geo rfl⟩ | exact ⟨cell_is MBA.out.set rfl, cell_is MBA.out.set rfl, cell_is MBA.out.set rfl, cell_is MBA.out.geo rfl, cell_is MBA.out.geo rfl, cell_is MBA.out.geo rfl⟩ | exact ⟨cell_is HM6.out.set rfl, cell_is HM6.out.set rfl, cell_is HM6.out.set rfl, cell_is HM6.out.geo rfl, cell_is HM6.out.geo rfl, cell_is HM6.out.geo rfl⟩ | exact ⟨cell_is (HM6.out.none_ ((Fr.refl None_ _).alloc _)).set rfl, cell_is (HM6.out.none_ ((Fr.refl None_ _).alloc _)).set rfl, cell_is (HM6.out.none_ ((Fr.refl None_ _).alloc _)).set rfl, cell_is (HM6.out.none_ ((Fr.refl None_ _).alloc _)).geo rfl, cell_is (HM6.out.none_ ((Fr.refl None_ _).alloc _)).geo rfl, cell_is (HM6.out.none_ ((Fr.refl None_ _).alloc _)).geo rfl⟩ | exact ⟨cell_is HM7.out.set rfl, cell_is HM7.out.set rfl, cell_is HM7.out.set rfl, cell_is HM7.out.geo rfl, cell_is HM7.out.geo rfl, cell_is HM7.out.geo rfl⟩) (first
            | (go_at_call 97; (with_reducible refine (CA.out).mono ?_); rintro e w6 ⟨rfl, hm6, hs6⟩; have HM6 := As.mk hm6; clear hm6 hs6)
            | (go_at_call 97; (with_reducible refine (CAB.out).mono ?_); rintro e w6 ⟨rfl, hm6, hs6⟩; have HM6 := As.mk hm6; have HY6 := As.mk (show Fields.Bx w6 p (.slice (some ⟨wr.heap.size + 1, 0, none⟩) 3 3) 110 .u16 [g.b, g.p, g.s] from YAB.out.step hs6); clear hm6 hs6)
            | (go_at_call 97; (with_reducible refine (CBA.out).mono ?_); rintro e w6 ⟨rfl, hm6, hs6⟩; have HM6 := As.mk hm6; have HY6 := As.mk (show Fields.Bx w6 p (.slice (some ⟨wr.heap.size, 0, none⟩) 3 3) 110 .u16 [g.b, g.p, g.s] from YBA.out.step hs6); clear hm6 hs6)
            | (go_at_call 98; (with_reducible refine (HU8.out w6 _ HM6.out HY6.out).mono ?_); rintro e w7 ⟨rfl, hm7, _⟩; have HM7 := As.mk hm7; clear hm7)
            | (go_at_call 98; have HY7 := (show Fields.Bx (w6.alloc (.cells #[.int .u16 g.b, .int .u16 g.p, .int .u16 g.s] 110)) p (.slice (some ⟨w6.heap.size, 0, none⟩) 3 3) 110 .u16 [g.b, g.p, g.s] from HM6.out.made 110 .u16 [g.b, g.p, g.s]); (with_reducible refine (HU8.out _ w6.heap.size (HM6.out.none_ ((Fr.refl None_ _).alloc _)) HY7).mono ?_); rintro e w7 ⟨rfl, hm7, _⟩; have HM7 := As.mk hm7; clear hm7)
            | fail)
          all_goals
            go_wp2_with fail
            go_meet
            case rel => exact HM7
        case rest =>
          have HMe := As.mk (show Mw w _ m g A1 n1 c1 p (m.enc g) from by
            have h := hcut.out
            have e : m.enc g = ([] ++ les 4 [m.seq] ++ les 1 [(n1 : Int)] ++ les 1 m.chips) ++ les 1 [m.spare, m.dead, m.done] ++ les 2 [g.b, g.p, g.s] := by
              unfold MS.enc
              rw [HLN.out]
              simp [les]
            rw [e]
            exact h)
          clear hcut HMc
          rename World => w8
          have HLE := As.mk (enc_length HG.out HM.out)
          have HPR := As.mk (show InR 256 (m.page g) from Seal.pad_range (by
            unfold MS.enc
            exact Seal.inR_append (Seal.inR_append (Seal.inR_append (Seal.les_range _ _) (Seal.les_range _ _)) (Seal.les_range _ _)) (Seal.les_range _ _)) _)
          have HPL := As.mk (show (m.page g).length ≤ 1024 from by unfold MS.page; rw [padTo_length]; have h1 := HLE.out; have h2 := HRG.out; omega)
          have g3 := cell_is (v := .int .i64 g.s) (i := 3) HMe.out.geo rfl
          have HPD := As.mk (Pad_calls p p (m.enc g) g.s w8 HMe.out.wr (Nat.le_of_lt HMe.out.wr.lt) (by have h2 := HRG.out; omega) (by have h1 := HLE.out; omega))
          go_wp2_with fail
          ((with_reducible refine (HPD.out).mono ?_); rintro e w9 ⟨rfl, hw9, hs9⟩)
          have HM9 := As.mk (HMe.out.step hw9 hs9)
          have HBY := As.mk (Bytes_calls p p (m.page g) w9 hw9 (by have := HPL.out; omega))
          clear hw9 hs9 g3 HPD
          go_wp2_with fail
          ((with_reducible refine (HBY.out).mono ?_); rintro e w10 ⟨v10, rfl, hr10, hf10⟩)
          have HM10 := As.mk (HM9.out.none_ hf10)
          have HR10 := As.mk (hr10.lower (show w.heap.size ≤ w9.heap.size from HM9.out.fr.size))
          obtain ⟨A10, n10, c10, e10, hm10, hd10, _⟩ := hr10.rd
          subst e10
          have s0 := cell_is (v := .int .u32 m.seq) (i := 0) HM10.out.set rfl
          have HSE := As.mk (show Calls Tryz.prog 86 #[.agg #[.int .u8 2, .int .u32 m.seq, .int .u32 0, .int .u16 0, .int .u16 1, .int .u32 0, .int .u32 0], .slice A10 n10 c10, .slice none 0 0] w10 _ from Seal.Seal_calls m.hd (m.page g) [] A10 none n10 0 c10 0 w10 ⟨by simp [MS.hd], ⟨hq.1, hq.2⟩, by simp [MS.hd], by simp [MS.hd], by simp [MS.hd], by simp [MS.hd], by simp [MS.hd]⟩ hd10.out (Rd.nil _ _ _) hm10.out (Nat.le_refl _) HPR.out (fun x hx => by cases hx))
          clear hr10 hf10 hd10 hm10 HBY
          go_wp2_with fail
          ((with_reducible refine (HSE.out).mono ?_); rintro e w11 ⟨v11, rfl, hr11, hf11⟩)
          have HR11 := As.mk (hr11.lower (show w.heap.size ≤ w10.heap.size from HM10.out.fr.size))
          have HRD := As.mk (HR10.out.none_ hf11)
          have HFF := As.mk (HM10.out.fr.after hf11 (fun _ _ h => h))
          obtain ⟨A11, n11, c11, e11, _, _, _⟩ := hr11.rd
          subst e11
          clear hr11 hf11
          go_wp2_with fail
          go_ret3
          exact ⟨_, _, rfl, HRD.out, HR11.out, HFF.out⟩
end Go.Proofs.YteofgpaceeibpaaGreat.MemB
namespace Go.Proofs.YteofgpaceeibpaaGreat.MemC
open Go.RowKit Go.Proofs.YteofgpaceeibpaaGreat.Gab Go.Proofs.YteofgpaceeibpaaGreat.Wr Go.Proofs.YteofgpaceeibpaaGreat.Geom Go.Proofs.YteofgpaceeibpaaGreat.Ref Go.Proofs.YteofgpaceeibpaaGreat.Heap Go.Proofs.YteofgpaceeibpaaGreat.MemA Go.Proofs.YteofgpaceeibpaaGreat.MemB
open Go.Proofs.YteofgpaceeibpaaGreat.RemapF (set5)
set_option linter.unusedVariables false
set_option linter.unusedSimpArgs false

abbrev ST : TypeId := 40
abbrev zs : Array Value := #[.int .u32 0, .slice none 0 0, .int .i64 0, .int .i64 0, .int .i64 0]
/-- A set whose chips' row is one's own. -/
def MSR (w : World) (base : Nat) (v : Value) (m : MS) : Prop := ∃ v1, v = .agg #[.int .u32 m.seq, v1, .int .i64 m.spare, .int .i64 m.dead, .int .i64 m.done] ∧ Row 3 .i64 w base v1 m.chips
theorem MSR.none_ {w w' : World} {base : Nat} {v : Value} {m : MS} (h : MSR w base v m) (hf : Fr None_ w w') : MSR w' base v m := by
  obtain ⟨v1, e, h1⟩ := h
  exact ⟨v1, e, h1.none_ hf⟩
theorem MSR.lower {w : World} {base base' : Nat} {v : Value} {m : MS} (h : MSR w base v m) (hb : base' ≤ base) : MSR w base' v m := by
  obtain ⟨v1, e, h1⟩ := h
  exact ⟨v1, e, h1.lower hb⟩
theorem MSR.msv {w : World} {base : Nat} {v : Value} {m : MS} (h : MSR w base v m) : MSV w v m := by
  obtain ⟨v1, e, h1⟩ := h
  obtain ⟨A, n, c, e1, l, r, _⟩ := h1.rd
  subst e1
  exact ⟨A, n, c, e, l.out, r.out⟩
/-- The set of a new array. -/
def first (g : Geo) : MS := ⟨1, (List.range g.c.toNat).map Int.ofNat, g.c, 255, 0⟩

set_option maxHeartbeats 1000000 in
set_option maxRecDepth 100000 in
theorem Full_calls (v : Value) (m : MS) (w : World) (hv : MSV w v m) : Calls Tryz.prog 14 #[v] w fun e w' => e = .returned (.bool (m.dead == 255)) ∧ Fr None_ w w' := by
  obtain ⟨A, n, c, rfl, _, _⟩ := hv
  go_enter Tryz.func14, Tryz.ntmps14
  go_wp2
  go_ret
  exact ⟨rfl, (Fr.refl None_ w).alloc _⟩

set_option maxHeartbeats 4000000 in
set_option maxRecDepth 100000 in
theorem First_calls (g : Geo) (w : World) (hg : g.Ok) : Calls Tryz.prog 32 #[g.val] w fun e w' => ∃ v, e = .returned v ∧ MSR w' w.heap.size v (first g) ∧ Fr None_ w w' := by
  have hc := hg.c
  obtain ⟨nc, hnc⟩ := Int.eq_ofNat_of_zero_le (show 0 ≤ g.c by omega)
  have HNC := As.mk hnc
  have hfg := (Fr.refl None_ w).alloc (.cells #[.int .i64 g.c, .int .i64 g.b, .int .i64 g.p, .int .i64 g.s] 24)
  have hz1 : (w.alloc (.cells #[.int .i64 g.c, .int .i64 g.b, .int .i64 g.p, .int .i64 g.s] 24)).heap.size = w.heap.size + 1 := size_new _ rfl
  have HG1 := As.mk (heap_alloc_new w (.cells #[.int .i64 g.c, .int .i64 g.b, .int .i64 g.p, .int .i64 g.s] 24))
  clear hnc
  unfold Geo.val
  go_enter Tryz.func32, Tryz.ntmps32
  have hfa := ((hfg.alloc (.cells zs ST)).alloc (.cells #[.int .u32 1, .slice none 0 0, .int .i64 g.c, .int .i64 255, .int .i64 0] ST))
  have hz2 : ((w.alloc (.cells #[.int .i64 g.c, .int .i64 g.b, .int .i64 g.p, .int .i64 g.s] 24)).alloc (.cells zs ST)).heap.size = w.heap.size + 1 + 1 := size_new _ hz1
  have HZ := As.mk (at_old (.cells #[.int .u32 1, .slice none 0 0, .int .i64 g.c, .int .i64 255, .int .i64 0] ST) (at_new (.cells zs ST) hz1))
  have HS := As.mk (at_new (.cells #[.int .u32 1, .slice none 0 0, .int .i64 g.c, .int .i64 255, .int .i64 0] ST) hz2)
  have HF := As.mk hfa
  clear hfa hfg hz2
  go_wp2_with fail
  generalize ((w.alloc (.cells #[.int .i64 g.c, .int .i64 g.b, .int .i64 g.p, .int .i64 g.s] 24)).alloc (.cells zs ST)).alloc (.cells #[.int .u32 1, .slice none 0 0, .int .i64 g.c, .int .i64 255, .int .i64 0] ST) = w1 at *
  go_loopw [11] (fun v11 w' => ∃ (i : Nat) (v : Value), v11 = .int .i64 (i : Int) ∧ i ≤ nc ∧ As (Fr None_ w w') ∧ As (w'.heap[w.heap.size + 1]? = some (.cells zs ST (0, 0))) ∧ As (w'.heap[w.heap.size + 1 + 1]? = some (.cells #[.int .u32 1, v, .int .i64 g.c, .int .i64 255, .int .i64 0] ST (0, 0))) ∧ As (Row 3 .i64 w' w.heap.size v ((List.range i).map Int.ofNat))) (fun v11 _ => nc - (intOf v11).toNat)
  case atStart => exact ⟨0, _, rfl, Nat.zero_le _, HF, HZ, HS, ⟨Row.nil _ _ _ _⟩⟩
  case round =>
    obtain ⟨i, v, rfl, hi, HFi, HZi, HSi, HRi⟩ := hrel
    obtain ⟨A1, n1, c1, e1, _, hd1, _⟩ := HRi.out.rd
    subst e1
    have hn1 : n1 = i := by rw [← hd1.out.1]; simp
    subst hn1
    clear hd1
    by_cases hlt : n1 < nc
    · have hltI : (n1 : Int) < g.c := by have := HNC.out; omega
      have s1 := cell_is (v := .slice A1 n1 c1) (i := 1) HSi.out rfl
      have hzw := HFi.out.size
      go_wp2_with (at_builtin; (with_reducible refine append1 w.heap.size rfl _ _ 38 3 .i64 8 rfl Tryz.underlying38 infoIn (by decide) (.slice A1 n1 c1) ((List.range n1).map Int.ofNat) _ rfl rfl HRi.out ?k0 ?k1 ?_); (case k0 => exact hzw); (case k1 => simp; omega); intro v2 w2 hrow2 hfr2 hat2; have HR2 := As.mk hrow2; have HF2 := As.mk hfr2; have hs2 := hfr2.heap HSi.out (Row.ne HRi.out HSi.out (by decide)); have HS2 := As.mk hs2; have k1 := cell_is (v := .slice A1 n1 c1) (i := 1) hs2 rfl; have f1 := free_of (i := 1) hs2; clear hrow2 hfr2 hat2 hs2; obtain ⟨A2, n2, c2, e2, _, _, _⟩ := HR2.out.rd; subst e2)
      have hs3 := heap_set HS2.out 1 (.slice A2 n2 c2)
      have hf3 := fr_set1 (w' := w2) (b := w.heap.size + 1 + 1) (i := 1) (.slice A2 n2 c2)
      refine ⟨⟨n1 + 1, _, rfl, by omega, ⟨(HFi.out.after HF2.out (fun b hb hs => absurd hb (by have := (HRi.out.blk b hs).1; omega))).after hf3 (fun b hb e => by omega)⟩, ⟨hf3.heap (HF2.out.heap HZi.out (Row.ne HRi.out HZi.out (by decide))) (by omega)⟩, ⟨by rw [hs3]; rfl⟩, ⟨?_⟩⟩, by simp [intOf]; omega⟩
      rw [List.range_succ, List.map_append]
      exact HR2.out.fr hf3 (fun b hb e => by subst e; exact Row.ne HR2.out HS2.out (by decide) hb)
    · have hltI : ¬ (n1 : Int) < g.c := by have := HNC.out; omega
      have HNN := As.mk (show n1 = g.c.toNat from by have := HNC.out; omega)
      have s0 := cell_is (v := .int .u32 1) (i := 0) HSi.out rfl
      have s1 := cell_is (v := .slice A1 n1 c1) (i := 1) HSi.out rfl
      have s2 := cell_is (v := .int .i64 g.c) (i := 2) HSi.out rfl
      have s3 := cell_is (v := .int .i64 255) (i := 3) HSi.out rfl
      have s4 := cell_is (v := .int .i64 0) (i := 4) HSi.out rfl
      have r0 := cell_is (v := .int .u32 0) (i := 0) HZi.out rfl
      have r1 := cell_is (v := .slice none 0 0) (i := 1) HZi.out rfl
      have r2 := cell_is (v := .int .i64 0) (i := 2) HZi.out rfl
      have r3 := cell_is (v := .int .i64 0) (i := 3) HZi.out rfl
      have r4 := cell_is (v := .int .i64 0) (i := 4) HZi.out rfl
      have f0 := free_of (i := 0) HZi.out
      have f1 := free_of (i := 1) HZi.out
      have f2 := free_of (i := 2) HZi.out
      have f3 := free_of (i := 3) HZi.out
      have f4 := free_of (i := 4) HZi.out
      go_wp2_with fail
      obtain ⟨t1, t2, t3⟩ := set5 HFi.out (Nat.le_succ _) HZi.out (.int .u32 1) (.slice A1 n1 c1) (.int .i64 g.c) (.int .i64 255) (.int .i64 0)
      have hrw := HRi.out.fr t3 (fun b hb e => by subst e; exact Row.ne HRi.out HZi.out (by decide) hb)
      clear r0 r1 r2 r3 r4 f0 f1 f2 f3 f4 s0 s1 s2 s3 s4
      generalize ((((wr.setCell ⟨w.heap.size + 1, 0, none⟩ (.int .u32 1)).setCell ⟨w.heap.size + 1, 1, none⟩ (.slice A1 n1 c1)).setCell ⟨w.heap.size + 1, 2, none⟩ (.int .i64 g.c)).setCell ⟨w.heap.size + 1, 3, none⟩ (.int .i64 255)).setCell ⟨w.heap.size + 1, 4, none⟩ (.int .i64 0) = wf at *
      have r0 := cell_is (i := 0) t2 rfl
      have r1 := cell_is (i := 1) t2 rfl
      have r2 := cell_is (i := 2) t2 rfl
      have r3 := cell_is (i := 3) t2 rfl
      have r4 := cell_is (i := 4) t2 rfl
      exact bodyPost_ret (v := .agg #[.int .u32 1, .slice A1 n1 c1, .int .i64 g.c, .int .i64 255, .int .i64 0]) (by simp [results, Tryz.results32, go_sem, r0, r1, r2, r3, r4]) rfl ⟨_, rfl, ⟨_, rfl, by unfold first; rw [← HNN.out]; exact hrw⟩, t1⟩
end Go.Proofs.YteofgpaceeibpaaGreat.MemC
namespace Go.Proofs.YteofgpaceeibpaaGreat.MemD
open Go.RowKit Go.Proofs.YteofgpaceeibpaaGreat.Gab Go.Proofs.YteofgpaceeibpaaGreat.Wr Go.Proofs.YteofgpaceeibpaaGreat.Geom Go.Proofs.YteofgpaceeibpaaGreat.Ref Go.Proofs.YteofgpaceeibpaaGreat.Heap Go.Proofs.YteofgpaceeibpaaGreat.MemA Go.Proofs.YteofgpaceeibpaaGreat.MemB Go.Proofs.YteofgpaceeibpaaGreat.MemC
open Go.Proofs.YteofgpaceeibpaaGreat.RemapF (set5)
set_option linter.unusedVariables false
set_option linter.unusedSimpArgs false

/-- Cells that are sets. -/
structure Sts (w : World) (base gb n : Nat) (ms : List MS) : Prop where
  len : ms.length = n
  at_ : ∀ j m, ms[j]? = some m → ∃ v1, w.cell? ⟨gb, j * 5, none⟩ = some (.int .u32 m.seq) ∧ w.cell? ⟨gb, j * 5 + 1, none⟩ = some v1 ∧ w.cell? ⟨gb, j * 5 + 2, none⟩ = some (.int .i64 m.spare) ∧ w.cell? ⟨gb, j * 5 + 3, none⟩ = some (.int .i64 m.dead) ∧ w.cell? ⟨gb, j * 5 + 4, none⟩ = some (.int .i64 m.done) ∧ Row 3 .i64 w base v1 m.chips
theorem Sts.none_ {w w' : World} {base gb n : Nat} {ms : List MS} (h : Sts w base gb n ms) (hf : Fr None_ w w') : Sts w' base gb n ms :=
  ⟨h.len, fun j m e => by
    obtain ⟨v1, h0, h1, h2, h3, h4, h5⟩ := h.at_ j m e
    exact ⟨v1, hf.cell h0 (fun h => h), hf.cell h1 (fun h => h), hf.cell h2 (fun h => h), hf.cell h3 (fun h => h), hf.cell h4 (fun h => h), h5.none_ hf⟩⟩
/-- The newer one. -/
def pickN (o : Option MS) (m : MS) : Option MS := match o with
  | none => some m
  | some u => if u.seq < m.seq then some m else some u
def newest (ms : List MS) : Option MS := ms.foldl pickN none
theorem newest_some : ∀ (ms : List MS) (o : Option MS), o.isSome = true → (ms.foldl pickN o).isSome = true
  | [], o, h => h
  | m :: ms, o, h => by
    refine newest_some ms _ ?_
    rcases o with _ | u
    · rfl
    · show (if u.seq < m.seq then some m else some u).isSome = true
      split <;> rfl
/-- What the block of the newest so far holds. -/
def OutIs (w : World) (base ob : Nat) : Option MS → Prop
  | none => w.heap[ob]? = some (.cells zs ST (0, 0))
  | some u => ∃ v1, w.heap[ob]? = some (.cells #[.int .u32 u.seq, v1, .int .i64 u.spare, .int .i64 u.dead, .int .i64 u.done] ST (0, 0)) ∧ Row 3 .i64 w base v1 u.chips
def NewPost (ms : List MS) (base : Nat) (w : World) (e : Ending) (w' : World) : Prop := ∃ v, e = .returned (.tuple #[v, .bool (newest ms).isSome]) ∧ Fr None_ w w' ∧ match newest ms with
  | none => v = .agg zs
  | some u => MSR w' base v u
theorem fold_take (ms : List MS) {i : Nat} {m : MS} (h : ms[i]? = some m) : (ms.take (i + 1)).foldl pickN none = pickN ((ms.take i).foldl pickN none) m := by
  obtain ⟨hi, e⟩ := List.getElem?_eq_some_iff.1 h
  rw [List.take_succ_eq_append_getElem hi, List.foldl_append, e]
  rfl
theorem fold_none (ms : List MS) (i : Nat) (hi : i ≤ ms.length) : (ms.take i).foldl pickN none = none ↔ i = 0 := by
  constructor
  · intro h
    rcases i with _ | i
    · rfl
    · have hm : ms[i]? = some ms[i] := List.getElem?_eq_getElem (by omega)
      rw [fold_take ms hm] at h
      rcases hq : (ms.take i).foldl pickN none with _ | u
      · rw [hq] at h; cases h
      · rw [hq] at h
        simp only [pickN] at h
        split at h <;> cases h
  · rintro rfl
    rfl

set_option maxHeartbeats 4000000 in
set_option maxRecDepth 100000 in
theorem Newest_calls (ms : List MS) (base gb n c : Nat) (A : Option Addr) (w : World) (h : Sts w base gb n ms) (hA : 0 < n → A = some ⟨gb, 0, none⟩) (hn : n ≤ 1000) :
    Calls Tryz.prog 38 #[.slice A n c] w (NewPost ms base w) := by
  have HST := As.mk h
  have HLN := As.mk h.len
  have HA := As.mk hA
  have hz1 : (w.alloc (.cells zs ST)).heap.size = w.heap.size + 1 := size_new _ rfl
  have HZ := As.mk (at_old (.cells zs ST) (heap_alloc_new w (.cells zs ST)))
  have HO := As.mk (show OutIs ((w.alloc (.cells zs ST)).alloc (.cells zs ST)) base (w.heap.size + 1) ((ms.take 0).foldl pickN none) from at_new (.cells zs ST) hz1)
  have HF := As.mk (((Fr.refl None_ w).alloc (.cells zs ST)).alloc (.cells zs ST))
  clear h hA hz1
  go_enter Tryz.func38, Tryz.ntmps38
  go_wp2_with fail
  generalize (w.alloc (.cells zs ST)).alloc (.cells zs ST) = w1 at *
  go_loopw [5, 6, 9] (fun v5 v6 v9 w' => ∃ (i : Nat), v9 = .int .i64 (i : Int) ∧ i ≤ n ∧ As (Fr None_ w w') ∧ As (w'.heap[w.heap.size]? = some (.cells zs ST (0, 0))) ∧ As (OutIs w' base (w.heap.size + 1) ((ms.take i).foldl pickN none))) (fun _ _ v9 _ => n - (intOf v9).toNat)
  case atStart => exact ⟨0, rfl, Nat.zero_le _, HF, HZ, HO⟩
  case round =>
    obtain ⟨i, rfl, hi, HFi, HZi, HOi⟩ := hrel
    by_cases hlt : i < n
    · have hltI : (i : Int) < (n : Int) := by omega
      obtain ⟨m, hm⟩ : ∃ m, ms[i]? = some m := ⟨_, List.getElem?_eq_getElem (by have := HLN.out; omega)⟩
      obtain ⟨v1, a0, a1, a2, a3, a4, a5⟩ := (HST.out.none_ HFi.out).at_ i m hm
      obtain rfl := HA.out (by omega)
      have HM := As.mk (fold_take ms hm)
      have hfn := fold_none ms i (by have := HLN.out; omega)
      have HFN := As.mk hfn
      have HR5 := As.mk a5
      obtain ⟨A1, n1, c1, e1, _, _, _⟩ := HR5.out.rd
      subst e1
      have hfa : Fr None_ wr (wr.alloc (.cells #[.int .u32 m.seq, .slice A1 n1 c1, .int .i64 m.spare, .int .i64 m.dead, .int .i64 m.done] ST)) := (Fr.refl None_ wr).alloc _
      have HS2 := As.mk (heap_alloc_new wr (.cells #[.int .u32 m.seq, .slice A1 n1 c1, .int .i64 m.spare, .int .i64 m.dead, .int .i64 m.done] ST))
      have HF2 := As.mk (HFi.out.after hfa (fun _ _ h => h))
      have HZ2 := As.mk (hfa.heap HZi.out (fun h => h))
      have HR2 := As.mk (HR5.out.none_ hfa)
      have HFA := As.mk hfa
      clear hfn hm a5 hfa
      go_upto_region 5 with fail
      generalize wr.alloc (.cells #[.int .u32 m.seq, .slice A1 n1 c1, .int .i64 m.spare, .int .i64 m.dead, .int .i64 m.done] ST) = w2 at *
      generalize wr.heap.size = sb at *
      have s0 := cell_is (v := .int .u32 m.seq) (i := 0) HS2.out rfl
      have s1 := cell_is (v := .slice A1 n1 c1) (i := 1) HS2.out rfl
      have s2 := cell_is (v := .int .i64 m.spare) (i := 2) HS2.out rfl
      have s3 := cell_is (v := .int .i64 m.dead) (i := 3) HS2.out rfl
      have s4 := cell_is (v := .int .i64 m.done) (i := 4) HS2.out rfl
      clear a0 a1 a2 a3 a4
      rcases hq : (ms.take i).foldl pickN none with _ | u
      · have hi0 : i = 0 := HFN.out.1 hq
        subst hi0
        rw [hq] at HM HOi
        have H14 := As.mk (show (ms.take (0 + 1)).foldl pickN none = some m from HM.out)
        have hOo : w2.heap[w.heap.size + 1]? = some (.cells zs ST (0, 0)) := HFA.out.heap HOi.out (fun h => h)
        clear hq
        have r0 := cell_is (v := .int .u32 0) (i := 0) hOo rfl
        have r1 := cell_is (v := .slice none 0 0) (i := 1) hOo rfl
        have r2 := cell_is (v := .int .i64 0) (i := 2) hOo rfl
        have r3 := cell_is (v := .int .i64 0) (i := 3) hOo rfl
        have r4 := cell_is (v := .int .i64 0) (i := 4) hOo rfl
        have f0 := free_of (i := 0) hOo
        have f1 := free_of (i := 1) hOo
        have f2 := free_of (i := 2) hOo
        have f3 := free_of (i := 3) hOo
        have f4 := free_of (i := 4) hOo
        go_wp2_with fail
        obtain ⟨t1, t2, t3⟩ := set5 HF2.out (Nat.le_succ _) hOo (.int .u32 m.seq) (.slice A1 n1 c1) (.int .i64 m.spare) (.int .i64 m.dead) (.int .i64 m.done)
        exact ⟨⟨0 + 1, rfl, by omega, ⟨t1⟩, ⟨t3.heap HZ2.out (by omega)⟩, ⟨by rw [H14.out]; exact ⟨_, t2, HR2.out.fr t3 (fun b hb e => by subst e; exact Row.ne HR2.out hOo (by decide) hb)⟩⟩⟩, by simp [intOf]; omega⟩
      · have hi0 : ¬ i = 0 := fun e => by have := HFN.out.2 e; rw [hq] at this; cases this
        have di : ((i : Int) == 0) = false := by rw [beq_eq_false_iff_ne]; omega
        rw [hq] at HM HOi
        obtain ⟨vu, hO1, hO2⟩ := HOi.out
        have hOo := HFA.out.heap hO1 (fun h => h)
        have u0 := cell_is (v := .int .u32 u.seq) (i := 0) hOo rfl
        clear hq hO1 hO2 hi0
        by_cases hus : u.seq < m.seq
        · have d9 : decide (u.seq < m.seq) = true := decide_eq_true hus
          have H14 := As.mk (show (ms.take (i + 1)).foldl pickN none = some m from by rw [HM.out]; show (if u.seq < m.seq then some m else some u) = _; rw [if_pos hus])
          clear hus
          have r0 := cell_is (v := .int .u32 u.seq) (i := 0) hOo rfl
          have r1 := cell_is (v := vu) (i := 1) hOo rfl
          have r2 := cell_is (v := .int .i64 u.spare) (i := 2) hOo rfl
          have r3 := cell_is (v := .int .i64 u.dead) (i := 3) hOo rfl
          have r4 := cell_is (v := .int .i64 u.done) (i := 4) hOo rfl
          have f0 := free_of (i := 0) hOo
          have f1 := free_of (i := 1) hOo
          have f2 := free_of (i := 2) hOo
          have f3 := free_of (i := 3) hOo
          have f4 := free_of (i := 4) hOo
          go_wp2_with fail
          obtain ⟨t1, t2, t3⟩ := set5 HF2.out (Nat.le_succ _) hOo (.int .u32 m.seq) (.slice A1 n1 c1) (.int .i64 m.spare) (.int .i64 m.dead) (.int .i64 m.done)
          exact ⟨⟨i + 1, rfl, by omega, ⟨t1⟩, ⟨t3.heap HZ2.out (by omega)⟩, ⟨by rw [H14.out]; exact ⟨_, t2, HR2.out.fr t3 (fun b hb e => by subst e; exact Row.ne HR2.out hOo (by decide) hb)⟩⟩⟩, by simp [intOf]; omega⟩
        · have d9 : decide (u.seq < m.seq) = false := decide_eq_false hus
          have H14 := As.mk (show (ms.take (i + 1)).foldl pickN none = some u from by rw [HM.out]; show (if u.seq < m.seq then some m else some u) = _; rw [if_neg hus])
          have HO2 := As.mk (show OutIs w2 base (w.heap.size + 1) (some u) from by
            obtain ⟨v, p1, p2⟩ := HOi.out
            exact ⟨v, HFA.out.heap p1 (fun h => h), p2.none_ HFA.out⟩)
          clear hus
          go_wp2_with fail
          exact ⟨⟨i + 1, rfl, by omega, HF2, HZ2, ⟨by rw [H14.out]; exact HO2.out⟩⟩, by simp [intOf]; omega⟩
    · have hltI : ¬ (i : Int) < (n : Int) := by omega
      obtain rfl : i = n := by omega
      have HTK := As.mk (show (ms.take i).foldl pickN none = newest ms from by unfold newest; rw [List.take_of_length_le (by have := HLN.out; omega)])
      rw [HTK.out] at HOi
      have r0 := cell_is (v := .int .u32 0) (i := 0) HZi.out rfl
      have r1 := cell_is (v := .slice none 0 0) (i := 1) HZi.out rfl
      have r2 := cell_is (v := .int .i64 0) (i := 2) HZi.out rfl
      have r3 := cell_is (v := .int .i64 0) (i := 3) HZi.out rfl
      have r4 := cell_is (v := .int .i64 0) (i := 4) HZi.out rfl
      have f0 := free_of (i := 0) HZi.out
      have f1 := free_of (i := 1) HZi.out
      have f2 := free_of (i := 2) HZi.out
      have f3 := free_of (i := 3) HZi.out
      have f4 := free_of (i := 4) HZi.out
      rcases hq : newest ms with _ | u
      · have hi0 : i = 0 := (fold_none ms i (by have := HLN.out; omega)).1 (by rw [HTK.out, hq])
        subst hi0
        rw [hq] at HOi
        have hOo : wr.heap[w.heap.size + 1]? = some (.cells zs ST (0, 0)) := HOi.out
        have s0 := cell_is (v := .int .u32 0) (i := 0) hOo rfl
        have s1 := cell_is (v := .slice none 0 0) (i := 1) hOo rfl
        have s2 := cell_is (v := .int .i64 0) (i := 2) hOo rfl
        have s3 := cell_is (v := .int .i64 0) (i := 3) hOo rfl
        have s4 := cell_is (v := .int .i64 0) (i := 4) hOo rfl
        have HQ := As.mk hq
        clear hq
        go_wp2_with fail
        obtain ⟨t1, t2, t3⟩ := set5 HFi.out (Nat.le_refl _) HZi.out (.int .u32 0) (.slice none 0 0) (.int .i64 0) (.int .i64 0) (.int .i64 0)
        clear r0 r1 r2 r3 r4 f0 f1 f2 f3 f4 s0 s1 s2 s3 s4
        generalize ((((wr.setCell ⟨w.heap.size, 0, none⟩ (.int .u32 0)).setCell ⟨w.heap.size, 1, none⟩ (.slice none 0 0)).setCell ⟨w.heap.size, 2, none⟩ (.int .i64 0)).setCell ⟨w.heap.size, 3, none⟩ (.int .i64 0)).setCell ⟨w.heap.size, 4, none⟩ (.int .i64 0) = wf at *
        have r0 := cell_is (i := 0) t2 rfl
        have r1 := cell_is (i := 1) t2 rfl
        have r2 := cell_is (i := 2) t2 rfl
        have r3 := cell_is (i := 3) t2 rfl
        have r4 := cell_is (i := 4) t2 rfl
        exact bodyPost_ret (v := .tuple #[.agg zs, .bool false]) (by simp [results, Tryz.results38, go_sem, r0, r1, r2, r3, r4]) rfl ⟨_, by rw [HQ.out]; rfl, t1, by rw [HQ.out]⟩
      · have hi0 : 0 < i := by
          rcases Nat.eq_zero_or_pos i with e | e
          · have := (fold_none ms i (by have := HLN.out; omega)).2 e
            rw [HTK.out, hq] at this; cases this
          · exact e
        have di : decide ((0 : Int) < (i : Int)) = true := decide_eq_true (by omega)
        rw [hq] at HOi
        obtain ⟨vu, hO1, hO2⟩ := HOi.out
        have HO2 := As.mk hO2
        obtain ⟨A1, n1, c1, e1, _, _, _⟩ := hO2.rd
        subst e1
        have s0 := cell_is (v := .int .u32 u.seq) (i := 0) hO1 rfl
        have s1 := cell_is (v := .slice A1 n1 c1) (i := 1) hO1 rfl
        have s2 := cell_is (v := .int .i64 u.spare) (i := 2) hO1 rfl
        have s3 := cell_is (v := .int .i64 u.dead) (i := 3) hO1 rfl
        have s4 := cell_is (v := .int .i64 u.done) (i := 4) hO1 rfl
        have HQ := As.mk hq
        clear hq hO1 hO2
        go_wp2_with fail
        obtain ⟨t1, t2, t3⟩ := set5 HFi.out (Nat.le_refl _) HZi.out (.int .u32 u.seq) (.slice A1 n1 c1) (.int .i64 u.spare) (.int .i64 u.dead) (.int .i64 u.done)
        have hrw := HO2.out.fr t3 (fun b hb e => by subst e; exact Row.ne HO2.out HZi.out (by decide) hb)
        clear r0 r1 r2 r3 r4 f0 f1 f2 f3 f4 s0 s1 s2 s3 s4
        generalize ((((wr.setCell ⟨w.heap.size, 0, none⟩ (.int .u32 u.seq)).setCell ⟨w.heap.size, 1, none⟩ (.slice A1 n1 c1)).setCell ⟨w.heap.size, 2, none⟩ (.int .i64 u.spare)).setCell ⟨w.heap.size, 3, none⟩ (.int .i64 u.dead)).setCell ⟨w.heap.size, 4, none⟩ (.int .i64 u.done) = wf at *
        have r0 := cell_is (i := 0) t2 rfl
        have r1 := cell_is (i := 1) t2 rfl
        have r2 := cell_is (i := 2) t2 rfl
        have r3 := cell_is (i := 3) t2 rfl
        have r4 := cell_is (i := 4) t2 rfl
        exact bodyPost_ret (v := .tuple #[.agg #[.int .u32 u.seq, .slice A1 n1 c1, .int .i64 u.spare, .int .i64 u.dead, .int .i64 u.done], .bool true]) (by simp [results, Tryz.results38, go_sem, r0, r1, r2, r3, r4]) rfl ⟨_, by rw [HQ.out]; rfl, t1, by rw [HQ.out]; exact ⟨_, rfl, hrw⟩⟩
end Go.Proofs.YteofgpaceeibpaaGreat.MemD
namespace Go.Proofs.YteofgpaceeibpaaGreat.MemE
open Go.RowKit Go.Proofs.YteofgpaceeibpaaGreat.Gab Go.Proofs.YteofgpaceeibpaaGreat.Wr Go.Proofs.YteofgpaceeibpaaGreat.Rdr Go.Proofs.YteofgpaceeibpaaGreat.Rdz Go.Proofs.YteofgpaceeibpaaGreat.Geom Go.Proofs.YteofgpaceeibpaaGreat.MemA Go.Proofs.YteofgpaceeibpaaGreat.MemB Go.Proofs.YteofgpaceeibpaaGreat.MemC
open Go.Proofs.YteofgpaceeibpaaGreat.Heap (cell_is heap_set)
open Go.Proofs.YteofgpaceeibpaaGreat.Step (step_appendRow)
set_option linter.unusedVariables false
set_option linter.unusedSimpArgs false

theorem in_keep {T : TypeId} {w w' : World} {p pb zb : Nat} {A : Option Addr} {n c : Nat} {i i2 : Int} {cs cs2 : Array Value} {z z2 : Bool} (h0 : In T w w p pb zb A n c i cs z) (h : In T w w' p pb zb A n c i2 cs2 z2) {b : Nat} {ds : Array Value} {T2 : TypeId} {fr : Nat × Nat} (hb : w.heap[b]? = some (.cells ds T2 fr)) (hT : T2 ≠ 196 ∧ T2 ≠ T ∧ T2 ≠ 4) : w'.heap[b]? = some (.cells ds T2 fr) := by
  refine h.fr.heap hb (fun e => ?_)
  have hr := h0.rd
  unfold Rr at hr
  rcases e with e | e | e
  · subst e; rw [hb] at hr; injection hr with hr; injection hr with _ hr; exact hT.1 hr
  · have := h0.pt; subst e; rw [hb] at this; injection this with this; injection this with _ this; exact hT.2.1 this
  · have := h0.z; subst e; rw [hb] at this; injection this with this; injection this with _ this; exact hT.2.2 this
/-- What the closure leaves. -/
def ByOk (w : World) (p tb zb : Nat) (A : Option Addr) (n c N : Nat) (bs : List Int) (e : Ending) (w' : World) : Prop :=
  e = .returned (.tuple #[]) ∧ ∃ v1 i, In ST w w' p tb zb A n c i #[.int .u32 (nb bs 0), v1, .int .i64 (bt bs (5 + N)), .int .i64 (bt bs (6 + N)), .int .i64 (bt bs (7 + N))] true ∧ Row 3 .i64 w' w.heap.size v1 (bts bs 5 N)

set_option maxHeartbeats 8000000 in
set_option maxRecDepth 100000 in
theorem by_ok (p tb zb gb hb0 : Nat) (A : Option Addr) (n c N : Nat) (bs : List Int) (g : Geo) (h : Fields.Head) (w : World) (h0 : In ST w w p tb zb A n c 0 zs false) (hA : Rd .u8 w A n bs) (hr : InR 256 bs) (hc : n ≤ c)
    (hG : w.heap[gb]? = some (.cells #[.int .i64 g.c, .int .i64 g.b, .int .i64 g.p, .int .i64 g.s] 24 (0, 0))) (hH : w.heap[hb0]? = some (.cells #[.int .u8 h.kind, .int .u32 h.epoch, .int .u32 h.batch, .int .u16 h.index, .int .u16 h.count, .int .u32 h.block, .int .u32 h.more] 112 (0, 0)))
    (hS : ∀ ad, A = some ad → 0 < n → ¬ (ad.block = p ∨ ad.block = tb ∨ ad.block = zb)) (hN : bt bs 4 = N) (hfit : 14 + N ≤ n) (hn : n ≤ 1000000) (e1 : hb bs (8 + N) = g.b) (e2 : hb bs (10 + N) = g.p) (e3 : hb bs (12 + N) = g.s) (e4 : (bs.drop (14 + N)).all (· == 0) = true) (e5 : nb bs 0 = h.epoch) :
    Calls Tryz.prog 67 #[.pointer (some ⟨p, 0, none⟩), .pointer (some ⟨tb, 0, none⟩), .pointer (some ⟨gb, 0, none⟩), .pointer (some ⟨hb0, 0, none⟩), .pointer (some ⟨zb, 0, none⟩)] w (ByOk w p tb zb A n c N bs) := by
  have hSp : ∀ ad, A = some ad → 0 < n → ad.block ≠ p := fun ad e hp h => hS ad e hp (.inl h)
  have HU := As.mk (fun (i : Nat) (w' : World) (cs : Array Value) (h' : In ST w w' p tb zb A n c i cs false) (hk : (i : Int) + 1 ≤ (n : Int)) => U8_calls p A n c i bs w' h'.rd (h'.rdA hA hS) hSp hr (by omega) hk hc)
  change As (∀ (i : Nat) (w' : World) (cs : Array Value) (h' : In ST w w' p tb zb A n c i cs false) (hk : (i : Int) + 1 ≤ (n : Int)), Calls Tryz.prog 69 #[.pointer (some ⟨p, 0, none⟩)] w' fun e w'' => e = .returned (.int .u8 (bt bs i)) ∧ Rr w'' p A n c ((i : Int) + 1) ∧ Fr (fun b => b = p) w' w'') at HU
  have HU4 := As.mk (U32_calls p A n c 0 bs w h0.rd hA hSp hr (by omega) (by omega) hc)
  change As (Calls Tryz.prog 68 #[.pointer (some ⟨p, 0, none⟩)] w fun e w'' => e = .returned (.int .u32 (nb bs 0)) ∧ Rr w'' p A n c (((4 : Nat) : Int)) ∧ Fr (fun b => b = p) w w'') at HU4
  have HZR := As.mk (fun (i : Nat) (w' : World) (cs : Array Value) (h' : In ST w w' p tb zb A n c i cs false) (hk : (i : Int) ≤ (n : Int)) => Zero_calls p A n c i bs w' h'.rd (h'.rdA hA hS) (by omega) hk hc)
  have hEU : ∀ args w, (callFunc 69 args).run Tryz.prog w = .ok (.enter 69 args) w := fun _ _ => rfl
  have H0 := As.mk h0
  have hrN := bt_range bs 4
  rw [hN] at hrN
  have hwN : IntKind.i64.wrap (N : Int) = N := i64_in _ (by omega) (by omega)
  have HU2 := As.mk (fun (i : Nat) (w' : World) (cs : Array Value) (h' : In ST w w' p tb zb A n c i cs false) (hk : (i : Int) + 2 ≤ (n : Int)) => U16_calls p A n c i bs w' h'.rd (h'.rdA hA hS) hSp hr (by omega) hk hc)
  change As (∀ (i : Nat) (w' : World) (cs : Array Value) (h' : In ST w w' p tb zb A n c i cs false) (hk : (i : Int) + 2 ≤ (n : Int)), Calls Tryz.prog 70 #[.pointer (some ⟨p, 0, none⟩)] w' fun e w'' => e = .returned (.int .u16 (hb bs i)) ∧ Rr w'' p A n c ((i : Int) + 2) ∧ Fr (fun b => b = p) w' w'') at HU2
  have HNM := As.mk hN
  have HGG := As.mk hG
  have HHH := As.mk hH
  have HEE := As.mk (And.intro e1 (And.intro e2 (And.intro e3 (And.intro e4 e5))))
  clear h0 hA hS hSp hr hN hG hH e1 e2 e3 e4 e5
  go_enter Tryz.func67, Tryz.ntmps67
  go_wp2_with fail
  ((with_reducible refine (HU4.out).mono ?_); rintro e w1 ⟨rfl, hr1, hf1⟩)
  have H1 := As.mk (H0.out.read hr1 hf1)
  clear hr1 hf1
  have c0 := cell_is (i := 0) H1.out.pt rfl
  have f0 := free_of (i := 0) H1.out.pt
  have H2 := As.mk (H1.out.set 0 (.int .u32 (nb bs 0)))
  simp only [List.setIfInBounds_toArray, List.set_cons_zero, List.set_cons_succ] at H2
  go_upto_region 1 with fail
  generalize w1.setCell ⟨tb, 0, none⟩ (.int .u32 (nb bs 0)) = w2 at *
  clear c0 f0
  have HUN := As.mk (HU.out 4 w2 _ H2.out (by omega))
  rw [HNM.out] at HUN
  go_wp2_with fail
  ((with_reducible refine (HUN.out).mono ?_); rintro e w3 ⟨rfl, hr3, hf3⟩)
  have H3 := As.mk (H2.out.read (j := ((5 : Nat) : Int)) hr3 hf3)
  clear hr3 hf3 HUN
  go_wp2_with fail
  go_loopw [12] (fun vS w' => ∃ (j : Nat) (vM : Value), vS = .int .i64 (j : Int) ∧ j ≤ N ∧ As (In ST w w' p tb zb A n c ((5 + j : Nat) : Int) #[.int .u32 (nb bs 0), vM, .int .i64 0, .int .i64 0, .int .i64 0] false) ∧ As (Row 3 .i64 w' w.heap.size vM (bts bs 5 j))) (fun vS _ => N - (intOf vS).toNat)
  case atStart => exact ⟨0, _, rfl, by omega, H3, ⟨Row.nil _ _ _ _⟩⟩
  case round =>
    obtain ⟨j, vM, rfl, hj, HI, HX⟩ := hrel
    obtain ⟨A1, n1, c1, e1, _, hd1, _⟩ := HX.out.rd
    subst e1
    have hn1 : j = n1 := by rw [← hd1.out.1, bts_len]
    subst hn1
    clear hd1
    by_cases hlt : j < N
    · have hltI : (j : Int) < (N : Int) := by omega
      have HUc := As.mk (HU.out (5 + j) wr.drew _ (HI.out.none_ (Fr.refl None_ wr).drew) (by omega))
      have k2 := cell_is (i := 1) HI.out.pt rfl
      change wr.cell? ⟨tb, 1, none⟩ = some (.slice A1 j c1) at k2
      have HSC := As.mk (bts_succ bs 5 j)
      have HLE := As.mk (bts_len bs 5 j)
      have hxr := bt_range bs (5 + j)
      generalize bt bs (5 + j) = x at *
      generalize bts bs 5 j = xs at *
      have hwx : IntKind.i64.wrap x = x := i64_in _ (by omega) (by omega)
      go_upto_region 3 with fail
      go_region_law (first
        | ((with_reducible refine step_callee rfl 69 _ _ rfl (.pointer (some ⟨p, 0, none⟩)) rfl hEU HUc.out (fun e w' h => ⟨_, h.1⟩) ?_); rintro v w1 ⟨hv, hr1, hf1⟩; injection hv with hv; subst hv; have H1 := As.mk ((HI.out.none_ (Fr.refl None_ wr).drew).read (j := ((5 + (j + 1) : Nat) : Int)) (by rw [show ((5 + (j + 1) : Nat) : Int) = ((5 + j : Nat) : Int) + 1 by omega]; exact hr1) hf1); have HX1 := As.mk (row_inread (HI.out.none_ (Fr.refl None_ wr).drew) (HX.out.none_ (Fr.refl None_ wr).drew) hf1); have hfa : Fr None_ w1 (w1.alloc (.cells #[.int .i64 x] 3)) := (Fr.refl None_ w1).alloc _; have H1a := As.mk (H1.out.none_ hfa); have HX1a := As.mk (HX1.out.none_ hfa); have HRx : As (Rd .i64 (w1.alloc (.cells #[.int .i64 x] 3)) (some ⟨w1.heap.size, 0, none⟩) 1 [x]) := ⟨rfl, by decide, fun _ => ⟨_, rfl, fun i hi => by have hi0 : i = 0 := (by omega); subst hi0; exact cell_is (i := 0) (heap_alloc_new w1 _) rfl⟩⟩; have k21 := cell_is (i := 1) H1.out.pt rfl; have k22 := cell_is (i := 1) H1a.out.pt rfl; change w1.cell? ⟨tb, 1, none⟩ = some (.slice A1 j c1) at k21; change (w1.alloc (.cells #[.int .i64 x] 3)).cell? ⟨tb, 1, none⟩ = some (.slice A1 j c1) at k22; have hzb : w.heap.size ≤ (w1.alloc (.cells #[.int .i64 x] 3)).heap.size := H1a.out.fr.size; clear hr1 hf1 hfa)
        | ((with_reducible refine step_appendRow w.heap.size rfl _ _ 38 3 .i64 8 rfl Tryz.underlying38 Rdz.infoIn (by decide) (.slice A1 j c1) xs [x] (some ⟨w1.heap.size, 0, none⟩) 1 1 rfl rfl HX1a.out HRx.out hzb ?k1 ?_); (case k1 => rw [HLE.out]; omega); intro v9 w9 hrow9 hfr9 hat9; have H9 := As.mk (H1a.out.grow (Nat.le_refl _) HX1a.out hfr9); have HX9 := As.mk hrow9; have k29 := cell_is (i := 1) H9.out.pt rfl; have f29 := free_of (i := 1) H9.out.pt; change w9.cell? ⟨tb, 1, none⟩ = some (.slice A1 j c1) at k29; clear hrow9 hfr9 hat9; obtain ⟨A9, n9, c9, e9, _, _, _⟩ := HX9.out.rd; subst e9)
        | fail)
      all_goals
        go_wp2_with fail
        have hS9 := H9.out.set 1 (.slice A9 n9 c9)
        simp only [List.setIfInBounds_toArray, List.set_cons_zero, List.set_cons_succ] at hS9
        refine ⟨⟨j + 1, _, rfl, by omega, ⟨hS9⟩, ⟨?_⟩⟩, by simp [intOf]; omega⟩
        rw [HSC.out]
        exact row_inset H9.out HX9.out 1 _
    · have hltI : ¬ (j : Int) < (N : Int) := by omega
      obtain rfl : N = j := by omega
      clear hlt hj
      have hx0 := bt_range bs (5 + N)
      have hx1 := bt_range bs (6 + N)
      have hx2 := bt_range bs (7 + N)
      have hw0 : IntKind.i64.wrap (bt bs (5 + N)) = bt bs (5 + N) := i64_in _ (by omega) (by omega)
      have hw1 : IntKind.i64.wrap (bt bs (6 + N)) = bt bs (6 + N) := i64_in _ (by omega) (by omega)
      have hw2 : IntKind.i64.wrap (bt bs (7 + N)) = bt bs (7 + N) := i64_in _ (by omega) (by omega)
      have HU0 := As.mk (HU.out (5 + N) wr _ HI.out (by omega))
      go_wp2_with fail
      ((with_reducible refine (HU0.out).mono ?_); rintro e w5 ⟨rfl, hr5, hf5⟩)
      have H5 := As.mk (HI.out.read (j := ((6 + N : Nat) : Int)) (by rw [show ((6 + N : Nat) : Int) = ((5 + N : Nat) : Int) + 1 by omega]; exact hr5) hf5)
      have HX5 := As.mk (row_inread HI.out HX.out hf5)
      have HU1 := As.mk (HU.out (6 + N) w5 _ H5.out (by omega))
      clear hr5 hf5 HU0
      go_wp2_with fail
      ((with_reducible refine (HU1.out).mono ?_); rintro e w6 ⟨rfl, hr6, hf6⟩)
      have H6 := As.mk (H5.out.read (j := ((7 + N : Nat) : Int)) (by rw [show ((7 + N : Nat) : Int) = ((6 + N : Nat) : Int) + 1 by omega]; exact hr6) hf6)
      have HX6 := As.mk (row_inread H5.out HX5.out hf6)
      have HUb := As.mk (HU.out (7 + N) w6 _ H6.out (by omega))
      clear hr6 hf6 HU1
      go_wp2_with fail
      ((with_reducible refine (HUb.out).mono ?_); rintro e w7 ⟨rfl, hr7, hf7⟩)
      have H7 := As.mk (H6.out.read (j := ((8 + N : Nat) : Int)) (by rw [show ((8 + N : Nat) : Int) = ((7 + N : Nat) : Int) + 1 by omega]; exact hr7) hf7)
      have HX7 := As.mk (row_inread H6.out HX6.out hf7)
      clear hr7 hf7 HUb
      have c2 := cell_is (v := .int .i64 0) (i := 2) H7.out.pt rfl
      have f2 := free_of (i := 2) H7.out.pt
      have c3 := cell_is (v := .int .i64 0) (i := 3) H7.out.pt rfl
      have f3 := free_of (i := 3) H7.out.pt
      have c4 := cell_is (v := .int .i64 0) (i := 4) H7.out.pt rfl
      have f4 := free_of (i := 4) H7.out.pt
      have h8 := ((H7.out.set 2 (.int .i64 (bt bs (5 + N)))).set 3 (.int .i64 (bt bs (6 + N)))).set 4 (.int .i64 (bt bs (7 + N)))
      have HX8 := As.mk (row_inset ((H7.out.set 2 (.int .i64 (bt bs (5 + N)))).set 3 (.int .i64 (bt bs (6 + N)))) (row_inset (H7.out.set 2 (.int .i64 (bt bs (5 + N)))) (row_inset H7.out HX7.out 2 (.int .i64 (bt bs (5 + N)))) 3 (.int .i64 (bt bs (6 + N)))) 4 (.int .i64 (bt bs (7 + N))))
      simp only [List.setIfInBounds_toArray, List.set_cons_zero, List.set_cons_succ] at h8
      have H8 := As.mk h8
      go_upto_region 6 with fail
      clear h8
      generalize ((w7.setCell ⟨tb, 2, none⟩ (.int .i64 (bt bs (5 + N)))).setCell ⟨tb, 3, none⟩ (.int .i64 (bt bs (6 + N)))).setCell ⟨tb, 4, none⟩ (.int .i64 (bt bs (7 + N))) = w8 at *
      clear c2 f2 c3 f3 c4 f4
      have HGH := As.mk (fun (w' : World) (i2 : Int) (cs2 : Array Value) (z2 : Bool) (hi : In ST w w' p tb zb A n c i2 cs2 z2) => And.intro (in_keep H0.out hi HGG.out ⟨by decide, by decide, by decide⟩) (in_keep H0.out hi HHH.out ⟨by decide, by decide, by decide⟩))
      have HKP := As.mk (fun (w' : World) (i2 : Int) (v1 : Value) (z2 : Bool) (hi : In ST w w' p tb zb A n c i2 #[.int .u32 (nb bs 0), v1, .int .i64 (bt bs (5 + N)), .int .i64 (bt bs (6 + N)), .int .i64 (bt bs (7 + N))] z2) =>
        (show w'.cell? ⟨gb, 1, none⟩ = some (.int .i64 g.b) ∧ w'.cell? ⟨gb, 2, none⟩ = some (.int .i64 g.p) ∧ w'.cell? ⟨gb, 3, none⟩ = some (.int .i64 g.s) ∧ w'.cell? ⟨tb, 0, none⟩ = some (.int .u32 (nb bs 0)) ∧ w'.cell? ⟨hb0, 1, none⟩ = some (.int .u32 h.epoch) from
          ⟨cell_is (HGH.out _ _ _ _ hi).1 rfl, cell_is (HGH.out _ _ _ _ hi).1 rfl, cell_is (HGH.out _ _ _ _ hi).1 rfl, cell_is hi.pt rfl, cell_is (HGH.out _ _ _ _ hi).2 rfl⟩))
      have h8d := H8.out.none_ (Fr.refl None_ w8).drew
      have KA := HKP.out _ _ _ _ h8d
      have HUa := As.mk (HU2.out (8 + N) w8.drew _ h8d (by omega))
      rw [HEE.out.1] at HUa
      have hq1 := HEE.out.1
      have hq2 := HEE.out.2.1
      have hq3 := HEE.out.2.2.1
      have hq4 := HEE.out.2.2.2.1
      have hq5 := HEE.out.2.2.2.2
      have hgr := hb_range bs (8 + N)
      have hpr := hb_range bs (10 + N)
      have hsr := hb_range bs (12 + N)
      rw [hq1] at hgr
      rw [hq2] at hpr
      rw [hq3] at hsr
      have hwg : IntKind.i64.wrap g.b = g.b := i64_in _ (by omega) (by omega)
      have hwp : IntKind.i64.wrap g.p = g.p := i64_in _ (by omega) (by omega)
      have hws : IntKind.i64.wrap g.s = g.s := i64_in _ (by omega) (by omega)
      have HQ := As.mk (And.intro hq2 (And.intro hq3 (And.intro hq4 hq5)))
      have heq : (nb bs 0 == h.epoch) = true := by rw [hq5]; simp
      have H8D := As.mk h8d
      have HX8D := As.mk (HX8.out.none_ (Fr.refl None_ w8).drew)
      clear hq1 hq2 hq3 hq4 hq5 hgr hpr hsr h8d
      go_region_held3 (fun w' => w'.cell? ⟨gb, 1, none⟩ = some (.int .i64 g.b) ∧ w'.cell? ⟨gb, 2, none⟩ = some (.int .i64 g.p) ∧ w'.cell? ⟨gb, 3, none⟩ = some (.int .i64 g.s) ∧ w'.cell? ⟨tb, 0, none⟩ = some (.int .u32 (nb bs 0)) ∧ w'.cell? ⟨hb0, 1, none⟩ = some (.int .u32 h.epoch)) (first | go_keep | exact KA | exact HKP.out _ _ _ _ HI9.out | exact HKP.out _ _ _ _ HI10.out | exact HKP.out _ _ _ _ HI11.out | exact HKP.out _ _ _ _ HI12.out | exact HKP.out _ _ _ _ (HI12.out.setz true)) (first
        | (go_at_call 70; (with_reducible refine (HUa.out).mono ?_); rintro e w9 ⟨rfl, hr9, hf9⟩; have HI9 := As.mk (H8D.out.read (j := ((10 + N : Nat) : Int)) (by rw [show ((10 + N : Nat) : Int) = ((8 + N : Nat) : Int) + 2 by omega]; exact hr9) hf9); have HX9 := As.mk (row_inread H8D.out HX8D.out hf9); have HUc := As.mk (HU2.out (10 + N) w9 _ HI9.out (by omega)); rw [HQ.out.1] at HUc; clear hr9 hf9)
        | (go_at_call 70; (with_reducible refine (HUc.out).mono ?_); rintro e w10 ⟨rfl, hr10, hf10⟩; have HI10 := As.mk (HI9.out.read (j := ((12 + N : Nat) : Int)) (by rw [show ((12 + N : Nat) : Int) = ((10 + N : Nat) : Int) + 2 by omega]; exact hr10) hf10); have HX10 := As.mk (row_inread HI9.out HX9.out hf10); have HUd := As.mk (HU2.out (12 + N) w10 _ HI10.out (by omega)); rw [HQ.out.2.1] at HUd; clear hr10 hf10)
        | (go_at_call 70; (with_reducible refine (HUd.out).mono ?_); rintro e w11 ⟨rfl, hr11, hf11⟩; have HI11 := As.mk (HI10.out.read (j := ((14 + N : Nat) : Int)) (by rw [show ((14 + N : Nat) : Int) = ((12 + N : Nat) : Int) + 2 by omega]; exact hr11) hf11); have HX11 := As.mk (row_inread HI10.out HX10.out hf11); have HUe := As.mk (HZR.out (14 + N) w11 _ HI11.out (by omega)); rw [show Int.toNat ((14 + N : Nat) : Int) = 14 + N by omega, HQ.out.2.2.1] at HUe; clear hr11 hf11)
        | (go_at_call 71; (with_reducible refine (HUe.out).mono ?_); rintro e w12 ⟨rfl, hf12⟩; have HI12 := As.mk (HI11.out.none_ hf12); have HX12 := As.mk (HX11.out.none_ hf12); have z12 := cell_of HI12.out.z; have y12 := free_of (i := 0) HI12.out.z; clear hf12)
        | fail)
      go_wp2_with fail
      go_end0
      refine ⟨rfl, .slice A1 N c1, ((14 + N : Nat) : Int), HI12.out.setz true, ?_⟩
      exact HX12.out.fr (S := fun b => b = zb) ((Fr.refl (fun b => b = zb) w12).setCell (p := ⟨zb, 0, none⟩) (fun _ => rfl) (.bool true)) (fun b hb e => by subst e; exact Row.ne HX12.out HI12.out.z (by decide) hb)
end Go.Proofs.YteofgpaceeibpaaGreat.MemE
namespace Go.Proofs.YteofgpaceeibpaaGreat.MemF
open Go.RowKit Go.Proofs.YteofgpaceeibpaaGreat.Gab Go.Proofs.YteofgpaceeibpaaGreat.Wr Go.Proofs.YteofgpaceeibpaaGreat.Rdr Go.Proofs.YteofgpaceeibpaaGreat.Rdz Go.Proofs.YteofgpaceeibpaaGreat.Geom Go.Proofs.YteofgpaceeibpaaGreat.Fields Go.Proofs.YteofgpaceeibpaaGreat.Open Go.Proofs.YteofgpaceeibpaaGreat.MemA Go.Proofs.YteofgpaceeibpaaGreat.MemB Go.Proofs.YteofgpaceeibpaaGreat.MemC Go.Proofs.YteofgpaceeibpaaGreat.MemE
open Go.Proofs.YteofgpaceeibpaaGreat.Heap (cell_is heap_set)
open Go.Proofs.YteofgpaceeibpaaGreat.RemapF (set5 behind)
set_option linter.unusedVariables false
set_option linter.unusedSimpArgs false

/-- Bytes that are a set. -/
structure SDec (bs : List Int) (m : MS) (g : Geo) : Prop where
  n : bt bs 4 = (m.chips.length : Int)
  len : 14 + m.chips.length ≤ bs.length
  seq : nb bs 0 = m.seq
  chips : bts bs 5 m.chips.length = m.chips
  spare : bt bs (5 + m.chips.length) = m.spare
  dead : bt bs (6 + m.chips.length) = m.dead
  done : bt bs (7 + m.chips.length) = m.done
  b : hb bs (8 + m.chips.length) = g.b
  p : hb bs (10 + m.chips.length) = g.p
  s : hb bs (12 + m.chips.length) = g.s
  zero : (bs.drop (14 + m.chips.length)).all (· == 0) = true
def isMem (d o : List Int) : Bool := (openOf d o).2 && decide ((openOf d o).1.kind = 2)
/-- What a page is: a good set, or none. -/
def SetIs (g : Geo) (d o : List Int) : Option MS → Prop
  | none => isMem d o = false
  | some m => openOf d o = (m.hd, true) ∧ SDec d m g ∧ m.Ok g
def ParsePost (x : Option MS) (w : World) (e : Ending) (w' : World) : Prop := Fr None_ w w' ∧ match x with
  | none => e = .returned (.tuple #[.agg zs, .int .i64 63])
  | some m => ∃ v, e = .returned (.tuple #[v, .int .i64 0]) ∧ MSR w' w.heap.size v m
/-- The closure's memory, ahead of it. -/
theorem ahead (w : World) (hd : Array Value) (A : Option Addr) (n c : Nat) (w3 : World) (hw3 : w3 = ((w.alloc (.cells hd 112)).alloc (.cells zs ST)).alloc (.cells #[.bool false] 4)) :
    In ST ((w3.alloc (.cells #[.int .i64 0] 27)).alloc (.cells #[.slice A n c, .int .i64 0] 196)) ((w3.alloc (.cells #[.int .i64 0] 27)).alloc (.cells #[.slice A n c, .int .i64 0] 196)) (w3.heap.size + 1) (w.heap.size + 1) (w.heap.size + 1 + 1) A n c 0 zs false ∧
    w3.heap.size = w.heap.size + 3 ∧ Fr None_ w w3 ∧ w3.heap[w.heap.size]? = some (.cells hd 112 (0, 0)) := by
  have s1 : (w.alloc (.cells hd 112)).heap.size = w.heap.size + 1 := size_new _ rfl
  have s2 := size_new (.cells zs ST) s1
  have s3 := size_new (.cells #[.bool false] 4) s2
  have hg := at_old (.cells #[.bool false] 4) (at_old (.cells zs ST) (heap_alloc_new w (.cells hd 112)))
  have h1 := at_old (.cells #[.bool false] 4) (at_new (.cells zs ST) s1)
  have h2 := at_new (.cells #[.bool false] 4) s2
  rw [← hw3] at s3 hg h1 h2
  refine ⟨⟨Fr.refl _ _, ?_, at_old _ (at_old _ h1), at_old _ (at_old _ h2), ⟨by decide, by decide, by decide⟩⟩, s3, ?_, hg⟩
  · exact at_new _ (size_new _ rfl)
  · rw [hw3]
    exact (((Fr.refl None_ w).alloc _).alloc _).alloc _

set_option maxHeartbeats 4000000 in
set_option maxRecDepth 100000 in
theorem Parse_calls (D O : Option Addr) (nd cd no co : Nat) (d o : List Int) (g : Geo) (x : Option MS) (w : World) (hD : Rd .u8 w D nd d) (hO : Rd .u8 w O no o) (hrd : InR 256 d) (hro : InR 256 o) (hcd : nd ≤ cd) (hco : no ≤ co) (hg : g.Ok) (hx : SetIs g d o x) (hnd : nd ≤ 1000000) :
    Calls Tryz.prog 37 #[g.val, .slice D nd cd, .slice O no co] w (ParsePost x w) := by
  have hmf : ∀ (fn : Fn) (first cap : Array Value) (w : World), (Instr.makeFunc fn first cap).run Tryz.prog w = .ok (.func fn first cap) w := fun _ _ _ _ => rfl
  have hEC : ∀ args w, Sem.run Tryz.prog (callFunc 67 args) w = .ok (.enter 67 args) w := fun _ _ => rfl
  have HOP := As.mk (fun (w' : World) (hf : Fr None_ w w') => Open_calls O D no co nd cd o d w' (hO.none_ hf) (hD.none_ hf) hro hrd hco hcd)
  have hf1 := ((Fr.refl None_ w).alloc (.cells #[.int .i64 g.c, .int .i64 g.b, .int .i64 g.p, .int .i64 g.s] 24)).alloc (.cells zs ST)
  have HB1 := As.mk (at_new (.cells zs ST) (size_new (.cells #[.int .i64 g.c, .int .i64 g.b, .int .i64 g.p, .int .i64 g.s] 24) (rfl : w.heap.size = w.heap.size)))
  have HG1 := As.mk (at_old (.cells zs ST) (heap_alloc_new w (.cells #[.int .i64 g.c, .int .i64 g.b, .int .i64 g.p, .int .i64 g.s] 24)))
  have HF1 := As.mk hf1
  have HX := As.mk hx
  have HD := As.mk hD
  have HGO := As.mk hg
  have HRR := As.mk (And.intro hrd hcd)
  have HIT := As.mk (show isMem d o = ((openOf d o).2 && decide ((openOf d o).1.kind = 2)) from rfl)
  have HOE := As.mk (show openOf d o = ((openOf d o).1, (openOf d o).2) from rfl)
  unfold Head.vals at HOP
  generalize (openOf d o).2 = ok at *
  generalize (openOf d o).1 = hh at *
  clear hD hO hf1 hrd hro hcd hco hx hg
  unfold Geo.val
  go_enter Tryz.func37, Tryz.ntmps37
  go_wp2_with fail
  ((with_reducible refine (HOP.out _ HF1.out).mono ?_); rintro e w2 ⟨rfl, hf2⟩)
  have HF2 := As.mk (HF1.out.after hf2 (fun _ _ h => h))
  have HB2 := As.mk (hf2.heap HB1.out (fun h => h))
  have HG2 := As.mk (hf2.heap HG1.out (fun h => h))
  clear hf2 HOP
  rcases x with _ | m
  · have hno : isMem d o = false := HX.out
    rw [HIT.out] at hno
    have hfa := (Fr.refl None_ w2).alloc (.cells #[.int .u8 hh.kind, .int .u32 hh.epoch, .int .u32 hh.batch, .int .u16 hh.index, .int .u16 hh.count, .int .u32 hh.block, .int .u32 hh.more] 112)
    have hA3 := heap_alloc_new w2 (.cells #[.int .u8 hh.kind, .int .u32 hh.epoch, .int .u32 hh.batch, .int .u16 hh.index, .int .u16 hh.count, .int .u32 hh.block, .int .u32 hh.more] 112)
    have HF3 := As.mk (HF2.out.after hfa (fun _ _ h => h))
    have HB3 := As.mk (hfa.heap HB2.out (fun h => h))
    have h0 := cell_is (v := .int .u8 hh.kind) (i := 0) hA3 rfl
    have hh3 : ok = false ∨ (ok = true ∧ (hh.kind != 2) = true) := by
      cases ok
      · exact .inl rfl
      · simp only [Bool.true_and, decide_eq_false_iff_not] at hno
        exact .inr ⟨rfl, by rw [bne_iff_ne]; exact hno⟩
    clear hfa hno HX HOE HIT
    rcases hh3 with rfl | ⟨rfl, d1⟩
    · go_upto_region 2 with fail
      generalize w2.alloc (.cells #[.int .u8 hh.kind, .int .u32 hh.epoch, .int .u32 hh.batch, .int .u16 hh.index, .int .u16 hh.count, .int .u32 hh.block, .int .u32 hh.more] 112) = w3 at *
      have r0 := cell_is (v := .int .u32 0) (i := 0) HB3.out rfl
      have r1 := cell_is (v := .slice none 0 0) (i := 1) HB3.out rfl
      have r2 := cell_is (v := .int .i64 0) (i := 2) HB3.out rfl
      have r3 := cell_is (v := .int .i64 0) (i := 3) HB3.out rfl
      have r4 := cell_is (v := .int .i64 0) (i := 4) HB3.out rfl
      have f0 := free_of (i := 0) HB3.out
      have f1 := free_of (i := 1) HB3.out
      have f2 := free_of (i := 2) HB3.out
      have f3 := free_of (i := 3) HB3.out
      have f4 := free_of (i := 4) HB3.out
      go_wp2_with fail
      obtain ⟨t1, t2, t3⟩ := set5 HF3.out (Nat.le_succ _) HB3.out (.int .u32 0) (.slice none 0 0) (.int .i64 0) (.int .i64 0) (.int .i64 0)
      clear r0 r1 r2 r3 r4 f0 f1 f2 f3 f4
      generalize ((((w3.setCell ⟨w.heap.size + 1, 0, none⟩ (.int .u32 0)).setCell ⟨w.heap.size + 1, 1, none⟩ (.slice none 0 0)).setCell ⟨w.heap.size + 1, 2, none⟩ (.int .i64 0)).setCell ⟨w.heap.size + 1, 3, none⟩ (.int .i64 0)).setCell ⟨w.heap.size + 1, 4, none⟩ (.int .i64 0) = wf at *
      have r0 := cell_is (i := 0) t2 rfl
      have r1 := cell_is (i := 1) t2 rfl
      have r2 := cell_is (i := 2) t2 rfl
      have r3 := cell_is (i := 3) t2 rfl
      have r4 := cell_is (i := 4) t2 rfl
      exact bodyPost_ret (v := .tuple #[.agg zs, .int .i64 63]) (by simp [results, Tryz.results37, go_sem, r0, r1, r2, r3, r4]) rfl ⟨t1, rfl⟩
    · go_upto_region 2 with fail
      generalize w2.alloc (.cells #[.int .u8 hh.kind, .int .u32 hh.epoch, .int .u32 hh.batch, .int .u16 hh.index, .int .u16 hh.count, .int .u32 hh.block, .int .u32 hh.more] 112) = w3 at *
      have r0 := cell_is (v := .int .u32 0) (i := 0) HB3.out rfl
      have r1 := cell_is (v := .slice none 0 0) (i := 1) HB3.out rfl
      have r2 := cell_is (v := .int .i64 0) (i := 2) HB3.out rfl
      have r3 := cell_is (v := .int .i64 0) (i := 3) HB3.out rfl
      have r4 := cell_is (v := .int .i64 0) (i := 4) HB3.out rfl
      have f0 := free_of (i := 0) HB3.out
      have f1 := free_of (i := 1) HB3.out
      have f2 := free_of (i := 2) HB3.out
      have f3 := free_of (i := 3) HB3.out
      have f4 := free_of (i := 4) HB3.out
      go_wp2_with fail
      obtain ⟨t1, t2, t3⟩ := set5 HF3.out (Nat.le_succ _) HB3.out (.int .u32 0) (.slice none 0 0) (.int .i64 0) (.int .i64 0) (.int .i64 0)
      clear r0 r1 r2 r3 r4 f0 f1 f2 f3 f4
      generalize ((((w3.setCell ⟨w.heap.size + 1, 0, none⟩ (.int .u32 0)).setCell ⟨w.heap.size + 1, 1, none⟩ (.slice none 0 0)).setCell ⟨w.heap.size + 1, 2, none⟩ (.int .i64 0)).setCell ⟨w.heap.size + 1, 3, none⟩ (.int .i64 0)).setCell ⟨w.heap.size + 1, 4, none⟩ (.int .i64 0) = wf at *
      have r0 := cell_is (i := 0) t2 rfl
      have r1 := cell_is (i := 1) t2 rfl
      have r2 := cell_is (i := 2) t2 rfl
      have r3 := cell_is (i := 3) t2 rfl
      have r4 := cell_is (i := 4) t2 rfl
      exact bodyPost_ret (v := .tuple #[.agg zs, .int .i64 63]) (by simp [results, Tryz.results37, go_sem, r0, r1, r2, r3, r4]) rfl ⟨t1, rfl⟩
  · obtain ⟨hx1, hx2, hx3⟩ := HX.out
    rw [HOE.out] at hx1
    obtain ⟨rfl, rfl⟩ := Prod.mk.inj hx1
    have HX2 := As.mk hx2
    have HX3 := As.mk hx3
    have dk : (m.hd.kind != 2) = false := rfl
    clear hx1 hx2 hx3 HX HOE HIT
    obtain ⟨w3, hw3⟩ : ∃ w3, w3 = ((w2.alloc (.cells #[.int .u8 m.hd.kind, .int .u32 m.hd.epoch, .int .u32 m.hd.batch, .int .u16 m.hd.index, .int .u16 m.hd.count, .int .u32 m.hd.block, .int .u32 m.hd.more] 112)).alloc (.cells zs ST)).alloc (.cells #[.bool false] 4) := ⟨_, rfl⟩
    obtain ⟨hIn, hz3, hf3, hH3⟩ := ahead w2 #[.int .u8 m.hd.kind, .int .u32 m.hd.epoch, .int .u32 m.hd.batch, .int .u16 m.hd.index, .int .u16 m.hd.count, .int .u32 m.hd.block, .int .u32 m.hd.more] D nd cd w3 hw3
    have h0c := cell_is (v := .int .u8 m.hd.kind) (i := 0) (heap_alloc_new w2 (.cells #[.int .u8 m.hd.kind, .int .u32 m.hd.epoch, .int .u32 m.hd.batch, .int .u16 m.hd.index, .int .u16 m.hd.count, .int .u32 m.hd.block, .int .u32 m.hd.more] 112)) rfl
    have hlt := HD.out.lt
    have hz2 : w.heap.size + 1 < w2.heap.size := (Array.getElem?_eq_some_iff.1 HB2.out).1
    have hf23 := HF2.out.after hf3 (fun _ _ h => h)
    have hfE : Fr None_ w ((w3.alloc (.cells #[.int .i64 0] 27)).alloc (.cells #[.slice D nd cd, .int .i64 0] 196)) := (hf23.alloc _).alloc _
    have hfE2 : Fr None_ w2 ((w3.alloc (.cells #[.int .i64 0] 27)).alloc (.cells #[.slice D nd cd, .int .i64 0] 196)) := (hf3.alloc _).alloc _
    have hAE := HD.out.none_ hfE
    have hSE : ∀ ad, D = some ad → 0 < nd → ¬ (ad.block = w3.heap.size + 1 ∨ ad.block = w2.heap.size + 1 ∨ ad.block = w2.heap.size + 1 + 1) := fun ad e hp h => by
      have := hlt ad e hp
      omega
    have hEr : ((w3.alloc (.cells #[.int .i64 0] 27)).alloc (.cells #[.slice D nd cd, .int .i64 0] 196)).heap[w3.heap.size]? = some (.cells #[.int .i64 0] 27 (0, 0)) := at_old _ (heap_alloc_new w3 _)
    have hzE : w.heap.size ≤ ((w3.alloc (.cells #[.int .i64 0] 27)).alloc (.cells #[.slice D nd cd, .int .i64 0] 196)).heap.size := hfE.size
    have hBE := hfE2.heap HB2.out (fun h => h)
    have hGE := hfE2.heap HG2.out (fun h => h)
    have hHE := at_old (.cells #[.slice D nd cd, .int .i64 0] 196) (at_old (.cells #[.int .i64 0] 27) hH3)
    have hd := HX2.out
    have hby := by_ok (w3.heap.size + 1) (w2.heap.size + 1) (w2.heap.size + 1 + 1) w.heap.size w2.heap.size D nd cd m.chips.length d g m.hd _ hIn hAE HRR.out.1 HRR.out.2 hGE hHE hSE hd.n (by rw [← HD.out.1]; exact hd.len) hnd hd.b hd.p hd.s hd.zero hd.seq
    have hRO := Read.Read_ok 67 #[.pointer (some ⟨w2.heap.size + 1, 0, none⟩), .pointer (some ⟨w.heap.size, 0, none⟩), .pointer (some ⟨w2.heap.size, 0, none⟩), .pointer (some ⟨w2.heap.size + 1 + 1, 0, none⟩)] D nd cd w3
      (fun w1 => ∃ v1, (∀ w4, Fr (fun b => b = w3.heap.size) w1 w4 → Fr None_ w w4 ∧ w4.heap[w2.heap.size + 1]? = some (.cells #[.int .u32 m.seq, v1, .int .i64 m.spare, .int .i64 m.dead, .int .i64 m.done] ST (0, 0)) ∧ w4.heap[w2.heap.size + 1 + 1]? = some (.cells #[.bool true] 4 (0, 0)) ∧ w4.heap[w.heap.size + 1]? = some (.cells zs ST (0, 0)) ∧ w4.heap[w.heap.size]? = some (.cells #[.int .i64 g.c, .int .i64 g.b, .int .i64 g.p, .int .i64 g.s] 24 (0, 0)) ∧
        Row 3 .i64 w4 w.heap.size v1 m.chips))
      hEC (hby.mono fun e w1 h => by
        obtain ⟨he, v1, i, h1, h2⟩ := h
        rw [hd.seq, hd.spare, hd.dead, hd.done] at h1
        rw [hd.chips] at h2
        have hEr1 := h1.fr.heap hEr (fun hh => by rcases hh with hh | hh | hh <;> omega)
        refine ⟨he, ⟨v1, fun w4 hf => ?_⟩, hEr1⟩
        obtain ⟨b1, b2, b3, b4⟩ := behind hfE h1 (by omega) (by omega) (by omega) (show w.heap.size + 1 < w3.heap.size by omega) ⟨by omega, by omega⟩ hf
        exact ⟨b1, b2, b3, b4 _ _ (Nat.le_refl _) hBE, b4 _ _ (by omega) hGE, (h2.fr hf (fun b hb hh => by subst hh; exact Row.ne h2 hEr1 (by decide) hb)).lower hzE⟩)
    have HRO := As.mk hRO
    have HCK := As.mk (fun (w' : World) (v1 : Value) (h1 : Row 3 .i64 w' w.heap.size v1 m.chips) => MemA.Check_calls m g _ w' HGO.out HX3.out (MSR.msv ⟨v1, rfl, h1⟩))
    clear hRO hby hIn hAE hSE hlt hfE hfE2 hBE hGE hHE hEr hf3 hH3 hd hf23
    unfold Geo.val at HCK
    go_upto_region 7 with fail
    rw [← hw3]
    clear h0c
    ((with_reducible refine (HRO.out).mono ?_); rintro e w5 ⟨rfl, w1, ⟨v1, h1⟩, rfl⟩)
    obtain ⟨b1, b2, b3, b4, b5, b6⟩ := h1 (w1.setCell ⟨w3.heap.size, 0, none⟩ (.int .i64 0)) ((Fr.refl (fun b => b = w3.heap.size) w1).setCell (p := ⟨w3.heap.size, 0, none⟩) (fun _ => rfl) _)
    generalize w1.setCell ⟨w3.heap.size, 0, none⟩ (.int .i64 0) = w5 at *
    have HCK5 := As.mk (HCK.out w5 v1 b6)
    obtain ⟨A1, n1, c1, e1, _, _, _⟩ := b6.rd
    subst e1
    have B1 := As.mk b1
    have B2 := As.mk b2
    have B4 := As.mk b4
    have B6 := As.mk b6
    have z0 := cell_of b3
    have p0 := cell_is (v := .int .u32 m.seq) (i := 0) b2 rfl
    have p1 := cell_is (v := .slice A1 n1 c1) (i := 1) b2 rfl
    have p2 := cell_is (v := .int .i64 m.spare) (i := 2) b2 rfl
    have p3 := cell_is (v := .int .i64 m.dead) (i := 3) b2 rfl
    have p4 := cell_is (v := .int .i64 m.done) (i := 4) b2 rfl
    have g0 := cell_is (v := .int .i64 g.c) (i := 0) b5 rfl
    have g1 := cell_is (v := .int .i64 g.b) (i := 1) b5 rfl
    have g2 := cell_is (v := .int .i64 g.p) (i := 2) b5 rfl
    have g3 := cell_is (v := .int .i64 g.s) (i := 3) b5 rfl
    clear b1 b2 b3 b4 b5 b6 h1 hw3 HRO HCK
    go_wp2_with fail
    ((with_reducible refine (HCK5.out).mono ?_); rintro e w6 ⟨rfl, hf6⟩)
    have B14 := hf6.heap B4.out (fun h => h)
    have B12 := hf6.heap B2.out (fun h => h)
    have R1 := As.mk (B6.out.none_ hf6)
    have HF6 := As.mk (B1.out.after hf6 (fun _ _ h => h))
    have HB6 := As.mk B14
    clear z0 p0 p1 p2 p3 p4 g0 g1 g2 g3 hf6 HCK5
    have p0 := cell_is (v := .int .u32 m.seq) (i := 0) B12 rfl
    have p1 := cell_is (v := .slice A1 n1 c1) (i := 1) B12 rfl
    have p2 := cell_is (v := .int .i64 m.spare) (i := 2) B12 rfl
    have p3 := cell_is (v := .int .i64 m.dead) (i := 3) B12 rfl
    have p4 := cell_is (v := .int .i64 m.done) (i := 4) B12 rfl
    have r0 := cell_is (v := .int .u32 0) (i := 0) B14 rfl
    have r1 := cell_is (v := .slice none 0 0) (i := 1) B14 rfl
    have r2 := cell_is (v := .int .i64 0) (i := 2) B14 rfl
    have r3 := cell_is (v := .int .i64 0) (i := 3) B14 rfl
    have r4 := cell_is (v := .int .i64 0) (i := 4) B14 rfl
    have f0 := free_of (i := 0) B14
    have f1 := free_of (i := 1) B14
    have f2 := free_of (i := 2) B14
    have f3 := free_of (i := 3) B14
    have f4 := free_of (i := 4) B14
    clear B12 B14
    go_wp2_with fail
    obtain ⟨s1, s2, s3⟩ := set5 HF6.out (Nat.le_succ _) HB6.out (.int .u32 m.seq) (.slice A1 n1 c1) (.int .i64 m.spare) (.int .i64 m.dead) (.int .i64 m.done)
    have t1 := R1.out.fr s3 (fun b hb e => by subst e; exact Row.ne R1.out HB6.out (by decide) hb)
    clear r0 r1 r2 r3 r4 f0 f1 f2 f3 f4 p0 p1 p2 p3 p4
    generalize ((((w6.setCell ⟨w.heap.size + 1, 0, none⟩ (.int .u32 m.seq)).setCell ⟨w.heap.size + 1, 1, none⟩ (.slice A1 n1 c1)).setCell ⟨w.heap.size + 1, 2, none⟩ (.int .i64 m.spare)).setCell ⟨w.heap.size + 1, 3, none⟩ (.int .i64 m.dead)).setCell ⟨w.heap.size + 1, 4, none⟩ (.int .i64 m.done) = wf at *
    have r0 := cell_is (i := 0) s2 rfl
    have r1 := cell_is (i := 1) s2 rfl
    have r2 := cell_is (i := 2) s2 rfl
    have r3 := cell_is (i := 3) s2 rfl
    have r4 := cell_is (i := 4) s2 rfl
    exact bodyPost_ret (v := .tuple #[.agg #[.int .u32 m.seq, .slice A1 n1 c1, .int .i64 m.spare, .int .i64 m.dead, .int .i64 m.done], .int .i64 0]) (by simp [results, Tryz.results37, go_sem, r0, r1, r2, r3, r4]) rfl ⟨s1, _, rfl, ⟨_, rfl, t1⟩⟩
end Go.Proofs.YteofgpaceeibpaaGreat.MemF

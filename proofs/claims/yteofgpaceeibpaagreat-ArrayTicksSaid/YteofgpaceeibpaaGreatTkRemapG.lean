/- remap: Join, of one page that is a good table, or whose first page is none. -/
import Derived.Test.YteofgpaceeibpaaGreatTkMemD
import Derived.Test.YteofgpaceeibpaaGreatTkOpen
namespace Go.Proofs.YteofgpaceeibpaaGreat.RemapG
open Go.RowKit Gab Wr Rdr Rdz Geom Fields Go.Proofs.YteofgpaceeibpaaGreat.Open RemapA RemapB RemapC RemapD RemapE RemapF
open Heap (cell_is heap_set fr_set7 heap_set7)
set_option linter.unusedVariables false
set_option linter.unusedSimpArgs false

/-- Is a page a table's first? -/
def isTab (d o : List Int) : Bool := (openOf d o).2 && (decide ((openOf d o).1.kind = 1) && decide ((openOf d o).1.index = 0))
/-- What a page is: a good table, or none. -/
def TabIs (g : Geo) (d o : List Int) : Option Tab → Prop
  | none => isTab d o = false
  | some t => openOf d o = (t.hd, true) ∧ DecIs d t ∧ t.Ok g
/-- What Join answers. -/
def JoinPost (x : Option Tab) (w : World) (e : Ending) (w' : World) : Prop := Fr None_ w w' ∧ match x with
  | none => e = .returned (.tuple #[.agg zt, .int .i64 62])
  | some t => ∃ v, e = .returned (.tuple #[v, .int .i64 0]) ∧ TabR w' w.heap.size v t
theorem undrew {S : Nat → Prop} {a b : World} (h : Fr S a.drew b) : Fr S a b := ⟨h.os, h.tape, h.output, h.size, h.block⟩

theorem idx_range (d o : List Int) : 0 ≤ (openOf d o).1.index ∧ (openOf d o).1.index < 65536 := by
  unfold openOf
  split
  · show 0 ≤ numAt o 12 2 ∧ numAt o 12 2 < 65536
    unfold numAt
    omega
  · exact ⟨by decide, by decide⟩

set_option maxHeartbeats 4000000 in
set_option maxRecDepth 100000 in
theorem Join_calls (lb n c : Nat) (D O : Option Addr) (nd cd no co : Nat) (d o : List Int) (g : Geo) (x : Option Tab) (w : World) (hn : 1 ≤ n) (k0 : w.cell? ⟨lb, 0, none⟩ = some (.slice D nd cd)) (k1 : w.cell? ⟨lb, 1, none⟩ = some (.slice O no co))
    (hD : Rd .u8 w D nd d) (hO : Rd .u8 w O no o) (hrd : InR 256 d) (hro : InR 256 o) (hcd : nd ≤ cd) (hco : no ≤ co) (hg : g.Ok) (hx : TabIs g d o x) (hnd : nd ≤ 1000000) :
    Calls Tryz.prog 103 #[.slice (some ⟨lb, 0, none⟩) n c, g.val] w (JoinPost x w) := by
  have HOP := As.mk (fun (w' : World) (hf : Fr None_ w w') => Open_calls O D no co nd cd o d w' (hO.none_ hf) (hD.none_ hf) hro hrd hco hcd)
  have HDE := As.mk (fun (A : Option Addr) (n c : Nat) (t : Tab) (w' : World) (hA : Rd .u8 w' A n d) (hc : n ≤ c) (hd : DecIs d t) (ht : t.Ok g) => Decode_calls A n c d t g w' hA hrd hc (by have h1 := hA.1; have h2 := hD.1; omega) hd hg ht)
  have HX := As.mk hx
  have hwi : IntKind.i64.wrap (openOf d o).1.index = (openOf d o).1.index ∧ True := by have h := idx_range d o; exact ⟨i64_in _ (by omega) (by omega), trivial⟩
  have HWI := As.mk hwi
  have HLD := As.mk hD.1
  have HD := As.mk (fun (w' : World) (hf : Fr None_ w w') => hD.none_ hf)
  have hfg := (Fr.refl None_ w).alloc (.cells #[.int .i64 g.c, .int .i64 g.b, .int .i64 g.p, .int .i64 g.s] 24)
  have hf1 := ((Fr.refl None_ w).alloc (.cells #[.int .i64 g.c, .int .i64 g.b, .int .i64 g.p, .int .i64 g.s] 24)).alloc (.cells zt TT)
  have HB1 := As.mk (at_new (.cells zt TT) (size_new (.cells #[.int .i64 g.c, .int .i64 g.b, .int .i64 g.p, .int .i64 g.s] 24) (rfl : w.heap.size = w.heap.size)))
  have HG1 := As.mk (at_old (.cells zt TT) (heap_alloc_new w (.cells #[.int .i64 g.c, .int .i64 g.b, .int .i64 g.p, .int .i64 g.s] 24)))
  have k0 := hf1.cell k0 (fun h => h)
  have k1 := hf1.cell k1 (fun h => h)
  have HF1 := As.mk hf1
  have HF0 := As.mk (Fr.refl None_ w)
  have HIT := As.mk (show isTab d o = ((openOf d o).2 && (decide ((openOf d o).1.kind = 1) && decide ((openOf d o).1.index = 0))) from rfl)
  have HOE := As.mk (show openOf d o = ((openOf d o).1, (openOf d o).2) from rfl)
  unfold Head.vals at HOP
  generalize (openOf d o).2 = ok at *
  generalize (openOf d o).1 = hh at *
  have hn0 : 0 < n := hn
  have hEO : ∀ args w, (callFunc 42 args).run Tryz.prog w = .ok (.enter 42 args) w := fun _ _ => rfl
  clear hD hO hf1 hrd hro hcd hco hx hfg hg hwi
  unfold Geo.val at HDE ⊢
  go_enter Tryz.func103, Tryz.ntmps103
  go_wp2_with fail
  generalize (w.alloc (.cells #[.int .i64 g.c, .int .i64 g.b, .int .i64 g.p, .int .i64 g.s] 24)).alloc (.cells zt TT) = w1 at *
  go_loopw [6, 7, 8, 9] (fun v6 v7 v8 v9 w' => (v6 = .slice none 0 0 ∧ v7 = .int .i64 1 ∧ v8 = .int .u32 0 ∧ v9 = .int .i64 0 ∧ w' = w1) ∨ (∃ t, As (x = some t) ∧ v7 = .int .i64 1 ∧ v8 = .int .u32 t.seq ∧ v9 = .int .i64 1 ∧ As (Row 5 .u8 w' w.heap.size v6 d) ∧ As (Fr None_ w1 w'))) (fun _ _ _ v9 _ => 1 - (intOf v9).toNat)
  case atStart => exact .inl ⟨rfl, rfl, rfl, rfl, rfl⟩
  case round =>
    rcases hrel with ⟨rfl, rfl, rfl, rfl, rfl⟩ | ⟨t, HT, rfl, rfl, rfl, HR, HF⟩
    · have dn : decide ((n : Int) ≤ 0) = false := decide_eq_false (by omega)
      have hni : (0 : Int) < (n : Int) := by omega
      have hnp : (0 : Int).toNat < n := by omega
      go_upto_region 9 with fail
      go_cut [10, 11] (fun v10 v11 wx => ∃ hb, v10 = .pointer (some ⟨hb, 0, none⟩) ∧ v11 = .bool ok ∧ As (Fr None_ wr wx) ∧ As (wx.heap[hb]? = some (.cells #[.int .u8 hh.kind, .int .u32 hh.epoch, .int .u32 hh.batch, .int .u16 hh.index, .int .u16 hh.count, .int .u32 hh.block, .int .u32 hh.more] 112 (0, 0))))
      case first =>
        have HA := As.mk ((Fr.refl None_ wr).alloc (.cells #[.int .u8 0, .int .u32 0, .int .u32 0, .int .u16 0, .int .u16 0, .int .u32 0, .int .u32 0] 112)).drew
        have HAH : As ((wr.alloc (.cells #[.int .u8 0, .int .u32 0, .int .u32 0, .int .u16 0, .int .u16 0, .int .u32 0, .int .u32 0] 112)).drew.heap[wr.heap.size]? = some (.cells #[.int .u8 0, .int .u32 0, .int .u32 0, .int .u16 0, .int .u16 0, .int .u32 0, .int .u32 0] 112 (0, 0))) := ⟨heap_alloc_new wr _⟩
        have ka0 := HA.out.cell k0 (fun h => h)
        have ka1 := HA.out.cell k1 (fun h => h)
        go_region_law (first
          | ((with_reducible refine step_call2 rfl 42 _ _ _ rfl (.slice D nd cd) (.slice O no co) rfl rfl hEO (HOP.out _ HF1.out.drew) (fun e w' h => ⟨_, h.1⟩) ?_); rintro v w2 ⟨hv, hf2⟩; injection hv with hv; subst hv; have HF2 := As.mk (undrew hf2); clear hf2)
          | ((with_reducible refine step_call2 rfl 42 _ _ _ rfl (.slice D nd cd) (.slice O no co) rfl rfl hEO (HOP.out _ (HF1.out.after HA.out (fun _ _ h => h))) (fun e w' h => ⟨_, h.1⟩) ?_); rintro v w2 ⟨hv, hf2⟩; injection hv with hv; subst hv; have HF2 := As.mk (HA.out.after hf2 (fun _ _ h => h)); have HH2 := As.mk (hf2.heap (HAH.out) (fun h => h)); have q0 := cell_is (i := 0) HH2.out rfl; have q1 := cell_is (i := 1) HH2.out rfl; have q2 := cell_is (i := 2) HH2.out rfl; have q3 := cell_is (i := 3) HH2.out rfl; have q4 := cell_is (i := 4) HH2.out rfl; have q5 := cell_is (i := 5) HH2.out rfl; have q6 := cell_is (i := 6) HH2.out rfl; have f0 := free_of (i := 0) HH2.out; have f1 := free_of (i := 1) HH2.out; have f2 := free_of (i := 2) HH2.out; have f3 := free_of (i := 3) HH2.out; have f4 := free_of (i := 4) HH2.out; have f5 := free_of (i := 5) HH2.out; have f6 := free_of (i := 6) HH2.out; clear hf2)
          | fail)
        all_goals
          go_wp2_with fail
          go_meet
          case rel => first
            | with_reducible exact ⟨_, rfl, rfl, ⟨HF2.out.alloc _⟩, ⟨heap_alloc_new w2 _⟩⟩
            | with_reducible exact ⟨_, rfl, rfl, ⟨fr_set7 HF2.out (fun h => absurd h (Nat.lt_irrefl _)) _ _ _ _ _ _ _⟩, ⟨heap_set7 HH2.out _ _ _ _ _ _ _⟩⟩
      case rest =>
        obtain ⟨hb, rfl, rfl, HF2, HH2⟩ := hcut
        rename World => w2
        have hF := HF1.out.after HF2.out (fun _ _ h => h)
        have HF3 := As.mk hF
        have HB3 := As.mk (HF2.out.heap HB1.out (fun h => h))
        have h0 := cell_is (i := 0) HH2.out rfl
        have h1 := cell_is (i := 1) HH2.out rfl
        have h3 := cell_is (i := 3) HH2.out rfl
        have h4 := cell_is (i := 4) HH2.out rfl
        clear hF
        rcases x with _ | t
        · have hno : isTab d o = false := HX.out
          rw [HIT.out] at hno
          have hk := HF2
          have r0 := cell_is (i := 0) HB3.out rfl
          have r1 := cell_is (i := 1) HB3.out rfl
          have r2 := cell_is (i := 2) HB3.out rfl
          have r3 := cell_is (i := 3) HB3.out rfl
          have r4 := cell_is (i := 4) HB3.out rfl
          have f0 := free_of (i := 0) HB3.out
          have f1 := free_of (i := 1) HB3.out
          have f2 := free_of (i := 2) HB3.out
          have f3 := free_of (i := 3) HB3.out
          have f4 := free_of (i := 4) HB3.out
          have hw3 : IntKind.i64.wrap hh.index = hh.index := HWI.out.1
          have hh3 : ok = false ∨ (ok = true ∧ (hh.kind != 1) = true) ∨ (ok = true ∧ (hh.kind != 1) = false ∧ (hh.index != 0) = true) := by
            cases ok
            · exact .inl rfl
            · simp only [Bool.true_and, Bool.and_eq_false_iff, decide_eq_false_iff_not] at hno
              simp only [bne_iff_ne, bne_eq_false_iff_eq, true_and]
              by_cases e : hh.kind = 1
              · exact .inr (.inr ⟨e, by rcases hno with h | h; exact absurd e h; exact h⟩)
              · exact .inr (.inl e)
          clear hno HX
          rcases hh3 with rfl | ⟨rfl, d1⟩ | ⟨rfl, d1, d2⟩
          · skip
            go_wp2_with fail
            obtain ⟨s1, s2, s3⟩ := set5 HF3.out (by omega) HB3.out (.int .u32 0) (.slice none 0 0) (.slice none 0 0) (.int .i64 0) (.int .i64 0)
            clear r0 r1 r2 r3 r4 f0 f1 f2 f3 f4
            generalize ((((w2.setCell ⟨w.heap.size + 1, 0, none⟩ (.int .u32 0)).setCell ⟨w.heap.size + 1, 1, none⟩ (.slice none 0 0)).setCell ⟨w.heap.size + 1, 2, none⟩ (.slice none 0 0)).setCell ⟨w.heap.size + 1, 3, none⟩ (.int .i64 0)).setCell ⟨w.heap.size + 1, 4, none⟩ (.int .i64 0) = wf at *
            have r0 := cell_is (i := 0) s2 rfl
            have r1 := cell_is (i := 1) s2 rfl
            have r2 := cell_is (i := 2) s2 rfl
            have r3 := cell_is (i := 3) s2 rfl
            have r4 := cell_is (i := 4) s2 rfl
            exact bodyPost_ret (v := .tuple #[.agg zt, .int .i64 62]) (by simp [results, Tryz.results103, go_sem, r0, r1, r2, r3, r4]) rfl ⟨s1, rfl⟩
          · skip
            go_wp2_with fail
            obtain ⟨s1, s2, s3⟩ := set5 HF3.out (by omega) HB3.out (.int .u32 0) (.slice none 0 0) (.slice none 0 0) (.int .i64 0) (.int .i64 0)
            clear r0 r1 r2 r3 r4 f0 f1 f2 f3 f4
            generalize ((((w2.setCell ⟨w.heap.size + 1, 0, none⟩ (.int .u32 0)).setCell ⟨w.heap.size + 1, 1, none⟩ (.slice none 0 0)).setCell ⟨w.heap.size + 1, 2, none⟩ (.slice none 0 0)).setCell ⟨w.heap.size + 1, 3, none⟩ (.int .i64 0)).setCell ⟨w.heap.size + 1, 4, none⟩ (.int .i64 0) = wf at *
            have r0 := cell_is (i := 0) s2 rfl
            have r1 := cell_is (i := 1) s2 rfl
            have r2 := cell_is (i := 2) s2 rfl
            have r3 := cell_is (i := 3) s2 rfl
            have r4 := cell_is (i := 4) s2 rfl
            exact bodyPost_ret (v := .tuple #[.agg zt, .int .i64 62]) (by simp [results, Tryz.results103, go_sem, r0, r1, r2, r3, r4]) rfl ⟨s1, rfl⟩
          · skip
            go_wp2_with fail
            obtain ⟨s1, s2, s3⟩ := set5 HF3.out (by omega) HB3.out (.int .u32 0) (.slice none 0 0) (.slice none 0 0) (.int .i64 0) (.int .i64 0)
            clear r0 r1 r2 r3 r4 f0 f1 f2 f3 f4
            generalize ((((w2.setCell ⟨w.heap.size + 1, 0, none⟩ (.int .u32 0)).setCell ⟨w.heap.size + 1, 1, none⟩ (.slice none 0 0)).setCell ⟨w.heap.size + 1, 2, none⟩ (.slice none 0 0)).setCell ⟨w.heap.size + 1, 3, none⟩ (.int .i64 0)).setCell ⟨w.heap.size + 1, 4, none⟩ (.int .i64 0) = wf at *
            have r0 := cell_is (i := 0) s2 rfl
            have r1 := cell_is (i := 1) s2 rfl
            have r2 := cell_is (i := 2) s2 rfl
            have r3 := cell_is (i := 3) s2 rfl
            have r4 := cell_is (i := 4) s2 rfl
            exact bodyPost_ret (v := .tuple #[.agg zt, .int .i64 62]) (by simp [results, Tryz.results103, go_sem, r0, r1, r2, r3, r4]) rfl ⟨s1, rfl⟩
        · obtain ⟨hx1, hx2, hx3⟩ := HX.out
          rw [HOE.out] at hx1
          obtain ⟨rfl, rfl⟩ := Prod.mk.inj hx1
          have HD4 := As.mk ((HD.out w HF0.out).none_ HF3.out)
          have k0 := HF2.out.cell k0 (fun h => h)
          have hl := HLD.out
          change w2.cell? ⟨hb, 0, none⟩ = some (.int .u8 1) at h0
          change w2.cell? ⟨hb, 1, none⟩ = some (.int .u32 t.seq) at h1
          change w2.cell? ⟨hb, 3, none⟩ = some (.int .u16 0) at h3
          change w2.cell? ⟨hb, 4, none⟩ = some (.int .u16 1) at h4
          go_upto_region 12 with fail
          go_quiet (fail)
          have HF4 := As.mk (HF3.out.drewN nq)
          have HFq := As.mk (HF2.out.drewN nq)
          have HD5 := As.mk (HD4.out.none_ ((Fr.refl None_ w2).drewN nq))
          have k5 : (w2.drewN nq).cell? ⟨lb, 0, none⟩ = some (.slice D nd cd) := k0
          generalize w2.drewN nq = w3 at *
          go_wp2_with (at_builtin; (with_reducible refine appendRow w.heap.size rfl _ _ 48 5 .u8 1 rfl Tryz.underlying48 infoByte (by decide) (.slice none 0 0) [] d D nd cd rfl rfl (Row.nil _ _ _ _) HD5.out HF4.out.size ?c1 ?_); (case c1 => simp; omega); intro v1 w4 hrow1 hfr1 hat1; have HR1 := As.mk hrow1; have HF5 := As.mk (show Fr None_ w3 w4 from (Fr.refl None_ w3).after hfr1 (fun _ _ h => by cases h)); clear hrow1 hfr1 hat1)
          exact ⟨.inr ⟨t, ⟨rfl⟩, rfl, rfl, rfl, ⟨by simpa using HR1.out⟩, ⟨HFq.out.after HF5.out (fun _ _ h => h)⟩⟩, by simp [intOf]⟩
    · have hx := HX.out
      rw [HT.out] at hx
      obtain ⟨hx1, hx2, hx3⟩ := hx
      obtain ⟨A1, n1, c1, e1, hm1, hd1, _⟩ := HR.out.rd
      subst e1
      have HF3 := As.mk (HF1.out.after HF.out (fun _ _ h => h))
      have HDE2 := As.mk (HDE.out A1 n1 c1 t wr hd1.out hm1.out hx2 hx3)
      have HB3 := As.mk (HF.out.heap HB1.out (fun h => h))
      have hG3 := HF.out.heap HG1.out (fun h => h)
      have g0 := cell_is (i := 0) hG3 rfl
      have g1 := cell_is (i := 1) hG3 rfl
      have g2 := cell_is (i := 2) hG3 rfl
      have g3 := cell_is (i := 3) hG3 rfl
      clear hG3 hx1 hx2 hx3 hm1 hd1 k0 k1
      go_wp2_with fail
      ((with_reducible refine (HDE2.out).mono ?_); rintro e w4 ⟨v, rfl, ht4, hf4⟩)
      have HT4 := As.mk (ht4.lower HF3.out.size)
      obtain ⟨v1, v2, rfl, hr1, hr2⟩ := ht4
      obtain ⟨A3, n3, c3, e3, _, _, _⟩ := hr1.rd
      subst e3
      obtain ⟨A4, n4, c4, e4, _, _, _⟩ := hr2.rd
      subst e4
      have hfa : Fr None_ w4 (w4.alloc (.cells #[.int .u32 t.seq, .slice A3 n3 c3, .slice A4 n4 c4, .int .i64 t.t0, .int .i64 t.t1] TT)) := (Fr.refl None_ w4).alloc _
      have HA5 := As.mk (heap_alloc_new w4 (.cells #[.int .u32 t.seq, .slice A3 n3 c3, .slice A4 n4 c4, .int .i64 t.t0, .int .i64 t.t1] TT))
      have HT5 := As.mk (HT4.out.none_ hfa)
      have HF5 := As.mk ((HF3.out.after hf4 (fun _ _ h => h)).after hfa (fun _ _ h => h))
      have HB5 := As.mk (hfa.heap (hf4.heap HB3.out (fun h => h)) (fun h => h))
      clear hr1 hr2 hfa hf4 HT4 HDE2
      go_upto_region 15 with fail
      generalize w4.alloc (.cells #[.int .u32 t.seq, .slice A3 n3 c3, .slice A4 n4 c4, .int .i64 t.t0, .int .i64 t.t1] TT) = w5 at *
      generalize w4.heap.size = tb at *
      have q0 := cell_is (i := 0) HA5.out rfl
      have q1 := cell_is (i := 1) HA5.out rfl
      have q2 := cell_is (i := 2) HA5.out rfl
      have q3 := cell_is (i := 3) HA5.out rfl
      have q4 := cell_is (i := 4) HA5.out rfl
      have r0 := cell_is (i := 0) HB5.out rfl
      have r1 := cell_is (i := 1) HB5.out rfl
      have r2 := cell_is (i := 2) HB5.out rfl
      have r3 := cell_is (i := 3) HB5.out rfl
      have r4 := cell_is (i := 4) HB5.out rfl
      have f0 := free_of (i := 0) HB5.out
      have f1 := free_of (i := 1) HB5.out
      have f2 := free_of (i := 2) HB5.out
      have f3 := free_of (i := 3) HB5.out
      have f4 := free_of (i := 4) HB5.out
      have hxt := HT.out
      go_wp2_with fail
      obtain ⟨s1, s2, s3⟩ := set5 HF5.out (by omega) HB5.out (.int .u32 t.seq) (.slice A3 n3 c3) (.slice A4 n4 c4) (.int .i64 t.t0) (.int .i64 t.t1)
      have HB6 := HB5
      have ht6 : TabR ((((((w5.setCell ⟨w.heap.size + 1, 0, none⟩ (.int .u32 t.seq)).setCell ⟨w.heap.size + 1, 1, none⟩ (.slice A3 n3 c3)).setCell ⟨w.heap.size + 1, 2, none⟩ (.slice A4 n4 c4)).setCell ⟨w.heap.size + 1, 3, none⟩ (.int .i64 t.t0)).setCell ⟨w.heap.size + 1, 4, none⟩ (.int .i64 t.t1))) w.heap.size (.agg #[.int .u32 t.seq, .slice A3 n3 c3, .slice A4 n4 c4, .int .i64 t.t0, .int .i64 t.t1]) t := by
        obtain ⟨v1, v2, e, z1, z2⟩ := HT5.out
        exact ⟨v1, v2, e, z1.fr s3 (fun b hb e => by subst e; exact Row.ne z1 HB5.out (by decide) hb), z2.fr s3 (fun b hb e => by subst e; exact Row.ne z2 HB5.out (by decide) hb)⟩
      clear r0 r1 r2 r3 r4 f0 f1 f2 f3 f4 q0 q1 q2 q3 q4
      generalize ((((w5.setCell ⟨w.heap.size + 1, 0, none⟩ (.int .u32 t.seq)).setCell ⟨w.heap.size + 1, 1, none⟩ (.slice A3 n3 c3)).setCell ⟨w.heap.size + 1, 2, none⟩ (.slice A4 n4 c4)).setCell ⟨w.heap.size + 1, 3, none⟩ (.int .i64 t.t0)).setCell ⟨w.heap.size + 1, 4, none⟩ (.int .i64 t.t1) = wf at *
      have r0 := cell_is (i := 0) s2 rfl
      have r1 := cell_is (i := 1) s2 rfl
      have r2 := cell_is (i := 2) s2 rfl
      have r3 := cell_is (i := 3) s2 rfl
      have r4 := cell_is (i := 4) s2 rfl
      exact bodyPost_ret (v := .tuple #[.agg #[.int .u32 t.seq, .slice A3 n3 c3, .slice A4 n4 c4, .int .i64 t.t0, .int .i64 t.t1], .int .i64 0]) (by simp [results, Tryz.results103, go_sem, r0, r1, r2, r3, r4]) rfl ⟨s1, by rw [hxt]; exact ⟨_, rfl, ht6⟩⟩
end Go.Proofs.YteofgpaceeibpaaGreat.RemapG

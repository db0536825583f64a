/- point.Read: the walk. -/
import Derived.Test.YtlhgbamajabnfaaPRead1
import Derived.Sort.CutIn
namespace Go.Proofs.Ytlhgbamajabnfaa.PRead2
open Go.RowKit Go.Proofs.Ytlhgbamajabnfaa.Gab Go.Proofs.Ytlhgbamajabnfaa.Wr Go.Proofs.Ytlhgbamajabnfaa.Geom Go.Proofs.Ytlhgbamajabnfaa.Fields Go.Proofs.Ytlhgbamajabnfaa.Ord Go.Proofs.Ytlhgbamajabnfaa.Iter Go.Proofs.Ytlhgbamajabnfaa.Write Go.Proofs.Ytlhgbamajabnfaa.Stripe Go.Proofs.Ytlhgbamajabnfaa.PRead1
open Go.Proofs.Ytlhgbamajabnfaa.Point1 (cell_is)
open Go.Proofs.Ytlhgbamajabnfaa.Ram (RamE Geo_calls)
attribute [local go_sem] Oper.semAt_some
set_option linter.unusedVariables false
set_option linter.unusedSimpArgs false

/-- What the rows of a segment are: whole ones, with their pages. -/
structure RowsAre (s : Ram.St) (p : Nat) (seg : Int) (is : Nat → Bool) (L : Nat → List (Head × List Int)) (w : World) : Prop where
  lok : ∀ k : Nat, (k : Int) < s.g.p → is k = true → LOk s.g (L k)
  whole : ∀ k : Nat, (k : Int) < s.g.p → is k = true → ∀ w', Fr None_ w w' → Calls Try.prog 26 #[dev p, .int .i64 seg, .int .i64 (k : Int)] w' (SRow2.RowPost2 s p (L k) w')
  not : ∀ k : Nat, (k : Int) < s.g.p → is k = false → ∀ w', Fr None_ w w' → Calls Try.prog 26 #[dev p, .int .i64 seg, .int .i64 (k : Int)] w' fun e w'' => ∃ c : Int, c ≠ 2 ∧ e = .returned (.tuple #[.slice none 0 0, .int .i64 c, .int .i64 0]) ∧ Fr None_ w' w''

/-- What is proved in a later declaration. -/
structure Later (p : Prop) : Prop where mk :: (out : p)
/-- Is what Read has found a point? -/
def Good (S : Nat) (st : RSt) : Prop := st.whole = true ∧ 1 ≤ st.n ∧ (st.b.length : Int) = st.n * S
def ReadPost (W S : Nat) (P : Nat) (is : Nat → Bool) (L : Nat → List (Head × List Int)) (w : World) (e : Ending) (w' : World) : Prop :=
  ∃ m st, m ≤ P ∧ (∀ k, k < m → is k = true) ∧ (m < P → is m = false) ∧ st = rowsSt W L (List.range m) ∧
    ((¬ (Good S st ∧ Dec5.IsPt st.b ∧ Dec3.nb st.b 0 = st.most) ∧ e = .returned (.tuple #[.agg #[.int .u32 0, .int .u32 0, .slice none 0 0, .slice none 0 0], .bool false, .int .u32 st.most, .int .i64 0]) ∧ Fr None_ w w') ∨
     ((Good S st ∧ Dec5.IsPt st.b ∧ Dec3.nb st.b 0 = st.most) ∧ ∃ vM vE, e = .returned (.tuple #[.agg #[.int .u32 st.most, .int .u32 (Dec3.nb st.b 4), vM, vE], .bool true, .int .u32 st.most, .int .i64 0]) ∧
       Row 51 .u32 w' w.heap.size vM (Dec3.nbs st.b 16 (Dec3.nb st.b 8).toNat) ∧ Row 51 .u32 w' w.heap.size vE (Dec3.nbs st.b (16 + 4 * (Dec3.nb st.b 8).toNat) (Dec3.nb st.b 12).toNat) ∧ Fr None_ w w'))

set_option maxHeartbeats 8000000 in
set_option maxRecDepth 100000 in
def part1 : { T : Prop // Later T → ∀ (p : Nat) (s : Ram.St) (which : Int) (S Wd : Nat) (w : World) (is : Nat → Bool) (L : Nat → List (Head × List Int)) (hR : RamE w p s) (hS : s.g.s = S) (hWd : (Wd : Int) = s.g.c - 1) (hw : which = 0 ∨ which = 1) (hA : RowsAre s p (2 + which) is L w),
    Calls Try.prog 41 #[dev p, .int .i64 which] w (ReadPost Wd S s.g.p.toNat is L w) } := by
  refine ⟨?T, fun hT => ?X⟩
  case X =>
    intro p s which S Wd w is L hR hS hWd hw hA
    have HWD := As.mk hWd
    clear hWd
    have hok : s.g.Ok := by obtain ⟨_, _, _, _, _, h⟩ := hR; exact h.ok
    have HG := As.mk (fun w' (hf : Fr None_ w w') => Geo_calls p s w' (hR.none_ hf))
    have HRW := As.mk (fun w => Rows_calls s.g (2 + which) w)
    unfold Geo.val at HG HRW
    have HS6 := As.mk (show Fr None_ w (six w p which) from (six_is w p which).1)
    have HS7 := As.mk (six_is w p which).2.1
    have HSS := As.mk hS
    clear hS
    have h6 : six w p which = (((((w.alloc (.cells #[dev p] 105)).alloc (.cells #[.int .i64 which] 3)).alloc (.cells #[.int .u32 0, .int .u32 0, .slice none 0 0, .slice none 0 0] 73)).alloc (.cells #[.bool false] 4)).alloc (.cells #[.int .u32 0] 51)).alloc (.cells #[.int .i64 0] 42) := rfl
    obtain ⟨w6, h6'⟩ : ∃ w6, w6 = six w p which := ⟨_, rfl⟩
    rw [← h6'] at h6 HS6 HS7
    unfold dev at *
    have hme : ∀ W : World, (method 285 30 (.pointer (some ⟨p, 0, none⟩)) "Geo").run Try.prog W = .ok (108, .pointer (some ⟨p, 0, none⟩)) W := fun _ => by kernel_rfl
    have d1 : decide (which < 0) = false := decide_eq_false (by omega)
    have d2 : decide (1 < which) = false := decide_eq_false (by omega)
    refine (callsIn_wide (n := 3)).1 ?_
    refine callsIn_of_wp_marks Try.func41 rfl trivial ?_ rfl
    simp only [Try.ntmps41, List.size_toArray, List.length_cons, List.length_nil, Nat.reduceAdd, Nat.reduceSub, Array.replicate_succ, Array.replicate_zero, List.push_toArray, List.append_toArray, List.nil_append, List.cons_append]
    gi_wp2
    rw [← h6]
    refine ⟨trivial, (callsIn_wide.2 (HG.out w6 HS6.out)).mono ?_⟩
    rintro e w7 ⟨rfl, hf7⟩
    have H67 := As.mk hf7
    clear hf7
    obtain ⟨w8, h8⟩ : ∃ w8, w8 = four w7 s.g := ⟨_, rfl⟩
    obtain ⟨hM, hz8⟩ := Mem.start h6' H67.out h8
    have HM := As.mk hM
    have HZ8 := As.mk hz8
    clear hz8
    have k3 := cell_of hM.wh
    have g0 := cell_is (i := 0) hM.ge rfl
    have g1 := cell_is (i := 1) hM.ge rfl
    have g2 := cell_is (i := 2) hM.ge rfl
    have g3 := cell_is (i := 3) hM.ge rfl
    dsimp only at k3 g0 g1 g2 g3
    clear hM
    have h8' := h8
    unfold four at h8'
    rw [h8'] at k3 g0 g1 g2 g3
    clear h8
    gi_wp2
    rw [← h8']
    clear h8'
    refine ⟨trivial, (callsIn_wide.2 (HRW.out w8)).mono ?_⟩
    rintro e w9 ⟨rfl, hf9, hz9, hgb, hsb⟩
    have HM9 := As.mk (HM.out.none_ hf9)
    have HZ9 := As.mk hz9
    have HGB := As.mk (And.intro hgb hsb)
    clear hz9 hgb hsb
    clear k3 g0 g1 g2 g3 HM hf9
    gi_wp2
    have hz9 := HZ9.out
    obtain ⟨hgb, hsb⟩ := HGB.out
    have hgb9 : w8.heap.size < w9.heap.size := by omega
    have hsb9 : w8.heap.size + 1 < w9.heap.size := by omega
    have hz09 : w.heap.size ≤ w9.heap.size := HM9.out.fr.size
    have hz48 : w.heap.size + 1 + 1 + 1 + 1 < w8.heap.size := by have h1 := H67.out.size; have h2 := HZ8.out; have h3 := HS6.out.size; have h4 := HS7.out; omega
    have hz78 : w7.heap.size + 1 + 1 + 1 < w8.heap.size := by have h2 := HZ8.out; omega
    clear h6 h6' hz9
    have HSOF : As (∀ J, J ≤ s.g.p.toNat → (∀ k, k < J → is k = true) → (rowsSt Wd L (List.range J)).Ok 1000000) := ⟨fun J hJ hall => by
      have h1 := hok.c
      have h2 := hok.p
      have h3 := hok.s
      have h4 := HWD.out
      have h5 := HSS.out
      have h := rowsSt_ok (W := Wd) (S := S) (L := L) (List.range J) (fun k hk => by
        have hk2 := List.mem_range.1 hk
        have hl := hA.lok k (by omega) (hall k hk2)
        have h6 := hl.len
        exact ⟨by omega, fun q hq => ⟨(hl.head q hq).1, by have := (hl.data q hq).1; omega, (hl.data q hq).2⟩⟩)
      have e1 : Wd * S ≤ 15 * 1024 := Nat.mul_le_mul (by omega) (by omega)
      have e2 : (List.range J).length * (Wd * S) ≤ 32 * (15 * 1024) := Nat.mul_le_mul (by rw [List.length_range]; omega) e1
      exact ⟨h.n, h.most, by have := h.len; omega, h.range⟩⟩
    refine wpIn_rangeFunc_ownG rfl (by omega) (gf := 86) (lb := #[.pointer (some ⟨w8.heap.size, 0, none⟩), .pointer (some ⟨w8.heap.size + 1, 0, none⟩)]) rfl trivial (fun _ _ => rfl) (encs := encs s.g (2 + which)) (Kp := Caught w8.heap.size (w8.heap.size + 1)) (S := fun xs => xs.map Fin.val = List.range s.g.p.toNat) (Sp := fun pre => ∃ j, j < s.g.p.toNat ∧ pre.map Fin.val = List.range (j + 1)) (N := s.g.p.toNat)
      (fun l J Jx W hW hJ hJx hY h0 => rows_in (3 - 1) (by decide) s.g hok (2 + which) (by have := hok.b; omega) w8.heap.size (w8.heap.size + 1) l J Jx W hJ hY ((hW.block _ hgb9).trans hgb) ((hW.block _ hsb9).trans hsb) h0)
      (fun h k => ⟨k.1.trans h.1, k.2.trans h.2⟩)
      (fun W l o o' hl ho hc hw => ⟨World.putObj_heap_other (by omega), World.putObj_heap_other (by omega)⟩)
      (Below.refl _ _) (fun _ => rfl)
      (fun pre W => ∃ v, Mem w W p which s.g ⟨w.heap.size, w.heap.size + 1, w.heap.size + 1 + 1, w.heap.size + 1 + 1 + 1, w.heap.size + 1 + 1 + 1 + 1, w.heap.size + 1 + 1 + 1 + 1 + 1, w7.heap.size, w7.heap.size + 1, w7.heap.size + 1 + 1, w7.heap.size + 1 + 1 + 1⟩ (rowsSt Wd L (pre.map Fin.val)) v ∧ (∀ x ∈ pre, is x.val = true) ∧ w9.heap.size ≤ W.heap.size ∧ Caught w8.heap.size (w8.heap.size + 1) w9 W)
      (fun c pre W => c = .exit 0 ∧ ∃ v pre' x, pre = pre' ++ [x] ∧ is x.val = false ∧ Mem w W p which s.g ⟨w.heap.size, w.heap.size + 1, w.heap.size + 1 + 1, w.heap.size + 1 + 1 + 1, w.heap.size + 1 + 1 + 1 + 1, w.heap.size + 1 + 1 + 1 + 1 + 1, w7.heap.size, w7.heap.size + 1, w7.heap.size + 1 + 1, w7.heap.size + 1 + 1 + 1⟩ (rowsSt Wd L (pre'.map Fin.val)) v ∧ (∀ x ∈ pre', is x.val = true))
      (fun pre W W' row hs hg hr => by
        obtain ⟨v, h1, h2⟩ := hs
        exact ⟨v, h1.kept hg hz09 hr, h2.1, Nat.le_trans h2.2.1 hg.size, (hg.block _ (Nat.lt_of_lt_of_le hgb9 h2.2.1) (fun e => by have := (hr _ e.symm).1; omega)).trans h2.2.2.1, (hg.block _ (Nat.lt_of_lt_of_le hsb9 h2.2.1) (fun e => by have := (hr _ e.symm).1; omega)).trans h2.2.2.2⟩)
      (fun c pre W W' row hs hg hr => by
        obtain ⟨hc, v, pre', x, h1, h2, h3, h4⟩ := hs
        exact ⟨hc, v, pre', x, h1, h2, h3.kept hg hz09 hr, h4⟩)
      ⟨_, HM9.out, (fun x hx => by cases hx), Nat.le_refl _, rfl, rfl⟩ ?a1 ?assign ?body ?done ?stop
    case assign =>
      intro l x W K hK
      simp [encs]
      gi_wp2
      exact hK
    case body =>
      rintro l pre x W ⟨v, hm, hall, hsz, hcw⟩ hlen
      have HM := As.mk hm
      have HAL := As.mk hall
      have hxp : (x.val : Int) < s.g.p := by have := x.isLt; omega
      have kd := cell_of hm.d
      have kw := cell_of hm.wh
      dsimp only at kd kw
      have hRW1 := hA.whole x.val hxp
      have hRW2 := hA.not x.val hxp
      have HLO := As.mk (hA.lok x.val hxp)
      have hfW := hm.fr
      clear hm hall
      have HZW : As (w9.heap.size ≤ W.heap.size) := ⟨hsz⟩
      have HCW := As.mk hcw
      clear hcw
      rcases hix : is x.val with _ | _
      · have HIX := As.mk hix
        have HRN := As.mk (hRW2 hix W hfW)
        clear hix hRW1 hRW2
        unfold dev at HRN
        gi_wp2
        refine ⟨trivial, (CallsIn.inRound l (callsIn_wide.2 (HRN.out))).mono ?_⟩
        rintro e w2 ⟨c, hc2, rfl, hf2⟩
        have HF2 := As.mk hf2
        have hcb : (c != 2) = true := by simp [hc2]
        clear hf2 kd kw
        gi_wp2
        have hcap := (Kept.refl w9.heap.size w8.heap.size (w8.heap.size + 1) W).none_ HF2.out (Nat.lt_of_lt_of_le hgb9 HZW.out) (Nat.lt_of_lt_of_le hsb9 HZW.out)
        exact ⟨hcap.from_, rfl, v, pre, x, rfl, HIX.out, HM.out.none_ HF2.out, HAL.out⟩
      · have HIX := As.mk hix
        have HRN := As.mk (hRW1 hix W hfW)
        have HLK := As.mk (HLO.out hix)
        clear hix hRW1 hRW2
        unfold dev at HRN
        have HW0 := As.mk (Kept.refl w9.heap.size w8.heap.size (w8.heap.size + 1) W)
        gi_wp2
        refine ⟨trivial, (CallsIn.inRound l (callsIn_wide.2 (HRN.out))).mono ?_⟩
        rintro e w2 ⟨A, c, n, vs, rfl, hn, hC, hSP, hFS, hAN, hf2⟩
        have HM2 := As.mk (HM.out.none_ hf2)
        have HK2 := As.mk (HW0.out.none_ hf2 (Nat.lt_of_lt_of_le hgb9 HZW.out) (Nat.lt_of_lt_of_le hsb9 HZW.out))
        have hnW : n = Wd := by have := HWD.out; omega
        have HLL := As.mk (show (L x.val).length = n by have := HLK.out.len; omega)
        have HPG := As.mk (Pg.of (s := s) hC hSP HLL.out hFS hAN)
        have hWw : W.heap.size ≤ w2.heap.size := hf2.size
        have hz2 : w9.heap.size ≤ w2.heap.size := Nat.le_trans HZW.out hf2.size
        clear hf2 hC hSP hFS hAN kd kw hn
        have hks : ∀ k ∈ pre.map Fin.val, (L k).length = Wd ∧ ∀ q ∈ L k, q.1.Ok ∧ q.2.length = S ∧ InR 256 q.2 := fun k hk => by
          obtain ⟨y, hy, rfl⟩ := List.mem_map.1 hk
          have hl := hA.lok y.val (by have := y.isLt; omega) (HAL.out y hy)
          have h1 := hl.len
          have h2 := HWD.out
          exact ⟨by omega, fun q hq => ⟨(hl.head q hq).1, by have := (hl.data q hq).1; have := HSS.out; omega, (hl.data q hq).2⟩⟩
        have hst0 := rowsSt_ok _ hks
        rw [List.length_map] at hst0
        have hLx : ∀ q ∈ L x.val, q.1.Ok ∧ q.2.length = S ∧ InR 256 q.2 := fun q hq => ⟨(HLK.out.head q hq).1, by have := (HLK.out.data q hq).1; have := HSS.out; omega, (HLK.out.data q hq).2⟩
        have HLX := As.mk hLx
        have HST := As.mk (fun j (hj : j ≤ (L x.val).length) => pagesTo_ok (W := Wd) (k := x.val) hLx hst0 j hj)
        have hbnd : ∀ j, j ≤ n → pre.length * (Wd * S) + j * S ≤ 32 * (15 * 1024) + 15 * 1024 := fun j hj => by
          have h1 := hok.c
          have h2 := hok.p
          have h3 := hok.s
          have h4 := HWD.out
          have h5 := HSS.out
          have e1 : Wd * S ≤ 15 * 1024 := Nat.mul_le_mul (by omega) (by omega)
          have e2 : pre.length * (Wd * S) ≤ 32 * (15 * 1024) := Nat.mul_le_mul (by omega) e1
          have e3 : j * S ≤ 15 * 1024 := Nat.mul_le_mul (by omega) (by omega)
          omega
        have HBN := As.mk hbnd
        have hrow0 : ∀ b, v.ownBlock = some b → b < W.heap.size ∨ w2.heap.size ≤ b := fun b hb => .inl (HM.out.row.blk b hb).2.1
        have HR0 := As.mk hrow0
        generalize hst0' : rowsSt Wd L (pre.map Fin.val) = st0 at *
        generalize hlx' : L x.val = lx at *
        have HEQ := As.mk (And.intro hst0' hlx')
        clear hst0' hlx'
        have hx32 : x.val < 32 := by have := hok.p; have := x.isLt; omega
        have hW15 : 2 ≤ Wd ∧ Wd ≤ 15 := by have := hok.c; have := HWD.out; omega
        clear hks hst0 hLx hbnd hrow0
        gi_wp2
        gi_loopw [16, 17, 18, 55] (fun v16 v17 v18 v55 wr => ∃ (j : Nat) (v' : Value), v55 = .int .i64 (j : Int) ∧ j ≤ n ∧ As (Mem w wr p which s.g ⟨w.heap.size, w.heap.size + 1, w.heap.size + 1 + 1, w.heap.size + 1 + 1 + 1, w.heap.size + 1 + 1 + 1 + 1, w.heap.size + 1 + 1 + 1 + 1 + 1, w7.heap.size, w7.heap.size + 1, w7.heap.size + 1 + 1, w7.heap.size + 1 + 1 + 1⟩ (pagesTo Wd x.val lx j st0) v') ∧ As (Kept w9.heap.size w8.heap.size (w8.heap.size + 1) W wr) ∧ As (Pg W.heap.size w2.heap.size wr A n vs lx) ∧ As (∀ b, v'.ownBlock = some b → b < W.heap.size ∨ w2.heap.size ≤ b) ∧ As (w2.heap.size ≤ wr.heap.size)) (fun _ _ _ v55 _ => n - (intOf v55).toNat)
        case atStart => exact ⟨0, v, rfl, by omega, HM2, HK2, HPG, HR0, ⟨Nat.le_refl _⟩⟩
        case round =>
          obtain ⟨j, v', rfl, hj, HMj, HKj, HPj, HRj, HZj⟩ := hrel
          by_cases hlt : j < n
          · have hltI : (j : Int) < (n : Int) := by omega
            have hjl : j < lx.length := by have := HLL.out; omega
            obtain ⟨ad, ax, D, nd, cd, rfl, hax, y0, y1, y2, y3, y4, y5, y6, y7, hnd, hD, hDb, hok8⟩ := HPj.out.at_ j hlt
            have HDA := As.mk (And.intro hnd (And.intro hD hDb))
            have HOK8 := As.mk hok8
            have HNS : As (nd = S) := ⟨by have h1 := hD.1; have h2 := (HLX.out _ (getD_mem hjl noPage)).2.1; omega⟩
            have hS1024 : S ≤ 1024 := by have h1 := hok.s; have h2 := HSS.out; omega
            have HSJ := As.mk (HST.out j (by omega))
            have HSTEP : As (pagesTo Wd x.val lx (j + 1) st0 = stepPage ((x.val * Wd + j : Nat) : Int) (lx.getD j noPage) (pagesTo Wd x.val lx j st0)) := ⟨rfl⟩
            have hbj := HBN.out j (by omega)
            have hlen8 := HSJ.out.len
            generalize pagesTo Wd x.val lx j st0 = st at *
            generalize lx.getD j noPage = q at *
            clear hnd hD hDb hok8
            have hxW : x.val * Wd ≤ 32 * 15 := Nat.mul_le_mul (by omega) (by omega)
            obtain ⟨i, hi⟩ : ∃ i : Nat, x.val * Wd + j = i := ⟨_, rfl⟩
            have hwr1 : IntKind.i64.wrap ((x.val : Int) * (Wd : Int)) = ((x.val * Wd : Nat) : Int) := by
              rw [show (x.val : Int) * (Wd : Int) = ((x.val * Wd : Nat) : Int) by push_cast; rfl]
              exact i64_in _ (by omega) (by omega)
            have hwr2 : ((x.val * Wd : Nat) : Int) + (j : Int) = (i : Int) := by omega
            rw [hi] at HSTEP
            have hi64 : i < 1000 := by omega
            generalize x.val * Wd = xW at *
            have HWDc := As.mk (fun w => Width_calls s.g w hok)
            unfold Geo.val at HWDc
            rw [← HWD.out] at HWDc
            have HIX2 := As.mk (And.intro hi hi64)
            clear hi64
            gi_upto_region 17 with fail
            have HNEW := As.mk (heap_alloc_new wr (.cells #[.int .u8 q.1.kind, .int .u32 q.1.epoch, .int .u32 q.1.batch, .int .u16 q.1.index, .int .u16 q.1.count, .int .u32 q.1.block, .int .u32 q.1.more, .slice D nd cd] 56))
            have HFA := As.mk ((Fr.refl None_ wr).alloc (.cells #[.int .u8 q.1.kind, .int .u32 q.1.epoch, .int .u32 q.1.batch, .int .u16 q.1.index, .int .u16 q.1.count, .int .u32 q.1.block, .int .u32 q.1.more, .slice D nd cd] 56))
            clear y0 y1 y2 y3 y4 y5 y6 y7
            generalize wr.alloc (.cells #[.int .u8 q.1.kind, .int .u32 q.1.epoch, .int .u32 q.1.batch, .int .u16 q.1.index, .int .u16 q.1.count, .int .u32 q.1.block, .int .u32 q.1.more, .slice D nd cd] 56) = wa at *
            generalize hxb : wr.heap.size = xb at HNEW ⊢
            have HM4 := As.mk (HMj.out.none_ HFA.out)
            have e0 := cell_is (i := 0) HM4.out.ge rfl
            have e1 := cell_is (i := 1) HM4.out.ge rfl
            have e2 := cell_is (i := 2) HM4.out.ge rfl
            have e3 := cell_is (i := 3) HM4.out.ge rfl
            dsimp only at e0 e1 e2 e3
            have HXB : As (w2.heap.size ≤ xb) := ⟨by rw [← hxb]; exact HZj.out⟩
            clear hxb
            gi_wp2
            refine ⟨trivial, (CallsIn.inRound l (callsIn_wide.2 (HWDc.out wa))).mono ?_⟩
            rintro e w5 ⟨rfl, hf5⟩
            have HF5 := As.mk (HFA.out.after hf5 (fun _ _ h => h))
            have HM5 := As.mk (HMj.out.none_ HF5.out)
            have HK5 := As.mk (HKj.out.none_ HF5.out (Nat.lt_of_lt_of_le hgb9 (Nat.le_trans hz2 HZj.out)) (Nat.lt_of_lt_of_le hsb9 (Nat.le_trans hz2 HZj.out)))
            have HP5 := As.mk (HPj.out.fr HF5.out (fun b h => h.elim))
            have HN5 := As.mk (hf5.heap HNEW.out (fun h => h))
            have HZ5 := As.mk (Nat.le_trans HZj.out HF5.out.size)
            have HD5 := As.mk (HDA.out.2.1.none_ HF5.out)
            clear hf5 e0 e1 e2 e3 HM4
            have m0 := cell_of HM5.out.mo
            have f0 := free_of (i := 0) HM5.out.mo
            have x1 := cell_is (i := 1) HN5.out rfl
            dsimp only at m0 f0 x1
            gi_upto_region 19 with fail
            have hmax : (if st.most < q.1.epoch then q.1.epoch else st.most) = max st.most q.1.epoch := by rw [Int.max_def]; split <;> split <;> omega
            rw [hmax]
            have hs6 := Fr.set1 (w' := w5) (b := w.heap.size + 1 + 1 + 1 + 1) (.int .u32 (max st.most q.1.epoch))
            have HM6 := As.mk (HM5.out.setMo (max st.most q.1.epoch))
            have hzw : w.heap.size + 1 + 1 + 1 + 1 < W.heap.size := (Array.getElem?_eq_some_iff.1 HM.out.mo).1
            have hzn : w7.heap.size + 1 + 1 < W.heap.size := (Array.getElem?_eq_some_iff.1 HM.out.nn).1
            have hzo : w7.heap.size + 1 + 1 + 1 < W.heap.size := (Array.getElem?_eq_some_iff.1 HM.out.ww).1
            have hzb : w7.heap.size + 1 < W.heap.size := (Array.getElem?_eq_some_iff.1 HM.out.bb).1
            have hzg : w7.heap.size < W.heap.size := (Array.getElem?_eq_some_iff.1 HM.out.ge).1
            have hne4 : w.heap.size + 1 + 1 + 1 + 1 < w8.heap.size := hz48
            have HK6 := As.mk (HK5.out.turn hs6 (fun b e => by subst e; exact ⟨_, _, _, HM5.out.mo⟩) ⟨Nat.lt_of_lt_of_le hgb9 (Nat.le_trans hz2 HZ5.out), by omega⟩ ⟨Nat.lt_of_lt_of_le hsb9 (Nat.le_trans hz2 HZ5.out), by omega⟩)
            have HP6 := As.mk (HP5.out.fr hs6 (fun b e => .inl (by subst e; exact hzw)))
            have HN6 := As.mk (hs6.heap HN5.out (fun e => by have := HXB.out; omega))
            have HF6 := As.mk hs6.size
            have HD6 := As.mk (HD5.out.fr hs6 (fun ad e _ hb => by have := (HDA.out.2.2 ad e).1; omega))
            clear m0 f0 x1 hmax hs6
            change As (Mem w (w5.setCell ⟨w.heap.size + 1 + 1 + 1 + 1, 0, none⟩ (.int .u32 (max st.most q.1.epoch))) p which s.g ⟨w.heap.size, w.heap.size + 1, w.heap.size + 1 + 1, w.heap.size + 1 + 1 + 1, w.heap.size + 1 + 1 + 1 + 1, w.heap.size + 1 + 1 + 1 + 1 + 1, w7.heap.size, w7.heap.size + 1, w7.heap.size + 1 + 1, w7.heap.size + 1 + 1 + 1⟩ { st with most := max st.most q.1.epoch } v') at HM6
            generalize w5.setCell ⟨w.heap.size + 1 + 1 + 1 + 1, 0, none⟩ (.int .u32 (max st.most q.1.epoch)) = w6' at *
            gi_upto_if 72 with fail
            gi_cut [] from 142 (fun wx => As (Mem w wx p which s.g ⟨w.heap.size, w.heap.size + 1, w.heap.size + 1 + 1, w.heap.size + 1 + 1 + 1, w.heap.size + 1 + 1 + 1 + 1, w.heap.size + 1 + 1 + 1 + 1 + 1, w7.heap.size, w7.heap.size + 1, w7.heap.size + 1 + 1, w7.heap.size + 1 + 1 + 1⟩ { st with n := nOf i q st, most := max st.most q.1.epoch } v') ∧ As (Kept w9.heap.size w8.heap.size (w8.heap.size + 1) W wx) ∧ As (Pg W.heap.size w2.heap.size wx (some ad) n vs lx) ∧ As (wx.heap[xb]? = some (.cells #[.int .u8 q.1.kind, .int .u32 q.1.epoch, .int .u32 q.1.batch, .int .u16 q.1.index, .int .u16 q.1.count, .int .u32 q.1.block, .int .u32 q.1.more, .slice D nd cd] 56 (0, 0))) ∧ As (w5.heap.size ≤ wx.heap.size) ∧ As (Rd .u8 wx D nd q.2))
            case first =>
              by_cases hi0 : i = 0
              · have hb0 : ((i : Int) == 0) = true := by simp [hi0]
                have n0 := cell_of HM6.out.nn
                have g0 := free_of (i := 0) HM6.out.nn
                have x4 := cell_is (i := 4) HN6.out rfl
                dsimp only at n0 g0 x4
                have hc16 : 0 ≤ q.1.count ∧ q.1.count < 65536 := HOK8.out.count
                have hcw : IntKind.i64.wrap q.1.count = q.1.count := i64_in _ (by omega) (by omega)
                gi_wp2
                gi_meet
                case rel =>
                  have hs7 := Fr.set1 (w' := w6') (b := w7.heap.size + 1 + 1) (.int .i64 q.1.count)
                  have hn : nOf i q st = q.1.count := by unfold nOf; rw [if_pos (by omega)]
                  refine ⟨?_, ⟨HK6.out.turn hs7 (fun b e => by subst e; exact ⟨_, _, _, HM6.out.nn⟩) ⟨Nat.lt_of_lt_of_le hgb9 (Nat.le_trans hz2 (Nat.le_trans HZ5.out HF6.out)), by omega⟩ ⟨Nat.lt_of_lt_of_le hsb9 (Nat.le_trans hz2 (Nat.le_trans HZ5.out HF6.out)), by omega⟩⟩, ⟨HP6.out.fr hs7 (fun b e => .inl (by subst e; exact hzn))⟩, ⟨hs7.heap HN6.out (fun e => by have := HXB.out; omega)⟩, ⟨Nat.le_trans HF6.out hs7.size⟩, ⟨HD6.out.fr hs7 (fun ad e _ hb => by have := (HDA.out.2.2 ad e).1; omega)⟩⟩
                  rw [hn]
                  exact ⟨HM6.out.setN q.1.count⟩
              · have hb0 : ((i : Int) == 0) = false := by simp [hi0]
                gi_wp2
                gi_meet
                case rel =>
                  have hn : nOf i q st = st.n := by unfold nOf; rw [if_neg (by omega)]
                  refine ⟨?_, HK6, HP6, HN6, HF6, HD6⟩
                  rw [hn]
                  exact HM6
            case rest =>
              obtain ⟨HM7, HK7, HP7, HN7, HF7, HD7⟩ := hcut
              have hnr := nOf_range (i := (i : Int)) HSJ.out HOK8.out
              obtain ⟨n', hn'⟩ : ∃ n', nOf i q st = n' := ⟨_, rfl⟩
              rw [hn'] at hnr HM7
              have HNN := As.mk hn'
              clear hn'
              have n0 := cell_of HM7.out.nn
              dsimp only at n0
              rename World => w77
              by_cases hle : n' ≤ (i : Int)
              · have dl : decide (n' ≤ (i : Int)) = true := decide_eq_true hle
                gi_wp2
                refine ⟨⟨j + 1, v', rfl, by omega, ⟨?_⟩, HK7, HP7, HRj, ⟨Nat.le_trans HZ5.out HF7.out⟩⟩, by simp [intOf]; omega⟩
                rw [HSTEP.out]
                unfold stepPage
                rw [HNN.out, if_pos hle]
                exact HM7.out
              · have dl : decide (n' ≤ (i : Int)) = false := decide_eq_false hle
                gi_upto_region 22 with fail
                gi_cut [] from 142 (fun wx => As (Mem w wx p which s.g ⟨w.heap.size, w.heap.size + 1, w.heap.size + 1 + 1, w.heap.size + 1 + 1 + 1, w.heap.size + 1 + 1 + 1 + 1, w.heap.size + 1 + 1 + 1 + 1 + 1, w7.heap.size, w7.heap.size + 1, w7.heap.size + 1 + 1, w7.heap.size + 1 + 1 + 1⟩ { st with n := n', most := max st.most q.1.epoch, whole := st.whole && goodHead q.1 i n' } v') ∧ As (Kept w9.heap.size w8.heap.size (w8.heap.size + 1) W wx) ∧ As (Pg W.heap.size w2.heap.size wx (some ad) n vs lx) ∧ As (wx.heap[xb]? = some (.cells #[.int .u8 q.1.kind, .int .u32 q.1.epoch, .int .u32 q.1.batch, .int .u16 q.1.index, .int .u16 q.1.count, .int .u32 q.1.block, .int .u32 q.1.more, .slice D nd cd] 56 (0, 0))) ∧ As (w5.heap.size ≤ wx.heap.size) ∧ As (Rd .u8 wx D nd q.2))
                case first =>
                  have hrel := fun (b : Bool) (hb : b = (st.whole && goodHead q.1 i n')) => (show As (Mem w (w77.setCell ⟨w7.heap.size + 1 + 1 + 1, 0, none⟩ (.bool b)) p which s.g ⟨w.heap.size, w.heap.size + 1, w.heap.size + 1 + 1, w.heap.size + 1 + 1 + 1, w.heap.size + 1 + 1 + 1 + 1, w.heap.size + 1 + 1 + 1 + 1 + 1, w7.heap.size, w7.heap.size + 1, w7.heap.size + 1 + 1, w7.heap.size + 1 + 1 + 1⟩ { st with n := n', most := max st.most q.1.epoch, whole := st.whole && goodHead q.1 i n' } v') ∧ As (Kept w9.heap.size w8.heap.size (w8.heap.size + 1) W (w77.setCell ⟨w7.heap.size + 1 + 1 + 1, 0, none⟩ (.bool b))) ∧ As (Pg W.heap.size w2.heap.size (w77.setCell ⟨w7.heap.size + 1 + 1 + 1, 0, none⟩ (.bool b)) (some ad) n vs lx) ∧ As ((w77.setCell ⟨w7.heap.size + 1 + 1 + 1, 0, none⟩ (.bool b)).heap[xb]? = some (.cells #[.int .u8 q.1.kind, .int .u32 q.1.epoch, .int .u32 q.1.batch, .int .u16 q.1.index, .int .u16 q.1.count, .int .u32 q.1.block, .int .u32 q.1.more, .slice D nd cd] 56 (0, 0))) ∧ As (w5.heap.size ≤ (w77.setCell ⟨w7.heap.size + 1 + 1 + 1, 0, none⟩ (.bool b)).heap.size) ∧ As (Rd .u8 (w77.setCell ⟨w7.heap.size + 1 + 1 + 1, 0, none⟩ (.bool b)) D nd q.2) from by
                    have hs8 := Fr.set1 (w' := w77) (b := w7.heap.size + 1 + 1 + 1) (.bool b)
                    refine ⟨?_, ⟨HK7.out.turn hs8 (fun k e => by subst e; exact ⟨_, _, _, HM7.out.ww⟩) ⟨Nat.lt_of_lt_of_le hgb9 (Nat.le_trans hz2 (Nat.le_trans HZ5.out HF7.out)), by omega⟩ ⟨Nat.lt_of_lt_of_le hsb9 (Nat.le_trans hz2 (Nat.le_trans HZ5.out HF7.out)), by omega⟩⟩, ⟨HP7.out.fr hs8 (fun k e => .inl (by subst e; exact hzo))⟩, ⟨hs8.heap HN7.out (fun e => by have := HXB.out; omega)⟩, ⟨Nat.le_trans HF7.out hs8.size⟩, ⟨HD7.out.fr hs8 (fun ad' e _ hb2 => by have := (HDA.out.2.2 ad' e).1; omega)⟩⟩
                    rw [← hb]
                    exact ⟨HM7.out.setW b⟩)
                  have HREL := As.mk hrel
                  have x0 := cell_is (i := 0) HN7.out rfl
                  have x3 := cell_is (i := 3) HN7.out rfl
                  have x4 := cell_is (i := 4) HN7.out rfl
                  have wc := cell_of HM7.out.ww
                  have wf := free_of (i := 0) HM7.out.ww
                  dsimp only at x0 x3 x4 wc wf
                  have hi3 : 0 ≤ q.1.index ∧ q.1.index < 65536 := HOK8.out.index
                  have hi4 : 0 ≤ q.1.count ∧ q.1.count < 65536 := HOK8.out.count
                  have hw3 : IntKind.i64.wrap q.1.index = q.1.index := i64_in _ (by omega) (by omega)
                  have hw4 : IntKind.i64.wrap q.1.count = q.1.count := i64_in _ (by omega) (by omega)
                  clear hrel
                  obtain ⟨bw, hbw⟩ : ∃ bw, st.whole = bw := ⟨_, rfl⟩
                  rw [hbw] at wc
                  have HBW := As.mk hbw
                  clear hbw
                  rcases bw with _ | _
                  · gi_wp2
                    gi_meet
                    case rel => exact HREL.out false (by rw [HBW.out]; simp)
                  · by_cases hk3 : q.1.kind = 3
                    · have b1 : (q.1.kind == 3) = true := by simp [hk3]
                      have HK3 := As.mk hk3
                      clear hk3
                      by_cases hk4 : q.1.index = i
                      · have b2 : (q.1.index == (i : Int)) = true := by simp [hk4]
                        have HK4 := As.mk hk4
                        clear hk4
                        by_cases hk5 : q.1.count = n'
                        · have b3 : (q.1.count == n') = true := by simp [hk5]
                          have HK5' := As.mk hk5
                          clear hk5
                          gi_wp2
                          gi_meet
                          case rel => exact HREL.out true (by rw [HBW.out]; simp [goodHead, HK3.out, HK4.out, HK5'.out])
                        · have b3 : (q.1.count == n') = false := by simp [hk5]
                          gi_wp2
                          gi_meet
                          case rel => exact HREL.out false (by rw [HBW.out]; simp [goodHead, hk5])
                      · have b2 : (q.1.index == (i : Int)) = false := by simp [hk4]
                        gi_wp2
                        gi_meet
                        case rel => exact HREL.out false (by rw [HBW.out]; simp [goodHead, hk4])
                    · have b1 : (q.1.kind == 3) = false := by simp [hk3]
                      gi_wp2
                      gi_meet
                      case rel => exact HREL.out false (by rw [HBW.out]; simp [goodHead, hk3])
                case rest =>
                  obtain ⟨HM8, HK8, HP8, HN8, HF8, HD8⟩ := hcut
                  have bc := cell_of HM8.out.bb
                  have bf := free_of (i := 0) HM8.out.bb
                  have x7 := cell_is (i := 7) HN8.out rfl
                  dsimp only at bc bf x7
                  obtain ⟨Ab, nb', cb, eb, _, _, _⟩ := HM8.out.row.rd
                  subst eb
                  rename World => w88
                  have HRB : As (Row 5 .u8 w88 w.heap.size (.slice Ab nb' cb) st.b) := ⟨HM8.out.row⟩
                  have hblen : (st.b.length + nd) * 1 ≤ 140737488355328 := by have h1 := hlen8; have h2 := HD8.out.1; have h3 : nd = S := HNS.out; have h4 := hbj; have h5 := hS1024; omega
                  have hzz : w.heap.size ≤ w88.heap.size := HM8.out.fr.size
                  have hg88 := (HK8.out.caught.1.trans HCW.out.1).trans HGB.out.1
                  have hs88 := (HK8.out.caught.2.trans HCW.out.2).trans HGB.out.2
                  have HGS := As.mk (And.intro hg88 hs88)
                  clear hg88 hs88
                  gi_wp2_with (gi_at_builtin; (with_reducible refine appendRowIn w.heap.size rfl _ _ 23 5 .u8 1 rfl Try.underlying23 infoByte (by decide) (.slice Ab nb' cb) st.b q.2 D nd cd rfl rfl HRB.out HD8.out hzz hblen ?_); intro v9 w99 hrow9 hfr9 hat9; have HW9 := As.mk hrow9; have HF9 := As.mk hfr9; have HA9 := As.mk hat9; have hb9 := hfr9.heap HM8.out.bb (Row.ne HRB.out HM8.out.bb (by decide)); have bc9 := cell_of hb9; have bf9 := free_of (i := 0) hb9; dsimp only at bc9 bf9; have HB9 := As.mk hb9; clear hrow9 hfr9 hat9 hb9; obtain ⟨A9, n9, c9, e9, _, _, _⟩ := HW9.out.rd; subst e9)
                  have hs9 := Fr.set1 (w' := w99) (b := w7.heap.size + 1) (.slice A9 n9 c9)
                  have hzg8 : w8.heap.size < w88.heap.size := (Array.getElem?_eq_some_iff.1 HGS.out.1).1
                  have hzs8 : w8.heap.size + 1 < w88.heap.size := (Array.getElem?_eq_some_iff.1 HGS.out.2).1
                  have hz99 := HF9.out.size
                  have hk9 := HK8.out.turn HF9.out (fun k e => by obtain ⟨_, _, cs, hc⟩ := HRB.out.blk k e; exact ⟨_, _, _, hc⟩) ⟨hzg8, Row.ne HRB.out HGS.out.1 (by decide)⟩ ⟨hzs8, Row.ne HRB.out HGS.out.2 (by decide)⟩
                  have hk99 := hk9.turn hs9 (fun k e => by subst e; exact ⟨_, _, _, HB9.out⟩) ⟨by omega, by omega⟩ ⟨by omega, by omega⟩
                  refine ⟨⟨j + 1, .slice A9 n9 c9, rfl, by omega, ⟨?_⟩, ⟨hk99⟩, ⟨(HP8.out.fr HF9.out (fun k e => HRj.out k e)).fr hs9 (fun k e => .inl (by subst e; exact hzb))⟩, ⟨fun k e => ?_⟩, ⟨Nat.le_trans HZ5.out (Nat.le_trans HF8.out (Nat.le_trans hz99 hs9.size))⟩⟩, by simp [intOf]; omega⟩
                  · rw [HSTEP.out]
                    unfold stepPage
                    rw [HNN.out, if_neg hle]
                    exact HM8.out.setB HW9.out HF9.out
                  · rcases HA9.out with h | ⟨b', h, hb'⟩
                    · rw [h] at e
                      exact HRj.out k e
                    · rw [h] at e
                      injection e with e
                      subst e
                      exact .inr (Nat.le_trans HZ5.out (Nat.le_trans HF8.out hb'))
          · have hltI : ¬ (j : Int) < (n : Int) := by omega
            have hjn : n = j := by omega
            subst hjn
            gi_wp2
            refine ⟨HKj.out.from_, HKj.out.caught, ⟨v', ?_⟩, fun y hy => ?_, ?_⟩
            · rw [List.map_append, List.map_cons, List.map_nil, rowsSt_snoc, HEQ.out.1]
              unfold rowStep
              rw [HEQ.out.2, HLL.out]
              exact HMj.out
            · rcases List.mem_append.1 hy with h | h
              · exact HAL.out y h
              · obtain rfl := List.mem_singleton.1 h
                exact HIX.out
            · exact ⟨Nat.le_trans hz2 HZj.out, HKj.out.caught.1.trans HCW.out.1, HKj.out.caught.2.trans HCW.out.2⟩
    case done =>
      rintro D xs W hD hxs ⟨v, hm, hall, hsz, hcw⟩ hK
      rw [hxs] at hm
      have HRS : As (∃ m, m ≤ s.g.p.toNat ∧ (∀ k, k < m → is k = true) ∧ (m < s.g.p.toNat → is m = false) ∧ rowsSt Wd L (List.range m) = rowsSt Wd L (List.range s.g.p.toNat)) := ⟨s.g.p.toNat, Nat.le_refl _, fun k hk => by
        have h1 : k ∈ xs.map Fin.val := by rw [hxs]; exact List.mem_range.2 hk
        obtain ⟨y, hy, rfl⟩ := List.mem_map.1 h1
        exact hall y hy, fun h => absurd h (Nat.lt_irrefl _), rfl⟩
      have HSO := As.mk (HSOF.out s.g.p.toNat (Nat.le_refl _) (fun k hk => by
        have h5 : k ∈ xs.map Fin.val := by rw [hxs]; exact List.mem_range.2 hk
        obtain ⟨y, hy, rfl⟩ := List.mem_map.1 h5
        exact hall y hy))
      generalize rowsSt Wd L (List.range s.g.p.toNat) = st at *
      have HM := As.mk hm
      have HOK := As.mk hok
      clear HSOF hm hall hsz hcw hxs xs HG HRW HS6 HS7 H67 HZ8 HM9 hR hA hok HZ9 HGB hgb hsb hgb9 hsb9 hz48 hz78 d1 d2 hme HWD
      gi_upto_region 25 with fail
      revert p s which S Wd w is L w6 w7 w8 w9 D W v st
      repeat (rename_i z; revert z)
      exact hT.out
    case stop =>
      rintro D c pre W hD hj ⟨rfl, v, pre', x, hpre, hix, hm, hall⟩ hK
      obtain ⟨j, hjN, hjr⟩ := hj
      rw [hpre, List.map_append, List.map_cons, List.map_nil, List.range_succ] at hjr
      have hpr := List.append_inj' hjr rfl
      have hxj : x.val = j := by have := hpr.2; injection this
      rw [hpr.1] at hm
      have HRS : As (∃ m, m ≤ s.g.p.toNat ∧ (∀ k, k < m → is k = true) ∧ (m < s.g.p.toNat → is m = false) ∧ rowsSt Wd L (List.range m) = rowsSt Wd L (List.range j)) := ⟨j, by omega, fun k hk => by
        have h1 : k ∈ pre'.map Fin.val := by rw [hpr.1]; exact List.mem_range.2 hk
        obtain ⟨y, hy, rfl⟩ := List.mem_map.1 h1
        exact hall y hy, fun h => by rw [← hxj]; exact hix, rfl⟩
      have HSO := As.mk (HSOF.out j (by omega) (fun k hk => by
        have h1 : k ∈ pre'.map Fin.val := by rw [hpr.1]; exact List.mem_range.2 hk
        obtain ⟨y, hy, rfl⟩ := List.mem_map.1 h1
        exact hall y hy))
      generalize rowsSt Wd L (List.range j) = st at *
      have HM := As.mk hm
      have HOK := As.mk hok
      clear HSOF hm hall hpre hjr hpr hxj hix pre' pre x HG HRW HS6 HS7 H67 HZ8 HM9 hR hA hok HZ9 HGB hgb hsb hgb9 hsb9 hz48 hz78 d1 d2 hme HWD
      gi_upto_region 25 with fail
      apply hT.out _ _ p s which S Wd w is L hw HSS w6 w7 w8 w9 hz09 D W hD v hK st HRS HSO HM HOK <;> assumption
end Go.Proofs.Ytlhgbamajabnfaa.PRead2

/- The law PointWrites: its walk. -/
import Derived.Test.YtlhgbamajabnfaaPtMany
namespace Go.Proofs.Ytlhgbamajabnfaa.PtWrites
open Go.RowKit Go.Proofs.Ytlhgbamajabnfaa.Ord Go.Proofs.Ytlhgbamajabnfaa.Write Go.Proofs.Ytlhgbamajabnfaa.Gab Go.Proofs.Ytlhgbamajabnfaa.Wr Go.Proofs.Ytlhgbamajabnfaa.Geom Go.Proofs.Ytlhgbamajabnfaa.Fields Go.Proofs.Ytlhgbamajabnfaa.Ref Go.Proofs.Ytlhgbamajabnfaa.Last Go.Proofs.Ytlhgbamajabnfaa.Point1 Go.Proofs.Ytlhgbamajabnfaa.Point2 Go.Proofs.Ytlhgbamajabnfaa.Point4 Go.Proofs.Ytlhgbamajabnfaa.Point5 Go.Proofs.Ytlhgbamajabnfaa.Point7 Go.Proofs.Ytlhgbamajabnfaa.PtLaw Go.Proofs.Ytlhgbamajabnfaa.Kept Go.Proofs.Ytlhgbamajabnfaa.Written Go.Proofs.Ytlhgbamajabnfaa.PtAgain Go.Proofs.Ytlhgbamajabnfaa.PtMany
open Go.Proofs.Ytlhgbamajabnfaa.Ram (RamE New_calls Foot)
open Go.Proofs.Ytlhgbamajabnfaa.Case (u64of)
set_option linter.unusedVariables false
set_option linter.unusedSimpArgs false

theorem enc_at {seq batch : Int} {A B : Option Addr} {n c k d : Nat} {m er : List Int} {w : World} (hx : RPtAt w ⟨seq, batch, A, n, c, B, k, d⟩ m er) :
    Calls Try.prog 33 #[.agg #[.int .i64 seq, .int .i64 batch, .slice A n c, .slice B k d]] w fun e w' => ∃ A1 n1 c1, e = .returned (.slice A1 n1 c1) ∧ Rd .u8 w' A1 n1 (encB seq batch m er) ∧ Fr None_ w w' :=
  hx.enc.mono fun e w' h => by
    obtain ⟨v, rfl, hr, hf⟩ := h
    obtain ⟨A1, n1, c1, rfl, _, hd, _⟩ := hr.rd
    exact ⟨A1, n1, c1, rfl, hd.out, hf⟩

set_option maxHeartbeats 8000000 in
set_option maxRecDepth 100000 in
theorem great_calls (chips : Int) (A : Option Addr) (n c : Nat) (dead : Int) (w : World) (h : 6 < n) :
    Calls Try.prog 8 #[.int .i64 chips, .slice A n c, .int .i64 dead] w fun e w' => e = .returned (.bool true) ∧ Fr None_ w w' := by
  have HK := As.mk (fun w => written_calls w)
  have d0 : decide ((6 : Int) < (n : Int)) = true := decide_eq_true (by omega)
  clear h
  go_enter Try.func8, Try.ntmps8
  go_wp2_with fail
  ((with_reducible refine (HK.out _).mono ?_); rintro e w1 ⟨rfl, hf1⟩)
  have HF1 := As.mk hf1
  clear hf1
  go_wp2_with fail
  ((with_reducible refine (HK.out _).mono ?_); rintro e w2 ⟨rfl, hf2⟩)
  have HF2 := As.mk (HF1.out.after hf2 (fun _ _ h => h))
  go_wp2_with fail
  go_ret
  exact ⟨rfl, HF2.out⟩

/-- The law's memory, ahead of a round. -/
structure Mem (w w' : World) (p gb lb : Nat) (g : Geo) (s : Ram.St) (x : Pt) : Prop where
  ram : RamE w' p s
  fr : Fr None_ w w'
  foot : ∀ b, Foot w' p b → w.heap.size ≤ b
  offg : Ram.Off w' p gb
  offl : Ram.Off w' p lb
  geo : w'.heap[gb]? = some (.cells #[.int .i64 g.c, .int .i64 g.b, .int .i64 g.p, .int .i64 g.s] 28 (0, 0))
  las : w'.heap[lb]? = some (.cells #[.int .u32 x.seq, .int .u32 x.batch, .slice x.MA x.mn x.mc, .slice x.EA x.en x.ec] 73 (0, 0))
  lba : w.heap.size ≤ lb ∧ gb ≠ lb
/-- What was written so far. -/
structure Log (w : World) (g : Geo) (Wd k : Nat) (sm : Bool) (s : Ram.St) (o : Int → Option Num) (last : Num) (x : Pt) : Prop where
  both : Both s g 256 Wd (-1) o k
  gone : ∀ m, ¬ 0 < s.gone m
  inv : Inv o sm last
  at_ : PtAt w x last.m last.er
  seq : x.seq = last.seq
  bat : x.batch = last.batch
  sml : x.mn ≤ 900 ∧ x.en ≤ 100
  top : last.seq ≤ 2000 * k
theorem Mem.step {w w' w'' : World} {p gb lb : Nat} {g : Geo} {s s' : Ram.St} {x : Pt} (h : Mem w w' p gb lb g s x) (hst : Ram.Step p w' w'') (hr : RamE w'' p s') : Mem w w'' p gb lb g s' x where
  ram := hr
  fr := (step_new h.fr h.foot hst).1
  foot := (step_new h.fr h.foot hst).2
  offg := h.offg.step hst
  offl := h.offl.step hst
  geo := h.offg.blk hst h.geo
  las := h.offl.blk hst h.las
  lba := h.lba
theorem Mem.none_ {w w' w'' : World} {p gb lb : Nat} {g : Geo} {s : Ram.St} {x : Pt} (h : Mem w w' p gb lb g s x) (hf : Fr None_ w' w'') : Mem w w'' p gb lb g s x := h.step (Ram.Step.none_ h.ram.lt hf) (h.ram.none_ hf)
theorem off_new {w : World} {p : Nat} {s : Ram.St} (h : RamE w p s) (o : Obj) : Ram.Off (w.alloc o) p w.heap.size :=
  ⟨by simp, fun hF => absurd (Ram.RamE.foot_lt h _ ((Ram.Foot.same (((Fr.refl None_ w).alloc o).block p h.lt (fun h => h)) _).1 hF)) (Nat.lt_irrefl _)⟩
/-- A block of the law's own is turned beside members. -/
theorem ram_set {w w' : World} {p b : Nat} {s : Ram.St} {cs : Array Value} {T : TypeId} (h : RamE w p s) (hb : ¬ Foot w p b) (hf : Fr (fun i => i = b) w w') (ho : w.heap[b]? = some (.cells cs T (0, 0))) (hu : ∀ (i : Nat) (z : Int), cs[i]? ≠ some (Value.int .u8 z)) : RamE w' p s ∧ ∀ i, Foot w' p i → Foot w p i := by
  have hp : p ≠ b := fun e => hb (.inl e.symm)
  have hfs := fun i => (Ram.Foot.same (hf.block p h.lt hp) i).1
  obtain ⟨bp, bg, vo, f, fg, h⟩ := h
  refine ⟨⟨bp, bg, vo, f, fg, h.fr hf (fun i hi => hb (by rw [h.foot]; rw [← hi.2]; exact hi.1)) (fun m b' q ad n c e hn hblk => ?_)⟩, hfs⟩
  obtain ⟨A, n', c', e', _, h2, _⟩ := h.pages m b' q
  rw [e] at e'
  injection e' with e1 e2 e3
  obtain ⟨ad', ea, hc⟩ := h2.2.2 (by omega)
  rw [← e1] at ea
  injection ea with ea
  subst ea
  have hc0 := hc 0 (by omega)
  unfold World.cell? at hc0
  rw [show (ad.add 0).block = b from by rw [add_block]; exact hblk, ho] at hc0
  simp only at hc0
  split at hc0
  · cases hc0
  · exact hu _ _ hc0
theorem pt_nou8 {a b : Int} {A B : Option Addr} {n c k d : Nat} (i : Nat) (z : Int) : (#[.int .u32 a, .int .u32 b, .slice A n c, .slice B k d] : Array Value)[i]? ≠ some (Value.int .u8 z) := by
  match i with
  | 0 => simp
  | 1 => simp
  | 2 => simp
  | 3 => simp
  | i + 4 => simp
theorem Mem.own {w w' w'' : World} {p gb lb b : Nat} {g : Geo} {s : Ram.St} {x : Pt} {cs : Array Value} {T : TypeId} (h : Mem w w' p gb lb g s x) (hb : ¬ Foot w' p b) (hbw : w.heap.size ≤ b) (hg : gb ≠ b) (hl : lb ≠ b) (hf : Fr (fun i => i = b) w' w'') (ho : w'.heap[b]? = some (.cells cs T (0, 0))) (hu : ∀ (i : Nat) (z : Int), cs[i]? ≠ some (Value.int .u8 z)) :
    Mem w w'' p gb lb g s x ∧ ¬ Foot w'' p b := by
  obtain ⟨hr, hfs⟩ := ram_set h.ram hb hf ho hu
  exact ⟨{ ram := hr
           fr := h.fr.after hf (fun i hi e => by subst e; omega)
           foot := fun i hi => h.foot i (hfs i hi)
           offg := ⟨Nat.lt_of_lt_of_le h.offg.1 hf.size, fun hF => h.offg.2 (hfs _ hF)⟩
           offl := ⟨Nat.lt_of_lt_of_le h.offl.1 hf.size, fun hF => h.offl.2 (hfs _ hF)⟩
           geo := hf.heap h.geo hg
           las := hf.heap h.las hl
           lba := h.lba }, fun hF => hb (hfs _ hF)⟩
theorem Mem.store {w w' w'' : World} {p gb lb : Nat} {g : Geo} {s : Ram.St} {x x' : Pt} (h : Mem w w' p gb lb g s x) (hf : Fr (fun i => i = lb) w' w'') (hl : w''.heap[lb]? = some (.cells #[.int .u32 x'.seq, .int .u32 x'.batch, .slice x'.MA x'.mn x'.mc, .slice x'.EA x'.en x'.ec] 73 (0, 0))) :
    Mem w w'' p gb lb g s x' := by
  obtain ⟨hr, hfs⟩ := ram_set h.ram h.offl.2 hf h.las (fun i z => pt_nou8 i z)
  have hlw := h.lba
  exact { ram := hr
          fr := h.fr.after hf (fun i hi e => by subst e; omega)
          foot := fun i hi => h.foot i (hfs i hi)
          offg := ⟨Nat.lt_of_lt_of_le h.offg.1 hf.size, fun hF => h.offg.2 (hfs _ hF)⟩
          offl := ⟨Nat.lt_of_lt_of_le h.offl.1 hf.size, fun hF => h.offl.2 (hfs _ hF)⟩
          geo := hf.heap h.geo hlw.2
          las := hl
          lba := h.lba }

set_option maxHeartbeats 16000000 in
set_option maxRecDepth 100000 in
theorem writes_calls (chips : Int) (A : Option Addr) (n c : Nat) (dead : Int) (l : List (Pt × List Int × List Int)) (w : World) (hA : Pts w A n l) (hn : n ≤ 6) (hdr : dead < 9223372036854775808) :
    Calls Try.prog 8 #[.int .i64 chips, .slice A n c, .int .i64 dead] w fun e w' => e = .returned (.bool true) ∧ Fr None_ w w' := by
  have HK := As.mk (fun w => written_calls w)
  have HA := As.mk hA
  have hok := shape_ok chips
  have hcc := shape_c chips
  have hgs : (shapeOf chips).s = 256 := rfl
  have hgp : (shapeOf chips).p = 6 := rfl
  have HSH := As.mk (fun w => shape_calls chips w)
  generalize shapeOf chips = g at *
  have HNW := As.mk (fun w => New_calls g w hok)
  obtain ⟨Wd, hWd⟩ : ∃ Wd : Nat, (Wd : Int) = g.c - 1 := ⟨(g.c - 1).toNat, by omega⟩
  have HGK := As.mk (And.intro hok (And.intro hgs (And.intro hgp hWd)))
  have d0 : decide ((6 : Int) < (n : Int)) = false := decide_eq_false (by omega)
  unfold Geo.val at HSH HNW
  clear hA hok hgs hgp hWd
  go_enter Try.func8, Try.ntmps8
  go_wp2_with fail
  ((with_reducible refine (HK.out _).mono ?_); rintro e w1 ⟨rfl, hf1⟩)
  have HF1 := As.mk hf1
  clear hf1 HK
  go_wp2_with fail
  ((with_reducible refine (HSH.out _).mono ?_); rintro e w2 ⟨rfl, hf2⟩)
  have HF2 := As.mk (HF1.out.after hf2 (fun _ _ h => h))
  clear hf2 HF1 HSH d0
  have hfg : Fr None_ w2 (w2.alloc (.cells #[.int .i64 g.c, .int .i64 g.b, .int .i64 g.p, .int .i64 g.s] 28)) := (Fr.refl None_ w2).alloc _
  have HG3 := As.mk (heap_alloc_new w2 (.cells #[.int .i64 g.c, .int .i64 g.b, .int .i64 g.p, .int .i64 g.s] 28))
  go_wp2_with fail
  generalize w2.alloc (.cells #[.int .i64 g.c, .int .i64 g.b, .int .i64 g.p, .int .i64 g.s] 28) = w3 at *
  have HGB := As.mk HF2.out.size
  generalize w2.heap.size = gb at *
  have HF3 := As.mk (HF2.out.after hfg (fun _ _ h => h))
  clear hfg HF2
  ((with_reducible refine (HNW.out _).mono ?_); rintro e w4 ⟨p, rfl, hR4, hf4, hn4⟩)
  have hfl : Fr None_ w4 (w4.alloc (.cells #[.int .u32 0, .int .u32 0, .slice none 0 0, .slice none 0 0] 73)) := (Fr.refl None_ w4).alloc _
  have hst := Ram.Step.none_ hR4.lt hfl
  have hgl := (Array.getElem?_eq_some_iff.1 HG3.out).1
  have HM := As.mk (show Mem w (w4.alloc (.cells #[.int .u32 0, .int .u32 0, .slice none 0 0, .slice none 0 0] 73)) p gb w4.heap.size g (Ram.St.new g) ⟨0, 0, none, 0, 0, none, 0, 0⟩ from {
    ram := hR4.none_ hfl
    fr := (HF3.out.after hf4 (fun _ _ h => h)).after hfl (fun _ _ h => h)
    foot := (step_new (HF3.out.after hf4 (fun _ _ h => h)) (fun b hb => Nat.le_trans HF3.out.size (hn4 b hb)) hst).2
    offg := Ram.Off.step ⟨Nat.lt_of_lt_of_le hgl hf4.size, fun h => by have := hn4 _ h; omega⟩ hst
    offl := off_new hR4 _
    geo := at_old _ (hf4.heap HG3.out (fun h => h))
    las := heap_alloc_new w4 _
    lba := ⟨Nat.le_trans HF3.out.size hf4.size, by have := hf4.size; omega⟩ })
  have HL := As.mk (show Log w g Wd 0 false (Ram.St.new g) (fun _ => none) zeroN ⟨0, 0, none, 0, 0, none, 0, 0⟩ from {
    both := Both.new g 256 Wd
    gone := fun m => by show ¬ (0 : Int) < 0; decide
    inv := Inv.init
    at_ := ⟨by show (0 : Int) ≤ 0 ∧ (0 : Int) < 4294967296; decide, by show (0 : Int) ≤ 0 ∧ (0 : Int) < 4294967296; decide, Rd.nil _ _ _, in32 rfl, Nat.le_refl _, Rd.nil _ _ _, in32 rfl, Nat.le_refl _⟩
    seq := rfl
    bat := rfl
    sml := ⟨Nat.zero_le _, Nat.zero_le _⟩
    top := by show (0 : Int) ≤ 2000 * 0; decide })
  clear hst hfl hgl hn4 hf4 hR4 HF3 HG3
  go_wp2_with fail
  generalize w4.alloc (.cells #[.int .u32 0, .int .u32 0, .slice none 0 0, .slice none 0 0] 73) = w5 at *
  generalize w4.heap.size = lb at *
  go_loopw [9, 11, 12, 13, 14, 15] (fun v9 v11 v12 v13 v14 v15 w' => ∃ (i : Nat) (sm : Bool) (s : Ram.St) (o : Int → Option Num) (last : Num) (x : Pt), v9 = .int .u32 last.seq ∧ v11 = .bool sm ∧ v12 = .int .i64 (i : Int) ∧ i ≤ n ∧ As (Mem w w' p gb lb g s x) ∧ As (Log w g Wd i sm s o last x)) (fun _ _ v12 _ _ _ _ => n - (intOf v12).toNat)
  case atStart => exact ⟨0, false, Ram.St.new g, fun _ => none, zeroN, _, rfl, rfl, rfl, Nat.zero_le _, HM, HL⟩
  case round =>
    obtain ⟨i, sm, s, o, last, z, rfl, rfl, rfl, hi, HI, HG⟩ := hrel
    by_cases hlt : i < n
    · have hltI : (i : Int) < (n : Int) := by omega
      obtain ⟨ad, ax, x, m, er, eA, hax, hxw, k0, k1, k2, k3⟩ := HA.out.at_ i hlt
      have HXW := As.mk (show PtAt w x m er from hxw)
      have HX := As.mk (hxw.none_ HI.out.fr)
      replace k0 := HI.out.fr.cell k0 (fun h => h)
      replace k1 := HI.out.fr.cell k1 (fun h => h)
      replace k2 := HI.out.fr.cell k2 (fun h => h)
      replace k3 := HI.out.fr.cell k3 (fun h => h)
      clear hxw
      subst eA
      have hls := HG.out.inv.lok.seq
      have htop := HG.out.top
      have hxs := HX.out.seq
      have HLI := As.mk (fun w => light_calls x w)
      have HFP := As.mk ((Fr.refl None_ wr).alloc (.cells #[.int .u32 x.seq, .int .u32 x.batch, .slice x.MA x.mn x.mc, .slice x.EA x.en x.ec] 73))
      have HP0 := As.mk (heap_alloc_new wr (.cells #[.int .u32 x.seq, .int .u32 x.batch, .slice x.MA x.mn x.mc, .slice x.EA x.en x.ec] 73))
      have HPO := As.mk (off_new HI.out.ram (.cells #[.int .u32 x.seq, .int .u32 x.batch, .slice x.MA x.mn x.mc, .slice x.EA x.en x.ec] 73))
      unfold Pt.cells at HLI
      go_wp2_with fail
      generalize wr.alloc (.cells #[.int .u32 x.seq, .int .u32 x.batch, .slice x.MA x.mn x.mc, .slice x.EA x.en x.ec] 73) = wp at *
      have HPB := As.mk (show w.heap.size ≤ wr.heap.size ∧ gb < wr.heap.size ∧ lb < wr.heap.size from ⟨HI.out.fr.size, HI.out.offg.1, HI.out.offl.1⟩)
      generalize wr.heap.size = pb at *
      have HIp := As.mk (HI.out.none_ HFP.out)
      clear HI HFP k0 k1 k2 k3
      by_cases hli : x.mn ≤ 900 ∧ x.en ≤ 100
      rotate_left
      · rw [decide_eq_false hli] at HLI
        clear hli
        ((with_reducible refine (HLI.out _).mono ?_); rintro e w6 ⟨rfl, hf6⟩)
        have HF6 := As.mk (HIp.out.fr.after hf6 (fun _ _ h => h))
        go_wp2_with fail
        go_ret
        exact ⟨rfl, HF6.out⟩
      · rw [decide_eq_true hli] at HLI
        have HSM := As.mk hli
        clear hli
        ((with_reducible refine (HLI.out _).mono ?_); rintro e w6 ⟨rfl, hf6⟩)
        have HI6 := As.mk (HIp.out.none_ hf6)
        have HO6 := As.mk (HPO.out.step (Ram.Step.none_ HIp.out.ram.lt hf6))
        have HP6 := As.mk (hf6.heap HP0.out (fun h => h))
        clear hf6 HIp HPO HP0 HLI
        have p0 := cell_is (i := 0) HP6.out rfl
        have pf0 := free_of (i := 0) HP6.out
        try dsimp only at p0
        go_upto_region 16 with fail
        obtain ⟨y, hy⟩ : ∃ y : Int, last.seq + 1 + x.seq % 1000 * 2 = y := ⟨_, rfl⟩
        rw [hy]
        have HY := As.mk (show 0 ≤ y ∧ y ≤ 2000 * ((i + 1 : Nat) : Int) ∧ y < 4294967296 ∧ ∃ k : Int, 0 ≤ k ∧ y = last.seq + 1 + 2 * k from ⟨by omega, by push_cast; omega, by omega, x.seq % 1000, by omega, by omega⟩)
        have hs0 := PRead1.Fr.set1 (w' := w6) (b := pb) (.int .u32 y)
        have HP7 := As.mk (Case.heap_set HP6.out 0 (.int .u32 y))
        obtain ⟨hi7, hnf7⟩ := HI6.out.own HO6.out.2 HPB.out.1 (by have := HPB.out; omega) (by have := HPB.out; omega) hs0 HP6.out (fun i z => pt_nou8 i z)
        have HI7 := As.mk hi7
        have HO7 := As.mk (show Ram.Off (w6.setCell ⟨pb, 0, none⟩ (.int .u32 y)) p pb from ⟨(Array.getElem?_eq_some_iff.1 HP7.out).1, hnf7⟩)
        clear hs0 hi7 hnf7 HI6 HO6 HP6 p0 pf0 hy
        generalize w6.setCell ⟨pb, 0, none⟩ (.int .u32 y) = w7 at *
        have hll := HG.out.at_
        have HXQ := As.mk (fun (w' : World) (hf : Fr None_ w w') => show PtAt w' { x with seq := y } m er from ⟨⟨HY.out.1, HY.out.2.2.1⟩, HXW.out.batch, HXW.out.map.none_ hf, HXW.out.mapR, HXW.out.mapC, HXW.out.ers.none_ hf, HXW.out.ersR, HXW.out.ersC⟩)
        have HML := As.mk (show m.length = x.mn ∧ er.length = x.en from ⟨HXW.out.map.1, HXW.out.ers.1⟩)
        have p0 := cell_is (i := 0) HP7.out rfl
        have p1 := cell_is (i := 1) HP7.out rfl
        have p2 := cell_is (i := 2) HP7.out rfl
        have p3 := cell_is (i := 3) HP7.out rfl
        try dsimp only at p0 p1 p2 p3
        have HOB := As.mk (of_at w7 (HXQ.out w7 HI7.out.fr) (by have := HSM.out; omega) (by have := HSM.out; omega))
        clear hll hls htop hxs
        go_wp2_with fail
        ((with_reducible refine (HOB.out).mono ?_); rintro e w8 ⟨A8, n8, k8, B8, m8, j8, rfl, hq8, hf8⟩)
        have HQ8 := As.mk hq8
        have HF8 := As.mk hf8
        clear hq8 hf8 HOB
        go_wp2_with fail
        ((with_reducible refine (enc_at HQ8.out).mono ?_); rintro e w9 ⟨A9, n9, c9, rfl, hr9, hf9⟩)
        have HL9 := As.mk (show (encB y x.batch m er).length = n9 from hr9.1)
        have hn9 : n9 ≤ 10000 := by
          have h1 := HL9.out
          rw [encB_len] at h1
          have h2 := HML.out
          have h3 := HSM.out
          omega
        have hfr9 : Fr None_ w7 w9 := HF8.out.after hf9 (fun _ _ h => h)
        have HI9 := As.mk (HI7.out.none_ hfr9)
        have HO9 := As.mk (HO7.out.step (Ram.Step.none_ HI7.out.ram.lt hfr9))
        have HP9 := As.mk (hfr9.heap HP7.out (fun h => h))
        clear hr9 hf9 HF8 HQ8 p0 p1 p2 p3 hfr9 HI7 HO7 HP7
        have p0 := cell_is (i := 0) HP9.out rfl
        have p1 := cell_is (i := 1) HP9.out rfl
        have p2 := cell_is (i := 2) HP9.out rfl
        have p3 := cell_is (i := 3) HP9.out rfl
        try dsimp only at p0 p1 p2 p3
        have HNN := As.mk (show (Num.mk y x.batch m er).n 256 = pagesOf 256 n9 from by unfold Num.n Num.b; rw [HL9.out])
        have hpg : ((pagesOf 256 n9 : Nat) : Int) = ((n9 : Int) + 255) / 256 := by unfold pagesOf; omega
        have HPG := As.mk hpg
        clear hpg
        by_cases hfit : ((Num.mk y x.batch m er).n 256 : Int) ≤ g.p * (g.c - 1)
        · have hdf : decide (6 * (g.c - 1) < ((n9 : Int) + 255) / 256) = false := decide_eq_false (by rw [HNN.out, HPG.out, HGK.out.2.2.1] at hfit; omega)
          have HWR := As.mk (Write_fits p s g 256 Wd i { x with seq := y } m er w9 o HI9.out.ram HG.out.both HGK.out.1 HGK.out.2.1 HGK.out.2.2.2 (HXQ.out w9 HI9.out.fr) (by show x.mn ≤ 100000; have := HSM.out; omega) (by show x.en ≤ 100000; have := HSM.out; omega) HG.out.gone (by omega) hfit)
          unfold Pt.cells dev at HWR
          dsimp only at HWR
          clear hfit
          go_wp2_with fail
          ((with_reducible refine (HWR.out).mono ?_); rintro e w10 ⟨rfl, s10, hR10, hB10, hg10, hS10⟩)
          have HI10 := As.mk (HI9.out.step hS10 hR10)
          have HP10 := As.mk (HO9.out.blk hS10 HP9.out)
          have HBG := As.mk (show Both s10 g 256 Wd (-1) (putO o ⟨y, x.batch, m, er⟩) (i + 1) ∧ ∀ m, ¬ 0 < s10.gone m from ⟨hB10, fun m => Int.not_lt.2 (hg10 m)⟩)
          clear hR10 hB10 hg10 hS10 HWR HI9 HO9 HP9 p0 p1 p2 p3
          have p0 := cell_is (i := 0) HP10.out rfl
          have p1 := cell_is (i := 1) HP10.out rfl
          have p2 := cell_is (i := 2) HP10.out rfl
          have p3 := cell_is (i := 3) HP10.out rfl
          have g0 := cell_is (i := 0) HI10.out.geo rfl
          have g2 : w10.cell? ⟨gb, 2, none⟩ = some (.int .i64 6) := by
            have h := cell_is (i := 2) HI10.out.geo rfl
            have h2 : w10.cell? ⟨gb, 2, none⟩ = some (.int .i64 g.p) := h
            rw [h2, HGK.out.2.2.1]
          have l0 := cell_is (i := 0) HI10.out.las rfl
          have l1 := cell_is (i := 1) HI10.out.las rfl
          have l2 := cell_is (i := 2) HI10.out.las rfl
          have l3 := cell_is (i := 3) HI10.out.las rfl
          have f0 := free_of (i := 0) HI10.out.las
          have f1 := free_of (i := 1) HI10.out.las
          have f2 := free_of (i := 2) HI10.out.las
          have f3 := free_of (i := 3) HI10.out.las
          try dsimp only at p0 p1 p2 p3 g0 l0 l1 l2 l3
          go_wp2_with fail
          obtain ⟨s1, s2, s3⟩ := Dec5.set4 HI10.out.fr HI10.out.lba.1 HI10.out.las (.int .u32 y) (.int .u32 x.batch) (.slice x.MA x.mn x.mc) (.slice x.EA x.en x.ec)
          have hin := HI10.out.store (x' := { x with seq := y }) s3 s2
          obtain ⟨ky, hky, hys⟩ := HY.out.2.2.2
          have hxo : (Num.mk y x.batch m er).Ok := ⟨⟨HY.out.1, HY.out.2.2.1⟩, HXW.out.batch, HXW.out.mapR, HXW.out.ersR, by show m.length ≤ 100000; have := HML.out; have := HSM.out; omega, by show er.length ≤ 100000; have := HML.out; have := HSM.out; omega⟩
          have hgn : Log w g Wd (i + 1) true s10 (putO o ⟨y, x.batch, m, er⟩) ⟨y, x.batch, m, er⟩ { x with seq := y } := {
            both := HBG.out.1
            gone := fun m => Int.not_lt.2 (HBG.out.2 m)
            inv := HG.out.inv.put hxo hky hys
            at_ := HXQ.out w (Fr.refl _ _)
            seq := rfl
            bat := rfl
            sml := HSM.out
            top := HY.out.2.1 }
          exact ⟨⟨i + 1, true, s10, _, ⟨y, x.batch, m, er⟩, { x with seq := y }, rfl, rfl, rfl, by omega, ⟨hin⟩, ⟨hgn⟩⟩, by simp [intOf]; omega⟩
        · have hdf : decide (6 * (g.c - 1) < ((n9 : Int) + 255) / 256) = true := decide_eq_true (by rw [HNN.out, HPG.out, HGK.out.2.2.1] at hfit; omega)
          have HWR := As.mk (Write_over p s g 256 Wd i { x with seq := y } m er w9 o HI9.out.ram HG.out.both HGK.out.2.1 (HXQ.out w9 HI9.out.fr) (by show x.mn ≤ 100000; have := HSM.out; omega) (by show x.en ≤ 100000; have := HSM.out; omega) HG.out.gone (by omega) hfit)
          unfold Pt.cells dev at HWR
          dsimp only at HWR
          clear hfit
          go_wp2_with fail
          ((with_reducible refine (HWR.out).mono ?_); rintro e w10 ⟨rfl, hf10⟩)
          have HI10 := As.mk (HI9.out.none_ hf10)
          clear hf10 HWR HI9 HO9 HP9 p0 p1 p2 p3
          have g0 := cell_is (i := 0) HI10.out.geo rfl
          have g2 : w10.cell? ⟨gb, 2, none⟩ = some (.int .i64 6) := by
            have h := cell_is (i := 2) HI10.out.geo rfl
            have h2 : w10.cell? ⟨gb, 2, none⟩ = some (.int .i64 g.p) := h
            rw [h2, HGK.out.2.2.1]
          have l0 := cell_is (i := 0) HI10.out.las rfl
          try dsimp only at g0 l0
          go_wp2_with fail
          have hgn : Log w g Wd (i + 1) sm s o last z := { HG.out with both := both_more HG.out.both, top := by have := HG.out.top; push_cast; omega }
          exact ⟨⟨i + 1, sm, s, o, last, z, congrArg (Value.int .u32) HG.out.seq, rfl, rfl, by omega, HI10, ⟨hgn⟩⟩, by simp [intOf]; omega⟩
    · have hltI : ¬ (i : Int) < (n : Int) := by omega
      clear hlt
      have las0 := HI.out.las
      rw [HG.out.seq, HG.out.bat] at las0
      have HLS := As.mk las0
      clear las0
      have HPL := As.mk (show PtAt w ⟨last.seq, last.batch, z.MA, z.mn, z.mc, z.EA, z.en, z.ec⟩ last.m last.er from ⟨HG.out.inv.lok.seq, HG.out.inv.lok.batch, HG.out.at_.map, HG.out.at_.mapR, HG.out.at_.mapC, HG.out.at_.ers, HG.out.at_.ersR, HG.out.at_.ersC⟩)
      obtain ⟨bp, bg, vo, f, fg, h7⟩ := HI.out.ram
      have c5 := cell_is (i := 5) h7.blk rfl
      have H7 := As.mk h7
      have g0 := cell_is (i := 0) HI.out.geo rfl
      try dsimp only at g0
      clear h7
      rename World => wz
      go_upto_if 84 with fail
      go_cut [] (fun wx => ∃ (s2 : Ram.St) (d : Int) (k : Nat), As (RamE wx p s2 ∧ Both s2 g 256 Wd d o k ∧ SRow3.Dead s2 d) ∧ As (Ram.Step p wz wx))
      case first =>
        by_cases hdd : 0 ≤ dead
        · have dd : decide (0 ≤ dead) = true := decide_eq_true hdd
          have um : Int.tmod dead g.c = dead % g.c := Int.tmod_eq_emod_of_nonneg hdd
          have um0 : 0 ≤ dead % g.c := Int.emod_nonneg _ (by omega)
          have um1 : dead % g.c < g.c := Int.emod_lt_of_pos _ (by omega)
          have hc0 : ¬ g.c = 0 := by omega
          have hm1 : ¬ g.c = -1 := by omega
          have uw : IntKind.i64.wrap (dead % g.c) = dead % g.c := i64_in _ (by omega) (by omega)
          go_upto_region 26 with fail
          go_still_tail 8, (by kernel_rfl)
          change wpList _ _ _ _ _ wz.drew
          generalize dead % g.c = dm at *
          have HM8 := As.mk (H7.out.none_ (Fr.refl None_ wz).drew)
          go_wp2_with (at_mapUpdate; (with_reducible refine Map.wp_store _ rfl _ _ _ 38 rfl 3 3 Map.lawI Try.underlying38 (.int .i64 0) bg s.cnt fg rfl HM8.out.mg ?hn (.int .i64 dm) (.int .i64 1) rfl rfl (Map.keyOf_i ⟨by omega, by omega⟩) ?_); (case hn => have := HG.out.both.cnt; unfold maxLen; omega); intro w8 hm8 hf8; have HK8 := As.mk (Kept.Ram.kill HM8.out dm hm8 hf8); clear hm8 hf8)
          go_meet
          case rel => exact ⟨_, dm, _, ⟨⟨_, _, _, _, _, HK8.out.1⟩, both_kill HG.out.both dm, dead_kill HG.out.gone um0 (by rw [HG.out.both.geo]; exact um1)⟩, ⟨(Ram.Step.none_ HI.out.ram.lt (Fr.refl None_ wz).drew).trans HK8.out.2⟩⟩
        · have dd : decide (0 ≤ dead) = false := decide_eq_false hdd
          go_wp2_with fail
          go_meet
          case rel => exact ⟨s, -1, _, ⟨HI.out.ram, HG.out.both, dead_none HG.out.gone (by rw [HG.out.both.geo]; exact hcc.1)⟩, ⟨Ram.Step.refl _ _⟩⟩
      case rest =>
      obtain ⟨s2, d, k, HR2, HS2⟩ := hcut
      rename World => wk
      have HF2 := As.mk (step_new HI.out.fr HI.out.foot HS2.out).1
      have HL2 := As.mk (HI.out.offl.blk HS2.out HLS.out)
      have HLA := As.mk (Last_any p s2 g 256 Wd k wk o d HR2.out.1 HR2.out.2.1 HGK.out.2.1 HGK.out.2.2.2 HR2.out.2.2 HG.out.inv.ok)
      have hwh : last.seq % 2 = 0 ∨ last.seq % 2 = 1 := by omega
      have HRA := As.mk (fun (w' : World) (hf : Fr None_ wk w') => Read_any p s2 (last.seq % 2) 256 Wd w' (o (last.seq % 2)) d (HR2.out.1.none_ hf) (by rw [HR2.out.2.1.geo]; exact HGK.out.2.1) (by rw [HR2.out.2.1.geo]; exact HGK.out.2.2.2) hwh HR2.out.2.2 (by rcases hwh with e | e <;> rw [e]; exact HR2.out.2.1.zero; exact HR2.out.2.1.one))
      rw [HG.out.inv.last] at HLA
      rw [HG.out.inv.read] at HRA
      unfold found ReadIs dev at HLA HRA
      dsimp only at HLA HRA
      have hls := HG.out.inv.lok.seq
      have HLK := As.mk (And.intro HG.out.inv.lok HG.out.sml)
      clear H7 c5 g0 hwh HLS HI
      go_wp2_with fail
      ((with_reducible refine (HLA.out).mono ?_); rintro e w11 ⟨vM, vE, rfl, hrM, hrE, hf11⟩)
      obtain ⟨AM, nM, cM, eM, hcM, hdM, _⟩ := hrM.rd
      subst eM
      obtain ⟨AE, nE, cE, eE, hcE, hdE, _⟩ := hrE.rd
      subst eE
      have HP11 := As.mk (show PtAt w11 ⟨last.seq, last.batch, AM, nM, cM, AE, nE, cE⟩ last.m last.er from ⟨HLK.out.1.seq, HLK.out.1.batch, hdM.out, HLK.out.1.m, hcM.out, hdE.out, HLK.out.1.er, hcE.out⟩)
      have HLN := As.mk (show nM ≤ 100000 ∧ nE ≤ 100000 from by have h1 := hdM.out.1; have h2 := hdE.out.1; have h3 := HLK.out.1.ml; have h4 := HLK.out.1.el; omega)
      have hfn := hf11.alloc (.cells #[.int .u32 last.seq, .int .u32 last.batch, .slice AM nM cM, .slice AE nE cE] 73)
      have HL12 := As.mk (hfn.heap HL2.out (fun h => h))
      have HF12 := As.mk (HF2.out.after hfn (fun _ _ h => h))
      have HK12 := As.mk hfn
      have HP12 := As.mk (HP11.out.none_ ((Fr.refl None_ w11).alloc (.cells #[.int .u32 last.seq, .int .u32 last.batch, .slice AM nM cM, .slice AE nE cE] 73)))
      have HQ12 := As.mk (heap_alloc_new w11 (.cells #[.int .u32 last.seq, .int .u32 last.batch, .slice AM nM cM, .slice AE nE cE] 73))
      clear hrM hrE hf11 hcM hdM hcE hdE HP11 hfn HLA
      go_upto_region 28 with fail
      generalize w11.alloc (.cells #[.int .u32 last.seq, .int .u32 last.batch, .slice AM nM cM, .slice AE nE cE] 73) = w12 at *
      generalize w11.heap.size = q at *
      have HOQ := As.mk (fun (w' : World) (hf : Fr None_ w12 w') => of_at w' (HP12.out.none_ hf) HLN.out.1 HLN.out.2)
      have HOL := As.mk (fun (w' : World) (hf : Fr None_ w12 w') => of_at w' (HPL.out.none_ (HF12.out.after hf (fun _ _ h => h))) (by have := HLK.out.2; omega) (by have := HLK.out.2; omega))
      have l0 := cell_is (i := 0) HL12.out rfl
      have l1 := cell_is (i := 1) HL12.out rfl
      have l2 := cell_is (i := 2) HL12.out rfl
      have l3 := cell_is (i := 3) HL12.out rfl
      have q0 := cell_is (i := 0) HQ12.out rfl
      have q1 := cell_is (i := 1) HQ12.out rfl
      have q2 := cell_is (i := 2) HQ12.out rfl
      have q3 := cell_is (i := 3) HQ12.out rfl
      try dsimp only at l0 l1 l2 l3 q0 q1 q2 q3
      have HF := As.mk ((Fr.refl None_ w12).drew)
      go_region_held3 (fun w' => w'.cell? ⟨lb, 0, none⟩ = some (.int .u32 last.seq) ∧ w'.cell? ⟨lb, 1, none⟩ = some (.int .u32 last.batch) ∧ w'.cell? ⟨lb, 2, none⟩ = some (.slice z.MA z.mn z.mc) ∧ w'.cell? ⟨lb, 3, none⟩ = some (.slice z.EA z.en z.ec) ∧ w'.cell? ⟨q, 0, none⟩ = some (.int .u32 last.seq) ∧ w'.cell? ⟨q, 1, none⟩ = some (.int .u32 last.batch) ∧ w'.cell? ⟨q, 2, none⟩ = some (.slice AM nM cM) ∧ w'.cell? ⟨q, 3, none⟩ = some (.slice AE nE cE)) (first | go_keep | (refine ⟨?_, ?_, ?_, ?_, ?_, ?_, ?_, ?_⟩ <;> (refine Fr.cell ‹Fr None_ _ _› ?_ (fun h => h); go_keep))) (first
        | ((with_reducible refine (HOQ.out _ HF.out).mono ?_); rintro e wp ⟨A1, n1, k1, B1, m1, j1, rfl, hq1, hfp⟩; have HF := As.mk (Fr.after (T := None_) HF.out hfp (fun _ _ h => h)); have HQP := As.mk hq1; (try have HQQ := As.mk (HQQ.out.none_ hfp)); clear hq1)
        | ((with_reducible refine (HOL.out _ HF.out).mono ?_); rintro e wq ⟨A2, n2, k2, B2, m2, j2, rfl, hq2, hfq⟩; have HF := As.mk (Fr.after (T := None_) HF.out hfq (fun _ _ h => h)); have HQQ := As.mk hq2; (try have HQP := As.mk (HQP.out.none_ hfq)); clear hq2)
        | ((with_reducible refine (same_at HQP.out HQQ.out).mono ?_); rintro e w13 ⟨rfl, hfs⟩; have HS := As.mk (show Fr None_ w12 w13 from HF.out.after hfs (fun _ _ h => h)))
        | fail)
      all_goals
        clear l0 l1 l2 l3 q0 q1 q2 q3 HQP HQQ HOQ HOL HF
        have HL13 := As.mk (HS.out.heap HL12.out (fun h => h))
        have HF13 := As.mk (HF12.out.after HS.out (fun _ _ h => h))
        have HRB := As.mk (HRA.out w13 (HK12.out.after HS.out (fun _ _ h => h)))
        clear HL12 HF12 HRA HQ12 HP12 HS HK12 HLN
        have l0 := cell_is (i := 0) HL13.out rfl
        try dsimp only at l0
        go_wp2_with fail
        ((with_reducible refine (HRB.out).mono ?_); rintro e w14 ⟨vM, vE, rfl, hrM, hrE, hf14⟩)
        obtain ⟨BM, oM, dM, eM, hcM, hdM, _⟩ := hrM.rd
        subst eM
        obtain ⟨BE, oE, dE, eE, hcE, hdE, _⟩ := hrE.rd
        subst eE
        have HP14 := As.mk (show PtAt w14 ⟨last.seq, last.batch, BM, oM, dM, BE, oE, dE⟩ last.m last.er from ⟨HLK.out.1.seq, HLK.out.1.batch, hdM.out, HLK.out.1.m, hcM.out, hdE.out, HLK.out.1.er, hcE.out⟩)
        have HLN := As.mk (show oM ≤ 100000 ∧ oE ≤ 100000 from by have h1 := hdM.out.1; have h2 := hdE.out.1; have h3 := HLK.out.1.ml; have h4 := HLK.out.1.el; omega)
        have hfn := hf14.alloc (.cells #[.int .u32 last.seq, .int .u32 last.batch, .slice BM oM dM, .slice BE oE dE] 73)
        have HL15 := As.mk (hfn.heap HL13.out (fun h => h))
        have HF15 := As.mk (HF13.out.after hfn (fun _ _ h => h))
        have HP15 := As.mk (HP14.out.none_ ((Fr.refl None_ w14).alloc (.cells #[.int .u32 last.seq, .int .u32 last.batch, .slice BM oM dM, .slice BE oE dE] 73)))
        have HQ15 := As.mk (heap_alloc_new w14 (.cells #[.int .u32 last.seq, .int .u32 last.batch, .slice BM oM dM, .slice BE oE dE] 73))
        clear hrM hrE hf14 hcM hdM hcE hdE HP14 hfn HRB l0 HL13 HF13
        go_upto_region 31 with fail
        generalize w14.alloc (.cells #[.int .u32 last.seq, .int .u32 last.batch, .slice BM oM dM, .slice BE oE dE] 73) = w15 at *
        generalize w14.heap.size = r at *
        have HOQ := As.mk (fun (w' : World) (hf : Fr None_ w15 w') => of_at w' (HP15.out.none_ hf) HLN.out.1 HLN.out.2)
        have HOL := As.mk (fun (w' : World) (hf : Fr None_ w15 w') => of_at w' (HPL.out.none_ (HF15.out.after hf (fun _ _ h => h))) (by have := HLK.out.2; omega) (by have := HLK.out.2; omega))
        have l0 := cell_is (i := 0) HL15.out rfl
        have l1 := cell_is (i := 1) HL15.out rfl
        have l2 := cell_is (i := 2) HL15.out rfl
        have l3 := cell_is (i := 3) HL15.out rfl
        have q0 := cell_is (i := 0) HQ15.out rfl
        have q1 := cell_is (i := 1) HQ15.out rfl
        have q2 := cell_is (i := 2) HQ15.out rfl
        have q3 := cell_is (i := 3) HQ15.out rfl
        try dsimp only at l0 l1 l2 l3 q0 q1 q2 q3
        have HF := As.mk ((Fr.refl None_ w15).drew)
        go_region_held3 (fun w' => w'.cell? ⟨lb, 0, none⟩ = some (.int .u32 last.seq) ∧ w'.cell? ⟨lb, 1, none⟩ = some (.int .u32 last.batch) ∧ w'.cell? ⟨lb, 2, none⟩ = some (.slice z.MA z.mn z.mc) ∧ w'.cell? ⟨lb, 3, none⟩ = some (.slice z.EA z.en z.ec) ∧ w'.cell? ⟨r, 0, none⟩ = some (.int .u32 last.seq) ∧ w'.cell? ⟨r, 1, none⟩ = some (.int .u32 last.batch) ∧ w'.cell? ⟨r, 2, none⟩ = some (.slice BM oM dM) ∧ w'.cell? ⟨r, 3, none⟩ = some (.slice BE oE dE)) (first | go_keep | (refine ⟨?_, ?_, ?_, ?_, ?_, ?_, ?_, ?_⟩ <;> (refine Fr.cell ‹Fr None_ _ _› ?_ (fun h => h); go_keep))) (first
          | ((with_reducible refine (HOQ.out _ HF.out).mono ?_); rintro e wp ⟨A1, n1, k1, B1, m1, j1, rfl, hq1, hfp⟩; have HF := As.mk (Fr.after (T := None_) HF.out hfp (fun _ _ h => h)); have HQP := As.mk hq1; (try have HQQ := As.mk (HQQ.out.none_ hfp)); clear hq1)
          | ((with_reducible refine (HOL.out _ HF.out).mono ?_); rintro e wq ⟨A2, n2, k2, B2, m2, j2, rfl, hq2, hfq⟩; have HF := As.mk (Fr.after (T := None_) HF.out hfq (fun _ _ h => h)); have HQQ := As.mk hq2; (try have HQP := As.mk (HQP.out.none_ hfq)); clear hq2)
          | ((with_reducible refine (same_at HQP.out HQQ.out).mono ?_); rintro e w16 ⟨rfl, hfs⟩; have HS := As.mk (show Fr None_ w15 w16 from HF.out.after hfs (fun _ _ h => h)))
          | fail)
        all_goals
          go_wp2_with fail
          go_ret
          exact ⟨rfl, HF15.out.after HS.out (fun _ _ h => h)⟩
end Go.Proofs.Ytlhgbamajabnfaa.PtWrites

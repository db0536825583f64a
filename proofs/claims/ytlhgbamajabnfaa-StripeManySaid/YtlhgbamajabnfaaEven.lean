/- stripe.Even: a stripe that stands whole is even; one that is not written isn't. -/
import Derived.Test.YtlhgbamajabnfaaRow
namespace Go.Proofs.Ytlhgbamajabnfaa.Even
open Go.RowKit Go.Proofs.Ytlhgbamajabnfaa.Gab Go.Proofs.Ytlhgbamajabnfaa.Map Go.Proofs.Ytlhgbamajabnfaa.Geom Go.Proofs.Ytlhgbamajabnfaa.Ram Go.Proofs.Ytlhgbamajabnfaa.Par Go.Proofs.Ytlhgbamajabnfaa.Fields Go.Proofs.Ytlhgbamajabnfaa.Ord Go.Proofs.Ytlhgbamajabnfaa.Write Go.Proofs.Ytlhgbamajabnfaa.Stripe Go.Proofs.Ytlhgbamajabnfaa.Ref Go.Proofs.Ytlhgbamajabnfaa.Case Go.Proofs.Ytlhgbamajabnfaa.SRead Go.Proofs.Ytlhgbamajabnfaa.Again Go.Proofs.Ytlhgbamajabnfaa.Kept Go.Proofs.Ytlhgbamajabnfaa.SRow Go.Proofs.Ytlhgbamajabnfaa.Xor
open Go.Proofs.Ytlhgbamajabnfaa.Wr (InR)
open Go.Proofs.Ytlhgbamajabnfaa.Str (pcells take_snoc add_next infoSl)
set_option linter.unusedVariables false
set_option linter.unusedSimpArgs false

set_option maxHeartbeats 4000000 in
set_option maxRecDepth 100000 in
theorem Even_blank (p : Nat) (s : Ram.St) (seg row : Int) (w : World) (hR : RamE w p s) (ha : s.g.At seg row) (hpn : ∀ n, 0 ≤ n → n < s.g.c → s.pages n seg row = []) (hgn : ∀ n, 0 ≤ n → n < s.g.c → ¬ 0 < s.gone n) :
    Calls Try.prog 27 #[dev p, .int .i64 seg, .int .i64 row] w fun e w' => e = .returned (.tuple #[.bool false, .int .i64 0]) ∧ Fr None_ w w' := by
  have HRW := As.mk (Row_blank p s seg row w hR ha hpn hgn)
  clear hR ha hpn hgn
  unfold dev at *
  go_enter Try.func27, Try.ntmps27
  go_wp2_with fail
  ((with_reducible refine (HRW.out).mono ?_); rintro e w1 ⟨rfl, hf1⟩)
  go_wp2_with fail
  go_ret2
  exact ⟨rfl, hf1⟩

/-- A slice that is written out, of one slice. -/
theorem rowV_one {e : TypeId} {w : World} {base g : Nat} {v : Value} (hb : base ≤ g) (h : w.heap[g]? = some (.cells #[v] e (0, 0))) : RowV e 1 w base (.slice (some ⟨g, 0, none⟩) 1 1) 1 [v] :=
  ⟨⟨rfl, .inr ⟨g, 1, #[v], rfl, hb, h, Nat.le_refl _, by decide, rfl, rfl⟩⟩, rfl⟩

set_option maxHeartbeats 8000000 in
set_option maxRecDepth 100000 in
theorem Even_whole (p : Nat) (s : Ram.St) (seg row : Int) (w : World) (l : List (Head × List Int)) (hR : RamE w p s) (ha : s.g.At seg row) (hst : Stands s l seg row (-1)) (hgn : ∀ n, 0 ≤ n → n < s.g.c → ¬ 0 < s.gone n) :
    Calls Try.prog 27 #[dev p, .int .i64 seg, .int .i64 row] w fun e w' => e = .returned (.tuple #[.bool true, .int .i64 0]) ∧ Fr None_ w w' := by
  have hok : s.g.Ok := hst.ok
  have hp : p < w.heap.size := hR.lt
  have hc1 := hok.c
  have hgs := hok.s
  have HR := As.mk hR
  have HRW := As.mk (Row_whole p s seg row w l hR ha hst hgn)
  have HG := As.mk (fun w' (hf : Fr None_ w w') => Geo_calls p s w' (hR.none_ hf))
  have HPA := As.mk (fun w => Parity_calls s.g seg row w hok ha)
  obtain ⟨k0, k1⟩ := par_range hok seg row
  have HRT := As.mk (fun (w' : World) (hf : Fr None_ w w') => Read_there p s (s.g.par seg row) seg row w' (hR.none_ hf) ⟨⟨k0, k1⟩, ha⟩ (hgn _ k0 k1))
  change As (∀ (w' : World), Fr None_ w w' → Calls Try.prog 110 #[.pointer (some ⟨p, 0, none⟩), .int .i64 (s.g.par seg row), .int .i64 seg, .int .i64 row] w' fun e w'' => ∃ v1 v2, e = .returned (.tuple #[v1, v2, .int .i64 0]) ∧ Row 5 .u8 w'' w'.heap.size v1 (pD s seg row (s.g.par seg row)) ∧ Row 5 .u8 w'' w'.heap.size v2 (pO s seg row (s.g.par seg row)) ∧ Fr None_ w' w'') at HRT
  have hln : (l.length : Int) = s.g.c - 1 := hst.lok.len
  have HPX : As (xorAll s.g.s.toNat (pD s seg row (s.g.par seg row) :: l.map (·.2)) = List.replicate s.g.s.toNat 0 ∧ ∀ x ∈ pD s seg row (s.g.par seg row) :: l.map (·.2), x.length = s.g.s.toNat) := ⟨by
    have hgd := good_data hst.lok hok
    have hp := hst.parts k0 k1 (by omega)
    rw [par_page] at hp
    have e1 : (sealedOf l).map (·.1) = l.map (·.2) := by unfold sealedOf; rw [List.map_map]; rfl
    have e2 : (parPage s.g l seg row).1 = xorAll s.g.s.toNat ((sealedOf l).map (·.1)) := rfl
    rw [hp.1, e2, e1]
    rw [e1] at hgd
    refine ⟨xor_even _ hgd, fun x hx => ?_⟩
    rcases List.mem_cons.1 hx with rfl | hx
    · exact xorAll_length hgd
    · exact (hgd x hx).1⟩
  unfold Geo.val at HG HPA
  generalize s.g.par seg row = par at *
  generalize pD s seg row par = pd at *
  generalize pO s seg row par = po at *
  have hmf : ∀ (fn : Fn) (first cap : Array Value) (w : World), (Instr.makeFunc fn first cap).run Try.prog w = .ok (.func fn first cap) w := fun _ _ _ _ => rfl
  have hna : ∀ (w : World), (nilAhead 285 30 (.pointer (some ⟨p, 0, none⟩)) "Read").run Try.prog w = .ok (some false) w := fun w => by kernel_rfl
  clear hR ha hst hgn hok
  unfold dev at *
  go_enter Try.func27, Try.ntmps27
  go_wp2_with fail
  ((with_reducible refine (HRW.out).mono ?_); rintro e w1 ⟨A, c, n, vs, rfl, hn, hrc, hsp, hf1⟩)
  have HC := As.mk hrc
  have HS := As.mk hsp
  have HF1 := As.mk hf1
  clear hrc hsp hf1
  go_wp2_with fail
  ((with_reducible refine (HG.out _ HF1.out).mono ?_); rintro e w2 ⟨rfl, hf2⟩)
  have HGE := As.mk (heap_alloc_new w2 (.cells #[.int .i64 s.g.c, .int .i64 s.g.b, .int .i64 s.g.p, .int .i64 s.g.s] 28))
  have HF12 := As.mk (hf2.alloc (.cells #[.int .i64 s.g.c, .int .i64 s.g.b, .int .i64 s.g.p, .int .i64 s.g.s] 28))
  have HF2 := As.mk (HF1.out.after HF12.out (fun _ _ h => h))
  clear hf2
  go_upto_region 5 with fail
  generalize w2.alloc (.cells #[.int .i64 s.g.c, .int .i64 s.g.b, .int .i64 s.g.p, .int .i64 s.g.s] 28) = w3 at *
  generalize hg8 : w2.heap.size = g8 at *
  clear hg8
  have c0 := cell_is (i := 0) HGE.out rfl
  have c1 := cell_is (i := 1) HGE.out rfl
  have c2 := cell_is (i := 2) HGE.out rfl
  have c3 := cell_is (i := 3) HGE.out rfl
  go_cut [10, 12] (fun v10 v12 wx => v10 = .int .i64 0 ∧ (∃ A4 n4 c4, v12 = .slice A4 n4 c4 ∧ As (n4 ≤ c4 ∧ Rd .u8 wx A4 n4 pd)) ∧ As (Fr None_ w3 wx))
  case first =>
    go_region_held3 (fun w' => w'.cell? ⟨g8, 0, none⟩ = some (.int .i64 s.g.c) ∧ w'.cell? ⟨g8, 1, none⟩ = some (.int .i64 s.g.b) ∧ w'.cell? ⟨g8, 2, none⟩ = some (.int .i64 s.g.p) ∧ w'.cell? ⟨g8, 3, none⟩ = some (.int .i64 s.g.s)) (first | go_keep | (refine ⟨?_, ?_, ?_, ?_⟩ <;> (refine Fr.cell ‹Fr None_ _ _› ?_ (fun h => h); go_keep))) (first | (go_at_call 56; (with_reducible refine (HPA.out _).mono ?_); rintro e w4 ⟨rfl, hf4⟩; have HF4 := As.mk ((Fr.refl None_ w3).drew.after hf4 (fun _ _ h => h)); have HF4w := As.mk (HF2.out.after HF4.out (fun _ _ h => h))) | ((with_reducible refine (HRT.out _ HF4w.out).mono ?_); rintro e w5 ⟨v1, v2, rfl, hr1, hr2, hf5⟩; obtain ⟨A4, n4, c4, e4, hm4, hd4, _⟩ := hr1.rd; subst e4; have HF5 := As.mk (HF4.out.after hf5 (fun _ _ h => h)); clear hr1 hr2))
    all_goals
      go_wp2_with fail
      go_meet
      case rel => exact ⟨rfl, ⟨_, _, _, rfl, ⟨hm4.out, hd4.out⟩⟩, HF5⟩
  case rest =>
    obtain ⟨rfl, ⟨A4, n4, c4, rfl, H4⟩, HF3⟩ := hcut
    clear c0 c1 c2 c3
    have HFW := As.mk (HF2.out.after HF3.out (fun _ _ h => h))
    have HF13 := As.mk (HF12.out.after HF3.out (fun _ _ h => h))
    rename World => wq
    have HB := As.mk (heap_alloc_new wq (.cells #[.slice A4 n4 c4] 23))
    have hnl : (l.length : Int) = n := by omega
    have hn20 : n ≤ 20 := by omega
    have hp1 : p < w1.heap.size := Nat.lt_of_lt_of_le hp HF1.out.size
    have HCq := As.mk (HC.out.none_ HF13.out)
    have HSq := As.mk (HS.out.none_ hp1 HF13.out)
    clear hmf hna
    go_wp2_with fail
    go_loopw [14, 16, 60] (fun v14 v16 v60 w' => ∃ i : Int, ∃ us : List Value, v60 = .int .i64 i ∧ 0 ≤ i ∧ i ≤ (n : Int) ∧ As (RowV 23 1 w' wq.heap.size v14 (1 + i.toNat) us ∧ Sls wq us (pd :: (l.take i.toNat).map (·.2))) ∧ As (Fr None_ wq w')) (fun _ _ v60 _ => n - (intOf v60).toNat)
    case atStart => exact ⟨0, [.slice A4 n4 c4], rfl, by omega, by omega, ⟨rowV_one (Nat.le_refl _) HB.out, (Sls.nil _).snoc ⟨_, _, _, rfl, H4.out.1, H4.out.2⟩⟩, ⟨(Fr.refl None_ wq).alloc _⟩⟩
    case round =>
      obtain ⟨i, us, rfl, hi0, hi, HX, HQ⟩ := hrel
      obtain ⟨A1, cap1, e1, hcc1, hrd1, _⟩ := HX.out.1.rd
      subst e1
      by_cases hlt : i < (n : Int)
      · have hil : i.toNat < l.length := by omega
        obtain ⟨al, ax, D, nd, cd, hA, hax, l0, l1, l2, l3, l4, l5, l6, l7, HDD, HDS, _⟩ := SPs.at_ HCq.out HSq.out i hi0 hlt
        subst hA
        have HTK := As.mk (take_snoc noPage hil)
        generalize l.getD i.toNat noPage = q at *
        replace l0 := HQ.out.cell l0 (fun h => h)
        replace l1 := HQ.out.cell l1 (fun h => h)
        replace l2 := HQ.out.cell l2 (fun h => h)
        replace l3 := HQ.out.cell l3 (fun h => h)
        replace l4 := HQ.out.cell l4 (fun h => h)
        replace l5 := HQ.out.cell l5 (fun h => h)
        replace l6 := HQ.out.cell l6 (fun h => h)
        replace l7 := HQ.out.cell l7 (fun h => h)
        clear hil
        go_wp2_with (at_builtin; (with_reducible refine appendV wq.heap.size rfl _ _ 125 23 (.slice none 0 0) 1 24 rfl Try.underlying125 infoSl rfl (by decide) (by decide) (.slice A1 (1 + i.toNat) cap1) (1 + i.toNat) us #[.slice D nd cd] (wr.heap.size + 1) ?og rfl rfl rfl ?o0 (HX.out.1.none_ ((Fr.refl None_ wr).alloc _)) ?o2 ?o3 ?_); (case og => simp); (case o0 => intro u hu; simp at hu; subst hu; rfl); (case o2 => have := HQ.out.size; simp; omega); (case o3 => omega); intro v6 w6 hrow6 hfr6 hat6; have HR6 := As.mk hrow6; have HF6 := As.mk hfr6; clear hrow6 hfr6 hat6; obtain ⟨A6, c6, e6, _, _, _⟩ := HR6.out.rd; subst e6)
        have hn1 : 1 + (i + 1).toNat = 1 + i.toNat + 1 := by omega
        have hn2 : (i + 1).toNat = i.toNat + 1 := by omega
        have hFa : Fr None_ wr _ := (Fr.refl None_ wr).alloc (.cells #[.int .u8 q.1.kind, .int .u32 q.1.epoch, .int .u32 q.1.batch, .int .u16 q.1.index, .int .u16 q.1.count, .int .u32 q.1.block, .int .u32 q.1.more, .slice D nd cd] 56)
        have hg6 : Fr None_ wq w6 := RowV.grow (HX.out.1.none_ hFa) (HQ.out.after hFa (fun _ _ h => h)) HF6.out
        refine ⟨⟨i + 1, us ++ [.slice D nd cd], rfl, by omega, by omega, ⟨?_, ?_⟩, ⟨hg6⟩⟩, by simp [intOf]; omega⟩
        · rw [hn1]
          exact HR6.out
        · rw [hn2, HTK.out, List.map_append, ← List.cons_append]
          exact HX.out.2.snoc ⟨D, nd, cd, rfl, HDD.out.1, HDD.out.2.1⟩
      · have hin : i.toNat = l.length := by omega
        have hxs : Sls wq us (pd :: l.map (·.2)) := by have h := HX.out.2; rwa [hin, List.take_length] at h
        have hrds := RdC.sls (ls := pd :: l.map (·.2)) (by have h := hrd1.out; rw [Nat.mul_one] at h; exact h) (hxs.none_ HQ.out) (by omega)
        have hxo := fun (w' : World) (hf : Fr None_ wr w') => Xor_calls s.g.s.toNat (pd :: l.map (·.2)) A1 (1 + i.toNat) cap1 w' (RdS.none_ hrds hf) HPX.out.2 (by omega) (by omega)
        rw [HPX.out.1] at hxo
        have HXO := As.mk hxo
        clear hxo hrds hxs hin hrd1
        go_wp2_with fail
        ((with_reducible refine (HXO.out _ (Fr.refl _ _)).mono ?_); rintro e w7 ⟨v7, rfl, hr7, hf7⟩)
        obtain ⟨A7, n7, c7, e7, _, hd7, _⟩ := hr7.rd
        subst e7
        have HD7 := As.mk hd7.out
        have HF7 := As.mk ((HFW.out.after HQ.out (fun _ _ h => h)).after hf7 (fun _ _ h => h))
        have hn7 := hd7.out.2.1
        clear hr7 hf7 hd7
        go_wp2_with fail
        go_loopw [18, 73] (fun v18 v73 w' => ∃ j : Int, v73 = .int .i64 j ∧ 0 ≤ j ∧ j ≤ (n7 : Int) ∧ As (Fr None_ w7 w')) (fun _ v73 _ => n7 - (intOf v73).toNat)
        case atStart => exact ⟨0, rfl, by omega, by omega, ⟨Fr.refl _ _⟩⟩
        case round =>
          obtain ⟨j, rfl, hj0, hj1, HJ⟩ := hrel
          by_cases hlt2 : j < (n7 : Int)
          · obtain ⟨ad, e, hc⟩ := (HD7.out.none_ HJ.out).at_ j hj0 hlt2
            subst e
            have hz : (List.replicate s.g.s.toNat (0 : Int)).getD j.toNat 0 = 0 := by
              rw [List.getD_eq_getElem?_getD, List.getElem?_replicate]
              split <;> rfl
            rw [hz] at hc
            clear hz
            go_wp2_with fail
            exact ⟨⟨j + 1, rfl, by omega, by omega, HJ⟩, by simp [intOf]; omega⟩
          · go_wp2_with fail
            go_ret2
            exact ⟨rfl, HF7.out.after HJ.out (fun _ _ h => h)⟩
end Go.Proofs.Ytlhgbamajabnfaa.Even

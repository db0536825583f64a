/- The reference's open of a record answers as the program's. -/
import Derived.Test.YtlhgbamajabnfaaOpenLaw
namespace Go.Proofs.Ytlhgbamajabnfaa.OpenR
open Go.RowKit Go.Proofs.Ytlhgbamajabnfaa.Reg Go.Proofs.Ytlhgbamajabnfaa.Gab Go.Proofs.Ytlhgbamajabnfaa.Wr Go.Proofs.Ytlhgbamajabnfaa.Sum Go.Proofs.Ytlhgbamajabnfaa.Fields Go.Proofs.Ytlhgbamajabnfaa.Seal Go.Proofs.Ytlhgbamajabnfaa.Rdr Go.Proofs.Ytlhgbamajabnfaa.Ref Go.Proofs.Ytlhgbamajabnfaa.Ref5 Go.Proofs.Ytlhgbamajabnfaa.SumR Go.Proofs.Ytlhgbamajabnfaa.Open Go.Proofs.Ytlhgbamajabnfaa.OpenLaw
set_option linter.unusedVariables false
set_option linter.unusedSimpArgs false

theorem wrap_in (n : Int) (h0 : -9223372036854775808 ≤ n) (h1 : n < 9223372036854775808) : IntKind.i64.wrap n = n := by rw [IntKind.wrap_i64]; omega
theorem seal_range {h : Head} {data beside : List Int} (hb : InR 256 beside) : InR 256 (sealOf h data beside) := inR_append (pad_range (inR_append (bytes_range h) (le_range 4 _)) _) (tail_range hb)
theorem Num_at (A : Option Addr) (c : Nat) (bs : List Int) (i k : Nat) (I K : Int) (hI : I = i) (hK : K = k) (w : World) (hA : Rd .u8 w A 64 bs) (hr : InR 256 bs) (hk8 : k ≤ 4) (hik : i + k ≤ 64) :
    Calls Try.prog 50 #[.slice A 64 c, .int .i64 I, .int .i64 K] w fun e w' => e = .returned (.int .u64 (numAt bs i k)) ∧ w = w' := by
  subst hI
  subst hK
  have h := Num_calls A 64 c bs i k w hA hr (by decide) (by omega) (by omega) (by omega) (by omega)
  rw [numAt_val hr i k (by omega) (by rw [hA.1]; omega)]
  exact h

set_option maxHeartbeats 4000000 in
set_option maxRecDepth 100000 in
theorem Open_calls (A D : Option Addr) (n c nd cd : Nat) (bs data : List Int) (w : World) (hA : Rd .u8 w A n bs) (hD : Rd .u8 w D nd data) (hr : InR 256 bs) (hrd : InR 256 data) (hc : n ≤ c) (hcd : nd ≤ cd) (hn : n ≤ 1073741824) (hnd : nd ≤ 1073741824) :
    Calls Try.prog 20 #[.slice D nd cd, .slice A n c] w fun e w' => e = .returned (.tuple #[.agg (rvals (openOf data bs).1), .bool (openOf data bs).2]) ∧ Fr None_ w w' := by
  have HA := As.mk hA
  have HD := As.mk hD
  have HR := As.mk hr
  have HRD := As.mk hrd
  have HN := As.mk hA.1
  have HOF : As (openOf data bs = if okB data bs = true then (headOf bs, true) else (zeroHead, false)) := ⟨rfl⟩
  have HOK := As.mk (okB_law (data := data) hr)
  clear hA hD hr hrd
  by_cases h64 : n = 64
  · subst h64
    have HH := As.mk (head_ok HR.out HN.out)
    obtain ⟨ad, e, hk2⟩ := HA.out.at_ 2 (by decide) (by decide)
    subst e
    have e2 : bs.getD (Int.toNat 2) 0 = numAt bs 2 1 := by
      rw [numAt_val HR.out 2 1 (by decide) (by have := HN.out; omega)]
      have hl := HN.out
      have : (bs.drop 2).take 1 = [bs.getD 2 0] := by
        rw [List.getD_eq_getElem?_getD, List.getElem?_eq_getElem (by omega), List.drop_eq_getElem_cons (by omega)]
        rfl
      rw [this]
      simp [leVal]
    rw [e2] at hk2
    have hk2' : w.cell? ⟨ad.block, ad.off + 2, none⟩ = some (.int .u8 (numAt bs 2 1)) := hk2
    clear hk2 e2
    have g1 := HH.out.kind
    have g2 := HH.out.epoch
    have g3 := HH.out.batch
    have g4 := HH.out.index
    have g5 := HH.out.count
    have g6 := HH.out.block
    have g7 := HH.out.more
    have HV : As (rvals (headOf bs) = #[.int .i64 (numAt bs 2 1), .int .i64 (numAt bs 4 4), .int .i64 (numAt bs 8 4), .int .i64 (numAt bs 12 2), .int .i64 (numAt bs 14 2), .int .i64 (numAt bs 16 4), .int .i64 (numAt bs 20 4)]) := ⟨rfl⟩
    have N1 := As.mk (fun w' (h : Fr None_ w w') => Num_at (some ad) c bs 4 4 4 4 rfl rfl w' (HA.out.none_ h) HR.out (by decide) (by decide))
    have N2 := As.mk (fun w' (h : Fr None_ w w') => Num_at (some ad) c bs 8 4 8 4 rfl rfl w' (HA.out.none_ h) HR.out (by decide) (by decide))
    have N3 := As.mk (fun w' (h : Fr None_ w w') => Num_at (some ad) c bs 12 2 12 2 rfl rfl w' (HA.out.none_ h) HR.out (by decide) (by decide))
    have N4 := As.mk (fun w' (h : Fr None_ w w') => Num_at (some ad) c bs 14 2 14 2 rfl rfl w' (HA.out.none_ h) HR.out (by decide) (by decide))
    have N5 := As.mk (fun w' (h : Fr None_ w w') => Num_at (some ad) c bs 16 4 16 4 rfl rfl w' (HA.out.none_ h) HR.out (by decide) (by decide))
    have N6 := As.mk (fun w' (h : Fr None_ w w') => Num_at (some ad) c bs 20 4 20 4 rfl rfl w' (HA.out.none_ h) HR.out (by decide) (by decide))
    change 0 ≤ numAt bs 2 1 ∧ numAt bs 2 1 < 256 at g1
    change 0 ≤ numAt bs 4 4 ∧ numAt bs 4 4 < 4294967296 at g2
    change 0 ≤ numAt bs 8 4 ∧ numAt bs 8 4 < 4294967296 at g3
    change 0 ≤ numAt bs 12 2 ∧ numAt bs 12 2 < 65536 at g4
    change 0 ≤ numAt bs 14 2 ∧ numAt bs 14 2 < 65536 at g5
    change 0 ≤ numAt bs 16 4 ∧ numAt bs 16 4 < 4294967296 at g6
    change 0 ≤ numAt bs 20 4 ∧ numAt bs 20 4 < 4294967296 at g7
    have hkd : (headOf bs).kind = numAt bs 2 1 := rfl
    generalize numAt bs 2 1 = kind at *
    generalize numAt bs 4 4 = epoch at *
    generalize numAt bs 8 4 = batch at *
    generalize numAt bs 12 2 = index at *
    generalize numAt bs 14 2 = count at *
    generalize numAt bs 16 4 = block at *
    generalize numAt bs 20 4 = more at *
    go_enter Try.func20, Try.ntmps20
    go_upto_region 3 with fail
    go_cut [6] (fun v6 wx => v6 = .pointer (some ⟨w.heap.size + 1, 0, none⟩) ∧ As (wx.heap[w.heap.size + 1]? = some (.cells #[.int .i64 kind, .int .i64 epoch, .int .i64 batch, .int .i64 index, .int .i64 count, .int .i64 block, .int .i64 more] 47 (0, 0)) ∧ wx.heap[w.heap.size]? = some (.cells #[.int .i64 0, .int .i64 0, .int .i64 0, .int .i64 0, .int .i64 0, .int .i64 0, .int .i64 0] 47 (0, 0)) ∧ wx.heap.size = w.heap.size + 2 ∧ Fr None_ w wx))
    case first =>
      go_region_held3 (fun w' => w'.cell? ⟨ad.block, ad.off + 2, none⟩ = some (.int .u8 kind)) (first | go_keep | (refine Fr.cell ‹Fr None_ _ _› ?_ (fun h => h); go_keep)) (first | (go_at_call 50; first | ((with_reducible refine (N1.out _ ?_).mono ?_); (focus repeat (first | exact Fr.refl _ _ | apply Fr.drew | apply Fr.drewN | apply Fr.alloc)); rintro e w1 ⟨rfl, rfl⟩) | ((with_reducible refine (N2.out _ ?_).mono ?_); (focus repeat (first | exact Fr.refl _ _ | apply Fr.drew | apply Fr.drewN | apply Fr.alloc)); rintro e w1 ⟨rfl, rfl⟩) | ((with_reducible refine (N3.out _ ?_).mono ?_); (focus repeat (first | exact Fr.refl _ _ | apply Fr.drew | apply Fr.drewN | apply Fr.alloc)); rintro e w1 ⟨rfl, rfl⟩) | ((with_reducible refine (N4.out _ ?_).mono ?_); (focus repeat (first | exact Fr.refl _ _ | apply Fr.drew | apply Fr.drewN | apply Fr.alloc)); rintro e w1 ⟨rfl, rfl⟩) | ((with_reducible refine (N5.out _ ?_).mono ?_); (focus repeat (first | exact Fr.refl _ _ | apply Fr.drew | apply Fr.drewN | apply Fr.alloc)); rintro e w1 ⟨rfl, rfl⟩) | ((with_reducible refine (N6.out _ ?_).mono ?_); (focus repeat (first | exact Fr.refl _ _ | apply Fr.drew | apply Fr.drewN | apply Fr.alloc)); rintro e w1 ⟨rfl, rfl⟩)))
      all_goals
        go_wp2_with fail
        go_meet
        case rel =>
          rw [wrap_in kind (by omega) (by omega), wrap_in epoch (by omega) (by omega), wrap_in batch (by omega) (by omega), wrap_in index (by omega) (by omega), wrap_in count (by omega) (by omega), wrap_in block (by omega) (by omega), wrap_in more (by omega) (by omega)]
          exact ⟨rfl, ⟨at_new _ (size_new _ rfl), at_old _ (heap_alloc_new w _), size_new _ (size_new _ rfl), (((Fr.refl None_ w).alloc _).alloc _).drew⟩⟩
    case rest =>
      obtain ⟨rfl, HX⟩ := hcut
      have c0 : wc.cell? ⟨w.heap.size + 1, 0, none⟩ = some (.int .i64 kind) := by have h := HX.out.1; simp [World.cell?, h]
      have c1 : wc.cell? ⟨w.heap.size + 1, 1, none⟩ = some (.int .i64 epoch) := by have h := HX.out.1; simp [World.cell?, h]
      have c2 : wc.cell? ⟨w.heap.size + 1, 2, none⟩ = some (.int .i64 batch) := by have h := HX.out.1; simp [World.cell?, h]
      have c3 : wc.cell? ⟨w.heap.size + 1, 3, none⟩ = some (.int .i64 index) := by have h := HX.out.1; simp [World.cell?, h]
      have c4 : wc.cell? ⟨w.heap.size + 1, 4, none⟩ = some (.int .i64 count) := by have h := HX.out.1; simp [World.cell?, h]
      have c5 : wc.cell? ⟨w.heap.size + 1, 5, none⟩ = some (.int .i64 block) := by have h := HX.out.1; simp [World.cell?, h]
      have c6 : wc.cell? ⟨w.heap.size + 1, 6, none⟩ = some (.int .i64 more) := by have h := HX.out.1; simp [World.cell?, h]
      have z0 : wc.cell? ⟨w.heap.size, 0, none⟩ = some (.int .i64 0) := by have h := HX.out.2.1; simp [World.cell?, h]
      have y0 : wc.frozen? ⟨w.heap.size, 0, none⟩ = false := by have h := HX.out.2.1; simp [World.frozen?, h]
      have z1 : wc.cell? ⟨w.heap.size, 1, none⟩ = some (.int .i64 0) := by have h := HX.out.2.1; simp [World.cell?, h]
      have y1 : wc.frozen? ⟨w.heap.size, 1, none⟩ = false := by have h := HX.out.2.1; simp [World.frozen?, h]
      have z2 : wc.cell? ⟨w.heap.size, 2, none⟩ = some (.int .i64 0) := by have h := HX.out.2.1; simp [World.cell?, h]
      have y2 : wc.frozen? ⟨w.heap.size, 2, none⟩ = false := by have h := HX.out.2.1; simp [World.frozen?, h]
      have z3 : wc.cell? ⟨w.heap.size, 3, none⟩ = some (.int .i64 0) := by have h := HX.out.2.1; simp [World.cell?, h]
      have y3 : wc.frozen? ⟨w.heap.size, 3, none⟩ = false := by have h := HX.out.2.1; simp [World.frozen?, h]
      have z4 : wc.cell? ⟨w.heap.size, 4, none⟩ = some (.int .i64 0) := by have h := HX.out.2.1; simp [World.cell?, h]
      have y4 : wc.frozen? ⟨w.heap.size, 4, none⟩ = false := by have h := HX.out.2.1; simp [World.frozen?, h]
      have z5 : wc.cell? ⟨w.heap.size, 5, none⟩ = some (.int .i64 0) := by have h := HX.out.2.1; simp [World.cell?, h]
      have y5 : wc.frozen? ⟨w.heap.size, 5, none⟩ = false := by have h := HX.out.2.1; simp [World.frozen?, h]
      have z6 : wc.cell? ⟨w.heap.size, 6, none⟩ = some (.int .i64 0) := by have h := HX.out.2.1; simp [World.cell?, h]
      have y6 : wc.frozen? ⟨w.heap.size, 6, none⟩ = false := by have h := HX.out.2.1; simp [World.frozen?, h]
      have HK : As ((headOf bs).kind = kind) := ⟨hkd⟩
      by_cases k1 : kind < 1
      · have HO : As (openOf data bs = (zeroHead, false)) := ⟨by rw [HOF.out, HOK.out, HK.out, decide_eq_false (show ¬ 1 ≤ kind by omega)]; simp⟩
        have k1b : decide (kind < 1) = true := decide_eq_true k1
        go_wp2
        go_quiet (fail)
        go_wp2
        exact bodyPost_ret (v := (.tuple #[.agg (rvals zeroHead), .bool false])) (by simp [results, Try.results20, go_sem, zeroHead, rvals, z0, z1, z2, z3, z4, z5, z6]) rfl ⟨by rw [HO.out], (fr_new (fr_new (fr_new (fr_new (fr_new (fr_new (fr_new (HX.out.2.2.2.drewN _) (by omega) 0 _) (by omega) 1 _) (by omega) 2 _) (by omega) 3 _) (by omega) 4 _) (by omega) 5 _) (by omega) 6 _)⟩
      · have k1b : decide (kind < 1) = false := decide_eq_false k1
        by_cases k6 : 6 < kind
        · have HO : As (openOf data bs = (zeroHead, false)) := ⟨by rw [HOF.out, HOK.out, HK.out, decide_eq_false (show ¬ kind ≤ 6 by omega)]; simp⟩
          have k6b : decide (6 < kind) = true := decide_eq_true k6
          go_wp2
          go_quiet (fail)
          go_wp2
          exact bodyPost_ret (v := (.tuple #[.agg (rvals zeroHead), .bool false])) (by simp [results, Try.results20, go_sem, zeroHead, rvals, z0, z1, z2, z3, z4, z5, z6]) rfl ⟨by rw [HO.out], (fr_new (fr_new (fr_new (fr_new (fr_new (fr_new (fr_new (HX.out.2.2.2.drewN _) (by omega) 0 _) (by omega) 1 _) (by omega) 2 _) (by omega) 3 _) (by omega) 4 _) (by omega) 5 _) (by omega) 6 _)⟩
        · have k6b : decide (6 < kind) = false := decide_eq_false k6
          have HSL : As (∀ w', Fr None_ wc w' → Calls Try.prog 51 #[.agg #[.int .i64 kind, .int .i64 epoch, .int .i64 batch, .int .i64 index, .int .i64 count, .int .i64 block, .int .i64 more], .slice D nd cd, .slice (if c = 32 then some ad else some ⟨ad.block, ad.off + 32, none⟩) 32 (c - 32)] w' fun e w'' => ∃ v, e = .returned v ∧ Row 5 .u8 w'' w'.heap.size v (sealOf (headOf bs) data (bs.drop 32)) ∧ Fr None_ w' w'') := ⟨fun w' h => by
            have hd32 := HA.out.drop 32 (by decide) hc
            rw [if_neg (by omega)] at hd32
            rw [← HV.out, if_neg (by omega)]
            exact Ref5.Seal_calls (headOf bs) data (bs.drop 32) D _ nd 32 cd (c - 32) w' HH.out ((HD.out.none_ HX.out.2.2.2).none_ h) ((hd32.none_ HX.out.2.2.2).none_ h) hcd (by omega) HRD.out (inR_drop HR.out _) hnd (by decide)⟩
          have HSR : As (InR 256 (sealOf (headOf bs) data (bs.drop 32))) := ⟨seal_range (inR_drop HR.out _)⟩
          have HAC := As.mk (HA.out.none_ HX.out.2.2.2)
          have HEQ : As (openOf data bs = if sealOf (headOf bs) data (bs.drop 32) = bs then (headOf bs, true) else (zeroHead, false)) := ⟨by rw [HOF.out, HOK.out, HK.out, decide_eq_true (show 1 ≤ kind by omega), decide_eq_true (show kind ≤ 6 by omega), HN.out]; simp⟩
          generalize sealOf (headOf bs) data (bs.drop 32) = sl at *
          go_upto_region 4 with fail
          go_cut [51] (fun v51 wx => v51 = .bool (!decide (sl = bs)) ∧ As (Fr None_ wc wx))
          case first =>
            go_region_held3 (fun w' => w'.cell? ⟨w.heap.size + 1, 0, none⟩ = some (.int .i64 kind) ∧ w'.cell? ⟨w.heap.size + 1, 1, none⟩ = some (.int .i64 epoch) ∧ w'.cell? ⟨w.heap.size + 1, 2, none⟩ = some (.int .i64 batch) ∧ w'.cell? ⟨w.heap.size + 1, 3, none⟩ = some (.int .i64 index) ∧ w'.cell? ⟨w.heap.size + 1, 4, none⟩ = some (.int .i64 count) ∧ w'.cell? ⟨w.heap.size + 1, 5, none⟩ = some (.int .i64 block) ∧ w'.cell? ⟨w.heap.size + 1, 6, none⟩ = some (.int .i64 more)) (first | go_keep | (refine ⟨?_, ?_, ?_, ?_, ?_, ?_, ?_⟩ <;> (refine Fr.cell ‹Fr None_ _ _› ?_ (fun h => h); go_keep))) (first | (go_at_call 51; (with_reducible refine (HSL.out _ ?_).mono ?_); (focus repeat (first | exact Fr.refl _ _ | apply Fr.drew | apply Fr.drewN | apply Fr.alloc)); rintro e w1 ⟨sv, rfl, hrow, hf1⟩; obtain ⟨As1, ns1, cs1, es1, _, hsd, _⟩ := hrow.rd; subst es1) | (go_at_call 22; (with_reducible refine (Same_calls _ _ _ _ _ _ _ _ _ (hsd.out.none_ ?_) (HAC.out.none_ (Fr.after (T := None_) (b := w1) (Fr.after (T := None_) ?_ hf1 (fun _ _ h => h)) ?_ (fun _ _ h => h))) HSR.out HR.out).mono ?_); (focus repeat (first | exact Fr.refl _ _ | apply Fr.drew | apply Fr.drewN | apply Fr.alloc)); (focus repeat (first | exact Fr.refl _ _ | apply Fr.drew | apply Fr.drewN | apply Fr.alloc)); (focus repeat (first | exact Fr.refl _ _ | apply Fr.drew | apply Fr.drewN | apply Fr.alloc)); rintro e w2 ⟨rfl, rfl⟩))
            all_goals
              go_wp2_with fail
              go_meet
              case rel => exact ⟨rfl, ⟨Fr.after (T := None_) (b := w1) (Fr.after (T := None_) (by repeat (first | exact Fr.refl _ _ | apply Fr.drew | apply Fr.drewN | apply Fr.alloc)) hf1 (fun _ _ h => h)) (by repeat (first | exact Fr.refl _ _ | apply Fr.drew | apply Fr.drewN | apply Fr.alloc)) (fun _ _ h => h)⟩⟩
          case rest =>
            obtain ⟨rfl, HF2⟩ := hcut
            rename World => wd
            have q0 : wd.cell? ⟨w.heap.size + 1, 0, none⟩ = some (.int .i64 kind) := HF2.out.cell c0 (fun h => h)
            have p0 : wd.cell? ⟨w.heap.size, 0, none⟩ = some (.int .i64 0) := HF2.out.cell z0 (fun h => h)
            have o0 : wd.frozen? ⟨w.heap.size, 0, none⟩ = false := by have h := HF2.out.heap HX.out.2.1 (fun h => h); simp [World.frozen?, h]
            have q1 : wd.cell? ⟨w.heap.size + 1, 1, none⟩ = some (.int .i64 epoch) := HF2.out.cell c1 (fun h => h)
            have p1 : wd.cell? ⟨w.heap.size, 1, none⟩ = some (.int .i64 0) := HF2.out.cell z1 (fun h => h)
            have o1 : wd.frozen? ⟨w.heap.size, 1, none⟩ = false := by have h := HF2.out.heap HX.out.2.1 (fun h => h); simp [World.frozen?, h]
            have q2 : wd.cell? ⟨w.heap.size + 1, 2, none⟩ = some (.int .i64 batch) := HF2.out.cell c2 (fun h => h)
            have p2 : wd.cell? ⟨w.heap.size, 2, none⟩ = some (.int .i64 0) := HF2.out.cell z2 (fun h => h)
            have o2 : wd.frozen? ⟨w.heap.size, 2, none⟩ = false := by have h := HF2.out.heap HX.out.2.1 (fun h => h); simp [World.frozen?, h]
            have q3 : wd.cell? ⟨w.heap.size + 1, 3, none⟩ = some (.int .i64 index) := HF2.out.cell c3 (fun h => h)
            have p3 : wd.cell? ⟨w.heap.size, 3, none⟩ = some (.int .i64 0) := HF2.out.cell z3 (fun h => h)
            have o3 : wd.frozen? ⟨w.heap.size, 3, none⟩ = false := by have h := HF2.out.heap HX.out.2.1 (fun h => h); simp [World.frozen?, h]
            have q4 : wd.cell? ⟨w.heap.size + 1, 4, none⟩ = some (.int .i64 count) := HF2.out.cell c4 (fun h => h)
            have p4 : wd.cell? ⟨w.heap.size, 4, none⟩ = some (.int .i64 0) := HF2.out.cell z4 (fun h => h)
            have o4 : wd.frozen? ⟨w.heap.size, 4, none⟩ = false := by have h := HF2.out.heap HX.out.2.1 (fun h => h); simp [World.frozen?, h]
            have q5 : wd.cell? ⟨w.heap.size + 1, 5, none⟩ = some (.int .i64 block) := HF2.out.cell c5 (fun h => h)
            have p5 : wd.cell? ⟨w.heap.size, 5, none⟩ = some (.int .i64 0) := HF2.out.cell z5 (fun h => h)
            have o5 : wd.frozen? ⟨w.heap.size, 5, none⟩ = false := by have h := HF2.out.heap HX.out.2.1 (fun h => h); simp [World.frozen?, h]
            have q6 : wd.cell? ⟨w.heap.size + 1, 6, none⟩ = some (.int .i64 more) := HF2.out.cell c6 (fun h => h)
            have p6 : wd.cell? ⟨w.heap.size, 6, none⟩ = some (.int .i64 0) := HF2.out.cell z6 (fun h => h)
            have o6 : wd.frozen? ⟨w.heap.size, 6, none⟩ = false := by have h := HF2.out.heap HX.out.2.1 (fun h => h); simp [World.frozen?, h]
            have HEB : As (openOf data bs = if decide (sl = bs) = true then (headOf bs, true) else (zeroHead, false)) := ⟨by rw [HEQ.out]; by_cases he : sl = bs <;> simp [he]⟩
            generalize decide (sl = bs) = b at *
            cases b
            rotate_left
            · have HO : As (openOf data bs = (headOf bs, true)) := ⟨by rw [HEB.out, if_pos rfl]⟩
              have HV2 := HV
              go_wp2
              exact bodyPost_ret (v := .tuple #[.agg #[.int .i64 kind, .int .i64 epoch, .int .i64 batch, .int .i64 index, .int .i64 count, .int .i64 block, .int .i64 more], .bool true]) (by simp [results, Try.results20, go_sem, p0, p1, p2, p3, p4, p5, p6]) rfl ⟨by rw [HO.out, HV2.out], (fr_new (fr_new (fr_new (fr_new (fr_new (fr_new (fr_new ((HX.out.2.2.2.after HF2.out (fun _ _ h => h))) (by omega) 0 _) (by omega) 1 _) (by omega) 2 _) (by omega) 3 _) (by omega) 4 _) (by omega) 5 _) (by omega) 6 _)⟩
            · have HO : As (openOf data bs = (zeroHead, false)) := ⟨by rw [HEB.out, if_neg (by decide)]⟩
              go_wp2
              exact bodyPost_ret (v := .tuple #[.agg (rvals zeroHead), .bool false]) (by simp [results, Try.results20, go_sem, zeroHead, rvals, p0, p1, p2, p3, p4, p5, p6]) rfl ⟨by rw [HO.out], (fr_new (fr_new (fr_new (fr_new (fr_new (fr_new (fr_new ((HX.out.2.2.2.after HF2.out (fun _ _ h => h))) (by omega) 0 _) (by omega) 1 _) (by omega) 2 _) (by omega) 3 _) (by omega) 4 _) (by omega) 5 _) (by omega) 6 _)⟩
  · have HO : As (openOf data bs = (zeroHead, false)) := ⟨by rw [HOF.out, HOK.out, HN.out, decide_eq_false h64]; simp⟩
    have hb : ((n : Int) != 64) = true := by rw [bne_iff_ne]; omega
    clear h64
    go_enter Try.func20, Try.ntmps20
    go_wp2
    exact bodyPost_ret (v := .tuple #[.agg (rvals zeroHead), .bool false]) (by simp [results, Try.results20, go_sem, zeroHead, rvals]) rfl ⟨by rw [HO.out], (Fr.refl None_ w).alloc _⟩
end Go.Proofs.Ytlhgbamajabnfaa.OpenR

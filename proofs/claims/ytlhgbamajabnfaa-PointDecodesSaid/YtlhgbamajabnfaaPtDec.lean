/- The law PointDecodes: its walk. -/
import Derived.Test.YtlhgbamajabnfaaRDec
import Derived.Test.YtlhgbamajabnfaaPtAgain
namespace Go.Proofs.Ytlhgbamajabnfaa.PtDec
open Go.RowKit Go.Proofs.Ytlhgbamajabnfaa.Ord Go.Proofs.Ytlhgbamajabnfaa.Write Go.Proofs.Ytlhgbamajabnfaa.Gab Go.Proofs.Ytlhgbamajabnfaa.Wr Go.Proofs.Ytlhgbamajabnfaa.Geom Go.Proofs.Ytlhgbamajabnfaa.Fields Go.Proofs.Ytlhgbamajabnfaa.Ref Go.Proofs.Ytlhgbamajabnfaa.Last Go.Proofs.Ytlhgbamajabnfaa.Point1 Go.Proofs.Ytlhgbamajabnfaa.Point2 Go.Proofs.Ytlhgbamajabnfaa.Point4 Go.Proofs.Ytlhgbamajabnfaa.Point5 Go.Proofs.Ytlhgbamajabnfaa.Point7 Go.Proofs.Ytlhgbamajabnfaa.PtLaw Go.Proofs.Ytlhgbamajabnfaa.Kept Go.Proofs.Ytlhgbamajabnfaa.Written Go.Proofs.Ytlhgbamajabnfaa.PtAgain Go.Proofs.Ytlhgbamajabnfaa.RDec
open Go.Proofs.Ytlhgbamajabnfaa.Dec3 (nb nbs nb_range nbs_len nbs_get nbs_succ Fits)
open Go.Proofs.Ytlhgbamajabnfaa.Dec5 (IsPt set4 DecPost Decode_calls)
set_option linter.unusedVariables false
set_option linter.unusedSimpArgs false

theorem Row.at_slice {e : TypeId} {k : IntKind} {w : World} {base : Nat} {A : Option Addr} {n c : Nat} {xs : List Int} (h : Row e k w base (.slice A n c) xs) : n ≤ c ∧ Rd k w A n xs := by
  obtain ⟨A', n', c', e', h1, h2, _⟩ := h.rd
  injection e' with e1 e2 e3
  subst e1 e2 e3
  exact ⟨h1.out, h2.out⟩
theorem pt_rows {w : World} {b b' : Nat} {x : Num} (hx : x.Ok) {A B : Option Addr} {n c k d : Nat} (h1 : Row 51 .u32 w b (.slice A n c) x.m) (h2 : Row 51 .u32 w b' (.slice B k d) x.er) : PtAt w ⟨x.seq, x.batch, A, n, c, B, k, d⟩ x.m x.er ∧ n ≤ 100000 ∧ k ≤ 100000 := by
  obtain ⟨c1, r1⟩ := Row.at_slice h1
  obtain ⟨c2, r2⟩ := Row.at_slice h2
  exact ⟨⟨hx.seq, hx.batch, r1, hx.m, c1, r2, hx.er, c2⟩, by have := r1.1; have := hx.ml; omega, by have := r2.1; have := hx.el; omega⟩
theorem rpt_rows {w : World} {b b' : Nat} {x : Num} (hx : x.Ok) {A B : Option Addr} {n c k d : Nat} (h1 : Row 2 .i64 w b (.slice A n c) x.m) (h2 : Row 2 .i64 w b' (.slice B k d) x.er) : RPtAt w ⟨x.seq, x.batch, A, n, c, B, k, d⟩ x.m x.er := by
  obtain ⟨c1, r1⟩ := Row.at_slice h1
  obtain ⟨c2, r2⟩ := Row.at_slice h2
  exact ⟨hx.seq, hx.batch, r1, hx.m, by have := r1.1; have := hx.ml; show n ≤ 100000; omega, r2, hx.er, by have := r2.1; have := hx.el; show k ≤ 100000; omega⟩
/-- What both Decodes find of bytes. -/
structure Found (bs : List Int) (x : Num) (code : Int) : Prop where
  ok : x.Ok
  dec : ∀ (A : Option Addr) (n c : Nat) (w : World), Rd .u8 w A n bs → n ≤ c → Calls Try.prog 31 #[.slice A n c] w fun e w' => ∃ A1 n1 c1 B1 k1 d1, e = .returned (.tuple #[.agg #[.int .u32 x.seq, .int .u32 x.batch, .slice A1 n1 c1, .slice B1 k1 d1], .int .i64 code]) ∧ Row 51 .u32 w' w.heap.size (.slice A1 n1 c1) x.m ∧ Row 51 .u32 w' w.heap.size (.slice B1 k1 d1) x.er ∧ Fr None_ w w'
  ref : ∀ (A : Option Addr) (n c : Nat) (w : World), Rd .u8 w A n bs → n ≤ c → Calls Try.prog 36 #[.slice A n c] w fun e w' => ∃ A1 n1 c1 B1 k1 d1, e = .returned (.tuple #[.agg #[.int .i64 x.seq, .int .i64 x.batch, .slice A1 n1 c1, .slice B1 k1 d1], .int .i64 code]) ∧ Row 2 .i64 w' w.heap.size (.slice A1 n1 c1) x.m ∧ Row 2 .i64 w' w.heap.size (.slice B1 k1 d1) x.er ∧ Fr None_ w w'
theorem nbs_range (bs : List Int) (i k : Nat) : InR 4294967296 (nbs bs i k) := fun y hy => by
  unfold nbs at hy
  obtain ⟨j, _, rfl⟩ := List.mem_map.1 hy
  exact nb_range _ _
theorem found (bs : List Int) (hr : InR 256 bs) (hl : bs.length ≤ 4000) : ∃ x code, Found bs x code := by
  by_cases h : IsPt bs
  · have h8 := nb_range bs 8
    have h12 := nb_range bs 12
    obtain ⟨⟨h1, h2, h3⟩, _⟩ := id h
    have l1 := nbs_len bs 16 (nb bs 8).toNat
    have l2 := nbs_len bs (16 + 4 * (nb bs 8).toNat) (nb bs 12).toNat
    refine ⟨⟨nb bs 0, nb bs 4, nbs bs 16 (nb bs 8).toNat, nbs bs (16 + 4 * (nb bs 8).toNat) (nb bs 12).toNat⟩, 0, ⟨nb_range _ _, nb_range _ _, nbs_range _ _ _, nbs_range _ _ _, by dsimp only; omega, by dsimp only; omega⟩, fun A n c w hA hc => ?_, fun A n c w hA hc => ?_⟩
    · refine (Decode_calls A n c bs w hA hr hc (by have := hA.1; omega)).mono fun e w' hp => ?_
      rcases hp with ⟨_, vM, vE, rfl, hM, hE, hf⟩ | ⟨hn, _⟩
      · obtain ⟨A1, n1, c1, rfl, _⟩ := hM.rd
        obtain ⟨B1, k1, d1, rfl, _⟩ := hE.rd
        exact ⟨A1, n1, c1, B1, k1, d1, rfl, hM, hE, hf⟩
      · exact absurd h hn
    · refine (RDecode_calls A n c bs w hA hr hc (by have := hA.1; omega)).mono fun e w' hp => ?_
      rcases hp with ⟨_, vM, vE, rfl, hM, hE, hf⟩ | ⟨hn, _⟩
      · obtain ⟨A1, n1, c1, rfl, _⟩ := hM.rd
        obtain ⟨B1, k1, d1, rfl, _⟩ := hE.rd
        exact ⟨A1, n1, c1, B1, k1, d1, rfl, hM, hE, hf⟩
      · exact absurd h hn
  · refine ⟨⟨0, 0, [], []⟩, 62, ⟨by decide, by decide, in32 rfl, in32 rfl, by decide, by decide⟩, fun A n c w hA hc => ?_, fun A n c w hA hc => ?_⟩
    · refine (Decode_calls A n c bs w hA hr hc (by have := hA.1; omega)).mono fun e w' hp => ?_
      rcases hp with ⟨hn, _⟩ | ⟨_, rfl, hf⟩
      · exact absurd hn h
      · exact ⟨none, 0, 0, none, 0, 0, rfl, Row.nil _ _ _ _, Row.nil _ _ _ _, hf⟩
    · refine (RDecode_calls A n c bs w hA hr hc (by have := hA.1; omega)).mono fun e w' hp => ?_
      rcases hp with ⟨hn, _⟩ | ⟨_, rfl, hf⟩
      · exact absurd hn h
      · exact ⟨none, 0, 0, none, 0, 0, rfl, Row.nil _ _ _ _, Row.nil _ _ _ _, hf⟩

set_option maxHeartbeats 8000000 in
set_option maxRecDepth 100000 in
theorem great_calls (A : Option Addr) (n c : Nat) (N K : Int) (w : World) (h : 2000 < n) :
    Calls Try.prog 7 #[.slice A n c, .int .u32 N, .int .u32 K] w fun e w' => e = .returned (.bool true) ∧ Fr None_ w w' := by
  have HK := As.mk (fun w => written_calls w)
  have d0 : decide ((2000 : Int) < (n : Int)) = true := decide_eq_true (by omega)
  clear h
  go_enter Try.func7, Try.ntmps7
  go_wp2_with fail
  ((with_reducible refine (HK.out _).mono ?_); rintro e w1 ⟨rfl, hf1⟩)
  have HF1 := As.mk hf1
  clear hf1
  go_wp2_with fail
  ((with_reducible refine (HK.out _).mono ?_); rintro e w2 ⟨rfl, hf2⟩)
  have HF2 := As.mk (HF1.out.after hf2 (fun _ _ h => h))
  go_wp2_with fail
  go_ret
  exact ⟨rfl, HF2.out⟩

/-- The later bytes. -/
def behindB (N K : Int) (bs : List Int) : List Int := ((List.replicate 8 0 ++ le N 4) ++ le K 4) ++ bs
theorem behindB_range {N K : Int} {bs : List Int} (h : InR 256 bs) : InR 256 (behindB N K bs) := fun y hy => by
  unfold behindB at hy
  rcases List.mem_append.1 hy with hy | hy
  · rcases List.mem_append.1 hy with hy | hy
    · rcases List.mem_append.1 hy with hy | hy
      · obtain ⟨_, rfl⟩ := List.mem_replicate.1 hy
        decide
      · exact le_range 4 N y hy
    · exact le_range 4 K y hy
  · exact h y hy
theorem behindB_len {N K : Int} {bs : List Int} : (behindB N K bs).length = 16 + bs.length := by
  unfold behindB
  simp [le_length]
  omega

set_option maxHeartbeats 8000000 in
set_option maxRecDepth 100000 in
theorem dec_calls (A : Option Addr) (n c : Nat) (bs : List Int) (N K : Int) (w : World) (hA : Rd .u8 w A n bs) (hr : InR 256 bs) (hc : n ≤ c) (hn : n ≤ 2000) (hN : 0 ≤ N ∧ N < 4294967296) (hK : 0 ≤ K ∧ K < 4294967296) :
    Calls Try.prog 7 #[.slice A n c, .int .u32 N, .int .u32 K] w fun e w' => e = .returned (.bool true) ∧ Fr None_ w w' := by
  have HK := As.mk (fun w => written_calls w)
  have HA := As.mk hA
  have hl := hA.1
  have hbl := behindB_len (N := N) (K := K) (bs := bs)
  obtain ⟨x, c1, hx⟩ := found bs hr (by omega)
  obtain ⟨y, c2, hy⟩ := found (behindB N K bs) (behindB_range hr) (by omega)
  have HX := As.mk hx
  have HY := As.mk hy
  have HL := As.mk (And.intro hl (And.intro hbl hn))
  have HC := As.mk hc
  have HZ := As.mk (show ∀ w, Calls Try.prog 32 #[.int .i64 8] w (fun e w' => ∃ v, e = .returned v ∧ Row 5 .u8 w' w.heap.size v (List.replicate 8 0) ∧ Fr None_ w w') from fun w => Zeros_calls 8 w (by decide))
  have HBN := As.mk (fun w => Bytes_calls N 4 w hN.1 (by omega) (by decide) (by decide))
  have HBK := As.mk (fun w => Bytes_calls K 4 w hK.1 (by omega) (by decide) (by decide))
  have n1 : IntKind.u64.wrap N = N := by rw [IntKind.wrap_u64]; omega
  have n2 : IntKind.u64.wrap K = K := by rw [IntKind.wrap_u64]; omega
  have d0 : decide ((2000 : Int) < (n : Int)) = false := decide_eq_false (by omega)
  have HBB := As.mk (show behindB N K bs = ((List.replicate 8 0 ++ le N (Int.toNat 4)) ++ le K (Int.toNat 4)) ++ bs from rfl)
  generalize behindB N K bs = bs2 at *
  clear hA hl hr hbl hx hy hN hK hc hn
  go_enter Try.func7, Try.ntmps7
  go_wp2_with fail
  ((with_reducible refine (HK.out _).mono ?_); rintro e w1 ⟨rfl, hf1⟩)
  have HF1 := As.mk hf1
  clear hf1 HK
  go_wp2_with fail
  ((with_reducible refine (HX.out.dec A n c _ (HA.out.none_ HF1.out) HC.out).mono ?_); rintro e w2 ⟨A2, n2', k2, B2, m2, j2, rfl, hm2, he2, hf2⟩)
  obtain ⟨hp2, hl2⟩ := pt_rows HX.out.ok hm2 he2
  clear hm2 he2
  have HP2 := As.mk hp2
  have HL2 := As.mk hl2
  have HF2 := As.mk (HF1.out.after hf2 (fun _ _ h => h))
  have hfn : Fr None_ w2 (w2.alloc (.cells #[.int .u32 x.seq, .int .u32 x.batch, .slice A2 n2' k2, .slice B2 m2 j2] 73)) := (Fr.refl None_ w2).alloc _
  have HB3 := As.mk (heap_alloc_new w2 (.cells #[.int .u32 x.seq, .int .u32 x.batch, .slice A2 n2' k2, .slice B2 m2 j2] 73))
  clear hp2 hl2 hf2 HF1
  go_wp2_with fail
  generalize w2.alloc (.cells #[.int .u32 x.seq, .int .u32 x.batch, .slice A2 n2' k2, .slice B2 m2 j2] 73) = w3 at *
  have HPS := As.mk HF2.out.size
  generalize w2.heap.size = p at *
  have HF3 := As.mk (HF2.out.after hfn (fun _ _ h => h))
  have HP3 := As.mk (HP2.out.none_ hfn)
  clear hfn HF2 HP2
  ((with_reducible refine (HX.out.ref A n c _ (HA.out.none_ HF3.out) HC.out).mono ?_); rintro e w4 ⟨A4, n4, k4, B4, m4, j4, rfl, hm4, he4, hf4⟩)
  have hp4 := rpt_rows HX.out.ok hm4 he4
  clear hm4 he4
  have HR4 := As.mk hp4
  have HF4 := As.mk (HF3.out.after hf4 (fun _ _ h => h))
  have HB4 := As.mk (hf4.heap HB3.out (fun h => h))
  have HP4 := As.mk (HP3.out.none_ hf4)
  have hfn : Fr None_ w4 (w4.alloc (.cells #[.int .i64 x.seq, .int .i64 x.batch, .slice A4 n4 k4, .slice B4 m4 j4] 82)) := (Fr.refl None_ w4).alloc _
  have HC5 := As.mk (heap_alloc_new w4 (.cells #[.int .i64 x.seq, .int .i64 x.batch, .slice A4 n4 k4, .slice B4 m4 j4] 82))
  clear hp4 hf4 HF3 HB3 HP3
  go_upto_region 5 with fail
  generalize w4.alloc (.cells #[.int .i64 x.seq, .int .i64 x.batch, .slice A4 n4 k4, .slice B4 m4 j4] 82) = w5 at *
  have HQS := As.mk (show p < w4.heap.size from (Array.getElem?_eq_some_iff.1 HB4.out).1)
  generalize w4.heap.size = q at *
  have HF5 := As.mk (HF4.out.after hfn (fun _ _ h => h))
  have HB5 := As.mk (hfn.heap HB4.out (fun h => h))
  have HP5 := As.mk (HP4.out.none_ hfn)
  have HR5 := As.mk (HR4.out.none_ hfn)
  clear hfn HF4 HB4 HP4 HR4
  have HOP := As.mk (fun (w' : World) (hf : Fr None_ w5 w') => of_at w' (HP5.out.none_ hf) HL2.out.1 HL2.out.2)
  have b0 := cell_is (i := 0) HB5.out rfl
  have b1 := cell_is (i := 1) HB5.out rfl
  have b2 := cell_is (i := 2) HB5.out rfl
  have b3 := cell_is (i := 3) HB5.out rfl
  have q0 := cell_is (i := 0) HC5.out rfl
  have q1 := cell_is (i := 1) HC5.out rfl
  have q2 := cell_is (i := 2) HC5.out rfl
  have q3 := cell_is (i := 3) HC5.out rfl
  try dsimp only at b0 b1 b2 b3 q0 q1 q2 q3
  have HF := As.mk ((Fr.refl None_ w5).drew)
  go_region_held3 (fun w' => w'.cell? ⟨p, 0, none⟩ = some (.int .u32 x.seq) ∧ w'.cell? ⟨p, 1, none⟩ = some (.int .u32 x.batch) ∧ w'.cell? ⟨p, 2, none⟩ = some (.slice A2 n2' k2) ∧ w'.cell? ⟨p, 3, none⟩ = some (.slice B2 m2 j2) ∧ w'.cell? ⟨q, 0, none⟩ = some (.int .i64 x.seq) ∧ w'.cell? ⟨q, 1, none⟩ = some (.int .i64 x.batch) ∧ w'.cell? ⟨q, 2, none⟩ = some (.slice A4 n4 k4) ∧ w'.cell? ⟨q, 3, none⟩ = some (.slice B4 m4 j4)) (first | go_keep | (refine ⟨?_, ?_, ?_, ?_, ?_, ?_, ?_, ?_⟩ <;> (refine Fr.cell ‹Fr None_ _ _› ?_ (fun h => h); go_keep))) (first
    | ((with_reducible refine (HOP.out _ HF.out).mono ?_); rintro e wp ⟨A1, n1, k1, B1, m1, j1, rfl, hq1, hfp⟩; have HF := As.mk (Fr.after (T := None_) HF.out hfp (fun _ _ h => h)); have HQP := As.mk hq1; have HQR := As.mk (HR5.out.none_ HF.out); clear hq1)
    | ((with_reducible refine (same_at HQP.out HQR.out).mono ?_); rintro e w6 ⟨rfl, hf6⟩; have HF6 := As.mk (Fr.after (T := None_) HF.out hf6 (fun _ _ h => h)))
    | fail)
  all_goals
    clear b0 b1 b2 b3 q0 q1 q2 q3 HQP HQR HOP HR5 HP5 HF
    have HF6w := As.mk (HF5.out.after HF6.out (fun _ _ h => h))
    have HB6 := As.mk (HF6.out.heap HB5.out (fun h => h))
    have HC6 := As.mk (HF6.out.heap HC5.out (fun h => h))
    clear HF5 HF6 HB5 HC5
    go_wp2_with fail
    ((with_reducible refine (HZ.out _).mono ?_); rintro e w7 ⟨v7, rfl, hr7, hf7⟩)
    obtain ⟨A7, n7, c7, e7, _, _, _⟩ := hr7.rd
    subst e7
    have HR7 := As.mk hr7
    have HF7 := As.mk (HF6w.out.after hf7 (fun _ _ h => h))
    have HB7 := As.mk (hf7.heap HB6.out (fun h => h))
    have HC7 := As.mk (hf7.heap HC6.out (fun h => h))
    have HZ6 := As.mk (show w.heap.size ≤ w6.heap.size ∧ w6.heap.size ≤ w7.heap.size from ⟨HF6w.out.size, hf7.size⟩)
    clear hr7 hf7 HF6w HB6 HC6 HZ
    generalize w6.heap.size = bz at *
    go_wp2_with fail
    ((with_reducible refine (HBN.out _).mono ?_); rintro e w8 ⟨v8, rfl, hr8, hf8⟩)
    obtain ⟨A8, n8, c8, e8, _, hd8, _⟩ := hr8.rd
    subst e8
    obtain rfl : n8 = 4 := by have := hd8.out.1; rw [le_length] at this; exact this.symm
    have HD8 := As.mk hd8.out
    have HR8 := As.mk (HR7.out.none_ hf8)
    have HF8 := As.mk (HF7.out.after hf8 (fun _ _ h => h))
    have HB8 := As.mk (hf8.heap HB7.out (fun h => h))
    have HC8 := As.mk (hf8.heap HC7.out (fun h => h))
    have HZ8 := As.mk (show bz ≤ w8.heap.size from Nat.le_trans HZ6.out.2 hf8.size)
    clear hd8 hr8 hf8 HR7 HF7 HB7 HC7 HBN
    go_wp2_with (at_builtin; (with_reducible refine appendRow bz rfl _ _ 23 5 .u8 1 rfl Try.underlying23 infoByte (by decide) (.slice A7 n7 c7) (List.replicate 8 0) (le N (Int.toNat 4)) A8 4 c8 rfl rfl HR8.out HD8.out HZ8.out ?c1 ?_); (case c1 => simp); intro v9 w9 hrow9 hfr9 hat9; have HR9 := As.mk hrow9; have HF9 := As.mk (HF8.out.after hfr9 (fun b hb hh => absurd hb (by have := (HR8.out.blk b hh).1; have := HZ6.out.1; omega))); have HB9 := As.mk (hfr9.heap HB8.out (Row.ne HR8.out HB8.out (by decide))); have HC9 := As.mk (hfr9.heap HC8.out (Row.ne HR8.out HC8.out (by decide))); have HZ9 := As.mk (Nat.le_trans HZ8.out hfr9.size); clear hrow9 hfr9 hat9; obtain ⟨A9, n9, c9, e9, _, _, _⟩ := HR9.out.rd; subst e9; clear HR8 HF8 HB8 HC8 HZ8 HD8)
    ((with_reducible refine (HBK.out _).mono ?_); rintro e w10 ⟨v10, rfl, hr10, hf10⟩)
    obtain ⟨A10, n10, c10, e10, _, hd10, _⟩ := hr10.rd
    subst e10
    obtain rfl : n10 = 4 := by have := hd10.out.1; rw [le_length] at this; exact this.symm
    have HD10 := As.mk hd10.out
    have HR10 := As.mk (HR9.out.none_ hf10)
    have HF10 := As.mk (HF9.out.after hf10 (fun _ _ h => h))
    have HB10 := As.mk (hf10.heap HB9.out (fun h => h))
    have HC10 := As.mk (hf10.heap HC9.out (fun h => h))
    have HZ10 := As.mk (Nat.le_trans HZ9.out hf10.size)
    clear hd10 hr10 hf10 HR9 HF9 HB9 HC9 HBK HZ9
    go_wp2_with (at_builtin; first
      | ((with_reducible refine appendRow bz rfl _ _ 23 5 .u8 1 rfl Try.underlying23 infoByte (by decide) (.slice A9 n9 c9) (List.replicate 8 0 ++ le N (Int.toNat 4)) (le K (Int.toNat 4)) A10 4 c10 rfl rfl HR10.out HD10.out HZ10.out ?c1 ?_); (case c1 => simp [le_length]); intro v11 w11 hrow11 hfr11 hat11; have HR11 := As.mk hrow11; have HF11 := As.mk (HF10.out.after hfr11 (fun b hb hh => absurd hb (by have := (HR10.out.blk b hh).1; have := HZ6.out.1; omega))); have HB11 := As.mk (hfr11.heap HB10.out (Row.ne HR10.out HB10.out (by decide))); have HC11 := As.mk (hfr11.heap HC10.out (Row.ne HR10.out HC10.out (by decide))); have HZ11 := As.mk (Nat.le_trans HZ10.out hfr11.size); clear hrow11 hfr11 hat11; obtain ⟨A11, n11, c11, e11, _, _, _⟩ := HR11.out.rd; subst e11; have HA11 := As.mk (HA.out.none_ HF11.out))
      | ((with_reducible refine appendRow bz rfl _ _ 23 5 .u8 1 rfl Try.underlying23 infoByte (by decide) (.slice A11 n11 c11) (List.replicate 8 0 ++ le N (Int.toNat 4) ++ le K (Int.toNat 4)) bs A n c rfl rfl HR11.out HA11.out HZ11.out ?c1 ?_); (case c1 => have := HL.out; simp [le_length]; omega); intro v12 w12 hrow12 hfr12 hat12; have HR12 := As.mk hrow12; have HF12 := As.mk (HF11.out.after hfr12 (fun b hb hh => absurd hb (by have := (HR11.out.blk b hh).1; have := HZ6.out.1; omega))); have HB12 := As.mk (hfr12.heap HB11.out (Row.ne HR11.out HB11.out (by decide))); have HC12 := As.mk (hfr12.heap HC11.out (Row.ne HR11.out HC11.out (by decide))); clear hrow12 hfr12 hat12; obtain ⟨A12, n12, c12, e12, hnc12, hd12, _⟩ := HR12.out.rd; subst e12))
    rw [← HBB.out] at HR12 hd12
    have HD12 := As.mk (And.intro hd12.out hnc12.out)
    clear hd12 hnc12 HR10 HF10 HB10 HC10 HR11 HF11 HB11 HC11 HZ10 HZ11 HA11 HD10
    have b0 := cell_is (i := 0) HB12.out rfl
    have HPS2 := As.mk (show w.heap.size ≤ p ∧ w.heap.size ≤ q from ⟨HPS.out, by have := HPS.out; have := HQS.out; omega⟩)
    clear b0
    ((with_reducible refine (HY.out.dec A12 n12 c12 _ HD12.out.1 HD12.out.2).mono ?_); rintro e w13 ⟨A13, n13, k13, B13, m13, j13, rfl, hm13, he13, hf13⟩)
    have HM13 := As.mk (And.intro hm13 he13)
    have HR13 := As.mk (HR12.out.none_ hf13)
    have HF13 := As.mk (HF12.out.after hf13 (fun _ _ h => h))
    have HB13 := As.mk (hf13.heap HB12.out (fun h => h))
    have HC13 := As.mk (hf13.heap HC12.out (fun h => h))
    clear hm13 he13 hf13 HR12 HF12 HB12 HC12 HD12
    have b0 := cell_is (i := 0) HB13.out rfl
    have b1 := cell_is (i := 1) HB13.out rfl
    have b2 := cell_is (i := 2) HB13.out rfl
    have b3 := cell_is (i := 3) HB13.out rfl
    have f0 := free_of (i := 0) HB13.out
    have f1 := free_of (i := 1) HB13.out
    have f2 := free_of (i := 2) HB13.out
    have f3 := free_of (i := 3) HB13.out
    try dsimp only at b0 b1 b2 b3
    go_wp2_with fail
    obtain ⟨s1, s2, s3⟩ := set4 HF13.out HPS2.out.1 HB13.out (.int .u32 y.seq) (.int .u32 y.batch) (.slice A13 n13 k13) (.slice B13 m13 j13)
    clear b0 b1 b2 b3 f0 f1 f2 f3
    generalize (((w13.setCell ⟨p, 0, none⟩ (.int .u32 y.seq)).setCell ⟨p, 1, none⟩ (.int .u32 y.batch)).setCell ⟨p, 2, none⟩ (.slice A13 n13 k13)).setCell ⟨p, 3, none⟩ (.slice B13 m13 j13) = w14 at *
    have HM14 := As.mk (And.intro (HM13.out.1.fr s3 (fun b hb e => by subst e; exact Row.ne HM13.out.1 HB13.out (by decide) hb)) (HM13.out.2.fr s3 (fun b hb e => by subst e; exact Row.ne HM13.out.2 HB13.out (by decide) hb)))
    have HR14 := As.mk (HR13.out.fr s3 (fun b hb e => by subst e; exact Row.ne HR13.out HB13.out (by decide) hb))
    have HF14 := As.mk s1
    have HB14 := As.mk s2
    have HC14 := As.mk (s3.heap HC13.out (fun e => by have := HQS.out; omega))
    have HD14 := As.mk (Row.at_slice HR14.out)
    clear s1 s2 s3 HM13 HR13 HF13 HB13 HC13
    ((with_reducible refine (HY.out.ref A12 n12 c12 _ HD14.out.2 HD14.out.1).mono ?_); rintro e w15 ⟨A15, n15, k15, B15, m15, j15, rfl, hm15, he15, hf15⟩)
    have HM15 := As.mk (And.intro (HM14.out.1.none_ hf15) (HM14.out.2.none_ hf15))
    have HN15 := As.mk (And.intro hm15 he15)
    have HF15 := As.mk (HF14.out.after hf15 (fun _ _ h => h))
    have HB15 := As.mk (hf15.heap HB14.out (fun h => h))
    have HC15 := As.mk (hf15.heap HC14.out (fun h => h))
    clear hm15 he15 hf15 HM14 HR14 HF14 HB14 HC14 HD14
    have q0 := cell_is (i := 0) HC15.out rfl
    have q1 := cell_is (i := 1) HC15.out rfl
    have q2 := cell_is (i := 2) HC15.out rfl
    have q3 := cell_is (i := 3) HC15.out rfl
    have f0 := free_of (i := 0) HC15.out
    have f1 := free_of (i := 1) HC15.out
    have f2 := free_of (i := 2) HC15.out
    have f3 := free_of (i := 3) HC15.out
    try dsimp only at q0 q1 q2 q3
    go_upto_region 11 with fail
    obtain ⟨s1, s2, s3⟩ := set4 HF15.out HPS2.out.2 HC15.out (.int .i64 y.seq) (.int .i64 y.batch) (.slice A15 n15 k15) (.slice B15 m15 j15)
    clear q0 q1 q2 q3 f0 f1 f2 f3
    generalize (((w15.setCell ⟨q, 0, none⟩ (.int .i64 y.seq)).setCell ⟨q, 1, none⟩ (.int .i64 y.batch)).setCell ⟨q, 2, none⟩ (.slice A15 n15 k15)).setCell ⟨q, 3, none⟩ (.slice B15 m15 j15) = w16 at *
    obtain ⟨hp16, hl16⟩ := pt_rows HY.out.ok (HM15.out.1.fr s3 (fun b hb e => by subst e; exact Row.ne HM15.out.1 HC15.out (by decide) hb)) (HM15.out.2.fr s3 (fun b hb e => by subst e; exact Row.ne HM15.out.2 HC15.out (by decide) hb))
    have HR16 := As.mk (rpt_rows HY.out.ok (HN15.out.1.fr s3 (fun b hb e => by subst e; exact Row.ne HN15.out.1 HC15.out (by decide) hb)) (HN15.out.2.fr s3 (fun b hb e => by subst e; exact Row.ne HN15.out.2 HC15.out (by decide) hb)))
    have HP16 := As.mk hp16
    have HL16 := As.mk hl16
    have HF16 := As.mk s1
    have HB16 := As.mk (s3.heap HB15.out (fun e => by have := HQS.out; omega))
    have HC16 := As.mk s2
    clear s1 s2 s3 hp16 hl16 HM15 HN15 HF15 HB15 HC15
    have HOP := As.mk (fun (w' : World) (hf : Fr None_ w16 w') => of_at w' (HP16.out.none_ hf) HL16.out.1 HL16.out.2)
    have b0 := cell_is (i := 0) HB16.out rfl
    have b1 := cell_is (i := 1) HB16.out rfl
    have b2 := cell_is (i := 2) HB16.out rfl
    have b3 := cell_is (i := 3) HB16.out rfl
    have q0 := cell_is (i := 0) HC16.out rfl
    have q1 := cell_is (i := 1) HC16.out rfl
    have q2 := cell_is (i := 2) HC16.out rfl
    have q3 := cell_is (i := 3) HC16.out rfl
    try dsimp only at b0 b1 b2 b3 q0 q1 q2 q3
    have HF := As.mk ((Fr.refl None_ w16).drew)
    go_region_held3 (fun w' => w'.cell? ⟨p, 0, none⟩ = some (.int .u32 y.seq) ∧ w'.cell? ⟨p, 1, none⟩ = some (.int .u32 y.batch) ∧ w'.cell? ⟨p, 2, none⟩ = some (.slice A13 n13 k13) ∧ w'.cell? ⟨p, 3, none⟩ = some (.slice B13 m13 j13) ∧ w'.cell? ⟨q, 0, none⟩ = some (.int .i64 y.seq) ∧ w'.cell? ⟨q, 1, none⟩ = some (.int .i64 y.batch) ∧ w'.cell? ⟨q, 2, none⟩ = some (.slice A15 n15 k15) ∧ w'.cell? ⟨q, 3, none⟩ = some (.slice B15 m15 j15)) (first | go_keep | (refine ⟨?_, ?_, ?_, ?_, ?_, ?_, ?_, ?_⟩ <;> (refine Fr.cell ‹Fr None_ _ _› ?_ (fun h => h); go_keep))) (first
      | ((with_reducible refine (HOP.out _ HF.out).mono ?_); rintro e wp ⟨A1, n1, k1, B1, m1, j1, rfl, hq1, hfp⟩; have HF := As.mk (Fr.after (T := None_) HF.out hfp (fun _ _ h => h)); have HQP := As.mk hq1; have HQR := As.mk (HR16.out.none_ HF.out); clear hq1)
      | ((with_reducible refine (same_at HQP.out HQR.out).mono ?_); rintro e w17 ⟨rfl, hf17⟩; have HF17 := As.mk (HF16.out.after (HF.out.after hf17 (fun _ _ h => h)) (fun _ _ h => h)))
      | fail)
    all_goals
      go_wp2_with fail
      go_ret
      exact ⟨rfl, HF17.out⟩
end Go.Proofs.Ytlhgbamajabnfaa.PtDec

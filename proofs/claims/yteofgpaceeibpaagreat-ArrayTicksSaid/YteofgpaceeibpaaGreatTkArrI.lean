/- array: Format. -/
import Derived.Test.YteofgpaceeibpaaGreatTkArrH
import Derived.Test.YteofgpaceeibpaaGreatTkNandG
namespace Go.Proofs.YteofgpaceeibpaaGreat.ArrI
open Go.RowKit Gab Wr Geom Ref Nand NandA NandB NandC NandD NandE NandF NandH RemapA RemapB VolA VolD VolE VolF MemA MemB MemC ArrA ArrB ArrC ArrD ArrE ArrF ArrG ArrH
open Heap (cell_is heap_set fr_set1)
set_option linter.unusedVariables false
set_option linter.unusedSimpArgs false

/-- An array as it is made, ahead of its volumes. -/
structure Raw (w : World) (N p : Nat) (g : Geo) (n xb vb : Nat) (v1 : Value) : Prop where
  main : w.heap[xb]? = some (.cells #[.pointer (some ⟨p, 0, none⟩), .int .i64 g.c, .int .i64 g.b, .int .i64 g.p, .int .i64 g.s, .slice (some ⟨vb, 0, none⟩) n n, .int .u32 1, v1, .int .i64 g.c, .int .i64 255, .int .i64 0, .bool false] AT (0, 0))
  vols : w.heap[vb]? = some (.cells (madeCells #[.pointer none] n) PV (0, 0))
  row : Row 3 .i64 w N v1 (first g).chips
  nx : N ≤ xb
  nv : N ≤ vb
/-- Its volumes' row, made. -/
def Made (w0 w : World) (n vb : Nat) : Prop := w.heap[vb]? = some (.cells (madeCells #[.pointer none] n) PV (0, 0)) ∧ w0.heap.size ≤ vb
theorem Made.none_ {w0 w w' : World} {n vb : Nat} (h : Made w0 w n vb) (hf : Fr None_ w w') : Made w0 w' n vb := ⟨hf.heap h.1 (fun h => h), h.2⟩
theorem made_new {w0 w : World} (hf : Fr None_ w0 w) (n : Nat) : Made w0 (w.alloc (.cells (madeCells #[.pointer none] n) PV)) n w.heap.size := ⟨heap_alloc_new _ _, hf.size⟩
theorem raw_new {w0 w : World} {n vb : Nat} {g : Geo} {v1 : Value} (hf : Fr None_ w0 w) (hm : Made w0 w n vb) (hr : Row 3 .i64 w w0.heap.size v1 (first g).chips) (p : Nat) :
    Raw (w.alloc (.cells #[.pointer (some ⟨p, 0, none⟩), .int .i64 g.c, .int .i64 g.b, .int .i64 g.p, .int .i64 g.s, .slice (some ⟨vb, 0, none⟩) n n, .int .u32 1, v1, .int .i64 g.c, .int .i64 255, .int .i64 0, .bool false] AT)) w0.heap.size p g n w.heap.size vb v1 :=
  ⟨heap_alloc_new _ _, (hm.none_ ((Fr.refl None_ w).alloc _)).1, hr.none_ ((Fr.refl None_ w).alloc _), hf.size, hm.2⟩
theorem first_ok {g : Geo} (hg : g.Ok) {q : Int} (h0 : 0 ≤ q) (h1 : q < 4294967296) : ({ first g with seq := q } : MS).Ok g := by
  have hc := hg.c
  have hb := hg.b
  have hall : ({ first g with seq := q } : MS).all = (List.range (g.c.toNat + 1)).map Int.ofNat := by
    unfold MS.all first
    rw [if_neg (by show ¬ g.c = 255; omega), List.range_succ, List.map_append]
    congr 1
    show [g.c] = [((g.c.toNat : Nat) : Int)]
    rw [show ((g.c.toNat : Nat) : Int) = g.c by omega]
  refine ⟨?_, ⟨h0, h1⟩, ?_, ?_, .inl rfl, ⟨Int.le_refl 0, by show (0 : Int) ≤ g.b - 5; omega⟩, fun h => absurd h (Int.lt_irrefl 0)⟩
  · show (((List.range g.c.toNat).map Int.ofNat).length : Int) = g.c
    simp
    omega
  · rw [hall]
    intro x hx
    obtain ⟨j, hj, rfl⟩ := List.mem_map.1 hx
    have := List.mem_range.1 hj
    show (0 : Int) ≤ (j : Int) ∧ (j : Int) ≤ g.c
    omega
  · rw [hall]
    exact List.Pairwise.map _ (fun a b h e => h (Int.ofNat.inj e)) List.nodup_range
theorem own_eq {A : Option Addr} {n c : Nat} {xs : List Int} {w : World} {N : Nat} (h : Row 3 .i64 w N (.slice A n c) xs) (h0 : 0 < xs.length) : ∃ b, A = some ⟨b, 0, none⟩ ∧ N ≤ b ∧ n = xs.length ∧ n ≤ c ∧ ∃ cs, w.heap[b]? = some (.cells cs 3 (0, 0)) ∧ ∀ j, j < xs.length → cs[j]? = some (.int .i64 (xs.getD j 0)) := by
  have h9 := h
  rcases h.2 with ⟨e, hn⟩ | ⟨g, cap, cur, e, hg, hh, hc, hm, hs, ht⟩
  · omega
  · cases e
    refine ⟨g, rfl, hg, rfl, hc, cur, hh, fun j hj => ?_⟩
    have h1 := World.ownsRow.cells h9 rfl j _ (nums_get hj)
    rw [add_at] at h1
    simpa [World.cell?, hh] using h1
/-- It lies there as an array. -/
theorem raw_at {w : World} {N p xb vb : Nat} {s : St} {L : Lay} {v1 : Value} (h : Raw w N p s.g s.n xb vb v1) (hN : Nand w p s L) : ∃ cb cc, N ≤ cb ∧ ArAt w ⟨s, fun _ => none, first s.g, false⟩ ⟨L, p, xb, vb, cb, cc, fun _ => ⟨0, none, 0, 0, none, 0, 0⟩⟩ := by
  obtain ⟨A, n, c, rfl, h1, h2, h3⟩ := h.row.rd
  have hc := hN.ok.c
  have hl : (first s.g).chips.length = s.g.c.toNat := by simp [first]
  obtain ⟨b, rfl, hb, rfl, hcc, cs, hcs, hcj⟩ := own_eq h.row (by omega)
  have hm := h.main
  rw [hl] at hm hcc
  refine ⟨b, c, hb, ⟨hN, hm, hcc, ⟨_, h.vols, fun k hk => ?_⟩, fun k t hk e => (by cases e), ⟨cs, hcs, fun j hj => hcj j (by rw [hl]; exact hj)⟩, ⟨first_ok hN.ok (by decide) (by decide), fun k t hk e => (by cases e)⟩⟩⟩
  rw [made_get hk]
  simp [vptr, Nat.mod_one]
/-- A volume is put in. -/
def _root_.Go.Proofs.YteofgpaceeibpaaGreat.ArrA.Ar.vput (σ : Ar) (c : Nat) (t : Tab) : Ar := { σ with vol := fun k => if k = c then some t else σ.vol k }
def _root_.Go.Proofs.YteofgpaceeibpaaGreat.ArrA.ALay.vput (K : ALay) (c : Nat) (v : VLay) : ALay := { K with v := fun k => if k = c then v else K.v k }
theorem vputV {w : World} {σ : Ar} {K : ALay} (h : ArAt w σ K) {c : Nat} (hc : c < σ.s.n) {t : Tab} {v : VLay} (hv : VolAt w K.p c σ.s.g t v) (ht : t.Ok σ.s.g) (hoff : VOff v K.cb) : ArAt (w.setCell ⟨K.V, c, none⟩ (.pointer (some ⟨v.vb, 0, none⟩))) (σ.vput c t) (K.vput c v) := by
  obtain ⟨cs, e, hcs⟩ := h.vols
  have hf := fr_set1 (w' := w) (b := K.V) (i := c) (.pointer (some ⟨v.vb, 0, none⟩))
  have hne : ∀ {b : Nat} {cs : Array Value} {T : TypeId} {f : Nat × Nat}, w.heap[b]? = some (.cells cs T f) → T ≠ PV → ¬ b = K.V := fun hb hT => blk_ne hb e hT
  refine ⟨h.nand.one e hf ⟨⟨by decide, by decide, by decide, by decide, by decide⟩, by decide, by decide⟩, hf.heap h.main (hne h.main (by decide)), h.ccn, ⟨_, heap_set e _ _, fun k hk => ?_⟩, fun k u hk ek => ?_, ?_, ⟨h.ok.set, fun k u hk ek => ?_⟩⟩
  · by_cases ek : k = c
    · subst ek
      rw [Array.getElem?_setIfInBounds_self_of_lt (by have := hcs k hc; exact (Array.getElem?_eq_some_iff.1 this).1)]
      unfold vptr Ar.vput ALay.vput
      simp
    · rw [Array.getElem?_setIfInBounds_ne (fun h => ek h.symm)]
      have h1 := hcs k hk
      rw [h1]
      unfold vptr Ar.vput ALay.vput
      simp [ek]
  · by_cases ec : k = c
    · subst ec
      have h1 : (σ.vput k t).vol k = some t := by simp [Ar.vput]
      rw [h1] at ek
      injection ek with ek
      subst ek
      have h2 : (K.vput k v).v k = v := by simp [ALay.vput]
      rw [h2]
      exact ⟨hv.ty hf (fun b cs T f hb hT => hne hb (by rcases hT with rfl | rfl <;> decide)), hoff⟩
    · have h1 : (σ.vput c t).vol k = σ.vol k := by simp [Ar.vput, ec]
      rw [h1] at ek
      have h2 : (K.vput c v).v k = K.v k := by simp [ALay.vput, ec]
      rw [h2]
      have h3 := h.vol k u hk ek
      exact ⟨h3.1.ty hf (fun b cs T f hb hT => hne hb (by rcases hT with rfl | rfl <;> decide)), h3.2⟩
  · obtain ⟨ds, e2, hds⟩ := h.chips
    exact ⟨ds, hf.heap e2 (hne e2 (by decide)), hds⟩
  · by_cases ec : k = c
    · have h1 : (σ.vput c t).vol k = some t := by simp [Ar.vput, ec]
      rw [h1] at ek
      injection ek with ek
      subst ek
      exact ht
    · have h1 : (σ.vput c t).vol k = σ.vol k := by simp [Ar.vput, ec]
      rw [h1] at ek
      exact h.ok.more k u hk ek
theorem infoPV : (Tryz.prog.info? 95).map (fun i => (i.zero, i.size, i.bytes)) = some (some (.pointer none), 1, 8) := by kernel_rfl

/-- The chips are made ready. -/
def _root_.Go.Proofs.YteofgpaceeibpaaGreat.Nand.St.afN (s : St) : Nat → St × Int
  | 0 => (s, 0)
  | i + 1 => if (s.afN i).2 = 0 then (s.afN i).1.fmt i else s.afN i
def fvol (s : St) (i k : Nat) : Option Tab := if k < i then some (tabOf s.g).up else none
/-- The array as it is made. -/
def _root_.Go.Proofs.YteofgpaceeibpaaGreat.Nand.St.arN (s : St) (i : Nat) : Ar := ⟨(s.afN i).1, fvol s i, first s.g, false⟩
def _root_.Go.Proofs.YteofgpaceeibpaaGreat.Nand.St.ar0 (s : St) : Ar := ⟨(s.afN s.g.c.toNat).1, fvol s s.g.c.toNat, { first s.g with seq := 0 }, false⟩
def _root_.Go.Proofs.YteofgpaceeibpaaGreat.Nand.St.afmt (s : St) : Ar × Int := if (s.afN s.g.c.toNat).2 = 0 then s.ar0.save else (s.ar0, (s.afN s.g.c.toNat).2)
theorem fmt_g (s : St) (c : Nat) : (s.fmt c).1.g = s.g ∧ (s.fmt c).1.evs = s.evs := by
  have h := fmtN_g s c s.nb
  unfold St.fmt
  split
  · have h2 := lay_g (s.fmtN c s.nb).1 c (tabOf s.g).up.to.toNat (tabOf s.g).up
    exact ⟨h2.1.trans h.1, h2.2.trans h.2⟩
  · exact h
theorem safe_fmt {s : St} {n : Nat} (c : Nat) (hg : s.g.Ok) (h : s.Safe (n + 66)) : (s.fmt c).1.Safe n := by
  have hb := hg.b
  have h2 := safe_fmtN c s.nb (n + 2) (h.le (by unfold St.nb; omega))
  unfold St.fmt
  split
  · exact safe_lay h2 c _ _
  · exact h2.le (by omega)
theorem afN_g (s : St) : ∀ i, (s.afN i).1.g = s.g ∧ (s.afN i).1.evs = s.evs
  | 0 => ⟨rfl, rfl⟩
  | i + 1 => by
    have h := afN_g s i
    unfold St.afN
    split
    · have h2 := fmt_g (s.afN i).1 i
      exact ⟨h2.1.trans h.1, h2.2.trans h.2⟩
    · exact h
theorem safe_afN {s : St} (hg : s.g.Ok) : ∀ i n, s.Safe (n + 66 * i) → (s.afN i).1.Safe n
  | 0, n, h => h
  | i + 1, n, h => by
    have h2 := safe_afN hg i (n + 66) (by rw [show n + 66 + 66 * i = n + 66 * (i + 1) by omega]; exact h)
    unfold St.afN
    split
    · exact safe_fmt i (by rw [(afN_g s i).1]; exact hg) h2
    · exact h2.le (by omega)
theorem afN_stuck (s : St) : ∀ n m, n ≤ m → (s.afN n).2 ≠ 0 → s.afN m = s.afN n
  | n, 0, h, _ => by
    obtain rfl : n = 0 := by omega
    rfl
  | n, m + 1, h, hk => by
    by_cases e : n = m + 1
    · rw [e]
    · have ih := afN_stuck s n m (by omega) hk
      show (if (s.afN m).2 = 0 then _ else s.afN m) = _
      rw [ih, if_neg hk]
/-- It is new. -/
def ANew (N p : Nat) (L : Lay) (K : ALay) : Prop := K.L = L ∧ K.p = p ∧ N ≤ K.x ∧ N ≤ K.V ∧ N ≤ K.cb
def AFPost (p : Nat) (s : St) (L : Lay) (w : World) (e : Ending) (w' : World) : Prop := Fr (NF p L s.n s.nb) w w' ∧
  (((s.afmt).2 = 0 ∧ ∃ K, e = .returned (.tuple #[.pointer (some ⟨K.x, 0, none⟩), .int .i64 0]) ∧ ArAt w' s.afmt.1 K ∧ ANew w.heap.size p L K) ∨
   ((s.afmt).2 ≠ 0 ∧ e = .returned (.tuple #[.pointer none, .int .i64 s.afmt.2]) ∧ Nand w' p s.afmt.1.s L))

set_option maxHeartbeats 8000000 in
set_option maxRecDepth 100000 in
theorem Format_calls (p : Nat) (s : St) (L : Lay) (w : World) (hN : Nand w p s L) (m : Nat) (hs : s.Safe (m + 1200)) :
    Calls Tryz.prog 10 #[.pointer (some ⟨p, 0, none⟩)] w (AFPost p s L w) := by
  obtain ⟨nc, hnc⟩ : ∃ nc, s.g.c.toNat = nc := ⟨_, rfl⟩
  have HNN := As.mk hN
  have HGO := As.mk hN.ok
  have hgc := hN.ok.c
  obtain ⟨n, hn⟩ : ∃ n, s.n = n := ⟨_, rfl⟩
  have hnI : s.g.c + 1 = (n : Int) := by unfold St.n at hn; omega
  have hn17 : n ≤ 17 := by omega
  have HGE := As.mk (fun (w' : World) (hf : Fr None_ w w') => (Geo_calls p s L w' (hN.none_ hf)).mono (R' := fun e w'' => e = .returned s.g.val ∧ Fr None_ w w'' ∧ Fr None_ w' w'') (fun e w'' h => ⟨h.1, hf.after h.2 (fun _ _ h => h), h.2⟩))
  have HCH := As.mk (fun (w' : World) (hf : Fr None_ w w') => (Chips_calls p s L w' (hN.none_ hf)).mono (R' := fun e w'' => e = .returned (.int .i64 (n : Int)) ∧ Fr None_ w w'' ∧ Fr None_ w' w'') (fun e w'' h => ⟨by rw [← hnI]; exact h.1, hf.after h.2 (fun _ _ h => h), h.2⟩))
  have HFS := As.mk (fun (w' : World) (hf : Fr None_ w w') => (First_calls s.g w' hN.ok).mono (R' := fun e w'' => ∃ v1, e = .returned (.agg #[.int .u32 1, v1, .int .i64 s.g.c, .int .i64 255, .int .i64 0]) ∧ As (Row 3 .i64 w'' w.heap.size v1 (first s.g).chips) ∧ Fr None_ w w'' ∧ Fr None_ w' w'') (fun e w'' h => by
    obtain ⟨v, h1, ⟨v1, h2, h3⟩, h4⟩ := h
    exact ⟨v1, by rw [h1, h2]; rfl, ⟨h3.lower hf.size⟩, hf.after h4 (fun _ _ h => h), h4⟩))
  have hmk := run_makeV (P := Tryz.prog) 91 95 (.pointer none) 1 8 Tryz.underlying91 infoPV (n : Int) (by omega) (by omega) (by omega)
  rw [Int.toNat_natCast, Nat.mul_one] at hmk
  have hzz : (Value.pointer none).cells = #[.pointer none] := rfl
  rw [hzz] at hmk
  have HF := As.mk (Fr.refl None_ w).drew
  unfold Geo.val at HGE HFS
  have hncI : s.g.c = (nc : Int) := by omega
  have HNC := As.mk (And.intro hnc (And.intro hncI hn))
  have hncn : nc + 1 = n := by omega
  have HFM := As.mk (fun (i : Nat) (w' : World) (hi : i < nc) (hN' : Nand w' p (s.afN i).1 L) => VolF.Format_calls p i (s.afN i).1 L w' hN' (by unfold St.n; rw [(afN_g s i).1]; omega) 0 (safe_afN HGO.out i (0 + 66) (hs.le (by omega))))
  have HSV := As.mk (fun (K : ALay) (w' : World) (hA : ArAt w' s.ar0 K) => save_calls s.ar0 K w' hA (show (0 : Int) < 4294967295 by decide) 0 (safe_afN HGO.out s.g.c.toNat (0 + 34) (hs.le (by omega))))
  have HBD := As.mk (show ∀ (e : Ending) (w' : World) (i : Nat) (k : Int), i ≤ nc → (s.afN i).2 = k → k ≠ 0 → e = .returned (.tuple #[.pointer none, .int .i64 k]) → Nand w' p (s.afN i).1 L → Fr (NF p L s.n s.nb) w w' → AFPost p s L w e w' from by
    rintro e w' i k hi rfl hk h1 h2 h3
    have h4 : s.afN s.g.c.toNat = s.afN i := afN_stuck s i _ (by omega) hk
    have h5 : s.afmt = (s.ar0, (s.afN i).2) := by unfold St.afmt; rw [h4, if_neg hk]
    refine ⟨h3, .inr ⟨by rw [h5]; exact hk, by rw [h5]; exact h1, ?_⟩⟩
    rw [h5]
    show Nand w' p (s.afN s.g.c.toNat).1 L
    rw [h4]
    exact h2)
  have HOK := As.mk (show (s.afN nc).2 = 0 → s.afmt = s.ar0.save from fun hk => by unfold St.afmt; rw [hnc, if_pos hk])
  clear hN hgc hzz hs hnc hn hncI
  go_enter Tryz.func10, Tryz.ntmps10
  go_upto_region 3 with fail
  go_cut [4] (fun v4 wx => ∃ xb vb v1, v4 = .pointer (some ⟨xb, 0, none⟩) ∧ As (Fr None_ w wx) ∧ As (Raw wx w.heap.size p s.g n xb vb v1))
  case first =>
    have HK := As.mk True.intro
    go_region_held3 (fun _ => True) (first | go_keep | trivial) (first
      | (go_at_call 30; (with_reducible refine (HGE.out _ ?hx).mono ?_); (case hx => first | exact HF.out | exact HF.out.alloc _); rintro e w2 ⟨rfl, hf2, hg2⟩; (try have HV := As.mk (HV.out.none_ hg2)); (try have HV := As.mk ((made_new HF.out n).none_ hg2)); (have HF := As.mk hf2); (try have HR := As.mk (HR.out.none_ hg2)); (try have HR := As.mk ((HR.out.none_ ((Fr.refl None_ _).alloc _)).none_ hg2));  clear hf2 hg2)
      | (go_at_call 31; (with_reducible refine (HCH.out _ ?hx).mono ?_); (case hx => first | exact HF.out | exact HF.out.alloc _); rintro e w2 ⟨rfl, hf2, hg2⟩; (try have HV := As.mk (HV.out.none_ hg2)); (try have HV := As.mk ((made_new HF.out n).none_ hg2)); (have HF := As.mk hf2); (try have HR := As.mk (HR.out.none_ hg2)); clear hf2 hg2)
      | (go_at_call 32; (with_reducible refine (HFS.out _ ?hx).mono ?_); (case hx => first | exact HF.out | exact HF.out.alloc _); rintro e w2 ⟨v1, rfl, HR, hf2, hg2⟩; (try have HV := As.mk (HV.out.none_ hg2)); (try have HV := As.mk ((made_new HF.out n).none_ hg2)); (have HF := As.mk hf2);  clear hf2 hg2)
      | fail)
    all_goals
      go_wp2_with fail
      go_meet
      case rel => first
        | exact ⟨_, _, _, rfl, ⟨HF.out.alloc _⟩, ⟨raw_new HF.out HV.out HR.out p⟩⟩
        | exact ⟨_, _, _, rfl, ⟨(HF.out.alloc _).alloc _⟩, ⟨by have h := raw_new (HF.out.alloc _) (made_new HF.out n) (HR.out.none_ ((Fr.refl None_ _).alloc _)) p; rw [size_new _ rfl] at h; exact h⟩⟩
  case rest =>
    obtain ⟨xb, vb, v1, rfl, HF1, HR1⟩ := hcut
    rename World => w1
    obtain ⟨cb, cc, hcb, hA1⟩ := raw_at (by rw [HNC.out.2.2]; exact HR1.out) (HNN.out.none_ HF1.out)
    have HNEW := As.mk (And.intro HR1.out.nx (And.intro HR1.out.nv hcb))
    have HA1 := As.mk (show ∃ f, ArAt w1 (s.arN 0) ⟨L, p, xb, vb, cb, cc, f⟩ from ⟨_, by
      have e : s.arN 0 = ⟨s, fun _ => none, first s.g, false⟩ := by
        unfold St.arN
        congr 1
      rw [e]
      exact hA1⟩)
    have c1 := hA1.cs.2.1
    rw [show (s.g.c) = (nc : Int) from HNC.out.2.1] at c1
    have HFN := As.mk (HF1.out.mono (T := NF p L s.n s.nb) (fun _ _ h => h.elim))
    clear hA1 HR1 HGE HCH HFS hmk hcb
    go_wp2_with fail
    go_loopw [27] (fun v27 w' => ∃ i : Nat, v27 = .int .i64 (i : Int) ∧ i ≤ nc ∧ As ((s.afN i).2 = 0) ∧ As (Fr (NF p L s.n s.nb) w w') ∧ As (∃ f, ArAt w' (s.arN i) ⟨L, p, xb, vb, cb, cc, f⟩)) (fun v27 _ => nc - (intOf v27).toNat)
    case atStart => exact ⟨0, rfl, Nat.zero_le _, ⟨rfl⟩, HFN, HA1⟩
    case round =>
      obtain ⟨i, rfl, hi, HK, HFi, HAi⟩ := hrel
      clear c1
      obtain ⟨f, hAi⟩ := HAi.out
      have HAi := As.mk hAi
      clear hAi
      by_cases hlt : i < nc
      · have hltI : (i : Int) < (nc : Int) := by omega
        have HS1 := As.mk (show s.afN (i + 1) = (s.afN i).1.fmt i from by show (if (s.afN i).2 = 0 then _ else _) = _; rw [if_pos HK.out])
        have HFi2 := As.mk (HFM.out i wr hlt HAi.out.nand)
        unfold FmtPost at HFi2
        rw [← HS1.out] at HFi2
        have hgi := (afN_g s i).1
        have HGI := As.mk hgi
        have HGI1 := As.mk (afN_g s (i + 1)).1
        clear hgi
        go_wp2_with fail
        ((with_reducible refine (HFi2.out).mono ?_); rintro e w3 ⟨hn3, hf3, hor⟩)
        have HF3 := As.mk (HFi.out.after hf3 (fun b _ h => by unfold St.n St.nb at h ⊢; rw [HGI.out] at h; exact h))
        have HN3 := As.mk hn3
        rcases hor with ⟨hk, v, rfl, hv, hnw⟩ | ⟨hk, rfl⟩
        · have HK3 := As.mk hk
          have ht3 := HAi.out.turn hn3 (by show (s.afN (i + 1)).1.g = (s.afN i).1.g; rw [HGI.out, HGI1.out]) hf3
          have hin : i < n := by omega
          have hsn : ({ s.arN i with s := (s.afN (i + 1)).1 } : Ar).s.n = n := by
            show St.n (s.afN (i + 1)).1 = n
            unfold St.n
            rw [HGI1.out]
            have := HNC.out.2.1
            omega
          have hcbl : cb < wr.heap.size := by
            obtain ⟨ds, e2, _⟩ := HAi.out.chips
            exact (Array.getElem?_eq_some_iff.1 e2).1
          have hvp := vputV ht3 (c := i) (t := (tabOf s.g).up) (v := v) (by rw [hsn]; exact hin) (by
            show VolAt w3 p i (s.afN (i + 1)).1.g (tabOf s.g).up v
            rw [HGI1.out]
            rw [HGI.out] at hv
            exact hv) (by
            show (tabOf s.g).up.Ok (s.afN (i + 1)).1.g
            rw [HGI1.out]
            exact up_ok (tabOf_ok HGO.out) (show (0 : Int) < 4294967295 by decide)) ⟨fun ad e => by have := hnw.2.1 ad e; show ad.block ≠ cb; omega, fun ad e => by have := hnw.2.2 ad e; show ad.block ≠ cb; omega⟩
          have hput : ({ s.arN i with s := (s.afN (i + 1)).1 } : Ar).vput i (tabOf s.g).up = s.arN (i + 1) := by
            unfold Ar.vput St.arN
            congr 1
            funext k
            show (if k = i then some (tabOf s.g).up else fvol s i k) = fvol s (i + 1) k
            unfold fvol
            by_cases e : k = i
            · rw [if_pos e, if_pos (by omega)]
            · rw [if_neg e]
              by_cases e2 : k < i
              · rw [if_pos e2, if_pos (by omega)]
              · rw [if_neg e2, if_neg (by omega)]
          rw [hput] at hvp
          have HVP := As.mk hvp
          have hvs := ht3.vols
          obtain ⟨ds, e5, hds⟩ := hvs
          have vc := cell_is e5 (hds i (by rw [hsn]; exact hin))
          have vf := free_of (i := i) e5
          have hc5 := ht3.cs.2.2.2.2.2.1
          rw [hsn] at hc5
          have hinI : (i : Int) < (n : Int) := by omega
          have hit : Int.toNat (i : Int) = i := by omega
          have HF4 := As.mk (HF3.out.setCell (p := ⟨vb, i, none⟩) (fun h => absurd h (by have := HNEW.out.2.1; show ¬ vb < w.heap.size; omega)) (.pointer (some ⟨v.vb, 0, none⟩)))
          clear hk hv hnw hn3 hf3 ht3 hvp hput e5 hds hcbl hsn HFi2
          change w3.cell? ⟨xb, 5, none⟩ = some (.slice (some ⟨vb, 0, none⟩) n n) at hc5
          change w3.frozen? ⟨vb, i, none⟩ = false at vf
          go_wp2_with fail
          exact ⟨⟨i + 1, rfl, by omega, HK3, HF4, ⟨⟨_, HVP.out⟩⟩⟩, by simp [intOf]; omega⟩
        · have HBE := As.mk (fun e w' h1 h2 h3 => HBD.out e w' (i + 1) _ (by omega) rfl hk h1 h2 h3)
          have dk : ((s.afN (i + 1)).2 != 0) = true := by rw [bne_iff_ne]; exact hk
          generalize (s.afN (i + 1)).2 = k at *
          clear hk hn3 hf3 HFi2
          go_wp2_with fail
          go_ret2
          exact HBE.out _ _ rfl HN3.out HF3.out
      · obtain rfl : i = nc := by omega
        have hltI : ¬ (i : Int) < (i : Int) := by omega
        have hnc := HNC.out.1
        have HOK1 := As.mk (HOK.out HK.out)
        have hm0 := HAi.out.main
        have f6 := free_of (i := 6) hm0
        have c6 := HAi.out.cs.2.2.2.2.2.2.1
        have hs1 := heap_set hm0 6 (.int .u32 0)
        have hf1 := fr_set1 (w' := wr) (b := xb) (i := 6) (.int .u32 0)
        have hA0 := HAi.out.put s.ar0 (by show (s.afN s.g.c.toNat).1 = (s.afN i).1; rw [hnc]) (by show fvol s s.g.c.toNat = fvol s i; rw [hnc]) rfl ⟨by
          show ({ first s.g with seq := 0 } : MS).Ok (s.afN s.g.c.toNat).1.g
          rw [(afN_g s _).1]
          exact first_ok HGO.out (by decide) (by decide), by
          have hmo := HAi.out.ok.more
          show ∀ c t, c < (s.afN s.g.c.toNat).1.n → fvol s s.g.c.toNat c = some t → t.Ok (s.afN s.g.c.toNat).1.g
          rw [hnc]
          exact hmo⟩ hf1 (by
          rw [hs1]
          unfold acells
          show some (Obj.cells #[.pointer (some ⟨p, 0, none⟩), .int .i64 (s.afN i).1.g.c, .int .i64 (s.afN i).1.g.b, .int .i64 (s.afN i).1.g.p, .int .i64 (s.afN i).1.g.s, .slice (some ⟨vb, 0, none⟩) (s.afN i).1.n (s.afN i).1.n, .int .u32 0, .slice (some ⟨cb, 0, none⟩) (s.afN i).1.g.c.toNat cc, .int .i64 s.g.c, .int .i64 255, .int .i64 0, .bool false] AT (0, 0)) = some (Obj.cells #[.pointer (some ⟨p, 0, none⟩), .int .i64 (s.afN s.g.c.toNat).1.g.c, .int .i64 (s.afN s.g.c.toNat).1.g.b, .int .i64 (s.afN s.g.c.toNat).1.g.p, .int .i64 (s.afN s.g.c.toNat).1.g.s, .slice (some ⟨vb, 0, none⟩) (s.afN s.g.c.toNat).1.n (s.afN s.g.c.toNat).1.n, .int .u32 0, .slice (some ⟨cb, 0, none⟩) (s.afN s.g.c.toNat).1.g.c.toNat cc, .int .i64 s.g.c, .int .i64 255, .int .i64 0, .bool false] AT (0, 0))
          rw [hnc])
        have HF5 := As.mk (HFi.out.setCell (p := ⟨xb, 6, none⟩) (fun h => absurd h (by have := HNEW.out.1; show ¬ xb < w.heap.size; omega)) (.int .u32 0))
        have HSVi := As.mk (HSV.out ⟨L, p, xb, vb, cb, cc, f⟩ _ hA0)
        unfold SvPost at HSVi
        rw [← HOK1.out] at HSVi
        have hn0 : s.ar0.s.n = s.n ∧ s.ar0.s.nb = s.nb := by
          show St.n (s.afN s.g.c.toNat).1 = s.n ∧ St.nb (s.afN s.g.c.toNat).1 = s.nb
          unfold St.n St.nb
          rw [(afN_g s _).1]
          exact ⟨rfl, rfl⟩
        have HAF := As.mk (show ∀ b, b < w.heap.size → AF ⟨L, p, xb, vb, cb, cc, f⟩ s.ar0 b → NF p L s.n s.nb b from fun b hb h => by
          unfold AF at h
          rw [hn0.1, hn0.2] at h
          have h1 := HNEW.out.1
          have h2 := HNEW.out.2.1
          rcases h with h | h | h
          · exact h
          · exact absurd h (by show ¬ b = xb; omega)
          · exact absurd h (by show ¬ b = vb; omega))
        clear hm0 hs1 hf1 hA0 hnc hn0 HSV HFM HBD
        change wr.cell? ⟨xb, 6, none⟩ = some (.int .u32 1) at c6
        go_upto_region 13 with fail
        generalize wr.setCell ⟨xb, 6, none⟩ (.int .u32 0) = w5 at *
        go_wp2_with fail
        ((with_reducible refine (HSVi.out).mono ?_); rintro e w6 ⟨rfl, ha6, hf6⟩)
        have HA6 := As.mk ha6
        have HF6 := As.mk (HF5.out.after hf6 HAF.out)
        clear ha6 hf6 HSVi
        by_cases hk : s.afmt.2 = 0
        · have HPost := As.mk (show ∀ (e : Ending) (w' : World), e = .returned (.tuple #[.pointer (some ⟨xb, 0, none⟩), .int .i64 0]) → ArAt w' s.afmt.1 ⟨L, p, xb, vb, cb, cc, f⟩ → Fr (NF p L s.n s.nb) w w' → AFPost p s L w e w' from fun e w' h1 h2 h3 => ⟨h3, .inl ⟨hk, _, h1, h2, rfl, rfl, HNEW.out⟩⟩)
          rw [hk]
          clear hk
          go_wp2_with fail
          go_ret2
          exact HPost.out _ _ rfl HA6.out HF6.out
        · have dk : (s.afmt.2 != 0) = true := by rw [bne_iff_ne]; exact hk
          have HPost := As.mk (show ∀ (e : Ending) (w' : World), e = .returned (.tuple #[.pointer none, .int .i64 s.afmt.2]) → ArAt w' s.afmt.1 ⟨L, p, xb, vb, cb, cc, f⟩ → Fr (NF p L s.n s.nb) w w' → AFPost p s L w e w' from fun e w' h1 h2 h3 => ⟨h3, .inr ⟨hk, h1, h2.nand⟩⟩)
          generalize s.afmt.2 = k at *
          clear hk
          go_wp2_with fail
          go_ret2
          exact HPost.out _ _ rfl HA6.out HF6.out
end Go.Proofs.YteofgpaceeibpaaGreat.ArrI

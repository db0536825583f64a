/- stripe.sealed, parity.head, parity.Of. -/
import Derived.Test.YteofgpaceeibpaaGreatTkRef5
import Derived.Test.YteofgpaceeibpaaGreatTkSeal
import Derived.Deep.RegionHeld3
namespace Go.Proofs.YteofgpaceeibpaaGreat.Str
open Go.RowKit Gab Wr Go.Proofs.YteofgpaceeibpaaGreat.Sum Ref Par Fields Seal
set_option linter.unusedVariables false
set_option linter.unusedSimpArgs false

theorem cell_is {w : World} {p i : Nat} {cs : Array Value} {T : TypeId} {fr : Nat × Nat} {v : Value} (h : w.heap[p]? = some (.cells cs T fr)) (hv : cs[i]? = some v) : w.cell? ⟨p, i, none⟩ = some v := by simp [World.cell?, h, hv]
/-- A page's cells: its header's, its bytes. -/
def pcells (h : Head) (v : Value) : Array Value := #[.int .u8 h.kind, .int .u32 h.epoch, .int .u32 h.batch, .int .u16 h.index, .int .u16 h.count, .int .u32 h.block, .int .u32 h.more, v]
set_option maxHeartbeats 2000000 in
set_option maxRecDepth 100000 in
theorem sealed_calls (h : Head) (D : Option Addr) (nd cd : Nat) (data : List Int) (w : World) (hh : h.Ok) (hD : Rd .u8 w D nd data) (hr : InR 256 data) (hc : nd ≤ cd) :
    Calls Tryz.prog 80 #[.agg (pcells h (.slice D nd cd))] w fun e w' => ∃ v, e = .returned (.agg #[.slice D nd cd, v]) ∧ Row 5 .u8 w' w.heap.size v (sealOf h data []) ∧ Fr None_ w w' := by
  have HS := As.mk (fun (w' : World) (hf : Fr None_ w w') => Seal_calls h data [] D none nd 0 cd 0 w' hh (hD.none_ hf) (Rd.nil _ _ _) hc (Nat.le_refl _) hr (fun x hx => by cases hx))
  unfold Head.vals at HS
  unfold pcells
  clear hh hD hr
  have HB := As.mk (fun (x : Value) (w' : World) (hf : Fr None_ ((w.alloc (.cells #[.int .u8 h.kind, .int .u32 h.epoch, .int .u32 h.batch, .int .u16 h.index, .int .u16 h.count, .int .u32 h.block, .int .u32 h.more, x] 117)).alloc (.cells #[.slice none 0 0, .slice none 0 0] 157)) w') => hf.heap (at_new (.cells #[.slice none 0 0, .slice none 0 0] 157) (size_new _ rfl)) (fun h => h))
  go_enter Tryz.func80, Tryz.ntmps80
  go_wp2_with fail
  go_region_held3 (fun w' => w'.cell? ⟨w.heap.size, 0, none⟩ = some (.int .u8 h.kind) ∧ w'.cell? ⟨w.heap.size, 1, none⟩ = some (.int .u32 h.epoch) ∧ w'.cell? ⟨w.heap.size, 2, none⟩ = some (.int .u32 h.batch) ∧ w'.cell? ⟨w.heap.size, 3, none⟩ = some (.int .u16 h.index) ∧ w'.cell? ⟨w.heap.size, 4, none⟩ = some (.int .u16 h.count) ∧ w'.cell? ⟨w.heap.size, 5, none⟩ = some (.int .u32 h.block) ∧ w'.cell? ⟨w.heap.size, 6, none⟩ = some (.int .u32 h.more) ∧ w'.cell? ⟨w.heap.size, 7, none⟩ = some (.slice D nd cd)) (first | go_keep | (refine ⟨?_, ?_, ?_, ?_, ?_, ?_, ?_, ?_⟩ <;> (refine Fr.cell ‹Fr None_ _ _› ?_ (fun h => h); go_keep))) (first | (go_at_call 86; (with_reducible refine (HS.out _ ?_).mono ?_); (focus repeat (first | exact Fr.refl _ _ | apply Fr.drew | apply Fr.drewN | apply Fr.alloc)); rintro e w1 ⟨v, rfl, hrow, hf⟩; obtain ⟨Av, nv, cv, ev, _, _, _⟩ := hrow.rd; subst ev; have hb := HB.out _ _ ((Fr.refl None_ _).drew.after hf (fun _ _ h => h)); have r0 := cell_is (i := 0) hb rfl; have r1 := cell_is (i := 1) hb rfl; have q0 := free_of (i := 0) hb; have q1 := free_of (i := 1) hb))
  all_goals
    go_wp2_with fail
    have hF : Fr None_ w w1 := Fr.after (T := None_) (Fr.drew (Fr.alloc (Fr.alloc (Fr.refl _ w) _) _)) hf (fun _ _ h => h)
    refine bodyPost_ret (v := .agg #[.slice D nd cd, .slice Av nv cv]) (by simp [results, Tryz.results80, go_sem, r0, r1, q0, q1]) rfl ⟨_, rfl, ?_, (hF.setCell (fun hl => absurd hl (by simp)) _).setCell (fun hl => absurd hl (by simp)) _⟩
    have hsz := (Fr.refl None_ (w.alloc (.cells #[.int .u8 h.kind, .int .u32 h.epoch, .int .u32 h.batch, .int .u16 h.index, .int .u16 h.count, .int .u32 h.block, .int .u32 h.more, .slice D nd cd] 117))).alloc (.cells #[.slice none 0 0, .slice none 0 0] 157) |>.size
    refine Row.fr (S := fun b => b = w.heap.size + 1) (hrow.lower (by simp; omega)) (((Fr.refl (fun b => b = w.heap.size + 1) w1).setCell (p := ⟨w.heap.size + 1, 0, none⟩) (fun _ => rfl) _).setCell (p := ⟨w.heap.size + 1, 1, none⟩) (fun _ => rfl) _) (fun b hbo e => ?_)
    subst e
    exact Row.ne hrow hb (by decide) hbo

set_option maxHeartbeats 1000000 in
set_option maxRecDepth 100000 in
theorem head_calls (D O : Option Addr) (nd cd no co : Nat) (w : World) (hn : (no : Int) = 64 ∨ (no : Int) = 32) (hc : no ≤ co) :
    Calls Tryz.prog 109 #[.agg #[.slice D nd cd, .slice O no co]] w fun e w' => e = .returned (.slice O 32 co) ∧ Fr None_ w w' := by
  have h2 : (32 : Int) ≤ co := by omega
  have h3 : (0 : Int) ≤ co := by omega
  rcases hn with hn | hn
  · obtain rfl : no = 64 := by omega
    clear hn
    go_enter Tryz.func109, Tryz.ntmps109
    go_wp2
    go_ret
    exact ⟨rfl, (Fr.refl None_ w).alloc _⟩
  · obtain rfl : no = 32 := by omega
    clear hn
    go_enter Tryz.func109, Tryz.ntmps109
    go_wp2
    go_ret
    exact ⟨rfl, (Fr.refl None_ w).alloc _⟩

theorem RowV.ne {e : TypeId} {size : Nat} {w : World} {base : Nat} {v : Value} {n : Nat} {vs : List Value} (h : RowV e size w base v n vs) {p : Nat} {cs : Array Value} {T : TypeId} {fr : Nat × Nat} (hp : w.heap[p]? = some (.cells cs T fr)) (hT : T ≠ e) : ¬ v.ownBlock = some p := by
  intro hb
  obtain ⟨_, _, cs', hc⟩ := RowV.blk h p hb
  rw [hp] at hc
  injection hc with hc
  injection hc with _ hc
  exact hT hc
theorem infoSl : (Tryz.prog.info? 48).map (fun i => (i.zero, i.size, i.bytes)) = some (some (.slice none 0 0), 1, 24) := by kernel_rfl
/-- Cells that are pages with what stands beside each. -/
def PPs (w : World) (vs : List Value) (l : List (List Int × List Int)) : Prop := vs.length = l.length * 2 ∧ ∀ j, j < l.length → Sl w (vs.getD (j * 2) undef) (l.getD j ([], [])).1 ∧ Sl w (vs.getD (j * 2 + 1) undef) (l.getD j ([], [])).2
theorem PPs.none_ {w w' : World} {vs : List Value} {l : List (List Int × List Int)} (h : PPs w vs l) (hf : Fr None_ w w') : PPs w' vs l := ⟨h.1, fun j hj => ⟨(h.2 j hj).1.none_ hf, (h.2 j hj).2.none_ hf⟩⟩
theorem PPs.nil (w : World) : PPs w [] [] := ⟨rfl, fun j hj => absurd hj (by simp)⟩
theorem PPs.snoc {w : World} {vs : List Value} {l : List (List Int × List Int)} (h : PPs w vs l) {v u : Value} {xs ys : List Int} (hv : Sl w v xs) (hu : Sl w u ys) : PPs w (vs ++ [v, u]) (l ++ [(xs, ys)]) := by
  refine ⟨by simp [h.1]; omega, fun j hj => ?_⟩
  have hl := h.1
  simp only [List.getD_eq_getElem?_getD]
  by_cases e : j < l.length
  · rw [List.getElem?_append_left (by omega), List.getElem?_append_left e, List.getElem?_append_left (by omega)]
    have := h.2 j e
    simpa only [List.getD_eq_getElem?_getD] using this
  · have e2 : j = l.length := by simp at hj; omega
    subst e2
    rw [List.getElem?_append_right (by omega), List.getElem?_append_right (Nat.le_refl _), List.getElem?_append_right (by omega), hl, show l.length * 2 + 1 - l.length * 2 = 1 by omega]
    simp
    exact ⟨hv, hu⟩
theorem add_next (ad : Addr) (k j : Nat) (hj : 0 < j) : ad.add (k + j) = ⟨(ad.add k).block, (ad.add k).off + j, none⟩ := by
  unfold Addr.add
  have h1 : ¬ (k + j = 0) := by omega
  by_cases hk : k = 0
  · subst hk; simp; omega
  · simp [hk, h1]; omega
/-- A page of them, where it lies. -/
theorem PPs.at_ {w : World} {A : Option Addr} {n : Nat} {vs : List Value} {l : List (List Int × List Int)} (hc : RdC w A (n * 2) vs) (h : PPs w vs l) (i : Int) (h0 : 0 ≤ i) (h1 : i < n) :
    ∃ ad D nd cd O no co, A = some ad ∧ w.cell? (ad.add (i.toNat * 2)) = some (.slice D nd cd) ∧ w.cell? ⟨(ad.add (i.toNat * 2)).block, (ad.add (i.toNat * 2)).off + 1, none⟩ = some (.slice O no co) ∧ As (nd ≤ cd ∧ Rd .u8 w D nd (l.getD i.toNat ([], [])).1) ∧ As (no ≤ co ∧ Rd .u8 w O no (l.getD i.toNat ([], [])).2) := by
  have hn : l.length * 2 = n * 2 := by rw [← h.1, hc.1]
  obtain ⟨ad, e, hcell⟩ := hc.2 (by omega)
  obtain ⟨⟨D, nd, cd, e1, a1, a2⟩, ⟨O, no, co, e2, b1, b2⟩⟩ := h.2 i.toNat (by omega)
  refine ⟨ad, D, nd, cd, O, no, co, e, ?_, ?_, ⟨a1, a2⟩, ⟨b1, b2⟩⟩
  · rw [hcell _ (by omega), e1]
  · rw [← add_next _ _ _ (by decide), hcell _ (by omega), e2]
theorem take_snoc {α : Type} (d : α) {l : List α} {i : Nat} (h : i < l.length) : l.take (i + 1) = l.take i ++ [l.getD i d] := by
  rw [List.take_succ_eq_append_getElem h, List.getD_eq_getElem?_getD, List.getElem?_eq_getElem h]
  rfl
theorem bx_range (a b : Int) : 0 ≤ bx a b ∧ bx a b < 256 := by
  unfold bx bits
  simp only [IntKind.wrap_u8]
  omega
theorem zip_range : ∀ (z l : List Int), InR 256 (List.zipWith bx z l)
  | [], _ => fun x hx => by simp at hx
  | _ :: _, [] => fun x hx => by simp at hx
  | a :: z, b :: l => fun x hx => by
    rw [List.zipWith_cons_cons, List.mem_cons] at hx
    rcases hx with rfl | hx
    · exact bx_range a b
    · exact zip_range z l x hx
theorem fold_range : ∀ (ls : List (List Int)) (z : List Int), InR 256 z → InR 256 (ls.foldl (List.zipWith bx) z)
  | [], _, h => h
  | l :: ls, z, _ => fold_range ls _ (zip_range z l)
theorem xor_range (N : Nat) (ls : List (List Int)) : InR 256 (xorAll N ls) := fold_range ls _ (fun x hx => by obtain ⟨_, rfl⟩ := List.mem_replicate.1 hx; decide)
/-- The parity page. -/
def parOf (N : Nat) (h : Head) (l : List (List Int × List Int)) : List Int × List Int := (xorAll N (l.map (·.1)), sealOf h (xorAll N (l.map (·.1))) (xorAll 32 (l.map fun p => p.2.take 32)))

set_option maxHeartbeats 4000000 in
set_option maxRecDepth 100000 in
theorem Of_calls (N : Nat) (h : Head) (l : List (List Int × List Int)) (vs : List Value) (A : Option Addr) (n c : Nat) (w : World) (hh : h.Ok) (hc : RdC w A (n * 2) vs) (hp : PPs w vs l) (hl : ∀ p ∈ l, p.1.length = N ∧ p.2.length = 64 ∧ InR 256 p.1 ∧ InR 256 p.2) (hn0 : 0 < n) (hn : n ≤ 1000) (hN : N ≤ 100000) :
    Calls Tryz.prog 81 #[.agg h.vals, .slice A n c] w fun e w' => ∃ v1 v2, e = .returned (.agg #[v1, v2]) ∧ Row 5 .u8 w' w.heap.size v1 (parOf N h l).1 ∧ Row 5 .u8 w' w.heap.size v2 (parOf N h l).2 ∧ Fr None_ w w' := by
  have HC := As.mk hc
  have HP := As.mk hp
  have HL := As.mk hl
  have HH := As.mk hh
  have HN := As.mk hN
  have HNL : As (l.length = n) := ⟨by have h1 := hp.1; have h2 := hc.1; omega⟩
  unfold Head.vals
  clear hc hp hl hh hN
  go_enter Tryz.func81, Tryz.ntmps81
  go_wp2
  have HFW : As (Fr None_ w ((w.alloc (.cells #[.int .u8 h.kind, .int .u32 h.epoch, .int .u32 h.batch, .int .u16 h.index, .int .u16 h.count, .int .u32 h.block, .int .u32 h.more] 112)).alloc (.cells #[.slice none 0 0, .slice none 0 0] 157))) := ⟨((Fr.refl _ w).alloc _).alloc _⟩
  go_loopw [5, 6, 8, 12] (fun v5 v6 v8 v12 w' => ∃ i : Int, ∃ (vs5 vs6 : List Value), v12 = .int .i64 i ∧ 0 ≤ i ∧ i ≤ (n : Int) ∧ As (RowV 48 1 w' w.heap.size v5 i.toNat vs5 ∧ Sls w vs5 ((l.take i.toNat).map (·.1))) ∧ As (RowV 48 1 w' w.heap.size v6 i.toNat vs6 ∧ Sls w vs6 ((l.take i.toNat).map fun p => p.2.take 32)) ∧ As (∀ b, v5.ownBlock = some b → ¬ v6.ownBlock = some b) ∧ As (Fr None_ w w' ∧ w'.heap[w.heap.size]? = some (.cells #[.int .u8 h.kind, .int .u32 h.epoch, .int .u32 h.batch, .int .u16 h.index, .int .u16 h.count, .int .u32 h.block, .int .u32 h.more] 112 (0, 0)) ∧ w'.heap[w.heap.size + 1]? = some (.cells #[.slice none 0 0, .slice none 0 0] 157 (0, 0)))) (fun _ _ _ v12 _ => n - (intOf v12).toNat)
  case atStart => exact ⟨0, [], [], rfl, by omega, by omega, ⟨RowV.nil _ _ _ _, Sls.nil _⟩, ⟨RowV.nil _ _ _ _, Sls.nil _⟩, ⟨fun b hb => by cases hb⟩, ⟨HFW.out, at_old _ (heap_alloc_new w _), at_new _ (size_new _ rfl)⟩⟩
  case round =>
    obtain ⟨i, vs5, vs6, rfl, hi0, hi, H5, H6, HS, HF⟩ := hrel
    obtain ⟨A5, c5, e5, _, _, _⟩ := H5.out.1.rd
    obtain ⟨A6, c6, e6, _, _, _⟩ := H6.out.1.rd
    subst e5 e6
    by_cases hlt : i < (n : Int)
    · obtain ⟨ad, D, nd, cd, O, no, co, rfl, k1, k2, HD, HO⟩ := PPs.at_ HC.out HP.out i hi0 hlt
      have hil : i.toNat < l.length := by have := HNL.out; omega
      have HLI := As.mk (HL.out (l.getD i.toNat ([], [])) (by rw [List.getD_eq_getElem?_getD, List.getElem?_eq_getElem hil]; exact List.getElem_mem hil))
      have HTK := As.mk (take_snoc ([], []) hil)
      have kk1 := HF.out.1.cell k1 (fun h => h)
      have kk2 := HF.out.1.cell k2 (fun h => h)
      have hno : (no : Int) = 64 ∨ (no : Int) = 32 := by have h1 := HO.out.2.1; have h2 := HLI.out.2.1; omega
      clear k1 k2 hil
      go_wp2_with (first | (at_builtin; first | ((with_reducible refine appendV w.heap.size rfl _ _ 198 48 (.slice none 0 0) 1 24 rfl Tryz.underlying198 infoSl rfl (by decide) (by decide) (.slice A5 i.toNat c5) i.toNat vs5 #[.slice D nd cd] (wr.heap.size + 1) (size_new _ rfl) rfl rfl rfl ?o0 (H5.out.1.none_ ((Fr.refl None_ wr).alloc _)) ?o2 ?o3 ?_); (case o0 => intro u hu; simp at hu; subst hu; rfl); (case o2 => have := HF.out.1.size; simp; omega); (case o3 => omega); intro v1 w1 hrow1 hfr1 hat1; have hb1 := hfr1.heap (heap_alloc_new wr _) (fun hb => absurd (H5.out.1.blk _ hb).2.1 (Nat.lt_irrefl _)); have r0 := cell_is (i := 0) hb1 rfl; have r1 := cell_is (i := 1) hb1 rfl; have HR1 := As.mk hrow1; have HQ1 := As.mk (((Fr.refl _ wr).alloc _).after hfr1 (fun _ _ h => h)); have HA1 := As.mk hat1; clear hrow1 hfr1 hat1 hb1; obtain ⟨A1, c1, e1, _, _, _⟩ := HR1.out.rd; subst e1) | ((with_reducible refine appendV w.heap.size rfl _ _ 198 48 (.slice none 0 0) 1 24 rfl Tryz.underlying198 infoSl rfl (by decide) (by decide) (.slice A6 i.toNat c6) i.toNat vs6 #[.slice O 32 co] _ rfl rfl rfl rfl ?o4 ((H6.out.1.fr HQ1.out (fun b hb hb2 => absurd hb (HS.out b hb2))).none_ hf2) ?o5 ?o6 ?_); (case o4 => intro u hu; simp at hu; subst hu; rfl); (case o5 => have := HF.out.1.size; have := HQ1.out.size; have := hf2.size; omega); (case o6 => omega); intro v2 w3 hrow2 hfr2 hat2; have HR2 := As.mk hrow2; have HQ2 := As.mk hfr2; have HA2 := As.mk hat2; clear hrow2 hfr2 hat2; obtain ⟨A2, c2, e2, _, _, _⟩ := HR2.out.rd; subst e2)) | (go_at_call 109; (with_reducible refine (head_calls D O nd cd no co _ hno HO.out.1).mono ?_); rintro e w2 ⟨rfl, hf2⟩))
      have hn1 : (i + 1).toNat = i.toNat + 1 := by omega
      have hF1 : Fr None_ w w1 := HF.out.1.after HQ1.out (fun j hj hb => absurd hj (by have := (H5.out.1.blk j hb).1; omega))
      have hF2 : Fr None_ w w2 := hF1.after hf2 (fun _ _ h => h)
      have h6 := (H6.out.1.fr HQ1.out (fun b hb hb2 => absurd hb (HS.out b hb2))).none_ hf2
      have hF3 : Fr None_ w w3 := hF2.after HQ2.out (fun j hj hb => absurd hj (by have := (h6.blk j hb).1; omega))
      have h12 := HR1.out.none_ hf2
      have hsep : ∀ b, (Value.slice A1 (i.toNat + 1) c1).ownBlock = some b → ¬ (Value.slice A6 i.toNat c6).ownBlock = some b := by
        intro b hb hb6
        rcases HA1.out with h1 | ⟨b', h1, h2⟩
        · exact HS.out b (h1 ▸ hb) hb6
        · rw [hb] at h1
          injection h1 with h1
          have := (H6.out.1.blk b hb6).2.1
          simp at h2
          omega
      refine ⟨⟨i + 1, vs5 ++ [.slice D nd cd], vs6 ++ [.slice O 32 co], rfl, by omega, by omega, ⟨?_, ?_⟩, ⟨?_, ?_⟩, ⟨?_⟩, ⟨hF3, ?_, ?_⟩⟩, by simp [intOf]; omega⟩
      · rw [hn1]
        exact h12.fr HQ2.out hsep
      · rw [hn1, HTK.out, List.map_append]
        exact H5.out.2.snoc ⟨D, nd, cd, rfl, HD.out⟩
      · rw [hn1]
        exact HR2.out
      · rw [hn1, HTK.out, List.map_append]
        refine H6.out.2.snoc ⟨O, 32, co, rfl, by have := HO.out.1; omega, HO.out.2.take 32 (by omega)⟩
      · intro b hb hb2
        rcases HA2.out with h1 | ⟨b', h1, h2⟩
        · exact hsep b hb (h1 ▸ hb2)
        · rw [hb2] at h1
          injection h1 with h1
          have := (h12.blk b hb).2.1
          omega
      · refine HQ2.out.heap (hf2.heap (HQ1.out.heap HF.out.2.1 (RowV.ne H5.out.1 HF.out.2.1 (by decide))) (fun h => h)) (RowV.ne h6 (hf2.heap (HQ1.out.heap HF.out.2.1 (RowV.ne H5.out.1 HF.out.2.1 (by decide))) (fun h => h)) (by decide))
      · refine HQ2.out.heap (hf2.heap (HQ1.out.heap HF.out.2.2 (RowV.ne H5.out.1 HF.out.2.2 (by decide))) (fun h => h)) (RowV.ne h6 (hf2.heap (HQ1.out.heap HF.out.2.2 (RowV.ne H5.out.1 HF.out.2.2 (by decide))) (fun h => h)) (by decide))
    · have hin : i.toNat = n := by omega
      subst hin
      have hsl : ∀ (v : Value) (Ax : Option Addr) (cx : Nat) (vsx : List Value) (ls : List (List Int)), v = .slice Ax i.toNat cx → RowV 48 1 wr w.heap.size v i.toNat vsx → Sls w vsx ls → RdS .u8 wr Ax i.toNat ls := by
        intro v Ax cx vsx ls ev h1 h2
        obtain ⟨A', c', e, _, h3, _⟩ := h1.rd
        rw [e] at ev
        injection ev with e1 e2 e3
        subst e1
        have h4 := h3.out
        rw [Nat.mul_one] at h4
        exact h4.sls (h2.none_ HF.out.1) (by omega)
      have htk : l.take i.toNat = l := List.take_of_length_le (by have := HNL.out; omega)
      have h5 := hsl _ A5 c5 vs5 _ rfl H5.out.1 H5.out.2
      have h6 := hsl _ A6 c6 vs6 _ rfl H6.out.1 H6.out.2
      rw [htk] at h5 h6
      have hlen5 : ∀ x ∈ l.map (·.1), x.length = N := by
        intro x hx
        obtain ⟨p, hp, rfl⟩ := List.mem_map.1 hx
        exact (HL.out p hp).1
      have hlen6 : ∀ x ∈ l.map (fun p => p.2.take 32), x.length = 32 := by
        intro x hx
        obtain ⟨p, hp, rfl⟩ := List.mem_map.1 hx
        rw [List.length_take, (HL.out p hp).2.1]
        rfl
      have HX5 : As (∀ w', Fr None_ wr w' → Calls Tryz.prog 110 #[.slice A5 i.toNat c5] w' fun e w'' => ∃ v, e = .returned v ∧ Row 5 .u8 w'' w'.heap.size v (parOf N h l).1 ∧ Fr None_ w' w'') := ⟨fun w' hf => Xor_calls N _ A5 i.toNat c5 w' (RdS.none_ h5 hf) hlen5 (by have := HN.out; omega) hn0⟩
      have HX6 : As (∀ w', Fr None_ wr w' → Calls Tryz.prog 110 #[.slice A6 i.toNat c6] w' fun e w'' => ∃ v, e = .returned v ∧ Row 5 .u8 w'' w'.heap.size v (xorAll 32 (l.map fun p => p.2.take 32)) ∧ Fr None_ w' w'') := ⟨fun w' hf => Xor_calls 32 _ A6 i.toNat c6 w' (RdS.none_ h6 hf) hlen6 (by decide) hn0⟩
      have HPR : As ((parOf N h l).2 = sealOf h (parOf N h l).1 (xorAll 32 (l.map fun p => p.2.take 32))) := ⟨rfl⟩
      have HR1 : As (InR 256 (parOf N h l).1) := ⟨xor_range _ _⟩
      have HR2 : As (InR 256 (xorAll 32 (l.map fun p => p.2.take 32))) := ⟨xor_range _ _⟩
      generalize hed : (parOf N h l).1 = d at *
      generalize heo : (parOf N h l).2 = o at *
      have HED := As.mk hed
      have HEO := As.mk heo
      clear hed heo
      generalize xorAll 32 (l.map fun p => p.2.take 32) = bs at *
      clear hlt h5 h6 hsl hlen5 hlen6 htk
      go_upto_region 9 with ((with_reducible refine (HX5.out _ (Fr.refl _ _)).mono ?_); rintro e w1 ⟨v1, rfl, hrow1, hf1⟩; have HRW1 := As.mk hrow1; have HF1 := As.mk hf1; clear hrow1 hf1; obtain ⟨A1, n1, c1, e1, hm1, hd1, _⟩ := HRW1.out.rd; subst e1)
      have hb := HF1.out.heap HF.out.2.1 (fun h => h)
      have z0 := cell_is (i := 0) hb rfl
      have z1 := cell_is (i := 1) hb rfl
      have z2 := cell_is (i := 2) hb rfl
      have z3 := cell_is (i := 3) hb rfl
      have z4 := cell_is (i := 4) hb rfl
      have z5 := cell_is (i := 5) hb rfl
      have z6 := cell_is (i := 6) hb rfl
      clear hb
      have HB1 := As.mk (HF1.out.heap HF.out.2.2 (fun h => h))
      have HSL := As.mk (fun (B : Option Addr) (m cb : Nat) (w' : World) (hf : Fr None_ w1 w') (hB : Rd .u8 w' B m bs) (hcb : m ≤ cb) => Seal_calls h d bs A1 B n1 m c1 cb w' HH.out (hd1.out.none_ hf) hB hm1.out hcb HR1.out HR2.out)
      unfold Head.vals at HSL
      go_region_held3 (fun w' => w'.cell? ⟨w.heap.size, 0, none⟩ = some (.int .u8 h.kind) ∧ w'.cell? ⟨w.heap.size, 1, none⟩ = some (.int .u32 h.epoch) ∧ w'.cell? ⟨w.heap.size, 2, none⟩ = some (.int .u32 h.batch) ∧ w'.cell? ⟨w.heap.size, 3, none⟩ = some (.int .u16 h.index) ∧ w'.cell? ⟨w.heap.size, 4, none⟩ = some (.int .u16 h.count) ∧ w'.cell? ⟨w.heap.size, 5, none⟩ = some (.int .u32 h.block) ∧ w'.cell? ⟨w.heap.size, 6, none⟩ = some (.int .u32 h.more)) (first | go_keep | (refine ⟨?_, ?_, ?_, ?_, ?_, ?_, ?_⟩ <;> (refine Fr.cell ‹Fr None_ _ _› ?_ (fun h => h); go_keep))) (first | ((with_reducible refine (HX6.out _ (HF1.out.drew)).mono ?_); rintro e w2 ⟨v2, rfl, hrow2, hf2⟩; obtain ⟨A2, n2, c2, e2, hm2, hd2, _⟩ := hrow2.rd; subst e2) | ((with_reducible refine (HSL.out A2 n2 c2 _ ((Fr.refl None_ w1).drew.after hf2 (fun _ _ h => h)) hd2.out hm2.out).mono ?_); rintro e w3 ⟨v3, rfl, hrow3, hf3⟩; obtain ⟨A3, n3, c3, e3, hm3, hd3, _⟩ := hrow3.rd; subst e3; have hb3 := hf3.heap (hf2.heap HB1.out (fun h => h)) (fun h => h); have x0 := cell_is (i := 0) hb3 rfl; have x1 := cell_is (i := 1) hb3 rfl; have y0 := free_of (i := 0) hb3; have y1 := free_of (i := 1) hb3))
      all_goals
        go_wp2_with fail
        have hz := HF.out.1.size
        have hz1 := HF1.out.size
        have hz2 := hf2.size
        have hdz : w1.drew.heap.size = w1.heap.size := rfl
        have hset : ∀ (u v : Value), Fr (fun b => b = w.heap.size + 1) w3 ((w3.setCell ⟨w.heap.size + 1, 0, none⟩ u).setCell ⟨w.heap.size + 1, 1, none⟩ v) := fun u v => ((Fr.refl (fun b => b = w.heap.size + 1) w3).setCell (p := ⟨w.heap.size + 1, 0, none⟩) (fun _ => rfl) u).setCell (p := ⟨w.heap.size + 1, 1, none⟩) (fun _ => rfl) v
        have hF3 : Fr None_ w w3 := (((HF.out.1.after HF1.out (fun _ _ h => h)).drew.after hf2 (fun _ _ h => h))).after hf3 (fun _ _ h => h)
        have hr1 := (HRW1.out.none_ ((Fr.refl None_ w1).drew.after hf2 (fun _ _ h => h))).none_ hf3
        refine bodyPost_ret (v := .agg #[.slice A1 n1 c1, .slice A3 n3 c3]) (by simp [results, Tryz.results81, go_sem, x0, x1, y0, y1]) rfl ⟨_, _, rfl, ?_, ?_, ?_⟩
        · rw [HED.out]
          exact Row.fr (S := fun b => b = w.heap.size + 1) (hr1.lower hz) (hset _ _) (fun b hbo e => Row.ne hr1 hb3 (by decide) (e ▸ hbo))
        · rw [HEO.out, HPR.out]
          exact Row.fr (S := fun b => b = w.heap.size + 1) (hrow3.lower (by omega)) (hset _ _) (fun b hbo e => Row.ne hrow3 hb3 (by decide) (e ▸ hbo))
        · exact (hF3.setCell (p := ⟨w.heap.size + 1, 0, none⟩) (fun hl => absurd hl (by simp)) _).setCell (p := ⟨w.heap.size + 1, 1, none⟩) (fun hl => absurd hl (by simp)) _
end Go.Proofs.YteofgpaceeibpaaGreat.Str

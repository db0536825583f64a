/- stripe.Order over an array. | stripe.Write over an array: what isn't theirs, pages, what is written. | stripe.Write over an array: the model of a row of programs. | stripe.Order over an array, from any member on. -/
import Derived.Test.YteofgpaceeibpaaGreatTkArrI
import Derived.Stop.Asserts
import Derived.Test.YteofgpaceeibpaaGreatTkStr
namespace Go.Proofs.YteofgpaceeibpaaGreat.AOrd
open Go.RowKit Gab Wr Geom Ref Nand NandA ArrA
open Rdz (infoIn)
set_option linter.unusedVariables false
set_option linter.unusedSimpArgs false

/-- Members as an interface value. -/
def dev (x : Nat) : Value := .iface 30 (.pointer (some ⟨x, 0, none⟩))
def upTo (k : Nat) : List Int := (List.range k).map Int.ofNat
theorem upTo_succ (k : Nat) : upTo (k + 1) = upTo k ++ [(k : Int)] := by simp [upTo, List.range_succ]
def pre (first c : Int) : List Int := if 0 ≤ first ∧ first < c then [first] else []
/-- The order: that which is ahead of all, if it is there; all others. -/
def orderOf (first c : Int) : List Int := pre first c ++ (upTo c.toNat).filter (fun m => decide (m ≠ first))

set_option maxHeartbeats 2000000 in
set_option maxRecDepth 100000 in
theorem Order_calls (σ : Ar) (K : ALay) (c : Int) (w : World) (h : ArAt w σ K) (hc : 0 ≤ c ∧ c ≤ 100) :
    Calls Tryz.prog 82 #[dev K.x, .int .i64 0, .int .i64 c] w fun e w' => ∃ v, e = .returned v ∧ Row 3 .i64 w' w.heap.size v (orderOf σ.ahead c) ∧ Fr None_ w w' := by
  have HA := As.mk (fun w' (hf : Fr None_ w w') => Ahead_calls σ K w' (h.none_ hf))
  have HPR : As (pre σ.ahead c = if 0 ≤ σ.ahead ∧ σ.ahead < c then [σ.ahead] else []) := ⟨rfl⟩
  have HO : As (orderOf σ.ahead c = pre σ.ahead c ++ (upTo c.toNat).filter (fun m => decide (m ≠ σ.ahead))) := ⟨rfl⟩
  generalize pre σ.ahead c = pr at *
  generalize orderOf σ.ahead c = res at *
  generalize σ.ahead = first at *
  obtain ⟨hc0, hc1⟩ := hc
  have hta := fun w => run_typeAssert_hasB (P := Tryz.prog) (t := 30) Tryz.underlying206 (by kernel_rfl) (.pointer (some ⟨K.x, 0, none⟩)) 105 w
  unfold dev
  clear h
  have HCASE : As (∃ a b : Bool, decide (0 ≤ first) = a ∧ decide (first < c) = b ∧ pr = if a && b then [first] else []) := ⟨decide (0 ≤ first), decide (first < c), rfl, rfl, by rw [HPR.out]; by_cases h1 : 0 ≤ first <;> by_cases h2 : first < c <;> simp [h1, h2]⟩
  obtain ⟨a, b, ha, hb, hpr⟩ := HCASE.out
  have HP2 := As.mk hpr
  clear hpr
  cases a <;> cases b
  all_goals
    go_enter Tryz.func82, Tryz.ntmps82
    go_upto_if 29 with ((with_reducible refine (HA.out _ (Fr.refl _ _)).mono ?_); rintro e w1 ⟨rfl, hf1⟩; have HF1 := As.mk hf1; clear hf1)
    go_cut [7] (fun v7 wc => As (Row 3 .i64 wc w.heap.size v7 pr) ∧ As (Fr None_ w wc))
    case first =>
      first
        | (have HP3 : As (pr = [first]) := ⟨by rw [HP2.out]; rfl⟩
           go_wp2_with (at_builtin; (with_reducible refine append1 w.heap.size rfl _ _ 38 3 .i64 8 rfl Tryz.underlying38 infoIn (by decide) (.slice none 0 0) [] _ rfl rfl (Row.nil _ _ _ _) HF1.out.size (by decide) ?_); intro v1 w2 hrow1 hfr1 hat1; have HR1 := As.mk hrow1; have HF2 := As.mk hfr1; clear hrow1 hfr1 hat1; obtain ⟨A1, n1, c1, e1, _⟩ := HR1.out.rd; subst e1)
           go_meet
           case rel => exact ⟨⟨by rw [HP3.out]; exact HR1.out⟩, ⟨HF1.out.after HF2.out (fun i _ h => by cases h)⟩⟩)
        | (have HP3 : As (pr = []) := ⟨by rw [HP2.out]; rfl⟩
           go_wp2
           go_meet
           case rel => exact ⟨⟨by rw [HP3.out]; exact Row.nil _ _ _ _⟩, HF1⟩)
    case rest =>
      obtain ⟨HR, HF⟩ := hcut
      have HPL : As (pr.length ≤ 1) := ⟨by rw [HP2.out]; simp⟩
      go_wp2
      go_loopw [7, 11] (fun v7 v11 w' => ∃ m : Int, v11 = .int .i64 m ∧ 0 ≤ m ∧ m ≤ c ∧ As (Row 3 .i64 w' w.heap.size v7 (pr ++ (upTo m.toNat).filter (fun m => decide (m ≠ first)))) ∧ As (Fr None_ w w')) (fun _ v11 _ => (c - intOf v11).toNat)
      case atStart => exact ⟨0, rfl, by omega, by omega, ⟨by simpa [upTo] using HR.out⟩, HF⟩
      case round =>
        obtain ⟨m, rfl, m0, m1, HX, HG⟩ := hrel
        obtain ⟨A1, n1, c1, e1, _, hd, _⟩ := HX.out.rd
        have HLN : As ((pr ++ (upTo m.toNat).filter (fun m => decide (m ≠ first))).length ≤ 1 + m.toNat) := ⟨by
          rw [List.length_append]
          have h1 := List.length_filter_le (fun m => decide (m ≠ first)) (upTo m.toNat)
          have h2 : (upTo m.toNat).length = m.toNat := by simp [upTo]
          have h3 := HPL.out
          omega⟩
        have HUP : As ((upTo (m + 1).toNat).filter (fun m => decide (m ≠ first)) = (upTo m.toNat).filter (fun m => decide (m ≠ first)) ++ if m = first then [] else [m]) := ⟨by
          rw [show (m + 1).toNat = m.toNat + 1 by omega, upTo_succ, List.filter_append, show ((m.toNat : Nat) : Int) = m by omega]
          by_cases e : m = first <;> simp [e]⟩
        clear hd
        subst e1
        by_cases hlt : m < c
        · by_cases e : m = first
          · have hbe : (m != first) = false := by simp [e]
            have HU2 : As ((upTo (m + 1).toNat).filter (fun m => decide (m ≠ first)) = (upTo m.toNat).filter (fun m => decide (m ≠ first))) := ⟨by rw [HUP.out, if_pos e, List.append_nil]⟩
            clear e
            go_wp2
            exact ⟨⟨m + 1, rfl, by omega, by omega, ⟨by rw [HU2.out]; exact HX.out⟩, HG⟩, by simp [intOf]; omega⟩
          · have hbe : (m != first) = true := by simp [e]
            have HU2 : As ((upTo (m + 1).toNat).filter (fun m => decide (m ≠ first)) = (upTo m.toNat).filter (fun m => decide (m ≠ first)) ++ [m]) := ⟨by rw [HUP.out, if_neg e]⟩
            clear e
            go_wp2_with (at_builtin; (with_reducible refine append1 w.heap.size rfl _ _ 38 3 .i64 8 rfl Tryz.underlying38 infoIn (by decide) (.slice A1 n1 c1) (pr ++ (upTo m.toNat).filter (fun m => decide (m ≠ first))) _ rfl rfl HX.out HG.out.size ?k0 ?_); (case k0 => have := HLN.out; omega); intro v1 w2 hrow1 hfr1 hat1; have HR1 := As.mk hrow1; have HF2 := As.mk (row_grow HX.out HG.out hfr1); clear hrow1 hfr1 hat1)
            exact ⟨⟨m + 1, rfl, by omega, by omega, ⟨by rw [HU2.out, ← List.append_assoc]; exact HR1.out⟩, HF2⟩, by simp [intOf]; omega⟩
        · have HE : As (Row 3 .i64 wr w.heap.size (.slice A1 n1 c1) res) := ⟨by rw [HO.out, show c.toNat = m.toNat by omega]; exact HX.out⟩
          go_wp2
          go_ret
          exact ⟨_, rfl, HE.out, HG.out⟩
end Go.Proofs.YteofgpaceeibpaaGreat.AOrd
namespace Go.Proofs.YteofgpaceeibpaaGreat.AWrA
open Go.RowKit Gab Geom Ref Go.Proofs.YteofgpaceeibpaaGreat.Sum Par Fields Seal AOrd Nand NandD
open Wr (InR)
open Str (pcells PPs parOf take_snoc add_next infoSl sealed_calls Of_calls)
set_option linter.unusedVariables false
set_option linter.unusedSimpArgs false

/-! ### what isn't theirs -/
/-- A value's row is one of bytes, and none of theirs. -/
def Own (F : Nat → Prop) (w : World) (v : Value) : Prop := ∀ b, v.ownBlock = some b → ¬ F b ∧ ∃ cs, w.heap[b]? = some (.cells cs 5 (0, 0))
theorem Own.step {F : Nat → Prop} {w w' : World} {v : Value} (h : Own F w v) (hs : Fr F w w') : Own F w' v := fun b hb => by
  obtain ⟨h1, cs, h2⟩ := h b hb
  exact ⟨h1, cs, hs.heap h2 h1⟩
theorem Own.fr {F S : Nat → Prop} {w w' : World} {v : Value} (h : Own F w v) (hf : Fr S w w') (hS : ∀ b cs, w.heap[b]? = some (.cells cs 5 (0, 0)) → ¬ S b) : Own F w' v := fun b hb => by
  obtain ⟨h1, cs, h2⟩ := h b hb
  exact ⟨h1, cs, hf.heap h2 (hS b cs h2)⟩
/-- A slice of bytes, none of theirs. -/
def SlO (F : Nat → Prop) (w : World) (v : Value) (xs : List Int) : Prop := Sl w v xs ∧ Own F w v
theorem SlO.rdO {F : Nat → Prop} {w : World} {v : Value} {xs : List Int} (h : SlO F w v xs) : ∃ A n c, v = .slice A n c ∧ As (n ≤ c) ∧ As (RdN w F A n xs) := by
  obtain ⟨⟨A, n, c, rfl, h1, h2⟩, h3⟩ := h
  exact ⟨A, n, c, rfl, ⟨h1⟩, ⟨h2, fun ad e _ => (h3 _ (by subst e; rfl)).1⟩⟩
theorem SlO.step {F : Nat → Prop} {w w' : World} {v : Value} {xs : List Int} (h : SlO F w v xs) (hs : Fr F w w') : SlO F w' v xs :=
  ⟨h.1.fr hs (fun b hb => (h.2 b hb).1), h.2.step hs⟩
theorem SlO.fr {F S : Nat → Prop} {w w' : World} {v : Value} {xs : List Int} (h : SlO F w v xs) (hf : Fr S w w') (hS : ∀ b cs, w.heap[b]? = some (.cells cs 5 (0, 0)) → ¬ S b) : SlO F w' v xs :=
  ⟨h.1.fr hf (fun b hb => by obtain ⟨cs, h2⟩ := (h.2 b hb).2; exact hS b cs h2), h.2.fr hf hS⟩
theorem SlO.none_ {F : Nat → Prop} {w w' : World} {v : Value} {xs : List Int} (h : SlO F w v xs) (hf : Fr None_ w w') : SlO F w' v xs := h.fr hf (fun _ _ _ h => h)
theorem SlO.of_row {F : Nat → Prop} {N : Nat} {w' : World} {base : Nat} {v : Value} {xs : List Int} (hF : ∀ b, F b → b < N) (h : Row 5 .u8 w' base v xs) (hb : N ≤ base) : SlO F w' v xs :=
  ⟨Row.sl h, fun b hv => ⟨fun hf => by have h1 := hF b hf; have h2 := (h.blk b hv).1; omega, (h.blk b hv).2.2⟩⟩
/-- Pages with what stands beside each, none of theirs. -/
def PPO (F : Nat → Prop) (w : World) (vs : List Value) (l : List (List Int × List Int)) : Prop := PPs w vs l ∧ ∀ v ∈ vs, Own F w v
theorem PPO.fr {F S : Nat → Prop} {w w' : World} {vs : List Value} {l : List (List Int × List Int)} (h : PPO F w vs l) (hf : Fr S w w') (hS : ∀ b cs, w.heap[b]? = some (.cells cs 5 (0, 0)) → ¬ S b) : PPO F w' vs l := by
  have hm : ∀ k, k < vs.length → vs.getD k undef ∈ vs := fun k hk => by rw [List.getD_eq_getElem?_getD, List.getElem?_eq_getElem hk]; exact List.getElem_mem hk
  have hl := h.1.1
  refine ⟨⟨hl, fun j hj => ⟨?_, ?_⟩⟩, fun v hv => (h.2 v hv).fr hf hS⟩
  · exact (h.1.2 j hj).1.fr hf (fun b hb => by obtain ⟨cs, h2⟩ := (h.2 _ (hm (j * 2) (by omega)) b hb).2; exact hS b cs h2)
  · exact (h.1.2 j hj).2.fr hf (fun b hb => by obtain ⟨cs, h2⟩ := (h.2 _ (hm (j * 2 + 1) (by omega)) b hb).2; exact hS b cs h2)
theorem PPO.step {F : Nat → Prop} {w w' : World} {vs : List Value} {l : List (List Int × List Int)} (h : PPO F w vs l) (hs : Fr F w w') : PPO F w' vs l := by
  have hm : ∀ k, k < vs.length → vs.getD k undef ∈ vs := fun k hk => by rw [List.getD_eq_getElem?_getD, List.getElem?_eq_getElem hk]; exact List.getElem_mem hk
  have hl := h.1.1
  refine ⟨⟨hl, fun j hj => ⟨?_, ?_⟩⟩, fun v hv => (h.2 v hv).step hs⟩
  · exact (h.1.2 j hj).1.fr hs (fun b hb => (h.2 _ (hm (j * 2) (by omega)) b hb).1)
  · exact (h.1.2 j hj).2.fr hs (fun b hb => (h.2 _ (hm (j * 2 + 1) (by omega)) b hb).1)
theorem PPO.none_ {F : Nat → Prop} {w w' : World} {vs : List Value} {l : List (List Int × List Int)} (h : PPO F w vs l) (hf : Fr None_ w w') : PPO F w' vs l := h.fr hf (fun _ _ _ h => h)
theorem PPO.nil (F : Nat → Prop) (w : World) : PPO F w [] [] := ⟨Go.Proofs.YteofgpaceeibpaaGreat.Str.PPs.nil w, fun v hv => by cases hv⟩
theorem PPO.snoc {F : Nat → Prop} {w : World} {vs : List Value} {l : List (List Int × List Int)} (h : PPO F w vs l) {v u : Value} {xs ys : List Int} (hv : SlO F w v xs) (hu : SlO F w u ys) : PPO F w (vs ++ [v, u]) (l ++ [(xs, ys)]) :=
  ⟨Go.Proofs.YteofgpaceeibpaaGreat.Str.PPs.snoc h.1 hv.1 hu.1, fun x hx => by
    rcases List.mem_append.1 hx with h1 | h1
    · exact h.2 x h1
    · simp at h1
      rcases h1 with rfl | rfl
      · exact hv.2
      · exact hu.2⟩
/-- Cells that are read, of a block that isn't theirs. -/
def RdCO (F : Nat → Prop) (w : World) (A : Option Addr) (m : Nat) (vs : List Value) : Prop := RdC w A m vs ∧ ∀ ad, A = some ad → 0 < m → ¬ F ad.block
theorem RdCO.step {F : Nat → Prop} {w w' : World} {A : Option Addr} {m : Nat} {vs : List Value} (h : RdCO F w A m vs) (hs : Fr F w w') : RdCO F w' A m vs := ⟨h.1.fr hs h.2, h.2⟩
theorem RdCO.none_ {F : Nat → Prop} {w w' : World} {A : Option Addr} {m : Nat} {vs : List Value} (h : RdCO F w A m vs) (hf : Fr None_ w w') : RdCO F w' A m vs := ⟨h.1.none_ hf, h.2⟩
theorem RdCO.of_rowV {F : Nat → Prop} {N : Nat} {w' : World} {base e size n : Nat} {A : Option Addr} {c : Nat} {vs : List Value} (hF : ∀ b, F b → b < N) (h : RowV e size w' base (.slice A n c) n vs) (hb : N ≤ base) : RdCO F w' A (n * size) vs := by
  obtain ⟨A', c', e, _, h1, h2⟩ := h.rd
  injection e with e1 e2 e3
  subst e1
  exact ⟨h1.out, fun ad ea _ hf => by
    have h3 := hF _ hf
    have h4 := (RowV.blk h _ (h2.out ad ea)).1
    omega⟩

/-! ### pages -/
/-- Cells that are pages: each its header's cells, and its bytes (none of theirs). -/
def SPs (F : Nat → Prop) (w : World) (vs : List Value) (l : List (Head × List Int)) : Prop := vs.length = l.length * 8 ∧ ∀ j, j < l.length → ∀ d, (l.getD j d).1.Ok ∧ SlO F w (vs.getD (j * 8 + 7) undef) (l.getD j d).2 ∧ ∀ i, i < 7 → vs.getD (j * 8 + i) undef = (l.getD j d).1.vals.getD i undef
def noPage : Head × List Int := (⟨0, 0, 0, 0, 0, 0, 0⟩, [])
theorem SPs.none_ {F : Nat → Prop} {w w' : World} {vs : List Value} {l : List (Head × List Int)} (h : SPs F w vs l) (hf : Fr None_ w w') : SPs F w' vs l := ⟨h.1, fun j hj d => ⟨(h.2 j hj d).1, (h.2 j hj d).2.1.none_ hf, (h.2 j hj d).2.2⟩⟩
theorem SPs.nil (F : Nat → Prop) (w : World) : SPs F w [] [] := ⟨rfl, fun j hj => absurd hj (by simp)⟩
theorem SPs.snoc {F : Nat → Prop} {w : World} {vs : List Value} {l : List (Head × List Int)} (h : SPs F w vs l) {v : Value} {hd : Head} {xs : List Int} (hv : SlO F w v xs) (hh : hd.Ok) : SPs F w (vs ++ (pcells hd v).toList) (l ++ [(hd, xs)]) := by
  have hl := h.1
  refine ⟨by simp [hl, pcells]; omega, fun j hj d => ?_⟩
  by_cases e : j < l.length
  · have h1 := h.2 j e d
    have e1 : ∀ i, i < 8 → (vs ++ (pcells hd v).toList).getD (j * 8 + i) undef = vs.getD (j * 8 + i) undef := fun i hi => by
      simp only [List.getD_eq_getElem?_getD]
      rw [List.getElem?_append_left (by omega)]
    have e2 : (l ++ [(hd, xs)]).getD j d = l.getD j d := by
      simp only [List.getD_eq_getElem?_getD]
      rw [List.getElem?_append_left e]
    rw [e2, e1 7 (by decide)]
    exact ⟨h1.1, h1.2.1, fun i hi => by rw [e1 i (by omega)]; exact h1.2.2 i hi⟩
  · have e2 : j = l.length := by simp at hj; omega
    subst e2
    have e1 : ∀ i, (vs ++ (pcells hd v).toList).getD (l.length * 8 + i) undef = (pcells hd v).toList.getD i undef := fun i => by
      simp only [List.getD_eq_getElem?_getD]
      rw [List.getElem?_append_right (by omega), hl, show l.length * 8 + i - l.length * 8 = i by omega]
    have e3 : (l ++ [(hd, xs)]).getD l.length d = (hd, xs) := by
      simp only [List.getD_eq_getElem?_getD]
      rw [List.getElem?_append_right (Nat.le_refl _)]
      simp
    rw [e3, e1]
    refine ⟨hh, hv, fun i hi => ?_⟩
    rw [e1]
    match i, hi with
    | 0, _ => rfl
    | 1, _ => rfl
    | 2, _ => rfl
    | 3, _ => rfl
    | 4, _ => rfl
    | 5, _ => rfl
    | 6, _ => rfl
/-- A page of them, where it lies. -/
theorem SPs.at_ {F : Nat → Prop} {w : World} {A : Option Addr} {n : Nat} {vs : List Value} {l : List (Head × List Int)} (hc : RdC w A (n * 8) vs) (h : SPs F w vs l) (i : Int) (h0 : 0 ≤ i) (h1 : i < n) :
    ∃ ad ax D nd cd, A = some ad ∧ ad.add (i.toNat * 8) = ax ∧ w.cell? ax = some (.int .u8 (l.getD i.toNat noPage).1.kind) ∧ w.cell? ⟨ax.block, ax.off + 1, none⟩ = some (.int .u32 (l.getD i.toNat noPage).1.epoch) ∧ w.cell? ⟨ax.block, ax.off + 2, none⟩ = some (.int .u32 (l.getD i.toNat noPage).1.batch) ∧ w.cell? ⟨ax.block, ax.off + 3, none⟩ = some (.int .u16 (l.getD i.toNat noPage).1.index) ∧ w.cell? ⟨ax.block, ax.off + 4, none⟩ = some (.int .u16 (l.getD i.toNat noPage).1.count) ∧ w.cell? ⟨ax.block, ax.off + 5, none⟩ = some (.int .u32 (l.getD i.toNat noPage).1.block) ∧ w.cell? ⟨ax.block, ax.off + 6, none⟩ = some (.int .u32 (l.getD i.toNat noPage).1.more) ∧ w.cell? ⟨ax.block, ax.off + 7, none⟩ = some (.slice D nd cd) ∧ As (nd ≤ cd ∧ RdN w F D nd (l.getD i.toNat noPage).2) ∧ As (SlO F w (.slice D nd cd) (l.getD i.toNat noPage).2) ∧ As ((l.getD i.toNat noPage).1.Ok) := by
  have hn : l.length * 8 = n * 8 := by rw [← h.1, hc.1]
  obtain ⟨ad, e, hcell⟩ := hc.2 (by omega)
  obtain ⟨ho, hs, hv⟩ := h.2 i.toNat (by omega) noPage
  obtain ⟨D, nd, cd, e1, a1, a2⟩ := hs.rdO
  have hcl : ∀ j, j < 8 → w.cell? (ad.add (i.toNat * 8 + j)) = some (vs.getD (i.toNat * 8 + j) undef) := fun j hj => hcell _ (by omega)
  have hc0 : w.cell? (ad.add (i.toNat * 8)) = some (vs.getD (i.toNat * 8 + 0) undef) := hcl 0 (by decide)
  have hcj : ∀ j, 0 < j → j < 8 → w.cell? ⟨(ad.add (i.toNat * 8)).block, (ad.add (i.toNat * 8)).off + j, none⟩ = some (vs.getD (i.toNat * 8 + j) undef) := fun j h0 hj => by rw [← add_next _ _ _ h0]; exact hcl j hj
  rw [hv 0 (by decide)] at hc0
  have hx : ∀ j, 0 < j → j < 7 → w.cell? ⟨(ad.add (i.toNat * 8)).block, (ad.add (i.toNat * 8)).off + j, none⟩ = some ((l.getD i.toNat noPage).1.vals.getD j undef) := fun j h0 hj => by rw [hcj j h0 (by omega), hv j hj]
  refine ⟨ad, _, D, nd, cd, e, rfl, hc0, hx 1 (by decide) (by decide), hx 2 (by decide) (by decide), hx 3 (by decide) (by decide), hx 4 (by decide) (by decide), hx 5 (by decide) (by decide), hx 6 (by decide) (by decide), ?_, ⟨a1.out, a2.out⟩, ⟨e1 ▸ hs⟩, ⟨ho⟩⟩
  rw [hcj 7 (by decide) (by decide), e1]

/-! ### what is written -/
def sealedOf (l : List (Head × List Int)) : List (List Int × List Int) := l.map fun q => (q.2, sealOf q.1 q.2 [])
def parHead (l : List (Head × List Int)) (seg row : Int) : Head := ⟨5, (l.getD 0 noPage).1.epoch, (l.getD 0 noPage).1.batch, row, seg, 0, 0⟩
def parPage (g : Geo) (l : List (Head × List Int)) (seg row : Int) : List Int × List Int := parOf g.s.toNat (parHead l seg row) (sealedOf l)
/-- What a member's page is, with what stands beside it. -/
def pageOf (g : Geo) (l : List (Head × List Int)) (seg row m : Int) : List Int × List Int := if g.isData seg row m = true then (sealedOf l).getD (g.slot seg row m).toNat ([], []) else parPage g l seg row
theorem orderOf_mem {first c : Int} (hc : 0 ≤ c) : ∀ m ∈ orderOf first c, 0 ≤ m ∧ m < c := by
  intro m hm
  unfold orderOf at hm
  rcases List.mem_append.1 hm with h | h
  · unfold pre at h
    split at h
    · rename_i hh
      rw [List.mem_singleton] at h
      subst h
      exact hh
    · cases h
  · have h1 := (List.mem_filter.1 h).1
    unfold upTo at h1
    obtain ⟨k, hk, rfl⟩ := List.mem_map.1 h1
    have := List.mem_range.1 hk
    simp only [Int.ofNat_eq_natCast]
    omega
theorem orderOf_len (first c : Int) : (orderOf first c).length ≤ c.toNat + 1 := by
  unfold orderOf
  rw [List.length_append]
  have h1 := List.length_filter_le (fun m => decide (m ≠ first)) (upTo c.toNat)
  have h2 : (upTo c.toNat).length = c.toNat := by simp [upTo]
  have h3 : (pre first c).length ≤ 1 := by unfold pre; split <;> simp
  omega
theorem sealOf_len (h : Head) (data beside : List Int) : (sealOf h data beside).length = 64 := by
  unfold sealOf
  rw [List.length_append, Wr.padTo_length]
  have h1 : h.bytes.length = 24 := by simp [Head.bytes, Wr.les_length]
  have h2 : (tailOf beside).length = 32 := by unfold tailOf; rw [Wr.padTo_length, List.length_take]; omega
  rw [List.length_append, h1, h2, Wr.le_length]
  rfl
theorem seal_range {h : Head} {data beside : List Int} (hb : InR 256 beside) : InR 256 (sealOf h data beside) := inR_append (pad_range (inR_append (bytes_range h) (le_range 4 _)) _) (tail_range hb)
theorem infoPP : (Tryz.prog.info? 157).map (fun i => (i.zero, i.size, i.bytes)) = some (some (.agg #[.slice none 0 0, .slice none 0 0]), 2, 48) := by kernel_rfl

theorem sealed_get {l : List (Head × List Int)} {j : Nat} (hj : j < l.length) : (sealedOf l).getD j ([], []) = ((l.getD j noPage).2, sealOf (l.getD j noPage).1 (l.getD j noPage).2 []) := by
  simp [sealedOf, List.getD_eq_getElem?_getD, List.getElem?_eq_getElem hj]
theorem slot_range {g : Geo} (h : g.Ok) {seg row m : Int} (hm0 : 0 ≤ m) (hm1 : m < g.c) (hd : g.isData seg row m = true) : 0 ≤ g.slot seg row m ∧ g.slot seg row m < g.c - 1 := by
  obtain ⟨h1, h2⟩ := par_range h seg row
  unfold Geo.isData at hd
  have hne : m ≠ g.par seg row := by simpa using hd
  unfold Geo.slot
  rw [if_neg hne]
  split <;> omega
theorem PPO.at_ {F : Nat → Prop} {w : World} {A : Option Addr} {n : Nat} {vs : List Value} {l : List (List Int × List Int)} (hc : RdC w A (n * 2) vs) (h : PPO F w vs l) (i : Int) (h0 : 0 ≤ i) (h1 : i < n) :
    ∃ ad ax D nd cd O no co, A = some ad ∧ ad.add (i.toNat * 2) = ax ∧ w.cell? ax = some (.slice D nd cd) ∧ w.cell? ⟨ax.block, ax.off + 1, none⟩ = some (.slice O no co) ∧ As (SlO F w (.slice D nd cd) (l.getD i.toNat ([], [])).1) ∧ As (SlO F w (.slice O no co) (l.getD i.toNat ([], [])).2) := by
  have hn : l.length * 2 = n * 2 := by rw [← h.1.1, hc.1]
  have hl := hc.1
  have hm : ∀ k, k < vs.length → vs.getD k undef ∈ vs := fun k hk => by rw [List.getD_eq_getElem?_getD, List.getElem?_eq_getElem hk]; exact List.getElem_mem hk
  obtain ⟨ad, e, hcell⟩ := hc.2 (by omega)
  have o1 := h.2 _ (hm (i.toNat * 2) (by omega))
  have o2 := h.2 _ (hm (i.toNat * 2 + 1) (by omega))
  obtain ⟨⟨D, nd, cd, e1, a1, a2⟩, ⟨O, no, co, e2, b1, b2⟩⟩ := h.1.2 i.toNat (by omega)
  rw [e1] at o1
  rw [e2] at o2
  refine ⟨ad, _, D, nd, cd, O, no, co, e, rfl, ?_, ?_, ⟨⟨D, nd, cd, rfl, a1, a2⟩, o1⟩, ⟨⟨O, no, co, rfl, b1, b2⟩, o2⟩⟩
  · rw [hcell _ (by omega), e1]
  · rw [← add_next _ _ _ (by decide), hcell _ (by omega), e2]
end Go.Proofs.YteofgpaceeibpaaGreat.AWrA
namespace Go.Proofs.YteofgpaceeibpaaGreat.AWrB
open Go.RowKit Gab Geom Ref Go.Proofs.YteofgpaceeibpaaGreat.Sum Par Fields Seal AOrd Nand NandA NandD NandE NandH RemapA VolD MemA ArrA ArrC ArrD ArrE ArrF AWrA
open Wr (InR)
set_option linter.unusedVariables false
set_option linter.unusedSimpArgs false

theorem stand_lt {σ : Ar} (hg : σ.s.g.Ok) (h : σ.set.Ok σ.s.g) {m b c : Nat} (hm : (m : Int) < σ.s.g.c) (hs : σ.stand m b = some c) : c < σ.s.n := by
  have hc := hg.c
  unfold Ar.stand at hs
  split at hs
  · split at hs
    · rename_i h1 h2
      injection hs with hs
      subst hs
      have h3 := h.dn (by have := h2.1; omega)
      have h4 := h.inr σ.set.spare (by
        unfold MS.all
        rw [if_neg h3.2]
        simp)
      unfold St.n
      omega
    · cases hs
  · injection hs with hs
    subst hs
    have := (chip_range h hm).1
    unfold St.n
    omega
/-- What a program keeps. -/
theorem prog_keeps {σ : Ar} (hg : σ.s.g.Ok) (h : σ.set.Ok σ.s.g) (m b q : Nat) (d o : List Int) (hm : (m : Int) < σ.s.g.c) :
    (σ.prog m b q d o).1.s.g = σ.s.g ∧ (σ.There → (σ.prog m b q d o).1.There) ∧ ∀ n, σ.s.Safe (n + 1) → (σ.prog m b q d o).1.s.Safe n := by
  unfold Ar.prog
  split
  · exact ⟨rfl, fun h => h, fun n h => h.le (Nat.le_succ n)⟩
  · rcases hst : σ.stand m b with _ | c
    · exact ⟨rfl, fun h => h, fun n h => h.le (Nat.le_succ n)⟩
    · have hc := stand_lt hg h hm hst
      dsimp only
      have h1 := (prog_g σ.s c ((σ.tab c).at b) q d o).1
      have hsf : ∀ n, σ.s.Safe (n + 1) → (σ.s.prog c ((σ.tab c).at b) q d o).1.Safe n := fun n h => St.Safe.prog h c _ q d o
      generalize σ.s.prog c ((σ.tab c).at b) q d o = r at *
      have hth : σ.There → Ar.There { σ with s := r.1 } := by
        intro ht hl k hk hd
        have hk' : (k : Int) < r.1.g.c := hk
        rw [h1] at hk'
        exact ht hl k hk' hd
      have hdk := died_kept (σ := { σ with s := r.1 }) (by show r.1.g.Ok; rw [h1]; exact hg) (by show σ.set.Ok r.1.g; rw [h1]; exact h) c (by show c < r.1.n; unfold St.n at hc ⊢; rw [h1]; exact hc)
      have hds := (died_same { σ with s := r.1 } c).1
      split
      · split
        · exact ⟨hdk.g.trans h1, fun ht => hdk.there (hth ht), fun n hn => by show (Ar.died { σ with s := r.1 } c).1.s.Safe n; rw [hds]; exact hsf n hn⟩
        · exact ⟨hdk.g.trans h1, fun ht => hdk.there (hth ht), fun n hn => by show (Ar.died { σ with s := r.1 } c).1.s.Safe n; rw [hds]; exact hsf n hn⟩
      · split
        · exact ⟨h1, hth, hsf⟩
        · exact ⟨h1, hth, hsf⟩
/-- One program of a row: the array, how many are gone, what stopped it. -/
def pstep (seg row : Int) (pg : Int → List Int × List Int) (τ : Ar × Int × Int) (m : Int) : Ar × Int × Int :=
  if τ.2.2 = 0 then
    if (τ.1.prog m.toNat seg.toNat row.toNat (pg m).1 (pg m).2).2 = 0 then ((τ.1.prog m.toNat seg.toNat row.toNat (pg m).1 (pg m).2).1, τ.2.1, 0)
    else if (τ.1.prog m.toNat seg.toNat row.toNat (pg m).1 (pg m).2).2 = 71 then ((τ.1.prog m.toNat seg.toNat row.toNat (pg m).1 (pg m).2).1, τ.2.1 + 1, 0)
    else ((τ.1.prog m.toNat seg.toNat row.toNat (pg m).1 (pg m).2).1, τ.2.1, (τ.1.prog m.toNat seg.toNat row.toNat (pg m).1 (pg m).2).2)
  else τ
/-- A row of programs. -/
def _root_.Go.Proofs.YteofgpaceeibpaaGreat.ArrA.Ar.progs (σ : Ar) (seg row : Int) (pg : Int → List Int × List Int) (ms : List Int) : Ar × Int × Int := ms.foldl (pstep seg row pg) (σ, 0, 0)
/-- What Write answers. -/
def wcode (τ : Ar × Int × Int) : Int := if τ.2.2 ≠ 0 then τ.2.2 else if 1 < τ.2.1 then 74 else 0
theorem progs_snoc (σ : Ar) (seg row : Int) (pg : Int → List Int × List Int) (ms : List Int) (m : Int) : σ.progs seg row pg (ms ++ [m]) = pstep seg row pg (σ.progs seg row pg ms) m := by unfold Ar.progs; rw [List.foldl_append]; rfl
theorem pstep_stuck (seg row : Int) (pg : Int → List Int × List Int) (τ : Ar × Int × Int) (h : τ.2.2 ≠ 0) : ∀ ms : List Int, ms.foldl (pstep seg row pg) τ = τ
  | [] => rfl
  | m :: ms => by
    rw [List.foldl_cons]
    have : pstep seg row pg τ m = τ := by unfold pstep; rw [if_neg h]
    rw [this]
    exact pstep_stuck seg row pg τ h ms
theorem progs_stuck (σ : Ar) (seg row : Int) (pg : Int → List Int × List Int) (ms : List Int) (i : Nat) (h : (σ.progs seg row pg (ms.take i)).2.2 ≠ 0) : σ.progs seg row pg ms = σ.progs seg row pg (ms.take i) := by
  have e : σ.progs seg row pg ms = (ms.drop i).foldl (pstep seg row pg) (σ.progs seg row pg (ms.take i)) := by
    unfold Ar.progs
    rw [← List.foldl_append, List.take_append_drop]
  rw [e]
  exact pstep_stuck seg row pg _ h _
end Go.Proofs.YteofgpaceeibpaaGreat.AWrB
namespace Go.Proofs.YteofgpaceeibpaaGreat.AOrdB
open Go.RowKit Gab Wr Geom Ref Nand NandA ArrA AOrd
open Rdz (infoIn)
set_option linter.unusedVariables false
set_option linter.unusedSimpArgs false

def upFrom (lo : Int) (k : Nat) : List Int := (List.range k).map fun (j : Nat) => lo + (j : Int)
theorem upFrom_succ (lo : Int) (k : Nat) : upFrom lo (k + 1) = upFrom lo k ++ [lo + (k : Int)] := by simp [upFrom, List.range_succ]
def preAt (first lo c : Int) : List Int := if lo ≤ first ∧ first < lo + c then [first] else []
/-- The order, from a member on: that which is ahead of all, if it is there; all others. -/
def orderAt (first lo c : Int) : List Int := preAt first lo c ++ (upFrom lo c.toNat).filter (fun m => decide (m ≠ first))

set_option maxHeartbeats 2000000 in
set_option maxRecDepth 100000 in
theorem OrderAt_calls (σ : Ar) (K : ALay) (lo c : Int) (w : World) (h : ArAt w σ K) (hc : 0 ≤ c ∧ c ≤ 100) (hlo : 0 ≤ lo ∧ lo ≤ 100) :
    Calls Tryz.prog 82 #[dev K.x, .int .i64 lo, .int .i64 c] w fun e w' => ∃ v, e = .returned v ∧ Row 3 .i64 w' w.heap.size v (orderAt σ.ahead lo c) ∧ Fr None_ w w' := by
  have HA := As.mk (fun w' (hf : Fr None_ w w') => Ahead_calls σ K w' (h.none_ hf))
  have HPR : As (preAt σ.ahead lo c = if lo ≤ σ.ahead ∧ σ.ahead < lo + c then [σ.ahead] else []) := ⟨rfl⟩
  have HO : As (orderAt σ.ahead lo c = preAt σ.ahead lo c ++ (upFrom lo c.toNat).filter (fun m => decide (m ≠ σ.ahead))) := ⟨rfl⟩
  generalize preAt σ.ahead lo c = pr at *
  generalize orderAt σ.ahead lo c = res at *
  generalize σ.ahead = first at *
  obtain ⟨hc0, hc1⟩ := hc
  obtain ⟨hlo0, hlo1⟩ := hlo
  have hwl : IntKind.i64.wrap (lo + c) = lo + c := by rw [IntKind.wrap_i64]; omega
  have hta := fun w => run_typeAssert_hasB (P := Tryz.prog) (t := 30) Tryz.underlying206 (by kernel_rfl) (.pointer (some ⟨K.x, 0, none⟩)) 105 w
  unfold dev
  clear h
  have HCASE : As (∃ a b : Bool, decide (lo ≤ first) = a ∧ decide (first < lo + c) = b ∧ pr = if a && b then [first] else []) := ⟨decide (lo ≤ first), decide (first < lo + c), rfl, rfl, by rw [HPR.out]; by_cases h1 : lo ≤ first <;> by_cases h2 : first < lo + c <;> simp [h1, h2]⟩
  obtain ⟨a, b, ha, hb, hpr⟩ := HCASE.out
  have HP2 := As.mk hpr
  clear hpr
  cases a <;> cases b
  all_goals
    go_enter Tryz.func82, Tryz.ntmps82
    go_upto_if 29 with ((with_reducible refine (HA.out _ (Fr.refl _ _)).mono ?_); rintro e w1 ⟨rfl, hf1⟩; have HF1 := As.mk hf1; clear hf1)
    go_cut [7] (fun v7 wc => As (Row 3 .i64 wc w.heap.size v7 pr) ∧ As (Fr None_ w wc))
    case first =>
      first
        | (have HP3 : As (pr = [first]) := ⟨by rw [HP2.out]; rfl⟩
           go_wp2_with (at_builtin; (with_reducible refine append1 w.heap.size rfl _ _ 38 3 .i64 8 rfl Tryz.underlying38 infoIn (by decide) (.slice none 0 0) [] _ rfl rfl (Row.nil _ _ _ _) HF1.out.size (by decide) ?_); intro v1 w2 hrow1 hfr1 hat1; have HR1 := As.mk hrow1; have HF2 := As.mk hfr1; clear hrow1 hfr1 hat1; obtain ⟨A1, n1, c1, e1, _⟩ := HR1.out.rd; subst e1)
           go_meet
           case rel => exact ⟨⟨by rw [HP3.out]; exact HR1.out⟩, ⟨HF1.out.after HF2.out (fun i _ h => by cases h)⟩⟩)
        | (have HP3 : As (pr = []) := ⟨by rw [HP2.out]; rfl⟩
           go_wp2
           go_meet
           case rel => exact ⟨⟨by rw [HP3.out]; exact Row.nil _ _ _ _⟩, HF1⟩)
    case rest =>
      obtain ⟨HR, HF⟩ := hcut
      have HPL : As (pr.length ≤ 1) := ⟨by rw [HP2.out]; simp⟩
      go_wp2
      go_loopw [7, 11] (fun v7 v11 w' => ∃ m : Int, v11 = .int .i64 m ∧ lo ≤ m ∧ m ≤ lo + c ∧ As (Row 3 .i64 w' w.heap.size v7 (pr ++ (upFrom lo (m - lo).toNat).filter (fun m => decide (m ≠ first)))) ∧ As (Fr None_ w w')) (fun _ v11 _ => (lo + c - intOf v11).toNat)
      case atStart => exact ⟨lo, rfl, by omega, by omega, ⟨by simpa [upFrom] using HR.out⟩, HF⟩
      case round =>
        obtain ⟨m, rfl, m0, m1, HX, HG⟩ := hrel
        obtain ⟨A1, n1, c1, e1, _, hd, _⟩ := HX.out.rd
        have HLN : As ((pr ++ (upFrom lo (m - lo).toNat).filter (fun m => decide (m ≠ first))).length ≤ 1 + (m - lo).toNat) := ⟨by
          rw [List.length_append]
          have h1 := List.length_filter_le (fun m => decide (m ≠ first)) (upFrom lo (m - lo).toNat)
          have h2 : (upFrom lo (m - lo).toNat).length = (m - lo).toNat := by simp [upFrom]
          have h3 := HPL.out
          omega⟩
        have HUP : As ((upFrom lo (m + 1 - lo).toNat).filter (fun m => decide (m ≠ first)) = (upFrom lo (m - lo).toNat).filter (fun m => decide (m ≠ first)) ++ if m = first then [] else [m]) := ⟨by
          rw [show (m + 1 - lo).toNat = (m - lo).toNat + 1 by omega, upFrom_succ, List.filter_append, show lo + (((m - lo).toNat : Nat) : Int) = m by omega]
          by_cases e : m = first <;> simp [e]⟩
        clear hd
        subst e1
        by_cases hlt : m < lo + c
        · by_cases e : m = first
          · have hbe : (m != first) = false := by simp [e]
            have HU2 : As ((upFrom lo (m + 1 - lo).toNat).filter (fun m => decide (m ≠ first)) = (upFrom lo (m - lo).toNat).filter (fun m => decide (m ≠ first))) := ⟨by rw [HUP.out, if_pos e, List.append_nil]⟩
            clear e
            go_wp2
            exact ⟨⟨m + 1, rfl, by omega, by omega, ⟨by rw [HU2.out]; exact HX.out⟩, HG⟩, by simp [intOf]; omega⟩
          · have hbe : (m != first) = true := by simp [e]
            have HU2 : As ((upFrom lo (m + 1 - lo).toNat).filter (fun m => decide (m ≠ first)) = (upFrom lo (m - lo).toNat).filter (fun m => decide (m ≠ first)) ++ [m]) := ⟨by rw [HUP.out, if_neg e]⟩
            clear e
            go_wp2_with (at_builtin; (with_reducible refine append1 w.heap.size rfl _ _ 38 3 .i64 8 rfl Tryz.underlying38 infoIn (by decide) (.slice A1 n1 c1) (pr ++ (upFrom lo (m - lo).toNat).filter (fun m => decide (m ≠ first))) _ rfl rfl HX.out HG.out.size ?k0 ?_); (case k0 => have := HLN.out; omega); intro v1 w2 hrow1 hfr1 hat1; have HR1 := As.mk hrow1; have HF2 := As.mk (row_grow HX.out HG.out hfr1); clear hrow1 hfr1 hat1)
            exact ⟨⟨m + 1, rfl, by omega, by omega, ⟨by rw [HU2.out, ← List.append_assoc]; exact HR1.out⟩, HF2⟩, by simp [intOf]; omega⟩
        · have HE : As (Row 3 .i64 wr w.heap.size (.slice A1 n1 c1) res) := ⟨by rw [HO.out, show c.toNat = (m - lo).toNat by omega]; exact HX.out⟩
          go_wp2
          go_ret
          exact ⟨_, rfl, HE.out, HG.out⟩
end Go.Proofs.YteofgpaceeibpaaGreat.AOrdB

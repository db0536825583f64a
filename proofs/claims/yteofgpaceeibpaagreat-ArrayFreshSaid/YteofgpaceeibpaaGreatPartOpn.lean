/- member: Newest, of which set the chips' list is. | array: Open: what is opened, in memory. | array: Open. | record.Blank: are all bytes 255? What is sealed isn't blank. | stripe.Row over an array, where nothing stands. | Plain law: an array of fresh chips is opened. | gabionlaw13.ArrayFresh. -/
import Derived.Test.YteofgpaceeibpaaGreatPartMem
import Derived.Test.YteofgpaceeibpaaGreatPartFmt
import Derived.Deep.RegionHeld3
import Derived.Deep.RegionLaw
import Derived.Test.YteofgpaceeibpaaGreatOpenLaw
import Derived.Test.YteofgpaceeibpaaGreatOpen
import Derived.Handy
import Derived.Test.YteofgpaceeibpaaGreatPartDev
import Derived.Test.YteofgpaceeibpaaGreatPartLaw
namespace Go.Proofs.YteofgpaceeibpaaGreat.NewQ
open Go.RowKit Go.Proofs.YteofgpaceeibpaaGreat.Gab Go.Proofs.YteofgpaceeibpaaGreat.Wr Go.Proofs.YteofgpaceeibpaaGreat.Geom Go.Proofs.YteofgpaceeibpaaGreat.Ref Go.Proofs.YteofgpaceeibpaaGreat.Heap Go.Proofs.YteofgpaceeibpaaGreat.MemA Go.Proofs.YteofgpaceeibpaaGreat.MemB Go.Proofs.YteofgpaceeibpaaGreat.MemC
open Go.Proofs.YteofgpaceeibpaaGreat.MemD (pickN newest newest_some fold_take fold_none)
open Go.Proofs.YteofgpaceeibpaaGreat.RemapF (set5)
set_option linter.unusedVariables false
set_option linter.unusedSimpArgs false

/-- A list of one's own, of which something more is known. -/
def RowQ (Q : Value → Prop) (w : World) (base : Nat) (v : Value) (xs : List Int) : Prop := Row 3 .i64 w base v xs ∧ Q v
theorem RowQ.rd {Q : Value → Prop} {w : World} {base : Nat} {v : Value} {xs : List Int} (h : RowQ Q w base v xs) : ∃ A n c, v = .slice A n c ∧ As (n ≤ c) ∧ As (Rd .i64 w A n xs) ∧ As (∀ ad, A = some ad → v.ownBlock = some ad.block) := h.1.rd
theorem RowQ.none_ {Q : Value → Prop} {w w' : World} {base : Nat} {v : Value} {xs : List Int} (h : RowQ Q w base v xs) (hf : Fr None_ w w') : RowQ Q w' base v xs := ⟨h.1.none_ hf, h.2⟩
theorem RowQ.fr {Q : Value → Prop} {S : Nat → Prop} {w w' : World} {base : Nat} {v : Value} {xs : List Int} (h : RowQ Q w base v xs) (hf : Fr S w w') (hS : ∀ b, v.ownBlock = some b → ¬ S b) : RowQ Q w' base v xs := ⟨h.1.fr hf hS, h.2⟩
theorem RowQ.ne {Q : Value → Prop} {w : World} {base : Nat} {v : Value} {xs : List Int} (h : RowQ Q w base v xs) {p : Nat} {cs : Array Value} {T : TypeId} {fr : Nat × Nat} (hp : w.heap[p]? = some (.cells cs T fr)) (hT : T ≠ 3) : ¬ v.ownBlock = some p := Row.ne h.1 hp hT
def MSRQ (Q : Value → Prop) (w : World) (base : Nat) (v : Value) (m : MS) : Prop := ∃ v1, v = .agg #[.int .u32 m.seq, v1, .int .i64 m.spare, .int .i64 m.dead, .int .i64 m.done] ∧ RowQ Q w base v1 m.chips
/-- Cells that are sets. -/
structure Sts (Q : Value → Prop) (w : World) (base gb n : Nat) (ms : List MS) : Prop where
  len : ms.length = n
  at_ : ∀ j m, ms[j]? = some m → ∃ v1, w.cell? ⟨gb, j * 5, none⟩ = some (.int .u32 m.seq) ∧ w.cell? ⟨gb, j * 5 + 1, none⟩ = some v1 ∧ w.cell? ⟨gb, j * 5 + 2, none⟩ = some (.int .i64 m.spare) ∧ w.cell? ⟨gb, j * 5 + 3, none⟩ = some (.int .i64 m.dead) ∧ w.cell? ⟨gb, j * 5 + 4, none⟩ = some (.int .i64 m.done) ∧ RowQ Q w base v1 m.chips
theorem Sts.none_ {Q : Value → Prop} {w w' : World} {base gb n : Nat} {ms : List MS} (h : Sts Q w base gb n ms) (hf : Fr None_ w w') : Sts Q w' base gb n ms :=
  ⟨h.len, fun j m e => by
    obtain ⟨v1, h0, h1, h2, h3, h4, h5⟩ := h.at_ j m e
    exact ⟨v1, hf.cell h0 (fun h => h), hf.cell h1 (fun h => h), hf.cell h2 (fun h => h), hf.cell h3 (fun h => h), hf.cell h4 (fun h => h), h5.none_ hf⟩⟩
/-- What the block of the newest so far holds. -/
def OutIs (Q : Value → Prop) (w : World) (base ob : Nat) : Option MS → Prop
  | none => w.heap[ob]? = some (.cells zs ST (0, 0))
  | some u => ∃ v1, w.heap[ob]? = some (.cells #[.int .u32 u.seq, v1, .int .i64 u.spare, .int .i64 u.dead, .int .i64 u.done] ST (0, 0)) ∧ RowQ Q w base v1 u.chips
def NewPost (Q : Value → Prop) (ms : List MS) (base : Nat) (w : World) (e : Ending) (w' : World) : Prop := ∃ v, e = .returned (.tuple #[v, .bool (newest ms).isSome]) ∧ Fr None_ w w' ∧ match newest ms with
  | none => v = .agg zs
  | some u => MSRQ Q w' base v u
set_option maxHeartbeats 4000000 in
set_option maxRecDepth 100000 in
theorem Newest_calls (Q : Value → Prop) (ms : List MS) (base gb n c : Nat) (A : Option Addr) (w : World) (h : Sts Q w base gb n ms) (hA : 0 < n → A = some ⟨gb, 0, none⟩) (hn : n ≤ 1000) :
    Calls Tryz.prog 38 #[.slice A n c] w (NewPost Q ms base w) := by
  have HST := As.mk h
  have HLN := As.mk h.len
  have HA := As.mk hA
  have hz1 : (w.alloc (.cells zs ST)).heap.size = w.heap.size + 1 := size_new _ rfl
  have HZ := As.mk (at_old (.cells zs ST) (heap_alloc_new w (.cells zs ST)))
  have HO := As.mk (show OutIs Q ((w.alloc (.cells zs ST)).alloc (.cells zs ST)) base (w.heap.size + 1) ((ms.take 0).foldl pickN none) from at_new (.cells zs ST) hz1)
  have HF := As.mk (((Fr.refl None_ w).alloc (.cells zs ST)).alloc (.cells zs ST))
  clear h hA hz1
  go_enter Tryz.func38, Tryz.ntmps38
  go_wp2_with fail
  generalize (w.alloc (.cells zs ST)).alloc (.cells zs ST) = w1 at *
  go_loopw [5, 6, 9] (fun v5 v6 v9 w' => ∃ (i : Nat), v9 = .int .i64 (i : Int) ∧ i ≤ n ∧ As (Fr None_ w w') ∧ As (w'.heap[w.heap.size]? = some (.cells zs ST (0, 0))) ∧ As (OutIs Q w' base (w.heap.size + 1) ((ms.take i).foldl pickN none))) (fun _ _ v9 _ => n - (intOf v9).toNat)
  case atStart => exact ⟨0, rfl, Nat.zero_le _, HF, HZ, HO⟩
  case round =>
    obtain ⟨i, rfl, hi, HFi, HZi, HOi⟩ := hrel
    by_cases hlt : i < n
    · have hltI : (i : Int) < (n : Int) := by omega
      obtain ⟨m, hm⟩ : ∃ m, ms[i]? = some m := ⟨_, List.getElem?_eq_getElem (by have := HLN.out; omega)⟩
      obtain ⟨v1, a0, a1, a2, a3, a4, a5⟩ := (HST.out.none_ HFi.out).at_ i m hm
      obtain rfl := HA.out (by omega)
      have HM := As.mk (fold_take ms hm)
      have hfn := fold_none ms i (by have := HLN.out; omega)
      have HFN := As.mk hfn
      have HR5 := As.mk a5
      obtain ⟨A1, n1, c1, e1, _, _, _⟩ := HR5.out.rd
      subst e1
      have hfa : Fr None_ wr (wr.alloc (.cells #[.int .u32 m.seq, .slice A1 n1 c1, .int .i64 m.spare, .int .i64 m.dead, .int .i64 m.done] ST)) := (Fr.refl None_ wr).alloc _
      have HS2 := As.mk (heap_alloc_new wr (.cells #[.int .u32 m.seq, .slice A1 n1 c1, .int .i64 m.spare, .int .i64 m.dead, .int .i64 m.done] ST))
      have HF2 := As.mk (HFi.out.after hfa (fun _ _ h => h))
      have HZ2 := As.mk (hfa.heap HZi.out (fun h => h))
      have HR2 := As.mk (HR5.out.none_ hfa)
      have HFA := As.mk hfa
      clear hfn hm a5 hfa
      go_upto_region 5 with fail
      generalize wr.alloc (.cells #[.int .u32 m.seq, .slice A1 n1 c1, .int .i64 m.spare, .int .i64 m.dead, .int .i64 m.done] ST) = w2 at *
      generalize wr.heap.size = sb at *
      have s0 := cell_is (v := .int .u32 m.seq) (i := 0) HS2.out rfl
      have s1 := cell_is (v := .slice A1 n1 c1) (i := 1) HS2.out rfl
      have s2 := cell_is (v := .int .i64 m.spare) (i := 2) HS2.out rfl
      have s3 := cell_is (v := .int .i64 m.dead) (i := 3) HS2.out rfl
      have s4 := cell_is (v := .int .i64 m.done) (i := 4) HS2.out rfl
      clear a0 a1 a2 a3 a4
      rcases hq : (ms.take i).foldl pickN none with _ | u
      · have hi0 : i = 0 := HFN.out.1 hq
        subst hi0
        rw [hq] at HM HOi
        have H14 := As.mk (show (ms.take (0 + 1)).foldl pickN none = some m from HM.out)
        have hOo : w2.heap[w.heap.size + 1]? = some (.cells zs ST (0, 0)) := HFA.out.heap HOi.out (fun h => h)
        clear hq
        have r0 := cell_is (v := .int .u32 0) (i := 0) hOo rfl
        have r1 := cell_is (v := .slice none 0 0) (i := 1) hOo rfl
        have r2 := cell_is (v := .int .i64 0) (i := 2) hOo rfl
        have r3 := cell_is (v := .int .i64 0) (i := 3) hOo rfl
        have r4 := cell_is (v := .int .i64 0) (i := 4) hOo rfl
        have f0 := free_of (i := 0) hOo
        have f1 := free_of (i := 1) hOo
        have f2 := free_of (i := 2) hOo
        have f3 := free_of (i := 3) hOo
        have f4 := free_of (i := 4) hOo
        go_wp2_with fail
        obtain ⟨t1, t2, t3⟩ := set5 HF2.out (Nat.le_succ _) hOo (.int .u32 m.seq) (.slice A1 n1 c1) (.int .i64 m.spare) (.int .i64 m.dead) (.int .i64 m.done)
        exact ⟨⟨0 + 1, rfl, by omega, ⟨t1⟩, ⟨t3.heap HZ2.out (by omega)⟩, ⟨by rw [H14.out]; exact ⟨_, t2, HR2.out.fr t3 (fun b hb e => by subst e; exact RowQ.ne HR2.out hOo (by decide) hb)⟩⟩⟩, by simp [intOf]; omega⟩
      · have hi0 : ¬ i = 0 := fun e => by have := HFN.out.2 e; rw [hq] at this; cases this
        have di : ((i : Int) == 0) = false := by rw [beq_eq_false_iff_ne]; omega
        rw [hq] at HM HOi
        obtain ⟨vu, hO1, hO2⟩ := HOi.out
        have hOo := HFA.out.heap hO1 (fun h => h)
        have u0 := cell_is (v := .int .u32 u.seq) (i := 0) hOo rfl
        clear hq hO1 hO2 hi0
        by_cases hus : u.seq < m.seq
        · have d9 : decide (u.seq < m.seq) = true := decide_eq_true hus
          have H14 := As.mk (show (ms.take (i + 1)).foldl pickN none = some m from by rw [HM.out]; show (if u.seq < m.seq then some m else some u) = _; rw [if_pos hus])
          clear hus
          have r0 := cell_is (v := .int .u32 u.seq) (i := 0) hOo rfl
          have r1 := cell_is (v := vu) (i := 1) hOo rfl
          have r2 := cell_is (v := .int .i64 u.spare) (i := 2) hOo rfl
          have r3 := cell_is (v := .int .i64 u.dead) (i := 3) hOo rfl
          have r4 := cell_is (v := .int .i64 u.done) (i := 4) hOo rfl
          have f0 := free_of (i := 0) hOo
          have f1 := free_of (i := 1) hOo
          have f2 := free_of (i := 2) hOo
          have f3 := free_of (i := 3) hOo
          have f4 := free_of (i := 4) hOo
          go_wp2_with fail
          obtain ⟨t1, t2, t3⟩ := set5 HF2.out (Nat.le_succ _) hOo (.int .u32 m.seq) (.slice A1 n1 c1) (.int .i64 m.spare) (.int .i64 m.dead) (.int .i64 m.done)
          exact ⟨⟨i + 1, rfl, by omega, ⟨t1⟩, ⟨t3.heap HZ2.out (by omega)⟩, ⟨by rw [H14.out]; exact ⟨_, t2, HR2.out.fr t3 (fun b hb e => by subst e; exact RowQ.ne HR2.out hOo (by decide) hb)⟩⟩⟩, by simp [intOf]; omega⟩
        · have d9 : decide (u.seq < m.seq) = false := decide_eq_false hus
          have H14 := As.mk (show (ms.take (i + 1)).foldl pickN none = some u from by rw [HM.out]; show (if u.seq < m.seq then some m else some u) = _; rw [if_neg hus])
          have HO2 := As.mk (show OutIs Q w2 base (w.heap.size + 1) (some u) from by
            obtain ⟨v, p1, p2⟩ := HOi.out
            exact ⟨v, HFA.out.heap p1 (fun h => h), p2.none_ HFA.out⟩)
          clear hus
          go_wp2_with fail
          exact ⟨⟨i + 1, rfl, by omega, HF2, HZ2, ⟨by rw [H14.out]; exact HO2.out⟩⟩, by simp [intOf]; omega⟩
    · have hltI : ¬ (i : Int) < (n : Int) := by omega
      obtain rfl : i = n := by omega
      have HTK := As.mk (show (ms.take i).foldl pickN none = newest ms from by unfold newest; rw [List.take_of_length_le (by have := HLN.out; omega)])
      rw [HTK.out] at HOi
      have r0 := cell_is (v := .int .u32 0) (i := 0) HZi.out rfl
      have r1 := cell_is (v := .slice none 0 0) (i := 1) HZi.out rfl
      have r2 := cell_is (v := .int .i64 0) (i := 2) HZi.out rfl
      have r3 := cell_is (v := .int .i64 0) (i := 3) HZi.out rfl
      have r4 := cell_is (v := .int .i64 0) (i := 4) HZi.out rfl
      have f0 := free_of (i := 0) HZi.out
      have f1 := free_of (i := 1) HZi.out
      have f2 := free_of (i := 2) HZi.out
      have f3 := free_of (i := 3) HZi.out
      have f4 := free_of (i := 4) HZi.out
      rcases hq : newest ms with _ | u
      · have hi0 : i = 0 := (fold_none ms i (by have := HLN.out; omega)).1 (by rw [HTK.out, hq])
        subst hi0
        rw [hq] at HOi
        have hOo : wr.heap[w.heap.size + 1]? = some (.cells zs ST (0, 0)) := HOi.out
        have s0 := cell_is (v := .int .u32 0) (i := 0) hOo rfl
        have s1 := cell_is (v := .slice none 0 0) (i := 1) hOo rfl
        have s2 := cell_is (v := .int .i64 0) (i := 2) hOo rfl
        have s3 := cell_is (v := .int .i64 0) (i := 3) hOo rfl
        have s4 := cell_is (v := .int .i64 0) (i := 4) hOo rfl
        have HQ := As.mk hq
        clear hq
        go_wp2_with fail
        obtain ⟨t1, t2, t3⟩ := set5 HFi.out (Nat.le_refl _) HZi.out (.int .u32 0) (.slice none 0 0) (.int .i64 0) (.int .i64 0) (.int .i64 0)
        clear r0 r1 r2 r3 r4 f0 f1 f2 f3 f4 s0 s1 s2 s3 s4
        generalize ((((wr.setCell ⟨w.heap.size, 0, none⟩ (.int .u32 0)).setCell ⟨w.heap.size, 1, none⟩ (.slice none 0 0)).setCell ⟨w.heap.size, 2, none⟩ (.int .i64 0)).setCell ⟨w.heap.size, 3, none⟩ (.int .i64 0)).setCell ⟨w.heap.size, 4, none⟩ (.int .i64 0) = wf at *
        have r0 := cell_is (i := 0) t2 rfl
        have r1 := cell_is (i := 1) t2 rfl
        have r2 := cell_is (i := 2) t2 rfl
        have r3 := cell_is (i := 3) t2 rfl
        have r4 := cell_is (i := 4) t2 rfl
        exact bodyPost_ret (v := .tuple #[.agg zs, .bool false]) (by simp [results, Tryz.results38, go_sem, r0, r1, r2, r3, r4]) rfl ⟨_, by rw [HQ.out]; rfl, t1, by rw [HQ.out]⟩
      · have hi0 : 0 < i := by
          rcases Nat.eq_zero_or_pos i with e | e
          · have := (fold_none ms i (by have := HLN.out; omega)).2 e
            rw [HTK.out, hq] at this; cases this
          · exact e
        have di : decide ((0 : Int) < (i : Int)) = true := decide_eq_true (by omega)
        rw [hq] at HOi
        obtain ⟨vu, hO1, hO2⟩ := HOi.out
        have HO2 := As.mk hO2
        obtain ⟨A1, n1, c1, e1, _, _, _⟩ := hO2.rd
        subst e1
        have s0 := cell_is (v := .int .u32 u.seq) (i := 0) hO1 rfl
        have s1 := cell_is (v := .slice A1 n1 c1) (i := 1) hO1 rfl
        have s2 := cell_is (v := .int .i64 u.spare) (i := 2) hO1 rfl
        have s3 := cell_is (v := .int .i64 u.dead) (i := 3) hO1 rfl
        have s4 := cell_is (v := .int .i64 u.done) (i := 4) hO1 rfl
        have HQ := As.mk hq
        clear hq hO1 hO2
        go_wp2_with fail
        obtain ⟨t1, t2, t3⟩ := set5 HFi.out (Nat.le_refl _) HZi.out (.int .u32 u.seq) (.slice A1 n1 c1) (.int .i64 u.spare) (.int .i64 u.dead) (.int .i64 u.done)
        have hrw := HO2.out.fr t3 (fun b hb e => by subst e; exact RowQ.ne HO2.out HZi.out (by decide) hb)
        clear r0 r1 r2 r3 r4 f0 f1 f2 f3 f4 s0 s1 s2 s3 s4
        generalize ((((wr.setCell ⟨w.heap.size, 0, none⟩ (.int .u32 u.seq)).setCell ⟨w.heap.size, 1, none⟩ (.slice A1 n1 c1)).setCell ⟨w.heap.size, 2, none⟩ (.int .i64 u.spare)).setCell ⟨w.heap.size, 3, none⟩ (.int .i64 u.dead)).setCell ⟨w.heap.size, 4, none⟩ (.int .i64 u.done) = wf at *
        have r0 := cell_is (i := 0) t2 rfl
        have r1 := cell_is (i := 1) t2 rfl
        have r2 := cell_is (i := 2) t2 rfl
        have r3 := cell_is (i := 3) t2 rfl
        have r4 := cell_is (i := 4) t2 rfl
        exact bodyPost_ret (v := .tuple #[.agg #[.int .u32 u.seq, .slice A1 n1 c1, .int .i64 u.spare, .int .i64 u.dead, .int .i64 u.done], .bool true]) (by simp [results, Tryz.results38, go_sem, r0, r1, r2, r3, r4]) rfl ⟨_, by rw [HQ.out]; rfl, t1, by rw [HQ.out]; exact ⟨_, rfl, hrw⟩⟩
end Go.Proofs.YteofgpaceeibpaaGreat.NewQ
namespace Go.Proofs.YteofgpaceeibpaaGreat.OpnA
open Go.RowKit Go.Proofs.YteofgpaceeibpaaGreat.Gab Go.Proofs.YteofgpaceeibpaaGreat.Wr Go.Proofs.YteofgpaceeibpaaGreat.Geom Go.Proofs.YteofgpaceeibpaaGreat.Ref Go.Proofs.YteofgpaceeibpaaGreat.Par Go.Proofs.YteofgpaceeibpaaGreat.Nand Go.Proofs.YteofgpaceeibpaaGreat.NandA Go.Proofs.YteofgpaceeibpaaGreat.NandB Go.Proofs.YteofgpaceeibpaaGreat.NandC Go.Proofs.YteofgpaceeibpaaGreat.NandD Go.Proofs.YteofgpaceeibpaaGreat.NandE Go.Proofs.YteofgpaceeibpaaGreat.NandH Go.Proofs.YteofgpaceeibpaaGreat.RemapA Go.Proofs.YteofgpaceeibpaaGreat.VolA Go.Proofs.YteofgpaceeibpaaGreat.VolB Go.Proofs.YteofgpaceeibpaaGreat.VolF Go.Proofs.YteofgpaceeibpaaGreat.VolG Go.Proofs.YteofgpaceeibpaaGreat.MemA Go.Proofs.YteofgpaceeibpaaGreat.MemC Go.Proofs.YteofgpaceeibpaaGreat.NewQ Go.Proofs.YteofgpaceeibpaaGreat.ArrA Go.Proofs.YteofgpaceeibpaaGreat.ArrI
open Go.Proofs.YteofgpaceeibpaaGreat.Heap (cell_is heap_set fr_set1)
set_option linter.unusedVariables false
set_option linter.unusedSimpArgs false

/-- Chips that are being opened: the chips, the volumes, the sets. -/
structure OSt where
  s : St
  vol : Nat → Option Tab
  sets : List MS
/-- A volume's block is read for a set: the state, the error, whether it goes on. -/
def OSt.rd (τ : OSt) (c : Nat) (x : Option MS) : OSt × Int × Bool :=
  if (τ.s.read c).2 = 71 then ({ τ with s := (τ.s.read c).1, vol := fun k => if k = c then none else τ.vol k }, 0, false)
  else if (τ.s.read c).2 = 0 then ({ τ with s := (τ.s.read c).1, sets := τ.sets ++ x.toList }, 0, true)
  else ({ τ with s := (τ.s.read c).1 }, (τ.s.read c).2, false)
def OSt.rdN (τ : OSt) (c : Nat) (x : Nat → Option MS) : Nat → OSt × Int × Bool
  | 0 => (τ, 0, true)
  | n + 1 => if (τ.rdN c x n).2.2 = true then (τ.rdN c x n).1.rd c (x n) else τ.rdN c x n
def OSt.put (τ : OSt) (c : Nat) (t : Tab) : OSt := { τ with vol := fun k => if k = c then some t else τ.vol k }
/-- A chip is opened. -/
def OSt.one (τ : OSt) (c : Nat) (f : Nat → Option Tab) (x : Nat → Option MS) : OSt × Int :=
  if (τ.s.vopen c f).2.1 = 0 then (match (τ.s.vopen c f).2.2 with
    | none => ({ τ with s := (τ.s.vopen c f).1 }, 0)
    | some t => ((OSt.rdN (OSt.put { τ with s := (τ.s.vopen c f).1 } c t) c (fun b => x (t.at b)) 2).1, (OSt.rdN (OSt.put { τ with s := (τ.s.vopen c f).1 } c t) c (fun b => x (t.at b)) 2).2.1))
  else if (τ.s.vopen c f).2.1 = 71 then ({ τ with s := (τ.s.vopen c f).1 }, 0)
  else ({ τ with s := (τ.s.vopen c f).1 }, (τ.s.vopen c f).2.1)
def OSt.all (τ : OSt) (f : Nat → Nat → Option Tab) (x : Nat → Nat → Option MS) : Nat → OSt × Int
  | 0 => (τ, 0)
  | n + 1 => if (τ.all f x n).2 = 0 then (τ.all f x n).1.one n (f n) (x n) else τ.all f x n
theorem all_stuck (τ : OSt) (f : Nat → Nat → Option Tab) (x : Nat → Nat → Option MS) : ∀ n m, n ≤ m → (τ.all f x n).2 ≠ 0 → τ.all f x m = τ.all f x n
  | n, 0, h, _ => by
    obtain rfl : n = 0 := by omega
    rfl
  | n, m + 1, h, hk => by
    by_cases e : n = m + 1
    · rw [e]
    · have h2 := all_stuck τ f x n m (by omega) hk
      show (if (τ.all f x m).2 = 0 then _ else τ.all f x m) = _
      rw [h2, if_neg hk]
def vcell (τ : OSt) (V : Nat → VLay) (c : Nat) : Value := match τ.vol c with
  | none => .pointer none
  | some _ => .pointer (some ⟨(V c).vb, 0, none⟩)
def ocells (p vb n : Nat) (g : Geo) : Array Value := #[.pointer (some ⟨p, 0, none⟩), .int .i64 g.c, .int .i64 g.b, .int .i64 g.p, .int .i64 g.s, .slice (some ⟨vb, 0, none⟩) n n, .int .u32 0, .slice none 0 0, .int .i64 0, .int .i64 0, .int .i64 0, .bool false]
/-- A set among cells. -/
def SetC (w : World) (base : Nat) (vs : List Value) (j : Nat) (m : MS) (Q : Value → Prop) : Prop := vs.getD (j * 5) undef = .int .u32 m.seq ∧ vs.getD (j * 5 + 2) undef = .int .i64 m.spare ∧ vs.getD (j * 5 + 3) undef = .int .i64 m.dead ∧ vs.getD (j * 5 + 4) undef = .int .i64 m.done ∧ RowQ Q w base (vs.getD (j * 5 + 1) undef) m.chips
/-- What is being opened, in memory. -/
structure OpAt (w0 w : World) (p : Nat) (L : Lay) (g : Geo) (n nb xb vb : Nat) (τ : OSt) (V : Nat → VLay) (sv : Value) (vs : List Value) : Prop where
  nand : Nand w p τ.s L
  gg : τ.s.g = g
  nn : τ.s.n = n ∧ τ.s.nb = nb
  main : w.heap[xb]? = some (.cells (ocells p vb n g) AT (0, 0))
  vols : ∃ cs, w.heap[vb]? = some (.cells cs PV (0, 0)) ∧ ∀ c, c < n → cs[c]? = some (vcell τ V c)
  vol : ∀ c t, c < n → τ.vol c = some t → VolAt w p c g t (V c) ∧ t.Ok g ∧ 0 < t.spare.length ∧ VNew w0.heap.size (V c)
  row : RowV MemC.ST 5 w w0.heap.size sv τ.sets.length vs
  sts : ∀ j m, τ.sets[j]? = some m → SetC w w0.heap.size vs j m (fun v => ∀ c t, c < n → τ.vol c = some t → ∀ b, v.ownBlock = some b → VOff (V c) b)
  ok : ∀ m ∈ τ.sets, m.Ok g
  fr : Fr (NF p L n nb) w0 w
  lo : w0.heap.size ≤ xb ∧ w0.heap.size ≤ vb
theorem SetC.fr {S : Nat → Prop} {w w' : World} {base : Nat} {vs : List Value} {j : Nat} {m : MS} {Q : Value → Prop} (h : SetC w base vs j m Q) (hf : Fr S w w') (hS : ∀ b cs, w.heap[b]? = some (.cells cs 3 (0, 0)) → ¬ S b) : SetC w' base vs j m Q :=
  ⟨h.1, h.2.1, h.2.2.1, h.2.2.2.1, h.2.2.2.2.fr hf (fun b hb => by obtain ⟨_, _, cs, hc⟩ := h.2.2.2.2.1.blk b hb; exact hS b cs hc)⟩
/-- A frame by types. -/
theorem OpAt.frame {S : Nat → Prop} {w0 w w' : World} {p : Nat} {L : Lay} {g : Geo} {n nb xb vb : Nat} {τ : OSt} {V : Nat → VLay} {sv : Value} {vs : List Value} (h : OpAt w0 w p L g n nb xb vb τ V sv vs) {s' : St} (hN : Nand w' p s' L) (hg : s'.g = τ.s.g) (hf : Fr S w w') (h0 : ∀ b, b < w0.heap.size → S b → NF p L n nb b)
    (hS : ∀ b cs T f, w.heap[b]? = some (.cells cs T f) → (T = AT ∨ T = PV ∨ T = MemC.ST ∨ T = 3 ∨ T = 137) → ¬ S b) : OpAt w0 w' p L g n nb xb vb { τ with s := s' } V sv vs := by
  obtain ⟨cs, e, hc⟩ := h.vols
  refine ⟨hN, hg.trans h.gg, ⟨by unfold St.n; rw [hg]; exact h.nn.1, by unfold St.nb; rw [hg]; exact h.nn.2⟩, hf.heap h.main (hS _ _ _ _ h.main (.inl rfl)), ⟨cs, hf.heap e (hS _ _ _ _ e (.inr (.inl rfl))), hc⟩, fun c t hcn et => ?_, h.row.fr hf (fun b hb => ?_), fun j m ej => ?_, h.ok, ?_, h.lo⟩
  · obtain ⟨a1, a2, a3, a4⟩ := h.vol c t hcn et
    exact ⟨a1.ty hf (fun b cs T f hb hT => hS b cs T f hb (by rcases hT with rfl | rfl; exact .inr (.inr (.inr (.inr rfl))); exact .inr (.inr (.inr (.inl rfl))))), a2, a3, a4⟩
  · obtain ⟨_, _, cs, hc⟩ := RowV.blk h.row b hb
    exact hS b cs _ _ hc (.inr (.inr (.inl rfl)))
  · exact (h.sts j m ej).fr hf (fun b cs hb => hS b cs _ _ hb (.inr (.inr (.inr (.inl rfl)))))
  · exact h.fr.after hf (fun b hb hs => h0 b hb hs)
theorem OpAt.nf {w0 w w' : World} {p : Nat} {L : Lay} {g : Geo} {n nb xb vb : Nat} {τ : OSt} {V : Nat → VLay} {sv : Value} {vs : List Value} (h : OpAt w0 w p L g n nb xb vb τ V sv vs) {s' : St} (hN : Nand w' p s' L) (hg : s'.g = τ.s.g) (hf : Fr (NF p L τ.s.n τ.s.nb) w w') : OpAt w0 w' p L g n nb xb vb { τ with s := s' } V sv vs := by
  rw [h.nn.1, h.nn.2] at hf
  refine h.frame hN hg hf (fun b _ hs => hs) (fun b cs T f hb hT hs => ?_)
  rw [← h.nn.1, ← h.nn.2] at hs
  exact h.nand.ne hb (by rcases hT with rfl | rfl | rfl | rfl | rfl <;> exact ⟨by decide, by decide, by decide, by decide, by decide⟩) hs
theorem OpAt.none_ {w0 w w' : World} {p : Nat} {L : Lay} {g : Geo} {n nb xb vb : Nat} {τ : OSt} {V : Nat → VLay} {sv : Value} {vs : List Value} (h : OpAt w0 w p L g n nb xb vb τ V sv vs) (hf : Fr None_ w w') : OpAt w0 w' p L g n nb xb vb τ V sv vs :=
  h.frame (h.nand.none_ hf) rfl hf (fun _ _ h => h.elim) (fun _ _ _ _ _ _ h => h)
/-- Where the sets' lists lie. -/
theorem OpAt.below {w0 w : World} {p : Nat} {L : Lay} {g : Geo} {n nb xb vb : Nat} {τ : OSt} {V : Nat → VLay} {sv : Value} {vs : List Value} (h : OpAt w0 w p L g n nb xb vb τ V sv vs) : ∀ j m, τ.sets[j]? = some m → ∀ b, (vs.getD (j * 5 + 1) undef).ownBlock = some b → b < w.heap.size := fun j m e b hb => ((h.sts j m e).2.2.2.2.1.blk b hb).2.1
/-- A volume is put in. -/
theorem OpAt.put {w0 w : World} {p : Nat} {L : Lay} {g : Geo} {n nb xb vb : Nat} {τ : OSt} {V : Nat → VLay} {sv : Value} {vs : List Value} (h : OpAt w0 w p L g n nb xb vb τ V sv vs) {c : Nat} (hc : c < n) {t : Tab} {v : VLay} (hv : VolAt w p c g t v) (ht : t.Ok g) (hsp : 0 < t.spare.length) {N : Nat} (hn : VNew N v) (hN0 : w0.heap.size ≤ N) (hN : ∀ j m, τ.sets[j]? = some m → ∀ b, (vs.getD (j * 5 + 1) undef).ownBlock = some b → b < N) :
    OpAt w0 (w.setCell ⟨vb, c, none⟩ (.pointer (some ⟨v.vb, 0, none⟩))) p L g n nb xb vb (τ.put c t) (fun k => if k = c then v else V k) sv vs := by
  obtain ⟨cs, e, hcs⟩ := h.vols
  have hf := fr_set1 (w' := w) (b := vb) (i := c) (.pointer (some ⟨v.vb, 0, none⟩))
  have hne : ∀ {b : Nat} {cs : Array Value} {T : TypeId} {f : Nat × Nat}, w.heap[b]? = some (.cells cs T f) → T ≠ PV → ¬ b = vb := fun hb hT => blk_ne hb e hT
  have hvs : ∀ k, (τ.put c t).vol k = if k = c then some t else τ.vol k := fun _ => rfl
  refine ⟨h.nand.one e hf ⟨⟨by decide, by decide, by decide, by decide, by decide⟩, by decide, by decide⟩, h.gg, h.nn, hf.heap h.main (hne h.main (by decide)), ⟨_, heap_set e _ _, fun k hk => ?_⟩, fun k u hk ek => ?_, h.row.fr hf (fun b hb => ?_), fun j m ej => ?_, h.ok, h.fr.after hf (fun b hb hs => absurd hb (by have := h.lo.2; omega)), h.lo⟩
  · by_cases ek : k = c
    · subst ek
      rw [Array.getElem?_setIfInBounds_self_of_lt (by have := hcs k hk; exact (Array.getElem?_eq_some_iff.1 this).1)]
      unfold vcell
      rw [hvs, if_pos rfl]
      dsimp only
      rw [if_pos rfl]
    · rw [Array.getElem?_setIfInBounds_ne (fun h => ek h.symm), hcs k hk]
      unfold vcell
      rw [hvs, if_neg ek]
      dsimp only
      rw [if_neg ek]
  · rw [hvs] at ek
    by_cases ec : k = c
    · rw [if_pos ec] at ek
      injection ek with ek
      subst ek ec
      rw [if_pos rfl]
      exact ⟨hv.ty hf (fun b cs T f hb hT => hne hb (by rcases hT with rfl | rfl <;> decide)), ht, hsp, Nat.le_trans hN0 hn.1, fun ad e => Nat.le_trans hN0 (hn.2.1 ad e), fun ad e => Nat.le_trans hN0 (hn.2.2 ad e)⟩
    · rw [if_neg ec] at ek
      rw [if_neg ec]
      obtain ⟨a1, a2, a3, a4⟩ := h.vol k u hk ek
      exact ⟨a1.ty hf (fun b cs T f hb hT => hne hb (by rcases hT with rfl | rfl <;> decide)), a2, a3, a4⟩
  · obtain ⟨_, _, cs, hc⟩ := RowV.blk h.row b hb
    exact hne hc (by decide)
  · have h1 := (h.sts j m ej).fr hf (fun b cs hb => hne hb (by decide))
    refine ⟨h1.1, h1.2.1, h1.2.2.1, h1.2.2.2.1, h1.2.2.2.2.1, fun k u hk ek b hb => ?_⟩
    rw [hvs] at ek
    by_cases ec : k = c
    · rw [if_pos ec]
      have h2 := hN j m ej b hb
      exact ⟨fun ad e e2 => by have := hn.2.1 ad e; omega, fun ad e e2 => by have := hn.2.2 ad e; omega⟩
    · rw [if_neg ec] at ek
      rw [if_neg ec]
      exact h1.2.2.2.2.2 k u hk ek b hb
/-- A volume is dropped. -/
theorem OpAt.drop {w0 w : World} {p : Nat} {L : Lay} {g : Geo} {n nb xb vb : Nat} {τ : OSt} {V : Nat → VLay} {sv : Value} {vs : List Value} (h : OpAt w0 w p L g n nb xb vb τ V sv vs) {c : Nat} (hc : c < n) :
    OpAt w0 (w.setCell ⟨vb, c, none⟩ (.pointer none)) p L g n nb xb vb { τ with vol := fun k => if k = c then none else τ.vol k } V sv vs := by
  obtain ⟨cs, e, hcs⟩ := h.vols
  have hf := fr_set1 (w' := w) (b := vb) (i := c) (.pointer none)
  have hne : ∀ {b : Nat} {cs : Array Value} {T : TypeId} {f : Nat × Nat}, w.heap[b]? = some (.cells cs T f) → T ≠ PV → ¬ b = vb := fun hb hT => blk_ne hb e hT
  refine ⟨h.nand.one e hf ⟨⟨by decide, by decide, by decide, by decide, by decide⟩, by decide, by decide⟩, h.gg, h.nn, hf.heap h.main (hne h.main (by decide)), ⟨_, heap_set e _ _, fun k hk => ?_⟩, fun k u hk ek => ?_, h.row.fr hf (fun b hb => ?_), fun j m ej => ?_, h.ok, h.fr.after hf (fun b hb hs => absurd hb (by have := h.lo.2; omega)), h.lo⟩
  · by_cases ek : k = c
    · subst ek
      rw [Array.getElem?_setIfInBounds_self_of_lt (by have := hcs k hk; exact (Array.getElem?_eq_some_iff.1 this).1)]
      unfold vcell
      dsimp only
      rw [if_pos rfl]
    · rw [Array.getElem?_setIfInBounds_ne (fun h => ek h.symm), hcs k hk]
      unfold vcell
      dsimp only
      rw [if_neg ek]
  · have ek' : (if k = c then none else τ.vol k) = some u := ek
    by_cases ec : k = c
    · rw [if_pos ec] at ek'
      cases ek'
    · rw [if_neg ec] at ek'
      obtain ⟨a1, a2, a3, a4⟩ := h.vol k u hk ek'
      exact ⟨a1.ty hf (fun b cs T f hb hT => hne hb (by rcases hT with rfl | rfl <;> decide)), a2, a3, a4⟩
  · obtain ⟨_, _, cs, hc⟩ := RowV.blk h.row b hb
    exact hne hc (by decide)
  · have h1 := (h.sts j m ej).fr hf (fun b cs hb => hne hb (by decide))
    refine ⟨h1.1, h1.2.1, h1.2.2.1, h1.2.2.2.1, h1.2.2.2.2.1, fun k u hk ek b hb => ?_⟩
    have ek' : (if k = c then none else τ.vol k) = some u := ek
    by_cases ec : k = c
    · rw [if_pos ec] at ek'
      cases ek'
    · rw [if_neg ec] at ek'
      exact h1.2.2.2.2.2 k u hk ek' b hb
def scells (m : MS) (v1 : Value) : Array Value := #[.int .u32 m.seq, v1, .int .i64 m.spare, .int .i64 m.dead, .int .i64 m.done]
theorem getD_app {vs ys : List Value} {i : Nat} (h : i < vs.length) : (vs ++ ys).getD i undef = vs.getD i undef := by
  simp only [List.getD_eq_getElem?_getD]
  rw [List.getElem?_append_left h]
theorem getD_app2 {vs ys : List Value} {i : Nat} : (vs ++ ys).getD (vs.length + i) undef = ys.getD i undef := by
  simp only [List.getD_eq_getElem?_getD]
  rw [List.getElem?_append_right (by omega), Nat.add_sub_cancel_left]
/-- A volume's lists lie in the heap. -/
theorem vol_below {w : World} {p c : Nat} {g : Geo} {t : Tab} {v : VLay} (h : VolAt w p c g t v) (ht : t.Ok g) (hg : g.Ok) (hsp : 0 < t.spare.length) : (∀ ad, v.A1 = some ad → ad.block < w.heap.size) ∧ ∀ ad, v.A2 = some ad → ad.block < w.heap.size := by
  refine ⟨fun ad e => ?_, fun ad e => ?_⟩
  · obtain ⟨cs, hc⟩ := h.i1 ad e (by rw [← h.r1.1]; have := ht.len; have := hg.b; omega)
    exact (Array.getElem?_eq_some_iff.1 hc).1
  · obtain ⟨cs, hc⟩ := h.i2 ad e (by rw [← h.r2.1]; exact hsp)
    exact (Array.getElem?_eq_some_iff.1 hc).1
/-- A set more. -/
theorem OpAt.snoc {w0 w w1 : World} {p : Nat} {L : Lay} {g : Geo} {n nb xb vb : Nat} {τ : OSt} {V : Nat → VLay} {sv sv1 : Value} {vs : List Value} (h : OpAt w0 w p L g n nb xb vb τ V sv vs) (hg : g.Ok) {m : MS} {v1 : Value} (hm : m.Ok g) {N : Nat} (hN : ∀ c t, c < n → τ.vol c = some t → (∀ ad, (V c).A1 = some ad → ad.block < N) ∧ ∀ ad, (V c).A2 = some ad → ad.block < N) (hN0 : w0.heap.size ≤ N) (hr1 : Row 3 .i64 w N v1 m.chips)
    (hr : RowV MemC.ST 5 w1 w0.heap.size sv1 (τ.sets.length + 1) (vs ++ (scells m v1).toList)) (hf : Fr (fun b => sv.ownBlock = some b) w w1) : OpAt w0 w1 p L g n nb xb vb { τ with sets := τ.sets ++ [m] } V sv1 (vs ++ (scells m v1).toList) := by
  have hvl : vs.length = τ.sets.length * 5 := h.row.2
  have hne : ∀ {b : Nat} {cs : Array Value} {T : TypeId} {f : Nat × Nat}, w.heap[b]? = some (.cells cs T f) → T ≠ MemC.ST → ¬ sv.ownBlock = some b := fun hb hT => Go.Proofs.YteofgpaceeibpaaGreat.Str.RowV.ne h.row hb hT
  have hlow : ∀ b, b < w0.heap.size → sv.ownBlock = some b → NF p L n nb b := fun b hb e => absurd hb (by have := (RowV.blk h.row b e).1; omega)
  obtain ⟨cs, e, hcs⟩ := h.vols
  refine ⟨?_, h.gg, h.nn, hf.heap h.main (hne h.main (by decide)), ⟨cs, hf.heap e (hne e (by decide)), hcs⟩, fun c t hc et => ?_, ?_, fun j m' ej => ?_, fun m' hm' => ?_, h.fr.after hf (fun b hb hs => hlow b hb hs), h.lo⟩
  · refine h.nand.typed hf (fun b cs T f hs hb => ?_)
    obtain ⟨_, _, cs', hc'⟩ := RowV.blk h.row b hs
    rw [hb] at hc'
    injection hc' with hc'
    injection hc' with _ hc'
    subst hc'
    exact ⟨⟨by decide, by decide, by decide, by decide, by decide⟩, by decide, by decide⟩
  · obtain ⟨a1, a2, a3, a4⟩ := h.vol c t hc et
    exact ⟨a1.ty hf (fun b cs T f hb hT => hne hb (by rcases hT with rfl | rfl <;> decide)), a2, a3, a4⟩
  · show RowV MemC.ST 5 w1 w0.heap.size sv1 (τ.sets ++ [m]).length _
    rw [List.length_append, List.length_singleton]
    exact hr
  · have ej' : (τ.sets ++ [m])[j]? = some m' := ej
    by_cases hj : j < τ.sets.length
    · rw [List.getElem?_append_left hj] at ej'
      have h1 := (h.sts j m' ej').fr hf (fun b cs hb => hne hb (by decide))
      unfold SetC
      rw [getD_app (by omega), getD_app (by omega), getD_app (by omega), getD_app (by omega), getD_app (by omega)]
      exact h1
    · have hje : j = τ.sets.length := by
        by_cases e2 : j = τ.sets.length
        · exact e2
        · rw [List.getElem?_eq_none (by simp; omega)] at ej'
          cases ej'
      rw [hje, List.getElem?_append_right (Nat.le_refl _), Nat.sub_self] at ej'
      injection ej' with ej'
      subst ej'
      unfold SetC
      rw [hje, ← hvl, getD_app2 (i := 2), getD_app2 (i := 3), getD_app2 (i := 4), getD_app2 (i := 1), show vs.length = vs.length + 0 by omega, getD_app2 (i := 0)]
      refine ⟨rfl, rfl, rfl, rfl, (hr1.lower hN0).fr hf (fun b hb => ?_), fun c t hc et b hb => ?_⟩
      · obtain ⟨_, _, cs', hc'⟩ := hr1.blk b hb
        exact hne hc' (by decide)
      · obtain ⟨b1, b2⟩ := hN c t hc et
        have hb3 := (hr1.blk b hb).1
        exact ⟨fun ad e e2 => by have := b1 ad e; omega, fun ad e e2 => by have := b2 ad e; omega⟩
  · rcases List.mem_append.1 hm' with h2 | h2
    · exact h.ok m' h2
    · obtain rfl := List.mem_singleton.1 h2
      exact hm
/-- It is an array when the set is put in. -/
theorem OpAt.array {w0 w w' : World} {p : Nat} {L : Lay} {g : Geo} {n nb xb vb : Nat} {τ : OSt} {V : Nat → VLay} {sv : Value} {vs : List Value} (h : OpAt w0 w p L g n nb xb vb τ V sv vs) (hg : g.Ok) {m : MS} {A : Option Addr} {k kc : Nat} (hm : m.Ok g) (hr : Row 3 .i64 w w0.heap.size (.slice A k kc) m.chips) (hoff : ∀ c t, c < n → τ.vol c = some t → ∀ b, (Value.slice A k kc).ownBlock = some b → VOff (V c) b)
    (hf : Fr (fun b => b = xb) w w') (hw : w'.heap[xb]? = some (.cells #[.pointer (some ⟨p, 0, none⟩), .int .i64 g.c, .int .i64 g.b, .int .i64 g.p, .int .i64 g.s, .slice (some ⟨vb, 0, none⟩) n n, .int .u32 m.seq, .slice A k kc, .int .i64 m.spare, .int .i64 m.dead, .int .i64 m.done, .bool false] AT (0, 0))) :
    ∃ cb, ArAt w' ⟨τ.s, τ.vol, m, false⟩ ⟨L, p, xb, vb, cb, kc, V⟩ ∧ w0.heap.size ≤ cb := by
  have hml := hm.len
  have hgc := hg.c
  obtain ⟨b, rfl, hb, rfl, hcc, cs, hcs, hcj⟩ := own_eq hr (by omega)
  obtain ⟨ds, e, hds⟩ := h.vols
  have hne : ∀ {b : Nat} {cs : Array Value} {T : TypeId} {f : Nat × Nat}, w.heap[b]? = some (.cells cs T f) → T ≠ AT → ¬ b = xb := fun hb hT => blk_ne hb h.main hT
  have hlen : m.chips.length = g.c.toNat := by omega
  refine ⟨b, ⟨h.nand.one h.main hf ⟨⟨by decide, by decide, by decide, by decide, by decide⟩, by decide, by decide⟩, ?_, ?_, ⟨ds, hf.heap e (hne e (by decide)), fun c hc => ?_⟩, fun c t hc et => ?_, ⟨cs, hf.heap hcs (hne hcs (by decide)), fun j hj => hcj j (by rw [hlen, ← h.gg]; exact hj)⟩, ⟨by rw [h.gg]; exact hm, fun c t hc et => ?_⟩⟩, hb⟩
  · rw [hw]
    unfold acells
    rw [h.gg, h.nn.1, hlen]
  · show τ.s.g.c.toNat ≤ kc
    rw [h.gg, ← hlen]
    exact hcc
  · have hc' : c < n := by rw [← h.nn.1]; exact hc
    exact hds c hc'
  · have hc' : c < n := by rw [← h.nn.1]; exact hc
    have h1 := h.vol c t hc' et
    refine ⟨?_, hoff c t hc' et b rfl⟩
    show VolAt w' p c τ.s.g t (V c)
    rw [h.gg]
    exact h1.1.ty hf (fun b cs T f hb hT => hne hb (by rcases hT with rfl | rfl <;> decide))
  · have hc' : c < n := by rw [← h.nn.1]; exact hc
    show t.Ok τ.s.g
    rw [h.gg]
    exact (h.vol c t hc' et).2.1
end Go.Proofs.YteofgpaceeibpaaGreat.OpnA
namespace Go.Proofs.YteofgpaceeibpaaGreat.OpnB
open Go.RowKit Go.Proofs.YteofgpaceeibpaaGreat.Gab Go.Proofs.YteofgpaceeibpaaGreat.Wr Go.Proofs.YteofgpaceeibpaaGreat.Geom Go.Proofs.YteofgpaceeibpaaGreat.Ref Go.Proofs.YteofgpaceeibpaaGreat.Par Go.Proofs.YteofgpaceeibpaaGreat.Nand Go.Proofs.YteofgpaceeibpaaGreat.NandA Go.Proofs.YteofgpaceeibpaaGreat.NandB Go.Proofs.YteofgpaceeibpaaGreat.NandC Go.Proofs.YteofgpaceeibpaaGreat.NandD Go.Proofs.YteofgpaceeibpaaGreat.NandE Go.Proofs.YteofgpaceeibpaaGreat.NandF Go.Proofs.YteofgpaceeibpaaGreat.NandH Go.Proofs.YteofgpaceeibpaaGreat.RemapA Go.Proofs.YteofgpaceeibpaaGreat.RemapG Go.Proofs.YteofgpaceeibpaaGreat.VolA Go.Proofs.YteofgpaceeibpaaGreat.VolB Go.Proofs.YteofgpaceeibpaaGreat.VolD Go.Proofs.YteofgpaceeibpaaGreat.VolF Go.Proofs.YteofgpaceeibpaaGreat.VolG Go.Proofs.YteofgpaceeibpaaGreat.MemA Go.Proofs.YteofgpaceeibpaaGreat.MemC Go.Proofs.YteofgpaceeibpaaGreat.MemD Go.Proofs.YteofgpaceeibpaaGreat.MemF Go.Proofs.YteofgpaceeibpaaGreat.NewQ Go.Proofs.YteofgpaceeibpaaGreat.ArrA Go.Proofs.YteofgpaceeibpaaGreat.ArrG Go.Proofs.YteofgpaceeibpaaGreat.ArrH Go.Proofs.YteofgpaceeibpaaGreat.ArrI Go.Proofs.YteofgpaceeibpaaGreat.OpnA
open Go.Proofs.YteofgpaceeibpaaGreat.Heap (cell_is heap_set fr_set1)
set_option linter.unusedVariables false
set_option linter.unusedSimpArgs false

theorem rdN_code (s : St) (c : Nat) : ∀ n, (s.rdN c n).2 = 0 ∨ (s.rdN c n).2 = 71 ∨ (s.rdN c n).2 = 72
  | 0 => .inl rfl
  | n + 1 => by
    unfold St.rdN
    split
    · have h : ∀ t : St, (t.read c).2 = 0 ∨ (t.read c).2 = 71 ∨ (t.read c).2 = 72 := fun t => by
        unfold St.read
        split
        · split
          · exact .inr (.inr rfl)
          · exact start_code t c
        · exact start_code t c
      exact h _
    · exact rdN_code s c n
theorem seek_code (s : St) (c : Nat) (f : Nat → Option Tab) : ∀ n, (s.seek c f n).2.1 = 0 ∨ (s.seek c f n).2.1 = 71 ∨ (s.seek c f n).2.1 = 72
  | 0 => .inl rfl
  | n + 1 => by
    unfold St.seek
    split
    · exact rdN_code _ _ _
    · exact seek_code s c f n
theorem newer_some {a b : Option Tab} {t : Tab} (h : newer a b = some t) : a = some t ∨ b = some t := by
  unfold newer at h
  cases b with
  | none => exact .inl h
  | some u => cases a with
    | none => exact .inr h
    | some v =>
      dsimp only at h
      split at h
      · exact .inr h
      · exact .inl h
theorem seek_some (s : St) (c : Nat) (f : Nat → Option Tab) : ∀ n t, (s.seek c f n).2.2 = some t → ∃ b, b < n ∧ f b = some t
  | 0, t, h => by cases h
  | n + 1, t, h => by
    unfold St.seek at h
    split at h
    · dsimp only at h
      rcases newer_some h with h2 | h2
      · obtain ⟨b, hb, e⟩ := seek_some s c f n t h2
        exact ⟨b, by omega, e⟩
      · unfold isOk at h2
        split at h2
        · exact ⟨n, by omega, h2⟩
        · cases h2
    · obtain ⟨b, hb, e⟩ := seek_some s c f n t h
      exact ⟨b, by omega, e⟩
theorem Safe_read_of {s : St} {n : Nat} (h : s.Safe (n + 1)) (c : Nat) : (s.read c).1.Safe n := h.read c
theorem newest_mem' : ∀ (ms : List MS) (o : Option MS) {m : MS}, ms.foldl pickN o = some m → o = some m ∨ m ∈ ms
  | [], o, m, h => .inl h
  | a :: ms, o, m, h => by
    rw [List.foldl_cons] at h
    rcases newest_mem' ms _ h with h2 | h2
    · unfold pickN at h2
      cases o with
      | none => exact .inr (by injection h2 with h2; rw [h2]; exact List.mem_cons_self)
      | some u =>
        dsimp only at h2
        split at h2
        · exact .inr (by injection h2 with h2; rw [h2]; exact List.mem_cons_self)
        · exact .inl h2
    · exact .inr (List.mem_cons_of_mem _ h2)
theorem newest_mem {ms : List MS} {m : MS} (h : newest ms = some m) : m ∈ ms := by
  rcases newest_mem' ms none h with h2 | h2
  · cases h2
  · exact h2
theorem set_arr {w : World} {b : Nat} {T : TypeId} {a0 a1 a2 a3 a4 a5 a6 a7 a8 a9 a10 a11 : Value} (h : w.heap[b]? = some (.cells #[a0, a1, a2, a3, a4, a5, a6, a7, a8, a9, a10, a11] T (0, 0))) (v6 v7 v8 v9 v10 : Value) :
    (((((w.setCell ⟨b, 6, none⟩ v6).setCell ⟨b, 7, none⟩ v7).setCell ⟨b, 8, none⟩ v8).setCell ⟨b, 9, none⟩ v9).setCell ⟨b, 10, none⟩ v10).heap[b]? = some (.cells #[a0, a1, a2, a3, a4, a5, v6, v7, v8, v9, v10, a11] T (0, 0)) ∧
    Fr (fun i => i = b) w (((((w.setCell ⟨b, 6, none⟩ v6).setCell ⟨b, 7, none⟩ v7).setCell ⟨b, 8, none⟩ v8).setCell ⟨b, 9, none⟩ v9).setCell ⟨b, 10, none⟩ v10) := by
  have h0 := heap_set h 6 v6
  have h1 := heap_set h0 7 v7
  have h2 := heap_set h1 8 v8
  have h3 := heap_set h2 9 v9
  have h4 := heap_set h3 10 v10
  refine ⟨by rw [h4]; simp, (((((Fr.refl (fun i => i = b) w).setCell (p := ⟨b, 6, none⟩) (fun _ => rfl) v6).setCell (p := ⟨b, 7, none⟩) (fun _ => rfl) v7).setCell (p := ⟨b, 8, none⟩) (fun _ => rfl) v8).setCell (p := ⟨b, 9, none⟩) (fun _ => rfl) v9).setCell (p := ⟨b, 10, none⟩) (fun _ => rfl) v10⟩
/-- The sets as they are asked for. -/
theorem _root_.Go.Proofs.YteofgpaceeibpaaGreat.OpnA.OpAt.sets_ {w0 w : World} {p : Nat} {L : Lay} {g : Geo} {n nb xb vb : Nat} {τ : OSt} {V : Nat → VLay} {sv : Value} {vs : List Value} (h : OpAt w0 w p L g n nb xb vb τ V sv vs) {A : Option Addr} {c : Nat} (e : sv = .slice A τ.sets.length c) :
    ∃ gb, (0 < τ.sets.length → A = some ⟨gb, 0, none⟩) ∧ Sts (fun v => ∀ c t, c < n → τ.vol c = some t → ∀ b, v.ownBlock = some b → VOff (V c) b) w w0.heap.size gb τ.sets.length τ.sets := by
  by_cases h0 : 0 < τ.sets.length
  · obtain ⟨g2, c2, e2, _, hcc⟩ := row_at0 h.row h0
    rw [e] at e2
    injection e2 with e3 _ _
    refine ⟨g2, fun _ => e3, rfl, fun j m hj => ?_⟩
    have hjl : j < τ.sets.length := (List.getElem?_eq_some_iff.1 hj).1
    obtain ⟨a0, a2, a3, a4, a1⟩ := h.sts j m hj
    refine ⟨_, ?_, hcc (j * 5 + 1) (by omega), ?_, ?_, ?_, a1⟩
    · rw [hcc (j * 5) (by omega), a0]
    · rw [hcc (j * 5 + 2) (by omega), a2]
    · rw [hcc (j * 5 + 3) (by omega), a3]
    · rw [hcc (j * 5 + 4) (by omega), a4]
  · exact ⟨0, fun h => absurd h h0, rfl, fun j m hj => absurd (List.getElem?_eq_some_iff.1 hj).1 (by omega)⟩
theorem gone_seq (σ : Ar) (m : Nat) : (σ.gone m).1.set.seq = σ.set.seq := by
  unfold Ar.gone
  split
  · rfl
  · split <;> rfl
theorem look1_seq (σ : Ar) (m : Nat) : (σ.look1 m).1.set.seq = σ.set.seq := by
  unfold Ar.look1
  split
  · exact gone_seq σ m
  · rfl
theorem lookN_seq (σ : Ar) : ∀ i, (σ.lookN i).1.set.seq = σ.set.seq
  | 0 => rfl
  | i + 1 => by
    unfold Ar.lookN
    split
    · exact (look1_seq _ i).trans (lookN_seq σ i)
    · exact lookN_seq σ i
theorem look_keeps (σ : Ar) : σ.look.1.s = σ.s ∧ σ.look.1.set.seq = σ.set.seq := by
  have h1 := (lookN_same σ σ.s.g.c.toNat).1
  have h2 := lookN_seq σ σ.s.g.c.toNat
  unfold Ar.look
  split
  · have h3 : ∀ τ : Ar, τ.lookS.s = τ.s ∧ τ.lookS.set.seq = τ.set.seq := fun τ => by
      unfold Ar.lookS
      split <;> exact ⟨rfl, rfl⟩
    have h4 : ∀ τ : Ar, τ.lookV.s = τ.s ∧ τ.lookV.set.seq = τ.set.seq := fun τ => by
      unfold Ar.lookV
      split <;> exact ⟨rfl, rfl⟩
    exact ⟨(h4 _).1.trans ((h3 _).1.trans h1), (h4 _).2.trans ((h3 _).2.trans h2)⟩
  · exact ⟨h1, h2⟩
/-- The start, in memory. -/
structure RawO (w0 w : World) (p : Nat) (g : Geo) (n xb vb : Nat) : Prop where
  main : w.heap[xb]? = some (.cells (ocells p vb n g) AT (0, 0))
  vols : w.heap[vb]? = some (.cells (madeCells #[.pointer none] n) PV (0, 0))
  lo : w0.heap.size ≤ xb ∧ w0.heap.size ≤ vb
theorem rawO_new {w0 w : World} {n vb : Nat} {g : Geo} (hf : Fr None_ w0 w) (hm : Made w0 w n vb) (p : Nat) : RawO w0 (w.alloc (.cells (ocells p vb n g) AT)) p g n w.heap.size vb :=
  ⟨heap_alloc_new w _, at_old (.cells (ocells p vb n g) AT) hm.1, hf.size, hm.2⟩
def τ0 (s : St) : OSt := ⟨s, fun _ => none, []⟩
theorem RawO.at_ {w0 w : World} {p xb vb : Nat} {s : St} {L : Lay} (h : RawO w0 w p s.g s.n xb vb) (hN : Nand w p s L) (hf : Fr None_ w0 w) : OpAt w0 w p L s.g s.n s.nb xb vb (τ0 s) (fun _ => ⟨0, none, 0, 0, none, 0, 0⟩) (.slice none 0 0) [] := by
  refine ⟨hN, rfl, ⟨rfl, rfl⟩, h.main, ⟨_, h.vols, fun c hc => ?_⟩, fun c t hc e => (by cases e), RowV.nil _ _ _ _, fun j m e => (by simp [τ0] at e), fun m hm => (by cases hm), hf.mono (fun _ _ h => h.elim), h.lo⟩
  rw [made_get hc]
  simp [vcell, τ0, Nat.mod_one]
theorem infoMS : (Tryz.prog.info? 40).map (fun i => (i.zero, i.size, i.bytes)) = some (some (.agg #[.int .u32 0, .slice none 0 0, .int .i64 0, .int .i64 0, .int .i64 0]), 5, 56) := by kernel_rfl
/-- What is known of what stands on chips. -/
structure Known (s : St) (f : Nat → Nat → Option Tab) (x : Nat → Nat → Option MS) : Prop where
  tab : ∀ c b, c < s.n → b < s.nb → TabIs s.g (s.bytes c b 0).1 (s.bytes c b 0).2 (f c b)
  set : ∀ c b, c < s.n → b < s.nb → SetIs s.g (s.bytes c b 0).1 (s.bytes c b 0).2 (x c b)
  sp : ∀ c b t, f c b = some t → 0 < t.spare.length
  few : ∀ c b m, x c b = some m → m.seq < 4294967295
/-- What Open answers. -/
def OnPost (p : Nat) (s : St) (L : Lay) (f : Nat → Nat → Option Tab) (x : Nat → Nat → Option MS) (w : World) (e : Ending) (w' : World) : Prop := Fr (NF p L s.n s.nb) w w' ∧
  (((OSt.all (τ0 s) f x s.n).2 ≠ 0 ∧ e = .returned (.tuple #[.pointer none, .int .i64 (OSt.all (τ0 s) f x s.n).2]) ∧ Nand w' p (OSt.all (τ0 s) f x s.n).1.s L) ∨
   ((OSt.all (τ0 s) f x s.n).2 = 0 ∧ newest (OSt.all (τ0 s) f x s.n).1.sets = none ∧ e = .returned (.tuple #[.pointer none, .int .i64 62]) ∧ Nand w' p (OSt.all (τ0 s) f x s.n).1.s L) ∨
   ((OSt.all (τ0 s) f x s.n).2 = 0 ∧ ∃ m, newest (OSt.all (τ0 s) f x s.n).1.sets = some m ∧
     (((Ar.look ⟨(OSt.all (τ0 s) f x s.n).1.s, (OSt.all (τ0 s) f x s.n).1.vol, m, false⟩).2 ≠ 0 ∧ e = .returned (.tuple #[.pointer none, .int .i64 (Ar.look ⟨(OSt.all (τ0 s) f x s.n).1.s, (OSt.all (τ0 s) f x s.n).1.vol, m, false⟩).2]) ∧ Nand w' p (Ar.look ⟨(OSt.all (τ0 s) f x s.n).1.s, (OSt.all (τ0 s) f x s.n).1.vol, m, false⟩).1.s L) ∨
      ((Ar.look ⟨(OSt.all (τ0 s) f x s.n).1.s, (OSt.all (τ0 s) f x s.n).1.vol, m, false⟩).2 = 0 ∧ ∃ K, e = .returned (.tuple #[.pointer (some ⟨K.x, 0, none⟩), .int .i64 (Ar.look ⟨(OSt.all (τ0 s) f x s.n).1.s, (OSt.all (τ0 s) f x s.n).1.vol, m, false⟩).1.save.2]) ∧ ArAt w' (Ar.look ⟨(OSt.all (τ0 s) f x s.n).1.s, (OSt.all (τ0 s) f x s.n).1.vol, m, false⟩).1.save.1 K ∧ ANew w.heap.size p L K))))

set_option maxHeartbeats 16000000 in
set_option maxRecDepth 100000 in
theorem Open_calls (p : Nat) (s : St) (L : Lay) (f : Nat → Nat → Option Tab) (x : Nat → Nat → Option MS) (w : World) (hN : Nand w p s L) (hK : Known s f x) (m0 : Nat) (hs : s.Safe (m0 + 10000)) :
    Calls Tryz.prog 11 #[.pointer (some ⟨p, 0, none⟩)] w (OnPost p s L f x w) := by
  have HNN := As.mk hN
  have HGO := As.mk hN.ok
  have HKN := As.mk hK
  have hgc := hN.ok.c
  obtain ⟨n, hn⟩ : ∃ n, s.n = n := ⟨_, rfl⟩
  have hnI : s.g.c + 1 = (n : Int) := by unfold St.n at hn; omega
  have hn17 : n ≤ 17 := by omega
  have HGE := As.mk (fun (w' : World) (hf : Fr None_ w w') => (Geo_calls p s L w' (hN.none_ hf)).mono (R' := fun e w'' => e = .returned s.g.val ∧ Fr None_ w w'' ∧ Fr None_ w' w'') (fun e w'' h => ⟨h.1, hf.after h.2 (fun _ _ h => h), h.2⟩))
  have HCH := As.mk (fun (w' : World) (hf : Fr None_ w w') => (Chips_calls p s L w' (hN.none_ hf)).mono (R' := fun e w'' => e = .returned (.int .i64 (n : Int)) ∧ Fr None_ w w'' ∧ Fr None_ w' w'') (fun e w'' h => ⟨by rw [← hnI]; exact h.1, hf.after h.2 (fun _ _ h => h), h.2⟩))
  have hmk := run_makeV (P := Tryz.prog) 91 95 (.pointer none) 1 8 Tryz.underlying91 infoPV (n : Int) (by omega) (by omega) (by omega)
  rw [Int.toNat_natCast, Nat.mul_one] at hmk
  have hzz : (Value.pointer none).cells = #[.pointer none] := rfl
  rw [hzz] at hmk
  have HF := As.mk (Fr.refl None_ w).drew
  have HNE := As.mk hn
  have HSF := As.mk hs
  unfold Geo.val at HGE
  obtain ⟨Q, hQ⟩ : ∃ Q, OnPost p s L f x w = Q := ⟨_, rfl⟩
  have HQ := As.mk hQ
  rw [hQ]
  have HBD := As.mk (show ∀ (e : Ending) (w' : World) (i : Nat) (τ' : OSt) (k : Int), i ≤ n → (τ0 s).all f x i = (τ', k) → k ≠ 0 → e = .returned (.tuple #[.pointer none, .int .i64 k]) → Nand w' p τ'.s L → Fr (NF p L n s.nb) w w' → Q e w' from by
    rintro e w' i τ' k hi ha hk h1 h2 h3
    rw [← HQ.out]
    have h4 : (τ0 s).all f x s.n = (τ', k) := by rw [all_stuck (τ0 s) f x i s.n (by rw [HNE.out]; exact hi) (by rw [ha]; exact hk), ha]
    refine ⟨by rw [HNE.out]; exact h3, .inl ⟨?_, ?_, ?_⟩⟩
    · rw [h4]; exact hk
    · rw [h4]; exact h1
    · rw [h4]; exact h2)
  clear hN hK hgc hzz hs hn hQ
  go_enter Tryz.func11, Tryz.ntmps11
  go_upto_region 3 with fail
  go_cut [4] (fun v4 wx => ∃ xb vb, v4 = .pointer (some ⟨xb, 0, none⟩) ∧ As (Fr None_ w wx) ∧ As (RawO w wx p s.g n xb vb))
  case first =>
    go_wp2_with fail
    ((with_reducible refine (HGE.out _ (Fr.refl _ _)).mono ?_); rintro e w2 ⟨rfl, hf2, hg2⟩)
    have HF2 := As.mk hf2
    clear hf2 hg2
    go_wp2_with fail
    ((with_reducible refine (HCH.out _ HF2.out).mono ?_); rintro e w3 ⟨rfl, hf3, hg3⟩)
    have HF3 := As.mk hf3
    clear hf3 hg3
    go_wp2_with fail
    go_meet
    case rel => exact ⟨_, _, rfl, ⟨(HF3.out.alloc _).alloc _⟩, ⟨by have h := rawO_new (HF3.out.alloc _) (made_new HF3.out n) (g := s.g) p; rw [size_new _ rfl] at h; exact h⟩⟩
  case rest =>
    obtain ⟨xb, vb, rfl, HF1, HR1⟩ := hcut
    rename World => w1
    have hO1 := RawO.at_ (by rw [HNE.out]; exact HR1.out) (HNN.out.none_ HF1.out) HF1.out
    rw [HNE.out] at hO1
    have HO1 := As.mk hO1
    have c5 := cell_is (i := 5) hO1.main rfl
    change w1.cell? ⟨xb, 5, none⟩ = some (.slice (some ⟨vb, 0, none⟩) n n) at c5
    clear hO1 HR1 HGE HCH hmk
    go_wp2_with fail
    clear c5
    go_loopw [5, 6, 7, 8, 9, 10, 11, 12, 13, 14, 33, 58] (fun v5 v6 v7 v8 v9 v10 v11 v12 v13 v14 v33 v58 w' => ∃ (i : Nat) (τ : OSt) (V : Nat → VLay) (vs : List Value), v33 = .int .i64 (i : Int) ∧ i ≤ n ∧ As ((τ0 s).all f x i = (τ, 0)) ∧ As (OpAt w w' p L s.g n s.nb xb vb τ V v5 vs) ∧ As (τ.s.blk = s.blk ∧ τ.s.Safe (m0 + 100 + 300 * (n - i)) ∧ τ.sets.length ≤ 2 * i ∧ ∀ m ∈ τ.sets, m.seq < 4294967295)) (fun _ _ _ _ _ _ _ _ _ _ v33 _ _ => n - (intOf v33).toNat)
    case atStart => exact ⟨0, τ0 s, _, _, rfl, Nat.zero_le _, ⟨rfl⟩, HO1, ⟨rfl, HSF.out.le (by omega), Nat.le_refl _, fun m hm => (by cases hm)⟩⟩
    case round =>
      obtain ⟨i, τ, V, vs, rfl, hi, HA, HO, HS⟩ := hrel
      by_cases hlt : i < n
      · have hltI : (i : Int) < (n : Int) := by omega
        have hby : ∀ b, τ.s.bytes i b 0 = s.bytes i b 0 := fun b => by unfold St.bytes; rw [HS.out.1, HO.out.gg]
        have hvo := VolG.Open_calls p i τ.s L (f i) wr HO.out.nand (by rw [HO.out.nn.1]; exact hlt) (m0 + 100 + 300 * (n - (i + 1)) + 44) (by rw [show m0 + 100 + 300 * (n - (i + 1)) + 44 + 256 = m0 + 100 + 300 * (n - i) by omega]; exact HS.out.2.1) (fun b hb => by
          rw [hby, HO.out.gg]
          exact HKN.out.tab i b (by rw [HNE.out]; exact hlt) (by rw [HO.out.nn.2] at hb; exact hb))
        unfold OpenPost at hvo
        have hsg := seek_g τ.s i (f i) τ.s.nb
        have hss : (τ.s.vopen i (f i)).1.Safe (m0 + 100 + 300 * (n - (i + 1)) + 44) := by
          unfold St.vopen
          exact (safe_seek i (f i) τ.s.nb (m0 + 100 + 300 * (n - (i + 1)) + 44) (HS.out.2.1.le (by
            have h1 := HO.out.nn.2
            have h2 := HGO.out.b
            have h3 : s.nb ≤ 64 := by unfold St.nb; omega
            omega)))
        have hsc := seek_code τ.s i (f i) τ.s.nb
        have hsm := seek_some τ.s i (f i) τ.s.nb
        have HALL : (τ0 s).all f x (i + 1) = τ.one i (f i) (x i) := by
          show (if ((τ0 s).all f x i).2 = 0 then ((τ0 s).all f x i).1.one i (f i) (x i) else (τ0 s).all f x i) = _
          rw [HA.out, if_pos rfl]
        unfold OSt.one at HALL
        change (τ.s.vopen i (f i)).1.g = _ ∧ (τ.s.vopen i (f i)).1.blk = _ ∧ _ at hsg
        change (τ.s.vopen i (f i)).2.1 = 0 ∨ (τ.s.vopen i (f i)).2.1 = 71 ∨ (τ.s.vopen i (f i)).2.1 = 72 at hsc
        change ∀ t, (τ.s.vopen i (f i)).2.2 = some t → _ at hsm
        obtain ⟨r, hr⟩ : ∃ r, τ.s.vopen i (f i) = r := ⟨_, rfl⟩
        rw [hr] at hvo hsg hss hsc hsm HALL
        obtain ⟨s1, k, y⟩ := r
        dsimp only at hvo hsg hss hsc hsm HALL
        have HVO := As.mk hvo
        have HSG := As.mk hsg
        have HSS := As.mk hss
        have HSC := As.mk hsc
        have HSM := As.mk hsm
        have HAL := As.mk HALL
        clear hvo hsg hss hsc hsm HALL hr hby
        go_wp2_with fail
        ((with_reducible refine HVO.out.mono ?_); rintro e w2 ⟨hN2, hf2, hor⟩)
        have HO2 := As.mk (HO.out.nf hN2 HSG.out.1 hf2)
        have HN2 := As.mk hN2
        have HZ2 := As.mk hf2.size
        clear hN2 hf2 HVO
        rcases hor with ⟨hk, rfl⟩ | ⟨rfl, rfl, rfl⟩ | ⟨rfl, t, v, rfl, rfl, hv, hnw⟩
        · have hk7 : k = 71 ∨ k = 72 := by rcases HSC.out with h | h; exact absurd h hk; exact h
          rcases hk7 with rfl | rfl
          · have HA1 := As.mk (show (τ0 s).all f x (i + 1) = ({ τ with s := s1 }, 0) from by rw [HAL.out]; rfl)
            clear hk
            go_wp2_with fail
            exact ⟨⟨i + 1, _, V, vs, rfl, by omega, HA1, HO2, ⟨HSG.out.2.1.trans HS.out.1, HSS.out.le (by omega), by have := HS.out.2.2.1; show τ.sets.length ≤ _; omega, HS.out.2.2.2⟩⟩, by simp [intOf]; omega⟩
          · have HA1 := As.mk (show (τ0 s).all f x (i + 1) = ({ τ with s := s1 }, 72) from by rw [HAL.out]; rfl)
            clear hk
            go_wp2_with fail
            exact HBD.out _ _ (i + 1) _ 72 (by omega) HA1.out (by decide) rfl HN2.out HO2.out.fr
        · have HA1 := As.mk (show (τ0 s).all f x (i + 1) = ({ τ with s := s1 }, 0) from by rw [HAL.out]; rfl)
          go_wp2_with fail
          exact ⟨⟨i + 1, _, V, vs, rfl, by omega, HA1, HO2, ⟨HSG.out.2.1.trans HS.out.1, HSS.out.le (by omega), by have := HS.out.2.2.1; show τ.sets.length ≤ _; omega, HS.out.2.2.2⟩⟩, by simp [intOf]; omega⟩
        · obtain ⟨bt, hbt, hft⟩ := HSM.out t rfl
          have hbtn : bt < s.nb := by rw [← HO.out.nn.2]; exact hbt
          have htI := HKN.out.tab i bt (by rw [HNE.out]; exact hlt) hbtn
          rw [hft] at htI
          have htok : t.Ok s.g := htI.2.2
          have HTOK := As.mk htok
          have HSPT := As.mk (HKN.out.sp i bt t hft)
          obtain ⟨cs5, e5, hcs5⟩ := HO2.out.vols
          have c5 := cell_is (i := 5) HO2.out.main rfl
          change w2.cell? ⟨xb, 5, none⟩ = some (.slice (some ⟨vb, 0, none⟩) n n) at c5
          have vc := cell_is e5 (hcs5 i hlt)
          have vf := free_of (i := i) e5
          change w2.frozen? ⟨vb, i, none⟩ = false at vf
          have hv' : VolAt w2 p i s.g t v := by rw [HO.out.gg] at hv; exact hv
          have HO3 := As.mk (HO2.out.put hlt hv' htok HSPT.out hnw HO.out.fr.size HO.out.below)
          clear hft htI htok hbtn hbt hv hnw hv' e5 hcs5
          go_upto_region 13 with fail
          generalize w2.setCell ⟨vb, i, none⟩ (.pointer (some ⟨v.vb, 0, none⟩)) = w3 at *
          clear c5 vc vf
          have HT1 := As.mk (show (OSt.put { τ with s := s1 } i t).vol i = some t from if_pos rfl)
          have HV1 := As.mk (show (fun k => if k = i then v else V k) i = v from if_pos rfl)
          have HSB := As.mk (show (OSt.put { τ with s := s1 } i t).s.blk = s.blk from HSG.out.2.1.trans HS.out.1)
          have HLN := As.mk (show (OSt.put { τ with s := s1 } i t).sets.length ≤ 2 * i from HS.out.2.2.1)
          have HFEW := As.mk (show ∀ m ∈ (OSt.put { τ with s := s1 } i t).sets, m.seq < 4294967295 from HS.out.2.2.2)
          have HSF1 := As.mk (show (OSt.put { τ with s := s1 } i t).s.Safe (m0 + 100 + 300 * (n - (i + 1)) + 44) from HSS.out)
          have HA1 := As.mk (show (τ0 s).all f x (i + 1) = ((OSt.rdN (OSt.put { τ with s := s1 } i t) i (fun b => x i (t.at b)) 2).1, (OSt.rdN (OSt.put { τ with s := s1 } i t) i (fun b => x i (t.at b)) 2).2.1) from by rw [HAL.out]; rfl)
          clear HAL HSM HO2 HN2 HSG HSS HSC
          generalize OSt.put { τ with s := s1 } i t = τ1 at *
          generalize hV1 : (fun k => if k = i then v else V k) = V1 at *
          clear hV1
          have hplen : (2 : Int) ≤ (t.place.length : Int) := by have h1 := HTOK.out.len; have h2 := HGO.out.b; omega
          have HPLN := As.mk hplen
          clear hplen
          go_wp2_with fail
          go_loopw [5, 9, 10, 11, 12, 13, 14, 58] (fun v5 v9 v10 v11 v12 v13 v14 v58 w' => ∃ (j : Nat) (τ2 : OSt) (vs2 : List Value), v58 = .int .i64 (j : Int) ∧ j ≤ 2 ∧ As (τ1.rdN i (fun b => x i (t.at b)) j = (τ2, 0, true)) ∧ As (OpAt w w' p L s.g n s.nb xb vb τ2 V1 v5 vs2) ∧ As (τ2.s.blk = s.blk ∧ τ2.s.Safe (m0 + 100 + 300 * (n - (i + 1)) + (2 - j)) ∧ τ2.sets.length ≤ 2 * i + j ∧ τ2.vol i = some t ∧ ∀ m ∈ τ2.sets, m.seq < 4294967295)) (fun _ _ _ _ _ _ _ v58 _ => 2 - (intOf v58).toNat)
          case atStart => exact ⟨0, τ1, vs, rfl, Nat.zero_le _, ⟨rfl⟩, HO3, ⟨HSB.out, HSF1.out.le (by omega), HLN.out, HT1.out, HFEW.out⟩⟩
          case round =>
            clear HO HA HS HO3 HT1 HSB HLN HSF1 HZ2 HFEW
            obtain ⟨j, τ2, vs2, rfl, hj, HA2, HO4, HS2⟩ := hrel
            rename World => w4
            by_cases hjl : j < 2
            · have hjI : (j : Int) < 2 := by omega
              have hvj := HO4.out.vol i t hlt HS2.out.2.2.2.1
              rw [HV1.out] at hvj
              have hatl := at_lt HTOK.out (b := j) (by have := HPLN.out; omega)
              have hby : τ2.s.bytes i (t.at j) 0 = s.bytes i (t.at j) 0 := by unfold St.bytes; rw [HS2.out.1, HO4.out.gg]
              have hset := HKN.out.set i (t.at j) (by rw [HNE.out]; exact hlt) (by unfold St.nb; exact hatl.2.2.1)
              have hbok := bytes_ok HO4.out.nand (c := i) (b := t.at j) (q := 0) (by rw [HO4.out.nn.1]; exact hlt) (by rw [HO4.out.nn.2]; unfold St.nb; exact hatl.2.2.1) (by unfold St.np; rw [HO4.out.gg]; have := HGO.out.p; omega)
              rw [hby] at hbok
              have hvr : Calls Tryz.prog 36 #[.pointer (some ⟨v.vb, 0, none⟩), .int .i64 (j : Int), .int .i64 0] w4 (ReadPost p τ2.s L i (t.at j) 0 w4) := VolA.Read_calls p i τ2.s L t v j 0 w4 HO4.out.nand (by rw [HO4.out.gg]; exact hvj.1) (by rw [HO4.out.gg]; exact HTOK.out) (by rw [HO4.out.nn.1]; exact hlt) (by have := HPLN.out; omega) (by unfold St.np; rw [HO4.out.gg]; have := HGO.out.p; omega) (m0 + 100 + 300 * (n - (i + 1)) + (2 - (j + 1))) (by rw [show m0 + 100 + 300 * (n - (i + 1)) + (2 - (j + 1)) + 1 = m0 + 100 + 300 * (n - (i + 1)) + (2 - j) by omega]; exact HS2.out.2.1)
              unfold ReadPost at hvr
              rw [hby] at hvr
              have hsr := Safe_read_of (n := m0 + 100 + 300 * (n - (i + 1)) + (2 - (j + 1))) (s := τ2.s) (by rw [show m0 + 100 + 300 * (n - (i + 1)) + (2 - (j + 1)) + 1 = m0 + 100 + 300 * (n - (i + 1)) + (2 - j) by omega]; exact HS2.out.2.1) i
              have hgr := read_g τ2.s i
              have hrd : τ1.rdN i (fun b => x i (t.at b)) (j + 1) = τ2.rd i (x i (t.at j)) := by
                show (if (τ1.rdN i (fun b => x i (t.at b)) j).2.2 = true then (τ1.rdN i (fun b => x i (t.at b)) j).1.rd i (x i (t.at j)) else _) = _
                rw [HA2.out, if_pos rfl]
              unfold OSt.rd at hrd
              have hbreak : ∀ τ3 k3, τ1.rdN i (fun b => x i (t.at b)) (j + 1) = (τ3, k3, false) → τ1.rdN i (fun b => x i (t.at b)) 2 = (τ3, k3, false) := fun τ3 k3 h => by
                have h2 : j + 1 = 1 ∨ j + 1 = 2 := by omega
                rcases h2 with h2 | h2
                · rw [h2] at h
                  show (if (τ1.rdN i (fun b => x i (t.at b)) 1).2.2 = true then _ else τ1.rdN i (fun b => x i (t.at b)) 1) = _
                  rw [h]
                  rfl
                · rw [h2] at h
                  exact h
              have HBR := As.mk hbreak
              obtain ⟨r2, hr2⟩ : ∃ r2, τ2.s.read i = r2 := ⟨_, rfl⟩
              rw [hr2] at hvr hsr hgr hrd
              obtain ⟨s2, k2⟩ := r2
              dsimp only at hvr hsr hgr hrd
              have HVR := As.mk hvr
              have HSR := As.mk hsr
              have HGR := As.mk hgr
              have HRD := As.mk hrd
              have HSET := As.mk hset
              have HBOK := As.mk hbok
              have HVB := As.mk (fun c u hc hu => vol_below (HO4.out.vol c u hc hu).1 (HO4.out.vol c u hc hu).2.1 HGO.out (HO4.out.vol c u hc hu).2.2.1)
              clear hvr hsr hgr hrd hset hbok hr2 hby hvj hatl hbreak
              have hvv : v.vb = v.vb := rfl
              go_wp2_with fail
              ((with_reducible refine HVR.out.mono ?_); rintro e w5 ⟨A5, n5, c5, B5, m5, d5, rfl, hN5, hf5, hz5, hy5⟩)
              have HO5 := As.mk (HO4.out.nf hN5 HGR.out.1 hf5)
              have HN5 := As.mk hN5
              have HZ5 := As.mk hz5
              have HSZ5 := As.mk hf5.size
              clear hN5 hf5 hz5 hy5 HVR
              by_cases hk7 : k2 = 71
              · subst hk7
                have HR3 := As.mk (HBR.out _ _ (by rw [HRD.out, if_pos rfl]))
                have HA3 := As.mk (show (τ0 s).all f x (i + 1) = ({ τ2 with s := s2, vol := fun k => if k = i then none else τ2.vol k }, 0) from by rw [HA1.out, HR3.out])
                obtain ⟨cs5, e5, hcs5⟩ := HO5.out.vols
                have q5 := cell_is (i := 5) HO5.out.main rfl
                change w5.cell? ⟨xb, 5, none⟩ = some (.slice (some ⟨vb, 0, none⟩) n n) at q5
                have vc := cell_is e5 (hcs5 i hlt)
                have vf := free_of (i := i) e5
                change w5.frozen? ⟨vb, i, none⟩ = false at vf
                have HO6 := As.mk (HO5.out.drop hlt)
                clear e5 hcs5
                go_wp2_with fail
                exact ⟨⟨i + 1, _, V1, vs2, rfl, by omega, HA3, HO6, ⟨HGR.out.2.1.trans HS2.out.1, HSR.out.le (by omega), by have := HS2.out.2.2.1; show τ2.sets.length ≤ _; omega, HS2.out.2.2.2.2⟩⟩, by simp [intOf]; omega⟩
              · have d7 : (k2 == 71) = false := beq_eq_false_iff_ne.2 hk7
                by_cases hk0 : k2 = 0
                · subst hk0
                  obtain ⟨z1, z2⟩ := HZ5.out rfl
                  have HZ1 := As.mk z1
                  have HZ2 := As.mk z2
                  obtain ⟨_, _, _, y1, hm3, hd3, _⟩ := z1.rd
                  obtain ⟨_, _, _, y2, hm4, hd4, _⟩ := z2.rd
                  injection y1 with r1 r2 r3
                  injection y2 with r4 r5 r6
                  subst r1 r2 r3 r4 r5 r6
                  have hn5 : n5 ≤ 1000000 := by rw [← hd3.out.1]; exact HBOK.out.2.2.1
                  have HPS := As.mk (fun w' (hf : Fr None_ w5 w') => Parse_calls A5 B5 n5 c5 m5 d5 _ _ s.g (x i (t.at j)) w' (hd3.out.none_ hf) (hd4.out.none_ hf) HBOK.out.1 HBOK.out.2.1 hm3.out hm4.out HGO.out HSET.out hn5)
                  unfold Geo.val ParsePost at HPS
                  have g1 := cell_is (i := 1) HO5.out.main rfl
                  have g2 := cell_is (i := 2) HO5.out.main rfl
                  have g3 := cell_is (i := 3) HO5.out.main rfl
                  have g4 := cell_is (i := 4) HO5.out.main rfl
                  change w5.cell? ⟨xb, 1, none⟩ = some (.int .i64 s.g.c) at g1
                  change w5.cell? ⟨xb, 2, none⟩ = some (.int .i64 s.g.b) at g2
                  change w5.cell? ⟨xb, 3, none⟩ = some (.int .i64 s.g.p) at g3
                  change w5.cell? ⟨xb, 4, none⟩ = some (.int .i64 s.g.s) at g4
                  have HR3 := As.mk (show τ1.rdN i (fun b => x i (t.at b)) (j + 1) = ({ τ2 with s := s2, sets := τ2.sets ++ (x i (t.at j)).toList }, 0, true) from by rw [HRD.out, if_neg (by decide), if_pos rfl])
                  clear z1 z2 hk7 d7 hn5
                  have HMOK : As (∀ m, x i (t.at j) = some m → m.Ok s.g) := ⟨fun m hm => by
                    have h := HSET.out
                    rw [hm] at h
                    exact h.2.2⟩
                  have HMFW : As (∀ m, x i (t.at j) = some m → m.seq < 4294967295) := ⟨fun m hm => HKN.out.few i (t.at j) m hm⟩
                  generalize x i (t.at j) = xx at *
                  go_wp2_with fail
                  ((with_reducible refine (HPS.out _ (Fr.refl _ _)).mono ?_); rintro e w6 ⟨hf6, hpp⟩)
                  have HF6 := As.mk hf6
                  clear hf6 HPS g1 g2 g3 g4
                  rcases xx with _ | m
                  · obtain rfl := hpp
                    have HO6 := As.mk ((HO5.out.none_ HF6.out).none_ ((Fr.refl None_ w6).alloc (.cells #[.int .u32 0, .slice none 0 0, .int .i64 0, .int .i64 0, .int .i64 0] 40)))
                    have HR4 := As.mk (show τ1.rdN i (fun b => x i (t.at b)) (j + 1) = ({ τ2 with s := s2 }, 0, true) from by rw [HR3.out]; simp)
                    clear HR3
                    go_wp2_with fail
                    exact ⟨⟨j + 1, _, vs2, rfl, by omega, HR4, HO6, ⟨HGR.out.2.1.trans HS2.out.1, HSR.out, by have := HS2.out.2.2.1; show τ2.sets.length ≤ _; omega, HS2.out.2.2.2⟩⟩, by simp [intOf]; omega⟩
                  · obtain ⟨v6, rfl, v1, rfl, hr6⟩ := hpp
                    have HR6 := As.mk hr6
                    obtain ⟨A7, n7, c7, e7, _, _, _⟩ := hr6.rd
                    subst e7
                    have HO6 := As.mk (HO5.out.none_ HF6.out)
                    obtain ⟨A8, c8, e8, _, _, _⟩ := HO6.out.row.rd
                    subst e8
                    have hnew := heap_alloc_new w6 (.cells #[.int .u32 m.seq, .slice A7 n7 c7, .int .i64 m.spare, .int .i64 m.dead, .int .i64 m.done] 40)
                    have HF7 := As.mk ((Fr.refl None_ w6).alloc (.cells #[.int .u32 m.seq, .slice A7 n7 c7, .int .i64 m.spare, .int .i64 m.dead, .int .i64 m.done] 40))
                    clear hr6
                    go_upto_region 23 with fail
                    generalize w6.alloc (.cells #[.int .u32 m.seq, .slice A7 n7 c7, .int .i64 m.spare, .int .i64 m.dead, .int .i64 m.done] 40) = w7 at *
                    generalize w6.heap.size = sb at *
                    have s0 := cell_is (v := .int .u32 m.seq) (i := 0) hnew rfl
                    have s1' := cell_is (v := .slice A7 n7 c7) (i := 1) hnew rfl
                    have s2' := cell_is (v := .int .i64 m.spare) (i := 2) hnew rfl
                    have s3 := cell_is (v := .int .i64 m.dead) (i := 3) hnew rfl
                    have s4 := cell_is (v := .int .i64 m.done) (i := 4) hnew rfl
                    have HO7 := As.mk (HO6.out.none_ HF7.out)
                    have hrow7 := HO7.out.row
                    have hset9 : τ2.sets.length ≤ 1000 := by have := HS2.out.2.2.1; omega
                    have HROW7 := As.mk (show RowV 40 5 w7 w.heap.size (.slice A8 τ2.sets.length c8) τ2.sets.length vs2 from hrow7)
                    have HW7 := As.mk HO7.out.fr.size
                    clear hnew hrow7
                    go_wp2_with (at_builtin; (with_reducible refine appendV w.heap.size rfl _ _ 98 40 (.agg #[.int .u32 0, .slice none 0 0, .int .i64 0, .int .i64 0, .int .i64 0]) 5 56 rfl Tryz.underlying98 infoMS rfl (by decide) (by decide) (.slice A8 τ2.sets.length c8) τ2.sets.length vs2 #[.int .u32 m.seq, .slice A7 n7 c7, .int .i64 m.spare, .int .i64 m.dead, .int .i64 m.done] _ rfl rfl rfl rfl ?o0 HROW7.out ?o2 ?o3 ?_); (case o0 => intro u hu; simp at hu; rcases hu with rfl | rfl | rfl | rfl | rfl <;> rfl); (case o2 => exact HW7.out); (case o3 => omega); intro v9 w9 hrow9 hfr9 hat9; have HR9 := As.mk hrow9; have HF9 := As.mk hfr9; clear hrow9 hfr9 hat9; obtain ⟨A9, c9, e9, _, _, _⟩ := HR9.out.rd; subst e9)
                    have hO9 := HO7.out.snoc HGO.out (m := m) (v1 := .slice A7 n7 c7) (HMOK.out m rfl) (N := w5.heap.size) (fun c u hc hu => by
                      obtain ⟨h1, h2⟩ := HVB.out c u hc hu
                      exact ⟨fun ad e => Nat.lt_of_lt_of_le (h1 ad e) HSZ5.out, fun ad e => Nat.lt_of_lt_of_le (h2 ad e) HSZ5.out⟩) HO5.out.fr.size (HR6.out.none_ HF7.out) HR9.out HF9.out
                    exact ⟨⟨j + 1, _, _, rfl, by omega, HR3, ⟨hO9⟩, ⟨HGR.out.2.1.trans HS2.out.1, HSR.out, by have := HS2.out.2.2.1; show (τ2.sets ++ [m]).length ≤ _; rw [List.length_append, List.length_singleton]; omega, HS2.out.2.2.2.1, fun m' hm' => by
                      rcases List.mem_append.1 hm' with h9 | h9
                      · exact HS2.out.2.2.2.2 m' h9
                      · obtain rfl := List.mem_singleton.1 h9
                        exact HMFW.out m' rfl⟩⟩, by simp [intOf]; omega⟩
                · have d0 : (k2 == 0) = false := beq_eq_false_iff_ne.2 hk0
                  have HR3 := As.mk (HBR.out _ _ (by rw [HRD.out, if_neg hk7, if_neg hk0]))
                  have HA3 := As.mk (show (τ0 s).all f x (i + 1) = ({ τ2 with s := s2 }, k2) from by rw [HA1.out, HR3.out])
                  have HK0 := As.mk hk0
                  clear hk0 hk7
                  go_wp2_with fail
                  exact HBD.out _ _ (i + 1) _ k2 (by omega) HA3.out HK0.out rfl HN5.out HO5.out.fr
            · obtain rfl : j = 2 := by omega
              have HA3 := As.mk (show (τ0 s).all f x (i + 1) = (τ2, 0) from by rw [HA1.out, HA2.out])
              have hjI : ¬ ((2 : Nat) : Int) < 2 := by omega
              go_wp2_with fail
              exact ⟨⟨i + 1, τ2, V1, vs2, rfl, by omega, HA3, HO4, ⟨HS2.out.1, HS2.out.2.1.le (by omega), by have := HS2.out.2.2.1; omega, HS2.out.2.2.2.2⟩⟩, by simp [intOf]; omega⟩
      · obtain rfl : i = n := by omega
        have hltI : ¬ (i : Int) < (i : Int) := by omega
        obtain ⟨A8, c8, e8, _, _, _⟩ := HO.out.row.rd
        subst e8
        obtain ⟨gb, hgA, hsts⟩ := HO.out.sets_ rfl
        have hs1000 : τ.sets.length ≤ 1000 := by have := HS.out.2.2.1; omega
        have HNW := As.mk (NewQ.Newest_calls _ τ.sets w.heap.size gb τ.sets.length c8 A8 wr hsts hgA hs1000)
        unfold NewQ.NewPost at HNW
        have HAN := As.mk (show (τ0 s).all f x s.n = (τ, 0) from by rw [HNE.out]; exact HA.out)
        clear hgA hsts
        rcases hnw : newest τ.sets with _ | m
        · rw [hnw] at HNW
          have HNI := As.mk hnw
          have HPF := As.mk (show ∀ e w', e = Ending.returned (.tuple #[.pointer none, .int .i64 62]) → Fr None_ wr w' → Q e w' from fun e w' h1 h2 => by
            rw [← HQ.out]
            refine ⟨by rw [HNE.out]; exact HO.out.fr.after h2 (fun _ _ h => h.elim), .inr (.inl ?_)⟩
            rw [HAN.out]
            exact ⟨rfl, HNI.out, h1, HO.out.nand.none_ h2⟩)
          clear hnw
          go_wp2_with fail
          ((with_reducible refine HNW.out.mono ?_); rintro e w2 ⟨v2, rfl, hf2, rfl⟩)
          have HF2 := As.mk hf2
          clear hf2 HNW
          go_wp2_with fail
          exact HPF.out _ _ rfl (HF2.out.alloc _)
        · rw [hnw] at HNW
          have HNI := As.mk hnw
          have HMEM := As.mk (newest_mem hnw)
          clear hnw
          go_wp2_with fail
          ((with_reducible refine HNW.out.mono ?_); rintro e w2 ⟨v2, rfl, hf2, v1, rfl, hrq⟩)
          have HF2 := As.mk hf2
          have HRQ := As.mk hrq
          obtain ⟨A7, n7, c7, e7, _, _, _⟩ := hrq.rd
          subst e7
          clear hf2 HNW hrq
          go_upto_region 29 with fail
          have hnew := heap_alloc_new w2 (.cells #[.int .u32 m.seq, .slice A7 n7 c7, .int .i64 m.spare, .int .i64 m.dead, .int .i64 m.done] 40)
          have HF3 := As.mk (HF2.out.alloc (.cells #[.int .u32 m.seq, .slice A7 n7 c7, .int .i64 m.spare, .int .i64 m.dead, .int .i64 m.done] 40))
          have HR3 := As.mk (HRQ.out.none_ ((Fr.refl None_ w2).alloc (.cells #[.int .u32 m.seq, .slice A7 n7 c7, .int .i64 m.spare, .int .i64 m.dead, .int .i64 m.done] 40)))
          generalize w2.alloc (.cells #[.int .u32 m.seq, .slice A7 n7 c7, .int .i64 m.spare, .int .i64 m.dead, .int .i64 m.done] 40) = w3 at *
          generalize w2.heap.size = sb at *
          have s0 := cell_is (v := .int .u32 m.seq) (i := 0) hnew rfl
          have s1' := cell_is (v := .slice A7 n7 c7) (i := 1) hnew rfl
          have s2' := cell_is (v := .int .i64 m.spare) (i := 2) hnew rfl
          have s3 := cell_is (v := .int .i64 m.dead) (i := 3) hnew rfl
          have s4 := cell_is (v := .int .i64 m.done) (i := 4) hnew rfl
          have HO3 := As.mk (HO.out.none_ HF3.out)
          have hm3 := HO3.out.main
          unfold ocells at hm3
          have r6 := cell_is (i := 6) hm3 rfl
          have r7 := cell_is (i := 7) hm3 rfl
          have r8 := cell_is (i := 8) hm3 rfl
          have r9 := cell_is (i := 9) hm3 rfl
          have r10 := cell_is (i := 10) hm3 rfl
          have f6 := free_of (i := 6) hm3
          have f7 := free_of (i := 7) hm3
          have f8 := free_of (i := 8) hm3
          have f9 := free_of (i := 9) hm3
          have f10 := free_of (i := 10) hm3
          obtain ⟨t1, t2⟩ := set_arr hm3 (.int .u32 m.seq) (.slice A7 n7 c7) (.int .i64 m.spare) (.int .i64 m.dead) (.int .i64 m.done)
          obtain ⟨cb, hA9, hcb⟩ := HO3.out.array HGO.out (HO3.out.ok m HMEM.out) HR3.out.1 HR3.out.2 t2 t1
          have HA9 := As.mk hA9
          have HT2 := As.mk t2
          have HCB := As.mk hcb
          have HSEQ := As.mk (HS.out.2.2.2 m HMEM.out)
          have HFR9 := As.mk (HO3.out.fr.after t2 (fun b hb e => absurd hb (by have := HO3.out.lo.1; omega)))
          clear hnew hm3 t1 t2 hA9 hcb
          go_upto_region 30 with fail
          generalize ((((w3.setCell ⟨xb, 6, none⟩ (.int .u32 m.seq)).setCell ⟨xb, 7, none⟩ (.slice A7 n7 c7)).setCell ⟨xb, 8, none⟩ (.int .i64 m.spare)).setCell ⟨xb, 9, none⟩ (.int .i64 m.dead)).setCell ⟨xb, 10, none⟩ (.int .i64 m.done) = w4 at *
          clear s0 s1' s2' s3 s4 r6 r7 r8 r9 r10 f6 f7 f8 f9 f10
          have HKP := As.mk (look_keeps ⟨τ.s, τ.vol, m, false⟩)
          have hlk : Calls Tryz.prog 39 #[.pointer (some ⟨xb, 0, none⟩)] w4 (LookPost ⟨τ.s, τ.vol, m, false⟩ ⟨L, p, xb, vb, cb, c7, V⟩ w4) := look_calls ⟨τ.s, τ.vol, m, false⟩ ⟨L, p, xb, vb, cb, c7, V⟩ w4 HA9.out
          unfold LookPost at hlk
          have HLK := As.mk hlk
          have HPF := As.mk (show ∀ e w', Fr (NF p L i s.nb) w w' → (((Ar.look ⟨τ.s, τ.vol, m, false⟩).2 ≠ 0 ∧ e = Ending.returned (.tuple #[.pointer none, .int .i64 (Ar.look ⟨τ.s, τ.vol, m, false⟩).2]) ∧ Nand w' p (Ar.look ⟨τ.s, τ.vol, m, false⟩).1.s L) ∨ ((Ar.look ⟨τ.s, τ.vol, m, false⟩).2 = 0 ∧ ∃ K, e = .returned (.tuple #[.pointer (some ⟨K.x, 0, none⟩), .int .i64 (Ar.look ⟨τ.s, τ.vol, m, false⟩).1.save.2]) ∧ ArAt w' (Ar.look ⟨τ.s, τ.vol, m, false⟩).1.save.1 K ∧ ANew w.heap.size p L K)) → Q e w' from fun e w' h1 h2 => by
            rw [← HQ.out]
            refine ⟨by rw [HNE.out]; exact h1, .inr (.inr ?_)⟩
            rw [HAN.out]
            exact ⟨rfl, m, HNI.out, h2⟩)
          clear hlk
          obtain ⟨lk, hlkd⟩ : ∃ lk, Ar.look ⟨τ.s, τ.vol, m, false⟩ = lk := ⟨_, rfl⟩
          rw [hlkd] at HKP HLK HPF
          obtain ⟨σ1, k⟩ := lk
          dsimp only at HKP HLK HPF
          clear hlkd
          go_wp2_with fail
          ((with_reducible refine HLK.out.mono ?_); rintro e w5 ⟨rfl, hA5, hf5⟩)
          have HA5 := As.mk hA5
          have HF5 := As.mk (show Fr (NF p L i s.nb) w w5 from HFR9.out.after hf5 (fun b hb e => absurd (show b = xb from e) (by have := HO.out.lo.1; omega)))
          clear hA5 hf5 HLK
          by_cases hk : k = 0
          · subst hk
            have hsv : Calls Tryz.prog 34 #[.pointer (some ⟨xb, 0, none⟩)] w5 (SvPost σ1 ⟨L, p, xb, vb, cb, c7, V⟩ w5) := ArrG.save_calls σ1 ⟨L, p, xb, vb, cb, c7, V⟩ w5 HA5.out (by rw [HKP.out.2]; exact HSEQ.out) 0 (by rw [HKP.out.1]; exact HS.out.2.1.le (by omega))
            unfold SvPost at hsv
            have HSV := As.mk hsv
            clear hsv
            go_wp2_with fail
            ((with_reducible refine HSV.out.mono ?_); rintro e w6 ⟨rfl, hA6, hf6⟩)
            have HA6 := As.mk hA6
            have HF6 := As.mk (show Fr (NF p L i s.nb) w w6 from HF5.out.after hf6 (fun b hb e => by
              rcases e with e | e | e
              · have h1 : σ1.s.n = i := by unfold St.n; rw [HKP.out.1]; exact HO.out.nn.1
                have h2 : σ1.s.nb = s.nb := by unfold St.nb; rw [HKP.out.1]; exact HO.out.nn.2
                rw [h1, h2] at e
                exact e
              · exact absurd (show b = xb from e) (by have := HO.out.lo.1; omega)
              · exact absurd (show b = vb from e) (by have := HO.out.lo.2; omega)))
            have HNW2 := As.mk (show ANew w.heap.size p L ⟨L, p, xb, vb, cb, c7, V⟩ from ⟨rfl, rfl, HO.out.lo.1, HO.out.lo.2, HCB.out⟩)
            clear hA6 hf6 HSV
            go_wp2_with fail
            exact HPF.out _ _ HF6.out (.inr ⟨by trivial, ⟨L, p, xb, vb, cb, c7, V⟩, rfl, HA6.out, HNW2.out⟩)
          · have d0 : (k != 0) = true := by rw [bne_iff_ne]; exact hk
            have HK0 := As.mk hk
            clear hk
            go_wp2_with fail
            exact HPF.out _ _ HF5.out (.inl ⟨HK0.out, rfl, HA5.out.nand⟩)
end Go.Proofs.YteofgpaceeibpaaGreat.OpnB
namespace Go.Proofs.YteofgpaceeibpaaGreat.Blank
open Go.RowKit Go.Proofs.YteofgpaceeibpaaGreat.Gab Go.Proofs.YteofgpaceeibpaaGreat.Fields Go.Proofs.YteofgpaceeibpaaGreat.Open
open Go.Proofs.YteofgpaceeibpaaGreat.Wr (InR)
set_option linter.unusedVariables false
set_option linter.unusedSimpArgs false
def allFF (xs : List Int) : Prop := ∀ b ∈ xs, b = 255
theorem allFF_of {xs : List Int} (h : ∀ j, j < xs.length → xs.getD j 0 = 255) : allFF xs := fun b hb => by
  obtain ⟨i, hi, rfl⟩ := List.getElem_of_mem hb
  have := h i hi
  rwa [List.getD_eq_getElem?_getD, List.getElem?_eq_getElem hi] at this

theorem index0 (u v : Value) (w : World) : (Instr.index 150 (.agg #[u, v]) (.int .i64 0)).run Tryz.prog w = .ok u w := by kernel_rfl
theorem index1 (u v : Value) (w : World) : (Instr.index 150 (.agg #[u, v]) (.int .i64 1)).run Tryz.prog w = .ok v w := by kernel_rfl
set_option maxHeartbeats 4000000 in
set_option maxRecDepth 100000 in
theorem Blank_calls (A B : Option Addr) (n c m d : Nat) (xs ys : List Int) (w : World) (hA : Rd .u8 w A n xs) (hB : Rd .u8 w B m ys) (r : Bool) (hr : r = true ↔ allFF xs ∧ allFF ys) :
    Calls Tryz.prog 41 #[.slice A n c, .slice B m d] w fun e w' => e = .returned (.bool r) ∧ Fr None_ w w' := by
  have HA := As.mk hA
  have HB := As.mk hB
  have HR := As.mk hr
  have hn := hA.2.1
  have hm := hB.2.1
  have hi0 := index0
  have hi1 := index1
  clear hA hB hr
  go_enter Tryz.func41, Tryz.ntmps41
  go_wp2_with fail
  go_loopw [6, 8, 12, 17] (fun v6 v8 v12 v17 w' => ∃ j : Int, v12 = .int .i64 j ∧ 0 ≤ j ∧ j ≤ 2 ∧ As (1 ≤ j → allFF xs) ∧ As (2 ≤ j → allFF ys) ∧ As (Fr None_ w w')) (fun _ _ v12 _ _ => (2 - intOf v12).toNat)
  case atStart => exact ⟨0, rfl, by omega, by omega, ⟨fun h => absurd h (by decide)⟩, ⟨fun h => absurd h (by decide)⟩, ⟨Fr.refl _ _⟩⟩
  case round =>
    obtain ⟨j, rfl, hj0, hj2, HX, HY, HF⟩ := hrel
    have hj : j = 0 ∨ j = 1 ∨ j = 2 := by omega
    rcases hj with rfl | rfl | rfl
    · go_wp2_with fail
      go_loopw [8, 17] (fun v8 v17 w' => ∃ i : Int, v17 = .int .i64 i ∧ 0 ≤ i ∧ i ≤ (n : Int) ∧ As (∀ k : Nat, (k : Int) < i → xs.getD k 0 = 255) ∧ As (Fr None_ w w')) (fun _ v17 _ => n - (intOf v17).toNat)
      case atStart => exact ⟨0, rfl, by omega, by omega, ⟨fun k h => absurd h (by omega)⟩, HF⟩
      case round =>
        obtain ⟨i, rfl, hi0, hi1, HI, HG⟩ := hrel
        by_cases hlt : i < (n : Int)
        · obtain ⟨ad, e, hc⟩ := (HA.out.none_ HG.out).at_ i hi0 hlt
          subst e
          by_cases e : xs.getD i.toNat 0 = 255
          · rw [e] at hc
            have HE := As.mk e
            clear e
            go_wp2_with fail
            exact ⟨⟨i + 1, rfl, by omega, by omega, ⟨fun k hk => by by_cases h : (k : Int) < i; exact HI.out k h; (rw [show k = i.toNat by omega]; exact HE.out)⟩, HG⟩, by simp [intOf]; omega⟩
          · have HE : As (r = false) := ⟨by
              cases r
              · rfl
              · exfalso
                have h := (HR.out.1 rfl).1
                refine e (h _ ?_)
                have hl := HA.out.1
                rw [List.getD_eq_getElem?_getD, List.getElem?_eq_getElem (by omega)]
                exact List.getElem_mem _⟩
            have hb : (xs.getD i.toNat 0 != 255) = true := by simp only [bne_iff_ne, ne_eq]; exact e
            generalize xs.getD i.toNat 0 = z at *
            go_wp2_with fail
            go_ret
            exact ⟨by rw [HE.out]; rfl, HG.out⟩
        · have HXX : As (allFF xs) := ⟨allFF_of (fun k hk => HI.out k (by have := HA.out.1; omega))⟩
          go_wp2_with fail
          exact ⟨⟨1, rfl, by omega, by omega, ⟨fun _ => HXX.out⟩, ⟨fun h => absurd h (by decide)⟩, HG⟩, by simp [intOf]⟩
    · go_wp2_with fail
      go_loopw [8, 17] (fun v8 v17 w' => ∃ i : Int, v17 = .int .i64 i ∧ 0 ≤ i ∧ i ≤ (m : Int) ∧ As (∀ k : Nat, (k : Int) < i → ys.getD k 0 = 255) ∧ As (Fr None_ w w')) (fun _ v17 _ => m - (intOf v17).toNat)
      case atStart => exact ⟨0, rfl, by omega, by omega, ⟨fun k h => absurd h (by omega)⟩, HF⟩
      case round =>
        obtain ⟨i, rfl, hi0, hi1, HI, HG⟩ := hrel
        by_cases hlt : i < (m : Int)
        · obtain ⟨ad, e, hc⟩ := (HB.out.none_ HG.out).at_ i hi0 hlt
          subst e
          by_cases e : ys.getD i.toNat 0 = 255
          · rw [e] at hc
            have HE := As.mk e
            clear e
            go_wp2_with fail
            exact ⟨⟨i + 1, rfl, by omega, by omega, ⟨fun k hk => by by_cases h : (k : Int) < i; exact HI.out k h; (rw [show k = i.toNat by omega]; exact HE.out)⟩, HG⟩, by simp [intOf]; omega⟩
          · have HE : As (r = false) := ⟨by
              cases r
              · rfl
              · exfalso
                have h := (HR.out.1 rfl).2
                refine e (h _ ?_)
                have hl := HB.out.1
                rw [List.getD_eq_getElem?_getD, List.getElem?_eq_getElem (by omega)]
                exact List.getElem_mem _⟩
            have hb : (ys.getD i.toNat 0 != 255) = true := by simp only [bne_iff_ne, ne_eq]; exact e
            generalize ys.getD i.toNat 0 = z at *
            go_wp2_with fail
            go_ret
            exact ⟨by rw [HE.out]; rfl, HG.out⟩
        · have HYY : As (allFF ys) := ⟨allFF_of (fun k hk => HI.out k (by have := HB.out.1; omega))⟩
          go_wp2_with fail
          exact ⟨⟨2, rfl, by omega, by omega, ⟨fun _ => HX.out (by decide)⟩, ⟨fun _ => HYY.out⟩, HG⟩, by simp [intOf]⟩
    · have HE : As (r = true) := ⟨HR.out.2 ⟨HX.out (by decide), HY.out (by decide)⟩⟩
      go_wp2_with fail
      go_ret
      exact ⟨by rw [HE.out]; rfl, HF.out⟩
end Go.Proofs.YteofgpaceeibpaaGreat.Blank
namespace Go.Proofs.YteofgpaceeibpaaGreat.ARowB
open Go.RowKit Go.Proofs.YteofgpaceeibpaaGreat.Gab Go.Proofs.YteofgpaceeibpaaGreat.Geom Go.Proofs.YteofgpaceeibpaaGreat.Sum Go.Proofs.YteofgpaceeibpaaGreat.Ref Go.Proofs.YteofgpaceeibpaaGreat.Par Go.Proofs.YteofgpaceeibpaaGreat.Fields Go.Proofs.YteofgpaceeibpaaGreat.Seal Go.Proofs.YteofgpaceeibpaaGreat.Nand Go.Proofs.YteofgpaceeibpaaGreat.NandA Go.Proofs.YteofgpaceeibpaaGreat.NandH Go.Proofs.YteofgpaceeibpaaGreat.ArrA Go.Proofs.YteofgpaceeibpaaGreat.ArrD Go.Proofs.YteofgpaceeibpaaGreat.AOrd Go.Proofs.YteofgpaceeibpaaGreat.AWrA Go.Proofs.YteofgpaceeibpaaGreat.StgA Go.Proofs.YteofgpaceeibpaaGreat.ARead Go.Proofs.YteofgpaceeibpaaGreat.AGet
open Go.Proofs.YteofgpaceeibpaaGreat.Wr (InR)
open Go.Proofs.YteofgpaceeibpaaGreat.Heap (cell_is)
open Go.Proofs.YteofgpaceeibpaaGreat.Blank (allFF Blank_calls)
set_option linter.unusedVariables false
set_option linter.unusedSimpArgs false

/-- All members are read, one behind the other; nothing stands there. -/
structure Bare (σ : Ar) (seg row : Int) (c : Nat → Ar) : Prop where
  zero : c 0 = σ
  there : ∀ m : Nat, (m : Int) < σ.s.g.c → (c m).There
  g : ∀ m : Nat, (m : Int) < σ.s.g.c → (c m).s.g = σ.s.g
  safe : ∀ m : Nat, (m : Int) < σ.s.g.c → ∃ n, (c m).s.Safe (n + 1)
  one : ∀ m : Nat, (m : Int) < σ.s.g.c → ∃ x, One (c m) m seg.toNat row.toNat (c (m + 1), 0) x ∧ allFF x.1 ∧ allFF x.2
def BarePost (σ τ : Ar) (K : ALay) (w : World) (e : Ending) (w' : World) : Prop := e = .returned (.tuple #[.slice none 0 0, .int .i64 0, .int .i64 0]) ∧ ArAt w' τ K ∧ Fr (AF K σ) w w'

set_option maxHeartbeats 8000000 in
set_option maxRecDepth 100000 in
theorem Row_bare (σ : Ar) (K : ALay) (seg row : Int) (c : Nat → Ar) (w : World) (hR : ArAt w σ K) (ha : σ.s.g.At seg row) (hB : Bare σ seg row c) :
    Calls Tryz.prog 12 #[dev K.x, .int .i64 seg, .int .i64 row] w (BarePost σ (c σ.s.g.c.toNat) K w) := by
  have hok : σ.s.g.Ok := hR.nand.ok
  have HR := As.mk hR
  have hb := hok.b
  have hc := hok.c
  have hgc0 : 3 ≤ σ.s.g.c := hc.1
  have hgc1 : σ.s.g.c ≤ 16 := hc.2
  have HAT := As.mk ha
  have HG := As.mk (fun w' (hf : Fr None_ w w') => ArrA.Geo_calls σ K w' (hR.none_ hf))
  have HNU := As.mk (fun w => Number_calls σ.s.g seg row 0 w hok ha (Int.le_refl _) (by omega))
  have hnum : 1 ≤ σ.s.g.num seg row 0 := by
    have h1 : 0 ≤ (seg * σ.s.g.p + row) * (σ.s.g.c - 1) := Int.mul_nonneg (by have := mul_range hok ha; have := ha.row; omega) (by omega)
    unfold Geo.num
    omega
  have hnb : (σ.s.g.num seg row 0 == 0) = false := by rw [beq_eq_false_iff_ne]; omega
  generalize σ.s.g.num seg row 0 = num at *
  have HROW : As (∀ (m : Int) (x : List Int × List Int) (wr : World), ArAt wr (c m.toNat) K → 0 ≤ m → m < σ.s.g.c → One (c m.toNat) m.toNat seg.toNat row.toNat (c (m.toNat + 1), 0) x →
      Calls Tryz.prog 22 #[.pointer (some ⟨K.x, 0, none⟩), .int .i64 m, .int .i64 seg, .int .i64 row] wr (OnePost σ K (c (m.toNat + 1), 0) x wr)) := ⟨fun m x wr hA h0 h1 ho => by
    obtain ⟨n, hs⟩ := hB.safe m.toNat (by omega)
    exact Read_one σ (c m.toNat) K m seg row _ x wr hA (hB.there m.toNat (by omega)) (hB.g m.toNat (by omega)) h0 h1 HAT.out ho n hs⟩
  have HB := As.mk hB
  unfold dev Geo.val at *
  clear hR hok ha hB hnum
  go_enter Tryz.func12, Tryz.ntmps12
  go_wp2_with fail
  ((with_reducible refine (HG.out _ (Fr.refl _ _)).mono ?_); rintro e w1 ⟨rfl, hf1⟩)
  have HF1 := As.mk hf1
  have HGEO := As.mk (heap_alloc_new w1 (.cells #[.int .i64 σ.s.g.c, .int .i64 σ.s.g.b, .int .i64 σ.s.g.p, .int .i64 σ.s.g.s] 24))
  have HF2 := As.mk (hf1.alloc (.cells #[.int .i64 σ.s.g.c, .int .i64 σ.s.g.b, .int .i64 σ.s.g.p, .int .i64 σ.s.g.s] 24))
  clear hf1
  go_upto_region 4 with fail
  generalize w1.alloc (.cells #[.int .i64 σ.s.g.c, .int .i64 σ.s.g.b, .int .i64 σ.s.g.p, .int .i64 σ.s.g.s] 24) = w2 at *
  generalize w1.heap.size = gg at *
  have z0 := cell_is (i := 0) HGEO.out rfl
  have z1 := cell_is (i := 1) HGEO.out rfl
  have z2 := cell_is (i := 2) HGEO.out rfl
  have z3 := cell_is (i := 3) HGEO.out rfl
  go_wp2_with fail
  ((with_reducible refine (HNU.out _).mono ?_); rintro e w3 ⟨rfl, hf3⟩)
  have HGE3 := As.mk (hf3.heap HGEO.out (fun h => h))
  have HF3 := As.mk (HF2.out.after hf3 (fun _ _ h => h))
  have HR3 := As.mk (HR.out.none_ HF3.out)
  clear hf3 z0 z1 z2 z3
  have z0 := cell_is (i := 0) HGE3.out rfl
  have HGN := As.mk (show ¬ AF K σ gg from fun ha => by
    have h := HR3.out
    rcases ha with ha | ha | ha
    · exact h.nand.ne HGE3.out ⟨by decide, by decide, by decide, by decide, by decide⟩ ha
    · exact blk_ne HGE3.out h.main (by decide) ha
    · obtain ⟨ds, e, _⟩ := h.vols
      exact blk_ne HGE3.out e (by decide) ha)
  go_wp2_with fail
  clear z0
  go_loopw [10, 11, 12, 13, 14, 15, 16, 36, 57, 64, 68, 72] (fun v10 v11 v12 v13 v14 v15 v16 v36 v57 v64 v68 v72 w' => ∃ (m : Int), v36 = .int .i64 m ∧ v10 = .int .i64 m ∧ v11 = .int .i64 0 ∧ v12 = .int .i64 (-1) ∧ 0 ≤ m ∧ m ≤ σ.s.g.c ∧ As (ArAt w' (c m.toNat) K) ∧ As (Fr (AF K σ) w3 w')) (fun _ _ _ _ _ _ _ v36 _ _ _ _ _ => (σ.s.g.c - intOf v36).toNat)
  case atStart => exact ⟨0, rfl, rfl, rfl, rfl, by omega, by omega, ⟨by show ArAt w3 (c 0) K; rw [HB.out.zero]; exact HR3.out⟩, ⟨Fr.refl _ _⟩⟩
  case round =>
    obtain ⟨m, rfl, rfl, rfl, rfl, hm0, hm1, HX, HST⟩ := hrel
    by_cases hlt : m < σ.s.g.c
    · obtain ⟨x, ho, hx1, hx2⟩ := HB.out.one m.toNat (by omega)
      have HRD := As.mk (HROW.out m x wr HX.out hm0 hlt ho)
      have HXF := As.mk (show allFF x.1 ∧ allFF x.2 from ⟨hx1, hx2⟩)
      clear ho hx1 hx2
      go_wp2_with fail
      ((with_reducible refine HRD.out.mono ?_); rintro e w4 ⟨A3, n3, c3, A4, n4, c4, rfl, ha4, hf4, hz4, _⟩)
      have HR1 := As.mk (hz4 rfl).1
      have HR2 := As.mk (hz4 rfl).2
      have HF4 := As.mk (HST.out.after hf4 (fun _ _ h => h))
      have HA4 := As.mk ha4
      clear hz4 ha4 hf4
      obtain ⟨_, _, _, e3, hm3, hd3, _⟩ := HR1.out.rd
      obtain ⟨_, _, _, e4, hm4, hd4, _⟩ := HR2.out.rd
      injection e3 with q1 q2 q3
      injection e4 with q4 q5 q6
      subst q1 q2 q3 q4 q5 q6
      have HBL := As.mk (Blank_calls A3 A4 n3 c3 n4 c4 x.1 x.2 w4 hd3.out hd4.out true ⟨fun _ => HXF.out, fun _ => rfl⟩)
      go_wp2_with ((with_reducible refine HBL.out.mono ?_); rintro e w5 ⟨rfl, hf5⟩; have HF5 := As.mk hf5; clear hf5)
      exact ⟨⟨m + 1, rfl, rfl, rfl, rfl, by omega, by omega, ⟨by rw [show (m + 1).toNat = m.toNat + 1 by omega]; exact HA4.out.none_ HF5.out⟩, ⟨HF4.out.after HF5.out (fun _ _ h => h.elim)⟩⟩, by simp [intOf]; omega⟩
    · have hme : m = σ.s.g.c := by omega
      have HXE := As.mk (show ArAt wr (c σ.s.g.c.toNat) K from by rw [← hme]; exact HX.out)
      have z0 := cell_is (i := 0) (HST.out.heap HGE3.out HGN.out) rfl
      rw [hme]
      clear hme
      go_wp2_with fail
      go_ret3
      exact ⟨rfl, HXE.out, (HF3.out.mono (fun _ _ h => h.elim)).after HST.out (fun _ _ h => h)⟩
end Go.Proofs.YteofgpaceeibpaaGreat.ARowB
namespace Go.Proofs.YteofgpaceeibpaaGreat.PlD
open Go.RowKit Go.Proofs.YteofgpaceeibpaaGreat.Gab Go.Proofs.YteofgpaceeibpaaGreat.Geom Go.Proofs.YteofgpaceeibpaaGreat.Ref Go.Proofs.YteofgpaceeibpaaGreat.Fields Go.Proofs.YteofgpaceeibpaaGreat.Seal Go.Proofs.YteofgpaceeibpaaGreat.Nand Go.Proofs.YteofgpaceeibpaaGreat.NandA Go.Proofs.YteofgpaceeibpaaGreat.NandB Go.Proofs.YteofgpaceeibpaaGreat.NandC Go.Proofs.YteofgpaceeibpaaGreat.NandD Go.Proofs.YteofgpaceeibpaaGreat.NandE Go.Proofs.YteofgpaceeibpaaGreat.NandF Go.Proofs.YteofgpaceeibpaaGreat.NandH Go.Proofs.YteofgpaceeibpaaGreat.Rdz Go.Proofs.YteofgpaceeibpaaGreat.RemapA Go.Proofs.YteofgpaceeibpaaGreat.RemapD Go.Proofs.YteofgpaceeibpaaGreat.RemapF Go.Proofs.YteofgpaceeibpaaGreat.RemapG Go.Proofs.YteofgpaceeibpaaGreat.VolA Go.Proofs.YteofgpaceeibpaaGreat.VolB Go.Proofs.YteofgpaceeibpaaGreat.VolD Go.Proofs.YteofgpaceeibpaaGreat.VolE Go.Proofs.YteofgpaceeibpaaGreat.VolF Go.Proofs.YteofgpaceeibpaaGreat.VolG Go.Proofs.YteofgpaceeibpaaGreat.MemA Go.Proofs.YteofgpaceeibpaaGreat.MemB Go.Proofs.YteofgpaceeibpaaGreat.MemC Go.Proofs.YteofgpaceeibpaaGreat.MemD Go.Proofs.YteofgpaceeibpaaGreat.MemF Go.Proofs.YteofgpaceeibpaaGreat.ArrA Go.Proofs.YteofgpaceeibpaaGreat.ArrC Go.Proofs.YteofgpaceeibpaaGreat.ArrD Go.Proofs.YteofgpaceeibpaaGreat.ArrE Go.Proofs.YteofgpaceeibpaaGreat.ArrF Go.Proofs.YteofgpaceeibpaaGreat.ArrG Go.Proofs.YteofgpaceeibpaaGreat.ArrH Go.Proofs.YteofgpaceeibpaaGreat.ArrI Go.Proofs.YteofgpaceeibpaaGreat.OpnA Go.Proofs.YteofgpaceeibpaaGreat.OpnB Go.Proofs.YteofgpaceeibpaaGreat.AGet Go.Proofs.YteofgpaceeibpaaGreat.ARowB Go.Proofs.YteofgpaceeibpaaGreat.LawA Go.Proofs.YteofgpaceeibpaaGreat.PlA Go.Proofs.YteofgpaceeibpaaGreat.PlB
open Go.Proofs.YteofgpaceeibpaaGreat.Open (openOf)
open Go.Proofs.YteofgpaceeibpaaGreat.Wr (InR)
open Go.Proofs.YteofgpaceeibpaaGreat.Blank (allFF)
set_option linter.unusedVariables false
set_option linter.unusedSimpArgs false

/-- The three shapes. -/
def Shape (g : Geo) : Prop := g = ⟨3, 16, 4, 256⟩ ∨ g = ⟨4, 16, 4, 256⟩ ∨ g = ⟨5, 16, 4, 256⟩
theorem shape_of (n : Int) : Shape (geoOf n) := by
  have h : u64of n % 3 = 0 ∨ u64of n % 3 = 1 ∨ u64of n % 3 = 2 := by omega
  unfold geoOf
  rcases h with h | h | h
  · rw [h]; exact .inl rfl
  · rw [h]; exact .inr (.inl rfl)
  · rw [h]; exact .inr (.inr rfl)
theorem Shape.ok {g : Geo} (h : Shape g) : g.Ok := by
  rcases h with rfl | rfl | rfl <;> exact ⟨by decide, by decide, by decide, by decide, by decide⟩
theorem tb_ok {g : Geo} (hg : g.Ok) : (tb g).Ok g := up_ok (tabOf_ok hg) (by show (0 : Int) < 4294967295; decide)
theorem tab_open {g : Geo} (hg : g.Ok) : openOf (tpage g).1 (tpage g).2 = ((tb g).hd, true) := open_sealed (hd_ok (by show (0 : Int) ≤ 0 + 1; decide) (by show (0 : Int) + 1 < 4294967296; decide)) (by show (1 : Int) ≤ 1; decide) (by show (1 : Int) ≤ 6; decide) _
def m1 (g : Geo) : MS := { first g with seq := 1 }
theorem m1_ok {g : Geo} (hg : g.Ok) : (m1 g).Ok g := first_ok hg (by decide) (by decide)
theorem set_open {g : Geo} (hg : g.Ok) : openOf (spage g 1).1 (spage g 1).2 = ((m1 g).hd, true) := open_sealed ⟨by show (0 : Int) ≤ 2 ∧ (2 : Int) < 256; decide, by show (0 : Int) ≤ 1 ∧ (1 : Int) < 4294967296; decide, by show (0 : Int) ≤ 0 ∧ (0 : Int) < 4294967296; decide, by show (0 : Int) ≤ 0 ∧ (0 : Int) < 65536; decide, by show (0 : Int) ≤ 1 ∧ (1 : Int) < 65536; decide, by show (0 : Int) ≤ 0 ∧ (0 : Int) < 4294967296; decide, by show (0 : Int) ≤ 0 ∧ (0 : Int) < 4294967296; decide⟩ (by show (1 : Int) ≤ 2; decide) (by show (2 : Int) ≤ 6; decide) _
instance (bs : List Int) (t : Tab) : Decidable (DecIs bs t) := decidable_of_iff (bt bs 4 = (t.place.length : Int) ∧ bt bs (5 + t.place.length) = (t.spare.length : Int) ∧ 8 + t.place.length + t.spare.length ≤ bs.length ∧ nb bs 0 = t.seq ∧ bts bs 5 t.place.length = t.place ∧ bts bs (6 + t.place.length) t.spare.length = t.spare ∧ bt bs (6 + t.place.length + t.spare.length) = t.t0 ∧ bt bs (7 + t.place.length + t.spare.length) = t.t1 ∧ (bs.drop (8 + t.place.length + t.spare.length)).all (· == 0) = true)
  ⟨fun ⟨a, b, c, d, e, f, g, h, i⟩ => ⟨a, b, c, d, e, f, g, h, i⟩, fun ⟨a, b, c, d, e, f, g, h, i⟩ => ⟨a, b, c, d, e, f, g, h, i⟩⟩
instance (bs : List Int) (m : MS) (g : Geo) : Decidable (SDec bs m g) := decidable_of_iff (bt bs 4 = (m.chips.length : Int) ∧ 14 + m.chips.length ≤ bs.length ∧ nb bs 0 = m.seq ∧ bts bs 5 m.chips.length = m.chips ∧ bt bs (5 + m.chips.length) = m.spare ∧ bt bs (6 + m.chips.length) = m.dead ∧ bt bs (7 + m.chips.length) = m.done ∧ hb bs (8 + m.chips.length) = g.b ∧ hb bs (10 + m.chips.length) = g.p ∧ hb bs (12 + m.chips.length) = g.s ∧ (bs.drop (14 + m.chips.length)).all (· == 0) = true)
  ⟨fun ⟨a, b, c, d, e, f, g, h, i, j, k⟩ => ⟨a, b, c, d, e, f, g, h, i, j, k⟩, fun ⟨a, b, c, d, e, f, g, h, i, j, k⟩ => ⟨a, b, c, d, e, f, g, h, i, j, k⟩⟩
theorem tab_dec {g : Geo} (h : Shape g) : DecIs (tpage g).1 (tb g) := by
  rcases h with rfl | rfl | rfl <;> decide +kernel
theorem set_dec {g : Geo} (h : Shape g) : SDec (spage g 1).1 (m1 g) g := by
  rcases h with rfl | rfl | rfl <;> decide +kernel
/-! ### what stands on the chips -/
def fT (g : Geo) (c b : Nat) : Option Tab := if c < g.c.toNat ∧ b = 1 then some (tb g) else none
def xS (g : Geo) (c b : Nat) : Option MS := if c < g.c.toNat ∧ b = 3 then some (m1 g) else none
theorem bytes_V1 {s : St} {g : Geo} (h : Sees s g (V1 g)) (c b : Nat) : s.bytes c b 0 = if c < g.c.toNat ∧ b = 3 then spage g 1 else if c < g.c.toNat ∧ b = 1 then tpage g else (List.replicate g.s.toNat 255, List.replicate 64 255) := by
  by_cases h3 : c < g.c.toNat ∧ b = 3
  · rw [if_pos h3]
    refine h.bytes ?_
    show (if c < g.c.toNat ∧ b = 3 then (if 0 = 0 then some (spage g 1) else none) else _) = _
    rw [if_pos h3]
    rfl
  · rw [if_neg h3]
    by_cases h1 : c < g.c.toNat ∧ b = 1
    · rw [if_pos h1]
      refine h.bytes ?_
      show (if c < g.c.toNat ∧ b = 3 then _ else if c < g.c.toNat ∧ b = 1 then (if 0 = 0 then some (tpage g) else none) else none) = _
      rw [if_neg h3, if_pos h1]
      rfl
    · rw [if_neg h1]
      refine h.blank ?_
      show (if c < g.c.toNat ∧ b = 3 then _ else if c < g.c.toNat ∧ b = 1 then _ else none) = none
      rw [if_neg h3, if_neg h1]
theorem known {s : St} {g : Geo} (hg : Shape g) (h : Sees s g (V1 g)) : Known s (fT g) (xS g) := by
  have hok := hg.ok
  refine ⟨fun c b hc hb => ?_, fun c b hc hb => ?_, fun c b t e => ?_, fun c b m e => ?_⟩
  · rw [bytes_V1 h, h.g]
    unfold fT
    by_cases h3 : c < g.c.toNat ∧ b = 3
    · rw [if_pos h3, if_neg (fun h => by omega)]
      show isTab _ _ = false
      unfold isTab
      rw [set_open hok]
      rfl
    · rw [if_neg h3]
      by_cases h1 : c < g.c.toNat ∧ b = 1
      · rw [if_pos h1, if_pos h1]
        exact ⟨tab_open hok, tab_dec hg, tb_ok hok⟩
      · rw [if_neg h1, if_neg h1]
        show isTab _ _ = false
        unfold isTab
        rw [blank_not g]
        rfl
  · rw [bytes_V1 h, h.g]
    unfold xS
    by_cases h3 : c < g.c.toNat ∧ b = 3
    · rw [if_pos h3, if_pos h3]
      exact ⟨set_open hok, set_dec hg, m1_ok hok⟩
    · rw [if_neg h3, if_neg h3]
      show isMem _ _ = false
      by_cases h1 : c < g.c.toNat ∧ b = 1
      · rw [if_pos h1]
        unfold isMem
        rw [tab_open hok]
        rfl
      · rw [if_neg h1]
        unfold isMem
        rw [blank_not g]
        rfl
  · unfold fT at e
    split at e
    · injection e with e
      rw [← e]
      show 0 < (ints (g.b - 3).toNat 3).length
      rw [ints_len]
      decide
    · cases e
  · unfold xS at e
    split at e
    · injection e with e
      rw [← e]
      show (1 : Int) < 4294967295
      decide
    · cases e

/-! ### it is opened -/
theorem sees_rdN {s : St} {g : Geo} {V : View} (h : Sees s g V) {c : Nat} (hd : V.dead c = false) : ∀ n, ∃ s', Sees s' g V ∧ s.rdN c n = (s', 0)
  | 0 => ⟨s, h, rfl⟩
  | n + 1 => by
    obtain ⟨s1, h1, e1⟩ := sees_rdN h hd n
    refine ⟨s1.more, h1.more, ?_⟩
    unfold St.rdN
    rw [e1]
    exact h1.read_ok hd
theorem sees_seek {s : St} {g : Geo} {V : View} (h : Sees s g V) {c : Nat} (hd : V.dead c = false) : ∀ n, ∃ s', Sees s' g V ∧ s.seek c (fT g c) n = (s', 0, if c < g.c.toNat ∧ 1 < n then some (tb g) else none)
  | 0 => ⟨s, h, by rw [if_neg (fun h => absurd h.2 (by decide))]; rfl⟩
  | n + 1 => by
    obtain ⟨s1, h1, e1⟩ := sees_seek h hd n
    obtain ⟨s2, h2, e2⟩ := sees_rdN h1 hd (if (fT g c n).isSome then 1 else 4)
    refine ⟨s2, h2, ?_⟩
    unfold St.seek
    rw [e1]
    dsimp only
    rw [if_pos rfl]
    unfold St.find
    rw [e2]
    dsimp only
    unfold isOk
    rw [if_pos rfl]
    unfold fT
    by_cases hc : c < g.c.toNat
    · by_cases h1 : n = 1
      · subst h1
        rw [if_neg (fun h => absurd h.2 (by decide)), if_pos ⟨hc, rfl⟩, if_pos ⟨hc, by decide⟩]
        rfl
      · by_cases h2 : 1 < n
        · rw [if_pos ⟨hc, h2⟩, if_neg (fun h => h1 h.2), if_pos ⟨hc, by omega⟩]
          rfl
        · rw [if_neg (fun h => h2 h.2), if_neg (fun h => h1 h.2), if_neg (fun h => by omega)]
          rfl
    · rw [if_neg (fun h => hc h.1), if_neg (fun h => hc h.1), if_neg (fun h => hc h.1)]
      rfl
theorem sees_one {τ : OSt} {g : Geo} (hg : g.Ok) (h : Sees τ.s g (V1 g)) (c : Nat) : ∃ s', Sees s' g (V1 g) ∧ τ.one c (fT g c) (xS g c) = (if c < g.c.toNat then { s := s', vol := fun k => if k = c then some (tb g) else τ.vol k, sets := τ.sets ++ [m1 g] } else { τ with s := s' }, 0) ∧ ∀ m, τ.s.Safe (m + 300) → s'.Safe m := by
  have hgb := hg.b
  obtain ⟨s1, h1, e1⟩ := sees_seek h (c := c) rfl τ.s.nb
  have hnb : 1 < τ.s.nb := by unfold St.nb; rw [h.g]; omega
  have hsf : ∀ m, τ.s.Safe (m + 300) → s1.Safe (m + 2) := fun m hs => by
    have h9 := safe_seek (s := τ.s) c (fT g c) τ.s.nb (m + 2) (hs.le (by
      have : τ.s.nb ≤ 64 := by unfold St.nb; rw [h.g]; omega
      omega))
    rw [e1] at h9
    exact h9
  have e2 : τ.s.vopen c (fT g c) = (s1, 0, if c < g.c.toNat then some (tb g) else none) := by
    unfold St.vopen
    rw [e1]
    by_cases hc : c < g.c.toNat
    · rw [if_pos ⟨hc, hnb⟩, if_pos hc]
    · rw [if_neg (fun h => hc h.1), if_neg hc]
  by_cases hc : c < g.c.toNat
  · rw [if_pos hc] at e2
    refine ⟨s1.more.more, h1.more.more, ?_, fun m hs => PlC.safe_more h1.more (PlC.safe_more h1 (hsf m hs))⟩
    unfold OSt.one
    rw [e2]
    dsimp only
    rw [if_pos rfl, if_pos hc]
    have x0 : xS g c ((tb g).at 0) = none := by
      rw [at_fmt hg (by show ((0 : Nat) : Int) < _; omega)]
      unfold xS
      rw [if_neg (fun h => absurd h.2 (by decide))]
    have x1 : xS g c ((tb g).at 1) = some (m1 g) := by
      rw [at_fmt hg (by show ((1 : Nat) : Int) < _; omega)]
      unfold xS
      rw [if_pos ⟨hc, rfl⟩]
    have r1 : ∀ (ρ : OSt) (x : Option MS), Sees ρ.s g (V1 g) → ρ.rd c x = ({ ρ with s := ρ.s.more, sets := ρ.sets ++ x.toList }, 0, true) := fun ρ x hρ => by
      unfold OSt.rd
      rw [hρ.read_ok (c := c) rfl]
      dsimp only
      rw [if_neg (by decide), if_pos rfl]
    have q1 : OSt.rdN (OSt.put { τ with s := s1 } c (tb g)) c (fun b => xS g c ((tb g).at b)) 1 = ({ OSt.put { τ with s := s1 } c (tb g) with s := s1.more }, 0, true) := by
      show (if true = true then (OSt.put { τ with s := s1 } c (tb g)).rd c (xS g c ((tb g).at 0)) else _) = _
      rw [if_pos rfl, x0, r1 _ _ h1]
      simp [OSt.put]
    have q2 : OSt.rdN (OSt.put { τ with s := s1 } c (tb g)) c (fun b => xS g c ((tb g).at b)) 2 = ({ s := s1.more.more, vol := fun k => if k = c then some (tb g) else τ.vol k, sets := τ.sets ++ [m1 g] }, 0, true) := by
      show (if (OSt.rdN (OSt.put { τ with s := s1 } c (tb g)) c (fun b => xS g c ((tb g).at b)) 1).2.2 = true then (OSt.rdN (OSt.put { τ with s := s1 } c (tb g)) c (fun b => xS g c ((tb g).at b)) 1).1.rd c (xS g c ((tb g).at 1)) else _) = _
      rw [q1, if_pos rfl, x1, r1 _ _ h1.more]
      rfl
    rw [q2]
  · rw [if_neg hc] at e2
    refine ⟨s1, h1, ?_, fun m hs => (hsf m hs).le (by omega)⟩
    unfold OSt.one
    rw [e2]
    dsimp only
    rw [if_pos rfl, if_neg hc]
theorem sees_all {s : St} {g : Geo} (hg : g.Ok) (h : Sees s g (V1 g)) : ∀ i, ∃ s', Sees s' g (V1 g) ∧ (τ0 s).all (fT g) (xS g) i = ({ s := s', vol := fun k => if k < i ∧ k < g.c.toNat then some (tb g) else none, sets := List.replicate (min i g.c.toNat) (m1 g) }, 0) ∧ ∀ m, s.Safe (m + 300 * i) → s'.Safe m
  | 0 => ⟨s, h, by
    show (τ0 s, (0 : Int)) = _
    unfold τ0
    simp, fun m hs => hs⟩
  | i + 1 => by
    obtain ⟨s1, h1, e1, f1⟩ := sees_all hg h i
    obtain ⟨s2, h2, e2, f2⟩ := sees_one hg (τ := { s := s1, vol := fun k => if k < i ∧ k < g.c.toNat then some (tb g) else none, sets := List.replicate (min i g.c.toNat) (m1 g) }) h1 i
    refine ⟨s2, h2, ?_, fun m hs => f2 m (f1 (m + 300) (by rw [show m + 300 + 300 * i = m + 300 * (i + 1) by omega]; exact hs))⟩
    show (if ((τ0 s).all (fT g) (xS g) i).2 = 0 then _ else _) = _
    rw [e1]
    dsimp only
    rw [if_pos rfl, e2]
    by_cases hi : i < g.c.toNat
    · rw [if_pos hi]
      dsimp only
      congr 2
      · funext k
        by_cases e : k = i
        · rw [if_pos e, if_pos ⟨by omega, by omega⟩]
        · rw [if_neg e]
          by_cases e2 : k < i ∧ k < g.c.toNat
          · rw [if_pos e2, if_pos ⟨by omega, e2.2⟩]
          · rw [if_neg e2, if_neg (fun h => e2 ⟨by omega, h.2⟩)]
      · rw [show min (i + 1) g.c.toNat = min i g.c.toNat + 1 by omega, List.replicate_succ']
    · rw [if_neg hi]
      dsimp only
      congr 2
      · funext k
        by_cases e2 : k < i ∧ k < g.c.toNat
        · rw [if_pos e2, if_pos ⟨by omega, e2.2⟩]
        · rw [if_neg e2, if_neg (fun h => e2 ⟨by omega, h.2⟩)]
      · rw [show min (i + 1) g.c.toNat = min i g.c.toNat by omega]
theorem newest_rep (m : MS) : ∀ n, 0 < n → newest (List.replicate n m) = some m
  | 0, h => absurd h (by decide)
  | n + 1, _ => by
    have h : ∀ k, (List.replicate k m).foldl pickN (some m) = some m := fun k => by
      induction k with
      | zero => rfl
      | succ k ih =>
        rw [List.replicate_succ, List.foldl_cons]
        show (List.replicate k m).foldl pickN (if m.seq < m.seq then some m else some m) = some m
        rw [if_neg (by omega)]
        exact ih
    exact h n
theorem Whole.lookN {σ : Ar} {g : Geo} {V : View} {q : Int} (h : Whole σ g V q) : ∀ i, i ≤ g.c.toNat → σ.lookN i = (σ, 0)
  | 0, _ => rfl
  | i + 1, hi => by
    have ih := Whole.lookN h i (by omega)
    unfold Ar.lookN
    rw [ih]
    dsimp only
    rw [if_pos rfl]
    unfold Ar.look1
    rw [first_chip σ h.set (by omega), h.vol, if_pos (by omega)]
theorem Whole.look {σ : Ar} {g : Geo} {V : View} {q : Int} (h : Whole σ g V q) (hd : V.dead g.c.toNat = false) : σ.look = (σ, 0) := by
  unfold Ar.look
  have h1 := Whole.lookN h σ.s.g.c.toNat (by rw [h.sees.g]; exact Nat.le_refl _)
  rw [h1]
  dsimp only
  rw [if_pos rfl]
  have h2 : σ.lookS = σ := by
    unfold Ar.lookS
    have hsp : σ.set.spare = g.c := by rw [h.set]; rfl
    rw [if_neg (fun hh => by
      rw [hsp, h.sees.dead, hd] at hh
      exact absurd hh.2 (by decide))]
  have h3 : σ.lookV = σ := by
    unfold Ar.lookV
    have hdn : σ.set.done = 0 := by rw [h.set]; rfl
    rw [if_neg (fun hh => by rw [hdn] at hh; exact absurd hh.1 (by decide))]
  rw [h2, h3]
def V2o (g : Geo) : View := (V1 g).saved g.c.toNat 2 (spage g 2)
/-- What Open answers of chips made ready. -/
theorem open_law {s : St} {g : Geo} (hg : g.Ok) (h : Sees s g (V1 g)) : ∃ τ σ, (τ0 s).all (fT g) (xS g) s.n = (τ, 0) ∧ newest τ.sets = some (m1 g) ∧ Ar.look ⟨τ.s, τ.vol, m1 g, false⟩ = (⟨τ.s, τ.vol, m1 g, false⟩, 0) ∧ Ar.save ⟨τ.s, τ.vol, m1 g, false⟩ = (σ, 0) ∧ Whole σ g (V2o g) 2 ∧ ∀ m, s.Safe (m + 10000) → σ.s.Safe m := by
  have hgc := hg.c
  obtain ⟨s1, h1, e1, f1⟩ := sees_all hg h s.n
  have hn : s.n = g.c.toNat + 1 := by unfold St.n; rw [h.g]; omega
  have hw : Whole ⟨s1, fun k => if k < s.n ∧ k < g.c.toNat then some (tb g) else none, m1 g, false⟩ g (V1 g) 1 := ⟨h1, rfl, fun c => by
    show (if c < s.n ∧ c < g.c.toNat then some (tb g) else none) = if c < g.c.toNat then some (tb g) else none
    by_cases hc : c < g.c.toNat
    · rw [if_pos ⟨by omega, hc⟩, if_pos hc]
    · rw [if_neg (fun h => hc h.2), if_neg hc], rfl⟩
  obtain ⟨s2, h2, e2⟩ := hw.save hg (by decide) (fun _ _ => rfl)
  refine ⟨_, _, e1, newest_rep _ _ (by omega), Whole.look hw rfl, e2, h2, fun m hs => ?_⟩
  have hs1 := f1 (m + 34) (hs.le (by omega))
  have e3 := e2
  unfold Ar.save at e3
  have h9 := safe_saveN (σ := Ar.up ⟨s1, fun k => if k < s.n ∧ k < g.c.toNat then some (tb g) else none, m1 g, false⟩) ((Ar.up ⟨s1, fun k => if k < s.n ∧ k < g.c.toNat then some (tb g) else none, m1 g, false⟩).set.seq % 2).toNat ((Ar.up ⟨s1, fun k => if k < s.n ∧ k < g.c.toNat then some (tb g) else none, m1 g, false⟩).set.page s1.g) ((Ar.up ⟨s1, fun k => if k < s.n ∧ k < g.c.toNat then some (tb g) else none, m1 g, false⟩).set.oob s1.g) s1.n m (hs1.le (by
    have : s1.n = s.n := by unfold St.n; rw [h1.g, h.g]
    omega))
  rw [show (Ar.saveN (Ar.up ⟨s1, fun k => if k < s.n ∧ k < g.c.toNat then some (tb g) else none, m1 g, false⟩) ((Ar.up ⟨s1, fun k => if k < s.n ∧ k < g.c.toNat then some (tb g) else none, m1 g, false⟩).set.seq % 2).toNat ((Ar.up ⟨s1, fun k => if k < s.n ∧ k < g.c.toNat then some (tb g) else none, m1 g, false⟩).set.page s1.g) ((Ar.up ⟨s1, fun k => if k < s.n ∧ k < g.c.toNat then some (tb g) else none, m1 g, false⟩).set.oob s1.g) s1.n) = _ from e3] at h9
  exact h9

/-! ### nothing stands there -/
def moreN (s : St) : Nat → St
  | 0 => s
  | n + 1 => (moreN s n).more
theorem sees_moreN {s : St} {g : Geo} {V : View} (h : Sees s g V) : ∀ n, Sees (moreN s n) g V
  | 0 => h
  | n + 1 => (sees_moreN h n).more
theorem safe_moreN {s : St} {g : Geo} {V : View} (h : Sees s g V) : ∀ n m, s.Safe (m + n) → (moreN s n).Safe m
  | 0, m, hs => hs
  | n + 1, m, hs => PlC.safe_more (sees_moreN h n) (safe_moreN h n (m + 1) (by rw [show m + 1 + n = m + (n + 1) by omega]; exact hs))
theorem rep_ff (n : Nat) : allFF (List.replicate n 255) := fun b hb => (List.mem_replicate.1 hb).2
theorem rep_in (n : Nat) : InR 256 (List.replicate n (255 : Int)) := fun x hx => by obtain ⟨_, rfl⟩ := List.mem_replicate.1 hx; decide
theorem bare {σ : Ar} {g : Geo} {V : View} {q : Int} (hg : g.Ok) (h : Whole σ g V q) (hs : σ.s.Safe 100) {seg row : Int} (ha : g.At seg row) (hl : ∀ c, c < g.c.toNat → V.dead c = false) (hp : ∀ c k, V.pg c (seg.toNat + 2) k = none) : Bare σ seg row (fun m => { σ with s := moreN σ.s m }) := by
  have hgc := hg.c
  have hsg := ha.seg
  have hw : ∀ m, Whole { σ with s := moreN σ.s m } g V q := fun m => h.turn (sees_moreN h.sees m)
  refine ⟨rfl, fun m hm => (hw m).there, fun m hm => ((hw m).sees.g).trans h.sees.g.symm, fun m hm => ⟨0, safe_moreN h.sees m 1 (hs.le (by rw [h.sees.g] at hm; omega))⟩, fun m hm => ?_⟩
  rw [h.sees.g] at hm
  refine ⟨(List.replicate g.s.toNat 255, List.replicate 64 255), ⟨?_, ?_, fun _ => ⟨rep_in _, rep_in _⟩⟩, rep_ff _, rep_ff _⟩
  · exact (hw m).read hg hm (hl m (by omega))
  · rw [(hw m).bytes hg row.toNat hm (by omega)]
    exact (hw m).sees.blank (hp m row.toNat)
theorem V1_bare {g : Geo} {seg : Int} (h2 : 2 ≤ seg) (c k : Nat) : (V1 g).pg c (seg.toNat + 2) k = none := V1_pg c (by omega) k
theorem V2o_bare {g : Geo} {seg : Int} (h2 : 2 ≤ seg) (c k : Nat) : (V2o g).pg c (seg.toNat + 2) k = none := by
  show (if c < g.c.toNat ∧ seg.toNat + 2 = 2 then _ else (V1 g).pg c (seg.toNat + 2) k) = none
  rw [if_neg (fun h => by omega)]
  exact V1_bare h2 c k
end Go.Proofs.YteofgpaceeibpaaGreat.PlD
namespace Go.Proofs.YteofgpaceeibpaaGreat.Fresh
open Go.RowKit Go.Proofs.YteofgpaceeibpaaGreat.Gab Go.Proofs.YteofgpaceeibpaaGreat.Geom Go.Proofs.YteofgpaceeibpaaGreat.Ref Go.Proofs.YteofgpaceeibpaaGreat.Nand Go.Proofs.YteofgpaceeibpaaGreat.NandA Go.Proofs.YteofgpaceeibpaaGreat.NandE Go.Proofs.YteofgpaceeibpaaGreat.NandF Go.Proofs.YteofgpaceeibpaaGreat.NandG Go.Proofs.YteofgpaceeibpaaGreat.NandH Go.Proofs.YteofgpaceeibpaaGreat.VolA Go.Proofs.YteofgpaceeibpaaGreat.MemA Go.Proofs.YteofgpaceeibpaaGreat.MemC Go.Proofs.YteofgpaceeibpaaGreat.MemD Go.Proofs.YteofgpaceeibpaaGreat.ArrA Go.Proofs.YteofgpaceeibpaaGreat.ArrB Go.Proofs.YteofgpaceeibpaaGreat.ArrD Go.Proofs.YteofgpaceeibpaaGreat.ArrI Go.Proofs.YteofgpaceeibpaaGreat.OpnA Go.Proofs.YteofgpaceeibpaaGreat.OpnB Go.Proofs.YteofgpaceeibpaaGreat.AOrd Go.Proofs.YteofgpaceeibpaaGreat.ARowB Go.Proofs.YteofgpaceeibpaaGreat.LawA Go.Proofs.YteofgpaceeibpaaGreat.PlA Go.Proofs.YteofgpaceeibpaaGreat.PlB Go.Proofs.YteofgpaceeibpaaGreat.PlD
open Go.Proofs.YteofgpaceeibpaaGreat.Heap (cell_is)
set_option linter.unusedVariables false
set_option linter.unusedSimpArgs false

/-- Another array on the same chips is worked on. -/
theorem beside_ {w w' : World} {σ σ2 : Ar} {K K2 : ALay} (h : ArAt w σ K) (h2 : ArAt w σ2 K2) {s' : St} (hN : Nand w' K.p s' K.L) (hg : s'.g = σ.s.g) (hgg : σ2.s.g = σ.s.g) (hf : Fr (AF K2 σ2) w w') (hp : K2.p = K.p) (hL : K2.L = K.L) (hx : K2.x ≠ K.x) (hV : K2.V ≠ K.V) : ArAt w' { σ with s := s' } K := by
  have hn : σ2.s.n = σ.s.n ∧ σ2.s.nb = σ.s.nb := ⟨by unfold St.n; rw [hgg], by unfold St.nb; rw [hgg]⟩
  have hns : s'.n = σ.s.n := by unfold St.n; rw [hg]
  obtain ⟨cs2, e2, _⟩ := h2.vols
  have hty : ∀ {b : Nat} {cs : Array Value} {T : TypeId} {f : Nat × Nat}, w.heap[b]? = some (.cells cs T f) → (T = AT → b ≠ K2.x) → (T = PV → b ≠ K2.V) → (T ≠ 85 ∧ T ≠ 86 ∧ T ≠ 4 ∧ T ≠ 89 ∧ T ≠ 176) → ¬ AF K2 σ2 b := fun {b cs T f} hb ha hv hT hs => by
    rcases hs with hs | hs | hs
    · rw [hp, hL, hn.1, hn.2] at hs
      exact h.nand.ne hb hT hs
    · by_cases e : T = AT
      · exact ha e hs
      · exact blk_ne hb h2.main e hs
    · by_cases e : T = PV
      · exact hv e hs
      · exact blk_ne hb e2 e hs
  refine ⟨hN, ?_, ?_, ?_, ?_, ?_, ?_⟩
  · show w'.heap[K.x]? = some (.cells #[.pointer (some ⟨K.p, 0, none⟩), .int .i64 s'.g.c, .int .i64 s'.g.b, .int .i64 s'.g.p, .int .i64 s'.g.s, .slice (some ⟨K.V, 0, none⟩) s'.n s'.n, .int .u32 σ.set.seq, .slice (some ⟨K.cb, 0, none⟩) s'.g.c.toNat K.cc, .int .i64 σ.set.spare, .int .i64 σ.set.dead, .int .i64 σ.set.done, .bool σ.lost] AT (0, 0))
    rw [hg, hns]
    exact hf.heap h.main (hty h.main (fun _ e => hx e.symm) (fun e => absurd e (by decide)) ⟨by decide, by decide, by decide, by decide, by decide⟩)
  · show s'.g.c.toNat ≤ K.cc
    rw [hg]
    exact h.ccn
  · obtain ⟨cs, e, hc⟩ := h.vols
    exact ⟨cs, hf.heap e (hty e (fun e => absurd e (by decide)) (fun _ e => hV e.symm) ⟨by decide, by decide, by decide, by decide, by decide⟩), fun c hcn => hc c (by rw [← hns]; exact hcn)⟩
  · intro c t hc e
    have h1 := h.vol c t (by rw [← hns]; exact hc) e
    refine ⟨?_, h1.2⟩
    show VolAt w' K.p c s'.g t (K.v c)
    rw [hg]
    exact h1.1.ty hf (fun b cs T f hb hT => by rcases hT with rfl | rfl <;> exact hty hb (fun e => absurd e (by decide)) (fun e => absurd e (by decide)) ⟨by decide, by decide, by decide, by decide, by decide⟩)
  · obtain ⟨cs, e, hc⟩ := h.chips
    exact ⟨cs, hf.heap e (hty e (fun e => absurd e (by decide)) (fun e => absurd e (by decide)) ⟨by decide, by decide, by decide, by decide, by decide⟩), fun j hj => hc j (by rw [← hg]; exact hj)⟩
  · exact ⟨by show σ.set.Ok s'.g; rw [hg]; exact h.ok.set, fun c t hc e => by show t.Ok s'.g; rw [hg]; exact h.ok.more c t (by rw [← hns]; exact hc) e⟩
theorem Whole.full {σ : Ar} {g : Geo} {V : View} {q : Int} (h : Whole σ g V q) {w : World} {v : Value} (hv : MSV w v σ.set) : Calls Tryz.prog 14 #[v] w fun e w' => e = .returned (.bool true) ∧ Fr None_ w w' := by
  have h1 := Full_calls v σ.set w hv
  rw [h.set] at h1
  exact h1
theorem set_of {σ : Ar} {g : Geo} {V : View} {q : Int} (h : Whole σ g V q) {w : World} {N : Nat} {v : Value} (hv : MSR w N v σ.set) : ∃ v1, v = .agg #[.int .u32 q, v1, .int .i64 g.c, .int .i64 255, .int .i64 0] ∧ Row 3 .i64 w N v1 (first g).chips := by
  obtain ⟨v1, h1, h2⟩ := hv
  rw [h.set] at h1 h2
  exact ⟨v1, h1, h2⟩
/-- What Open answers here. -/
def OpPost (p : Nat) (L : Lay) (σ σy : Ar) (w : World) (e : Ending) (w' : World) : Prop := Fr (NF p L σ.s.n σ.s.nb) w w' ∧ ∃ K, e = .returned (.tuple #[.pointer (some ⟨K.x, 0, none⟩), .int .i64 0]) ∧ ArAt w' σy K ∧ ANew w.heap.size p L K
theorem open_here {σ : Ar} {g : Geo} (hg : Shape g) (h : Whole σ g (V1 g) 1) (hs : σ.s.Safe 100000) : ∃ σy, Whole σy g (V2o g) 2 ∧ σy.s.Safe 1000 ∧ ∀ p L w, Nand w p σ.s L → Calls Tryz.prog 11 #[.pointer (some ⟨p, 0, none⟩)] w (OpPost p L σ σy w) := by
  obtain ⟨τ, σy, e1, e2, e3, e4, hw, hsf⟩ := open_law hg.ok h.sees
  refine ⟨σy, hw, hsf 1000 (hs.le (by decide)), fun p L w hN => (Open_calls p σ.s L (fT g) (xS g) w hN (known hg h.sees) 0 (hs.le (by decide))).mono fun e w' hp => ?_⟩
  unfold OnPost at hp
  rw [e1] at hp
  dsimp only at hp
  obtain ⟨hf, h9⟩ := hp
  refine ⟨hf, ?_⟩
  rcases h9 with ⟨h9, _⟩ | ⟨_, h9, _⟩ | ⟨_, m, hm, h9⟩
  · exact absurd rfl h9
  · rw [e2] at h9; cases h9
  · rw [e2] at hm
    injection hm with hm
    subst hm
    rw [e3] at h9
    dsimp only at h9
    rw [e4] at h9
    rcases h9 with ⟨h9, _⟩ | ⟨_, K, h1, h2, h3⟩
    · exact absurd rfl h9
    · exact ⟨K, h1, h2, h3⟩
theorem full_of {g : Geo} {q : Int} {w : World} {A : Option Addr} {n c : Nat} (hc : n ≤ c) (hr : Rd .i64 w A n (first g).chips) : Calls Tryz.prog 14 #[.agg #[.int .u32 q, .slice A n c, .int .i64 g.c, .int .i64 255, .int .i64 0]] w fun e w' => e = .returned (.bool true) ∧ Fr None_ w w' :=
  Full_calls _ ({ first g with seq := q } : MS) w ⟨A, n, c, rfl, hc, hr⟩
def segOf (n : Int) : Int := 2 + u64of n % 9
def rowOf (n : Int) : Int := u64of n % 4
theorem row_here {σ : Ar} {g : Geo} {V : View} {q : Int} {K : ALay} {w : World} (hg : g.Ok) (hw : Whole σ g V q) (hA : ArAt w σ K) (hs : σ.s.Safe 100) {seg row : Int} (ha : g.At seg row) (hl : ∀ c, c < g.c.toNat → V.dead c = false) (hp : ∀ c k, V.pg c (seg.toNat + 2) k = none) :
    Calls Tryz.prog 12 #[dev K.x, .int .i64 seg, .int .i64 row] w (BarePost σ { σ with s := moreN σ.s g.c.toNat } K w) := by
  have h := Row_bare σ K seg row (fun m => { σ with s := moreN σ.s m }) w hA (by rw [hw.sees.g]; exact ha) (bare hg hw hs ha hl hp)
  rw [hw.sees.g] at h
  exact h

set_option maxHeartbeats 16000000 in
set_option maxRecDepth 100000 in
theorem fresh_calls (chips seg row : Int) (w : World) : Calls Tryz.prog 3 #[.int .i64 chips, .int .i64 seg, .int .i64 row] w fun e w' => e = .returned (.bool true) ∧ Fr None_ w w' := by
  have hsh := shape_of chips
  have HGEO := As.mk (fun w => geo_calls chips w)
  obtain ⟨g, hg⟩ : ∃ g, geoOf chips = g := ⟨_, rfl⟩
  rw [hg] at hsh HGEO
  have hok := hsh.ok
  have HOK := As.mk hok
  have HKP := As.mk (fun w => Kpt.kept_calls w)
  have HNEW := As.mk (fun w => New_calls g w hok)
  obtain ⟨σ1, ef, hw1⟩ := afmt_new hok
  have hs1 : σ1.s.Safe 1000000 := by
    have h := afmt_safe (s := St.new g) hok (m := 1000000) (new_safe g (by decide))
    rw [ef] at h
    exact h
  have HFMT := As.mk (fun p L w (hN : Nand w p (St.new g) L) => Format_calls p (St.new g) L w hN 1000000 (new_safe g (by decide)))
  unfold AFPost at HFMT
  rw [ef] at HFMT
  obtain ⟨σy, hwy, hsy, hop⟩ := open_here hsh hw1 (hs1.le (by decide))
  have HOP := As.mk hop
  have hwx : Whole { σ1 with s := σy.s } g (V2o g) 1 := hw1.turn hwy.sees
  have HW1 := As.mk hw1
  have HWX := As.mk hwx
  have HWY := As.mk hwy
  have HSY := As.mk hsy
  have h0s : IntKind.u64.wrap seg = u64of seg := IntKind.wrap_u64 _
  have h1s : 0 ≤ u64of seg := by unfold u64of; omega
  have h2s : u64of seg < 18446744073709551616 := by unfold u64of; omega
  have h6s : IntKind.u64.wrap (Int.tmod (u64of seg) 9) = u64of seg % 9 := by rw [Int.tmod_eq_emod_of_nonneg h1s, IntKind.wrap_u64]; omega
  have h0r : IntKind.u64.wrap row = u64of row := IntKind.wrap_u64 _
  have h1r : 0 ≤ u64of row := by unfold u64of; omega
  have h2r : u64of row < 18446744073709551616 := by unfold u64of; omega
  have h6r : IntKind.u64.wrap (Int.tmod (u64of row) 4) = u64of row % 4 := by rw [Int.tmod_eq_emod_of_nonneg h1r, IntKind.wrap_u64]; omega
  have hgb : g.b = 16 ∧ g.p = 4 := by rcases hsh with rfl | rfl | rfl <;> exact ⟨rfl, rfl⟩
  generalize u64of seg = us at *
  generalize u64of row = ur at *
  have HAT := As.mk (show g.At (2 + us % 9) (ur % 4) from ⟨by rw [hgb.1]; omega, by rw [hgb.2]; omega⟩)
  have HBP := As.mk (fun (c k : Nat) => V2o_bare (g := g) (seg := 2 + us % 9) (by omega) c k)
  have hw9 : IntKind.i64.wrap (2 + us % 9) = 2 + us % 9 := by rw [IntKind.wrap_i64]; omega
  have hgc := hok.c
  have HGC := As.mk (show (((first g).chips.length : Nat) : Int) = g.c from by have h := (first_ok hok (q := 1) (by decide) (by decide)).len; exact h)
  clear ef hs1 hg hop hwx hw1 hwy hsy hsh hgb hok
  unfold Geo.val at HGEO HNEW
  go_enter Tryz.func3, Tryz.ntmps3
  go_wp2_with fail
  ((with_reducible refine (HKP.out _).mono ?_); rintro e w1 ⟨rfl, hf1⟩)
  have HF1 := As.mk hf1
  clear hf1
  go_wp2_with fail
  ((with_reducible refine (HGEO.out _).mono ?_); rintro e w2 ⟨rfl, hf2⟩)
  have HF2 := As.mk (HF1.out.after hf2 (fun _ _ h => h))
  have HGB := As.mk (heap_alloc_new w2 (.cells #[.int .i64 g.c, .int .i64 g.b, .int .i64 g.p, .int .i64 g.s] 24))
  have HF3 := As.mk (HF2.out.alloc (.cells #[.int .i64 g.c, .int .i64 g.b, .int .i64 g.p, .int .i64 g.s] 24))
  clear hf2
  go_upto_region 4 with fail
  generalize w2.alloc (.cells #[.int .i64 g.c, .int .i64 g.b, .int .i64 g.p, .int .i64 g.s] 24) = w3 at *
  have HGG := As.mk (show w.heap.size ≤ w2.heap.size from HF2.out.size)
  generalize w2.heap.size = gg at *
  have z0 := cell_is (i := 0) HGB.out rfl
  have z1 := cell_is (i := 1) HGB.out rfl
  have z2 := cell_is (i := 2) HGB.out rfl
  have z3 := cell_is (i := 3) HGB.out rfl
  go_wp2_with fail
  ((with_reducible refine (HNEW.out _).mono ?_); rintro e w4 ⟨p, L, rfl, hN4, hf4, hnf⟩)
  have HN4 := As.mk hN4
  have HF4 := As.mk (HF3.out.after hf4 (fun _ _ h => h))
  have HNF := As.mk (fun b hb => Nat.le_trans HF3.out.size (hnf b hb))
  have HGB4 := As.mk (hf4.heap HGB.out (fun h => h))
  clear hN4 hf4 hnf z0 z1 z2 z3
  go_wp2_with fail
  ((with_reducible refine (HFMT.out p L _ HN4.out).mono ?_); rintro e w5 ⟨hf5, hr5⟩)
  obtain ⟨K, rfl, hA5, hK⟩ : ∃ K, e = .returned (.tuple #[.pointer (some ⟨K.x, 0, none⟩), .int .i64 0]) ∧ ArAt w5 σ1 K ∧ ANew w4.heap.size p L K := by
    rcases hr5 with ⟨_, h⟩ | ⟨h9, _⟩
    · exact h
    · exact absurd rfl h9
  have HK := As.mk hK
  have HA5 := As.mk hA5
  have HF5 := As.mk (show Fr None_ w w5 from HF4.out.after hf5 (fun b hb h => absurd (HNF.out b h) (by omega)))
  have HGB5 := As.mk (hf5.heap HGB4.out (HN4.out.ne HGB4.out ⟨by decide, by decide, by decide, by decide, by decide⟩))
  clear hA5 hf5 hK hr5
  have hN5 : Nand w5 p σ1.s L := by
    obtain ⟨q1, q2, _⟩ := HK.out
    have h := HA5.out.nand
    rw [q1, q2] at h
    exact h
  go_wp2_with fail
  ((with_reducible refine (HOP.out p L _ hN5).mono ?_); rintro e w6 ⟨hf6, K2, rfl, hA6, hK2⟩)
  have HK2 := As.mk hK2
  have HA6 := As.mk hA6
  -- the two arrays
  have hnn : σ1.s.n = (St.new g).n ∧ σ1.s.nb = (St.new g).nb := ⟨by unfold St.n; rw [HW1.out.sees.g]; rfl, by unfold St.nb; rw [HW1.out.sees.g]; rfl⟩
  have HNN := As.mk hnn
  have HF6 := As.mk (show Fr None_ w w6 from HF5.out.after hf6 (fun b hb h => absurd (HNF.out b (by rw [← hnn.1, ← hnn.2]; exact h)) (by omega)))
  have hgb6 : w6.heap[gg]? = some (.cells #[.int .i64 g.c, .int .i64 g.b, .int .i64 g.p, .int .i64 g.s] 24 (0, 0)) := hf6.heap HGB5.out (hN5.ne HGB5.out ⟨by decide, by decide, by decide, by decide, by decide⟩)
  have HGB6 := As.mk hgb6
  have HX6 := As.mk (show ArAt w6 { σ1 with s := σy.s } K from by
    obtain ⟨q1, q2, _⟩ := HK.out
    obtain ⟨r1, r2, _⟩ := HK2.out
    refine HA5.out.turn (by rw [q2, q1, ← r2, ← r1]; exact HA6.out.nand) (HWY.out.sees.g.trans HW1.out.sees.g.symm) (by rw [q2, q1]; exact hf6)
    )
  have HDX := As.mk (show K2.x ≠ K.x ∧ K2.V ≠ K.V ∧ K2.p = K.p ∧ K2.L = K.L from by
    obtain ⟨q1, q2, _⟩ := HK.out
    obtain ⟨r1, r2, r3, r4, r5⟩ := HK2.out
    have hx1 := (Array.getElem?_eq_some_iff.1 HA5.out.main).1
    obtain ⟨cs, hv, _⟩ := HA5.out.vols
    have hv1 := (Array.getElem?_eq_some_iff.1 hv).1
    exact ⟨by omega, by omega, r2.trans q2.symm, r1.trans q1.symm⟩)
  have HLO := As.mk (show ∀ (σ : Ar), σ.s.g = g → (∀ b, AF K σ b → w.heap.size ≤ b) ∧ (∀ b, AF K2 σ b → w.heap.size ≤ b) from fun σ hσ => by
    obtain ⟨q1, q2, q3, q4, _⟩ := HK.out
    obtain ⟨r1, r2, r3, r4, r5⟩ := HK2.out
    have e1 : σ.s.n = (St.new g).n := by unfold St.n; rw [hσ]; rfl
    have e2 : σ.s.nb = (St.new g).nb := by unfold St.nb; rw [hσ]; rfl
    have hz4 := HF4.out.size
    have hz5 := HF5.out.size
    refine ⟨fun b hb => ?_, fun b hb => ?_⟩
    · rcases hb with hb | hb | hb
      · rw [q1, q2, e1, e2] at hb
        exact HNF.out b hb
      · omega
      · omega
    · rcases hb with hb | hb | hb
      · rw [r1, r2, e1, e2] at hb
        exact HNF.out b hb
      · omega
      · omega)
  have HGN := As.mk (show ∀ (σ : Ar) (K' : ALay) (w' : World), ArAt w' σ K' → w'.heap[gg]? = some (.cells #[.int .i64 g.c, .int .i64 g.b, .int .i64 g.p, .int .i64 g.s] 24 (0, 0)) → ¬ AF K' σ gg from fun σ K' w' hA hb ha => by
    rcases ha with ha | ha | ha
    · exact hA.nand.ne hb ⟨by decide, by decide, by decide, by decide, by decide⟩ ha
    · exact blk_ne hb hA.main (by decide) ha
    · obtain ⟨ds, e, _⟩ := hA.vols
      exact blk_ne hb e (by decide) ha)
  clear hf6 hgb6 hnn hN5 hK2 hA6
  -- a row of the first
  have hr1 := row_here (K := K) (w := w6) HOK.out HWX.out HX6.out (HSY.out.le (by decide)) HAT.out (fun _ _ => rfl) HBP.out
  unfold BarePost dev at hr1
  have HR1 := As.mk hr1
  clear hr1
  go_wp2_with fail
  ((with_reducible refine (HR1.out).mono ?_); rintro e w7 ⟨rfl, hA7, hf7⟩)
  have hx7 : Whole { σ1 with s := moreN σy.s g.c.toNat } g (V2o g) 1 := HWX.out.turn (sees_moreN HWY.out.sees _)
  have HX7 := As.mk (show ArAt w7 { σ1 with s := moreN σy.s g.c.toNat } K from hA7)
  have HF7 := As.mk (show Fr None_ w w7 from HF6.out.after hf7 (fun b hb h => absurd ((HLO.out _ HWX.out.sees.g).1 b h) (by omega)))
  have HGB7 := As.mk (hf7.heap HGB6.out (HGN.out _ _ _ HX6.out HGB6.out))
  have hwy7 : Whole { σy with s := moreN σy.s g.c.toNat } g (V2o g) 2 := HWY.out.turn (sees_moreN HWY.out.sees _)
  have HWY7 := As.mk hwy7
  have HY7 := As.mk (show ArAt w7 { σy with s := moreN σy.s g.c.toNat } K2 from beside_ HA6.out HX6.out (by
    have h := HX7.out.nand
    rw [← HDX.out.2.2.1, ← HDX.out.2.2.2] at h
    exact h) (hwy7.sees.g.trans HWY.out.sees.g.symm) (HWX.out.sees.g.trans HWY.out.sees.g.symm) hf7 HDX.out.2.2.1.symm HDX.out.2.2.2.symm (fun e => HDX.out.1 e.symm) (fun e => HDX.out.2.1 e.symm))
  clear hA7 hf7 hx7 hwy7 HR1
  -- a row of the second
  have hr2 := row_here (K := K2) (w := w7) HOK.out HWY7.out HY7.out (safe_moreN HWY.out.sees g.c.toNat 100 (HSY.out.le (by omega))) HAT.out (fun _ _ => rfl) HBP.out
  unfold BarePost dev at hr2
  have HR2 := As.mk hr2
  clear hr2
  go_wp2_with fail
  ((with_reducible refine (HR2.out).mono ?_); rintro e w8 ⟨rfl, hA8, hf8⟩)
  have HY8 := As.mk (show ArAt w8 { σy with s := moreN (moreN σy.s g.c.toNat) g.c.toNat } K2 from hA8)
  have HF8 := As.mk (show Fr None_ w w8 from HF7.out.after hf8 (fun b hb h => absurd ((HLO.out _ HWY7.out.sees.g).2 b h) (by omega)))
  have HGB8 := As.mk (hf8.heap HGB7.out (HGN.out _ _ _ HY7.out HGB7.out))
  have hwx7 : Whole { σ1 with s := moreN σy.s g.c.toNat } g (V2o g) 1 := HWX.out.turn (sees_moreN HWY.out.sees _)
  have hse8 := sees_moreN (sees_moreN HWY.out.sees g.c.toNat) g.c.toNat
  have HX8 := As.mk (show ArAt w8 { σ1 with s := moreN (moreN σy.s g.c.toNat) g.c.toNat } K from beside_ HX7.out HY7.out (by
    have h := HY8.out.nand
    rw [HDX.out.2.2.1, HDX.out.2.2.2] at h
    exact h) (hse8.g.trans hwx7.sees.g.symm) (HWY7.out.sees.g.trans hwx7.sees.g.symm) hf8 HDX.out.2.2.1 HDX.out.2.2.2 HDX.out.1 HDX.out.2.1)
  have HWX8 := As.mk (show Whole { σ1 with s := moreN (moreN σy.s g.c.toNat) g.c.toNat } g (V2o g) 1 from HWX.out.turn hse8)
  have HWY8 := As.mk (show Whole { σy with s := moreN (moreN σy.s g.c.toNat) g.c.toNat } g (V2o g) 2 from HWY.out.turn hse8)
  clear hA8 hf8 hwx7 hse8 HR2
  go_wp2_with fail
  ((with_reducible refine (ArrB.Set_calls _ K _ HX8.out).mono ?_); rintro e w9 ⟨v9, rfl, hm9, hf9⟩)
  have HF9 := As.mk (HF8.out.after hf9 (fun _ _ h => h))
  have HY9 := As.mk (HY8.out.none_ hf9)
  have HGB9 := As.mk (hf9.heap HGB8.out (fun h => h))
  obtain ⟨v91, rfl, hrw9⟩ := set_of HWX8.out hm9
  have HRW9 := As.mk hrw9
  clear hf9 hm9 hrw9
  go_wp2_with fail
  ((with_reducible refine (ArrB.Set_calls _ K2 _ HY9.out).mono ?_); rintro e wa ⟨va, rfl, hma, hfa⟩)
  have HFa := As.mk (HF9.out.after hfa (fun _ _ h => h))
  have HGBa := As.mk (hfa.heap HGB9.out (fun h => h))
  obtain ⟨va1, rfl, hrwa⟩ := set_of HWY8.out hma
  have HRWa := As.mk hrwa
  have HRWb := As.mk (HRW9.out.none_ hfa)
  clear hfa hma hrwa
  obtain ⟨Ax, nx, cx, ex, hmx, hdx, _⟩ := HRWb.out.rd
  obtain ⟨Ay, ny, cy, ey, hmy, hdy, _⟩ := HRWa.out.rd
  subst ex ey
  have hnx : ((nx : Nat) : Int) = g.c := by rw [← hdx.out.1]; exact HGC.out
  have z0 := cell_is (i := 0) HGBa.out rfl
  go_upto_region 17 with fail
  have hF : Fr None_ wa ((wa.alloc (.cells #[.int .u32 1, .slice Ax nx cx, .int .i64 g.c, .int .i64 255, .int .i64 0] 40)).alloc (.cells #[.int .u32 2, .slice Ay ny cy, .int .i64 g.c, .int .i64 255, .int .i64 0] 40)) := ((Fr.refl None_ wa).alloc _).alloc _
  have HFb := As.mk (HFa.out.after hF (fun _ _ h => h))
  have hb1 := at_old (.cells #[.int .u32 2, .slice Ay ny cy, .int .i64 g.c, .int .i64 255, .int .i64 0] 40) (heap_alloc_new wa (.cells #[.int .u32 1, .slice Ax nx cx, .int .i64 g.c, .int .i64 255, .int .i64 0] 40))
  have hb2 := at_new (.cells #[.int .u32 2, .slice Ay ny cy, .int .i64 g.c, .int .i64 255, .int .i64 0] 40) (size_new (.cells #[.int .u32 1, .slice Ax nx cx, .int .i64 g.c, .int .i64 255, .int .i64 0] 40) (rfl : wa.heap.size = wa.heap.size))
  have hgb := hF.heap HGBa.out (fun h => h)
  have HX := As.mk (hdx.out.none_ hF)
  have HY := As.mk (hdy.out.none_ hF)
  generalize (wa.alloc (.cells #[.int .u32 1, .slice Ax nx cx, .int .i64 g.c, .int .i64 255, .int .i64 0] 40)).alloc (.cells #[.int .u32 2, .slice Ay ny cy, .int .i64 g.c, .int .i64 255, .int .i64 0] 40) = wb at *
  generalize wa.heap.size = b1 at *
  clear z0
  have HB1 := As.mk hb1
  have HB2 := As.mk hb2
  have HGBb := As.mk hgb
  have x0 := cell_is (v := .int .u32 1) (i := 0) hb1 rfl
  have x1 := cell_is (v := .slice Ax nx cx) (i := 1) hb1 rfl
  have x2 := cell_is (v := .int .i64 g.c) (i := 2) hb1 rfl
  have x3 := cell_is (v := .int .i64 255) (i := 3) hb1 rfl
  have x4 := cell_is (v := .int .i64 0) (i := 4) hb1 rfl
  clear hb1 hb2 hgb hF
  go_wp2_with fail
  ((with_reducible refine (full_of hmx.out HX.out).mono ?_); rintro e wc ⟨rfl, hfc⟩)
  have HFc := As.mk (HFb.out.after hfc (fun _ _ h => h))
  have HB1c := As.mk (hfc.heap HB1.out (fun h => h))
  have HB2c := As.mk (hfc.heap HB2.out (fun h => h))
  have HGBc := As.mk (hfc.heap HGBb.out (fun h => h))
  have HYc := As.mk (HY.out.none_ hfc)
  clear hfc x0 x1 x2 x3 x4
  have y0 := cell_is (v := .int .u32 2) (i := 0) HB2c.out rfl
  have y1 := cell_is (v := .slice Ay ny cy) (i := 1) HB2c.out rfl
  have y2 := cell_is (v := .int .i64 g.c) (i := 2) HB2c.out rfl
  have y3 := cell_is (v := .int .i64 255) (i := 3) HB2c.out rfl
  have y4 := cell_is (v := .int .i64 0) (i := 4) HB2c.out rfl
  go_wp2_with fail
  ((with_reducible refine (full_of hmy.out HYc.out).mono ?_); rintro e wd ⟨rfl, hfd⟩)
  have HFd := As.mk (HFc.out.after hfd (fun _ _ h => h))
  have hb1d := hfd.heap HB1c.out (fun h => h)
  have hb2d := hfd.heap HB2c.out (fun h => h)
  have hgbd := hfd.heap HGBc.out (fun h => h)
  clear hfd y0 y1 y2 y3 y4
  have x0 := cell_is (v := .int .u32 1) (i := 0) hb1d rfl
  have x1 := cell_is (v := .slice Ax nx cx) (i := 1) hb1d rfl
  have x2 := cell_is (v := .int .i64 g.c) (i := 2) hb1d rfl
  have y0 := cell_is (v := .int .u32 2) (i := 0) hb2d rfl
  have y2 := cell_is (v := .int .i64 g.c) (i := 2) hb2d rfl
  have z0 := cell_is (v := .int .i64 g.c) (i := 0) hgbd rfl
  clear hb1d hb2d hgbd
  go_wp2_with fail
  go_ret
  exact ⟨rfl, HFd.out⟩
end Go.Proofs.YteofgpaceeibpaaGreat.Fresh

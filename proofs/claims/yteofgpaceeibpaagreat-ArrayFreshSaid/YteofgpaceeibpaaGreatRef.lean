/- Small functions of the references: parts of bytes, numbers, sums. -/
import Derived.Test.YteofgpaceeibpaaGreatSum
import Derived.Laws.BytesArg
import Derived.Laws.BitsAllLaws
import Derived.Test.YteofgpaceeibpaaGreatRdr
namespace Go.Proofs.YteofgpaceeibpaaGreat.Ref
open Go.RowKit Go.Proofs.YteofgpaceeibpaaGreat.Gab Go.Proofs.YteofgpaceeibpaaGreat.Wr Go.Proofs.YteofgpaceeibpaaGreat.Sum Go.Proofs.YteofgpaceeibpaaGreat.Rdr
set_option linter.unusedVariables false
set_option linter.unusedSimpArgs false

/-- A row of one's own that grows: nothing old has changed. -/
theorem row_grow {e : TypeId} {k : IntKind} {w wr w1 : World} {v : Value} {xs : List Int} (h : Row e k wr w.heap.size v xs) (hf : Fr None_ w wr) (h1 : Fr (fun b => v.ownBlock = some b) wr w1) : Fr None_ w w1 :=
  hf.after h1 (fun i hi hb => absurd hi (by have := (h.blk i hb).1; omega))

set_option maxHeartbeats 1000000 in
set_option maxRecDepth 100000 in
theorem Part_calls (A : Option Addr) (n c : Nat) (xs : List Int) (i k : Int) (w : World) (hA : Rd .u8 w A n xs) (hc : n ≤ c) (hn : n ≤ 70368744177664) (h0 : 0 ≤ i) (hk : 0 ≤ k) (hik : i + k ≤ (n : Int)) :
    Calls Tryz.prog 148 #[.slice A n c, .int .i64 i, .int .i64 k] w fun e w' => ∃ v, e = .returned v ∧ Row 5 .u8 w' w.heap.size v ((xs.drop i.toNat).take k.toNat) ∧ Fr None_ w w' := by
  have HA := As.mk hA
  have hik2 : (i + k).toNat - i.toNat = k.toNat := by omega
  have HK := As.mk hik2
  clear hik2 hA
  have HD : As (Rd .u8 w (if c = i.toNat then A else A.map (·.add i.toNat)) ((i + k).toNat - i.toNat) ((xs.drop i.toNat).take k.toNat)) := ⟨by rw [HK.out]; exact (HA.out.drop i.toNat (by omega) hc).take k.toNat (by omega)⟩
  have hd : i ≤ i + k := by omega
  have hs : 0 ≤ i + k := by omega
  have hc2 : i + k ≤ (c : Int) := by omega
  have hfin : As (0 < 1) := ⟨by decide⟩
  by_cases hcap : c = i.toNat
  · have HD2 : As (Rd .u8 w A ((i + k).toNat - i.toNat) ((xs.drop i.toNat).take k.toNat)) := ⟨by have h := HD.out; rw [if_pos hcap] at h; exact h⟩
    go_enter Tryz.func148, Tryz.ntmps148
    go_wp2_with (at_builtin; (with_reducible refine appendRow w.heap.size rfl _ _ 48 5 .u8 1 rfl Tryz.underlying48 infoByte (by decide) (.slice none 0 0) [] ((xs.drop i.toNat).take k.toNat) (A) ((i + k).toNat - i.toNat) (0) rfl rfl (Row.nil _ _ _ _) HD2.out (Nat.le_refl _) ?c1 ?_); (case c1 => have := HK.out; simp; omega); intro v1 w1 hrow1 hfr1 hat1; have HR1 := As.mk hrow1; have HF1 := As.mk hfr1; clear hrow1 hfr1 hat1; obtain ⟨A1, n1, c1, e1, _⟩ := HR1.out.rd; subst e1)
    go_ret
    exact ⟨_, rfl, HR1.out, HF1.out.mono (fun i _ h => by cases h)⟩
  · have HD2 : As (Rd .u8 w (A.map (fun x => x.add i.toNat)) ((i + k).toNat - i.toNat) ((xs.drop i.toNat).take k.toNat)) := ⟨by have h := HD.out; rw [if_neg hcap] at h; exact h⟩
    go_enter Tryz.func148, Tryz.ntmps148
    go_wp2_with (at_builtin; (with_reducible refine appendRow w.heap.size rfl _ _ 48 5 .u8 1 rfl Tryz.underlying48 infoByte (by decide) (.slice none 0 0) [] ((xs.drop i.toNat).take k.toNat) (A.map (fun x => x.add i.toNat)) ((i + k).toNat - i.toNat) (c - i.toNat) rfl rfl (Row.nil _ _ _ _) HD2.out (Nat.le_refl _) ?c1 ?_); (case c1 => have := HK.out; simp; omega); intro v1 w1 hrow1 hfr1 hat1; have HR1 := As.mk hrow1; have HF1 := As.mk hfr1; clear hrow1 hfr1 hat1; obtain ⟨A1, n1, c1, e1, _⟩ := HR1.out.rd; subst e1)
    go_ret
    exact ⟨_, rfl, HR1.out, HF1.out.mono (fun i _ h => by cases h)⟩

set_option maxHeartbeats 1000000 in
set_option maxRecDepth 100000 in
theorem Zeros_calls (n : Nat) (w : World) (hn : n ≤ 70368744177664) :
    Calls Tryz.prog 79 #[.int .i64 (n : Int)] w fun e w' => ∃ v, e = .returned v ∧ Row 5 .u8 w' w.heap.size v (List.replicate n 0) ∧ Fr None_ w w' := by
  have hmk := Gab.run_make (P := Tryz.prog) 48 5 .u8 1 Tryz.underlying48 infoByte (by decide) n (by omega)
  have HN := As.mk hn
  clear hn
  go_enter Tryz.func79, Tryz.ntmps79
  go_wp2
  go_ret
  exact ⟨_, rfl, Row.made w w.heap.size _ _ n (Nat.le_refl _) (by have := HN.out; omega), (Fr.refl None_ w).alloc _⟩

/-! ### numbers -/
/-- The number of bytes, the lowest first. -/
def leVal : List Int → Int
  | [] => 0
  | x :: l => x + 256 * leVal l
theorem leVal_snoc : ∀ (l : List Int) (x : Int), leVal (l ++ [x]) = leVal l + x * 256 ^ l.length
  | [], x => by simp [leVal]
  | y :: l, x => by
    rw [List.cons_append, leVal, leVal_snoc l, leVal, List.length_cons, Int.pow_succ, Int.mul_add]
    rw [show 256 * (x * 256 ^ l.length) = x * (256 ^ l.length * 256) by rw [Int.mul_comm, Int.mul_assoc]]
    omega
theorem leVal_range : ∀ (l : List Int), InR 256 l → 0 ≤ leVal l ∧ leVal l < 256 ^ l.length
  | [], _ => by simp [leVal]
  | y :: l, h => by
    have h1 := leVal_range l (fun x hx => h x (List.mem_cons_of_mem _ hx))
    have h2 := h y List.mem_cons_self
    rw [leVal, List.length_cons, Int.pow_succ]
    omega
theorem leVal_take {l : List Int} {j : Nat} (hj : j < l.length) : leVal (l.take (j + 1)) = leVal (l.take j) + l.getD j 0 * 256 ^ j := by
  rw [List.take_succ_eq_append_getElem hj, leVal_snoc, List.length_take, List.getD_eq_getElem?_getD, List.getElem?_eq_getElem hj, Nat.min_eq_left (by omega)]
  rfl
theorem inR_take {m : Int} {l : List Int} (h : InR m l) (j : Nat) : InR m (l.take j) := fun x hx => h x (List.mem_of_mem_take hx)
theorem inR_drop {m : Int} {l : List Int} (h : InR m l) (j : Nat) : InR m (l.drop j) := fun x hx => h x (List.mem_of_mem_drop hx)

theorem pow_lo {j : Nat} (hj : j ≤ 4) : (1 : Int) ≤ 256 ^ j ∧ (256 : Int) ^ j ≤ 4294967296 := by
  match j, hj with
  | 0, _ => decide
  | 1, _ => decide
  | 2, _ => decide
  | 3, _ => decide
  | 4, _ => decide

theorem num_step {l : List Int} {j : Nat} (hj : j < l.length) (h4 : l.length ≤ 4) (hr : InR 256 l) :
    IntKind.u64.wrap (leVal (l.take j) + IntKind.u64.wrap (IntKind.u64.wrap (l.getD j 0) * 256 ^ j)) = leVal (l.take (j + 1)) ∧ IntKind.u64.wrap ((256 : Int) ^ j * 256) = 256 ^ (j + 1) := by
  have hx := inR_at hr hj
  have ht := leVal_take hj
  have hrg := leVal_range _ (inR_take hr j)
  rw [List.length_take, Nat.min_eq_left (by omega)] at hrg
  have hp := pow_lo (j := j) (by omega)
  have hp1 := pow_lo (j := j + 1) (by omega)
  have hps := Int.pow_succ (256 : Int) j
  generalize leVal (l.take (j + 1)) = a1 at *
  generalize leVal (l.take j) = a at *
  generalize l.getD j 0 = x at *
  generalize (256 : Int) ^ j = b at *
  generalize (256 : Int) ^ (j + 1) = b1 at *
  have hxb : 0 ≤ x * b ∧ x * b ≤ 255 * b := ⟨Int.mul_nonneg (by omega) (by omega), Int.mul_le_mul_of_nonneg_right (by omega) (by omega)⟩
  constructor
  · rw [show IntKind.u64.wrap x = x by rw [IntKind.wrap_u64]; omega, IntKind.wrap_u64, IntKind.wrap_u64]; omega
  · rw [IntKind.wrap_u64]; omega

set_option maxHeartbeats 1000000 in
set_option maxRecDepth 100000 in
theorem Num_calls (A : Option Addr) (n c : Nat) (xs : List Int) (i k : Int) (w : World) (hA : Rd .u8 w A n xs) (hr : InR 256 xs) (hn : n ≤ 70368744177664) (h0 : 0 ≤ i) (hk : 0 ≤ k) (hk8 : k ≤ 4) (hik : i + k ≤ (n : Int)) :
    Calls Tryz.prog 90 #[.slice A n c, .int .i64 i, .int .i64 k] w fun e w' => e = .returned (.int .u64 (leVal ((xs.drop i.toNat).take k.toNat))) ∧ w = w' := by
  have HA := As.mk hA
  have HL : As (((xs.drop i.toNat).take k.toNat).length = k.toNat) := ⟨by rw [List.length_take, List.length_drop, hA.1]; omega⟩
  have HR : As (InR 256 ((xs.drop i.toNat).take k.toNat)) := ⟨inR_take (inR_drop hr _) _⟩
  have HG : As (∀ j : Nat, (j : Int) < k → xs.getD (i + j).toNat 0 = ((xs.drop i.toNat).take k.toNat).getD j 0) := ⟨fun j hj => by
    simp only [List.getD_eq_getElem?_getD, List.getElem?_take, List.getElem?_drop]
    rw [if_pos (by omega), show (i + (j : Int)).toNat = i.toNat + j by omega]⟩
  clear hA hr
  generalize (xs.drop i.toNat).take k.toNat = l at *
  go_enter Tryz.func90, Tryz.ntmps90
  go_wp2
  go_loop [7, 8, 9] (fun v7 v8 v9 => ∃ j : Nat, v7 = .int .u64 (leVal (l.take j)) ∧ v8 = .int .u64 (256 ^ j) ∧ v9 = .int .i64 (j : Int) ∧ (j : Int) ≤ k) (fun _ _ v9 => k.toNat - (intOf v9).toNat)
  case atStart => exact ⟨0, rfl, rfl, rfl, by omega⟩
  case round =>
    obtain ⟨j, rfl, rfl, rfl, hj⟩ := hrel
    by_cases hlt : (j : Int) < k
    · obtain ⟨ad, rfl, hc⟩ := HA.out.at_ (i + j) (by omega) (by omega)
      have hjl : j < l.length := by have := HL.out; omega
      rw [HG.out j hlt] at hc
      have hx := inR_at HR.out hjl
      have HS := As.mk (num_step hjl (by have := HL.out; omega) HR.out)
      clear hx
      generalize ha : leVal (l.take j) = a at *
      generalize hb : (256 : Int) ^ j = b at *
      generalize hxe : l.getD j 0 = x at *
      have HE := As.mk (And.intro ha (And.intro hb hxe))
      clear ha hb hxe
      go_wp2
      refine ⟨⟨j + 1, ?_, ?_, by go_num, by omega⟩, by simp [intOf]; omega⟩
      · rw [HS.out.1]
      · rw [HS.out.2]
    · have HF : As (l.take j = l) := ⟨List.take_of_length_le (by have := HL.out; omega)⟩
      rw [HF.out]
      go_wp2
      go_ret
      exact ⟨rfl, rfl⟩

theorem Row.cat {e : TypeId} {k : IntKind} {w : World} {base : Nat} {v : Value} {xs : List Int} (h : Row e k w base v xs) : ∃ A c, v = .slice A xs.length c := by
  rcases h.2 with ⟨rfl, hn⟩ | ⟨g, cap, cur, rfl, _⟩
  · exact ⟨_, _, by rw [hn]⟩
  · exact ⟨_, _, rfl⟩

/-! ### one list in the place of a part of another -/
def withAt (xs : List Int) (i : Nat) (ys : List Int) : List Int := xs.take i ++ ys ++ xs.drop (i + ys.length)
/-- append(v, b[i:]...): the slice by cases. -/
theorem rd_tail {w : World} {A : Option Addr} {n c : Nat} {xs : List Int} (h : Rd .u8 w A n xs) (i : Nat) (hi : i ≤ n) (hc : n ≤ c) : (c = i ∧ Rd .u8 w A (n - i) (xs.drop i)) ∨ (¬ c = i ∧ Rd .u8 w (A.map (fun x => x.add i)) (n - i) (xs.drop i)) := by
  have hd := h.drop i hi hc
  by_cases he : c = i
  · rw [if_pos he] at hd; exact .inl ⟨he, hd⟩
  · rw [if_neg he] at hd; exact .inr ⟨he, hd⟩

/-! ### equal lists, noughts -/
theorem run_str {P : Program} (src e dst : TypeId) (hs : P.underlying src = some (.slice e)) (he : P.underlying e = some (.int .u8)) (hd : P.underlying dst = some .string) {w : World} {A : Option Addr} {n : Nat} {xs : List Int} (h : Rd .u8 w A n xs) (c : Nat) :
    (convert src dst (.slice A n c)).run P w = .ok (.string (strOfNums xs)) w := by
  rcases A with _ | ad
  · have hx : xs = [] := by
      rcases Nat.eq_zero_or_pos n with h0 | h0
      · exact List.eq_nil_of_length_eq_zero (h.1.trans h0)
      · obtain ⟨ad, h, _⟩ := h.2.2 h0
        cases h
    subst hx
    rw [run_convert_bytes_nil w src e hs he n c dst hd]
    rfl
  · have hl : (loadCells ad n).run P w = .ok (xs.map (Value.int .u8)).toArray w := by
      have := run_loadCells_list (P := P) w ad (xs.map (Value.int .u8)) (fun j v hj => by
        have hjl : j < xs.length := by
          rcases Nat.lt_or_ge j xs.length with h | h
          · exact h
          · simp [List.getElem?_eq_none (show (xs.map (Value.int .u8)).length ≤ j by simpa using h)] at hj
        have hjn : j < n := by rw [← h.1]; exact hjl
        obtain ⟨ad', e', hc⟩ := h.2.2 (by omega)
        injection e' with e'
        subst e'
        rw [hc j hjn]
        simp [List.getElem?_eq_getElem hjl] at hj
        subst hj
        simp [List.getD, List.getElem?_eq_getElem hjl])
      simpa [h.1] using this
    rw [run_convert_bytes_string w src dst e _ n c hs he hd, run_bytesToString w _ n c xs hl, foldl_push_bytes]
    simp [strOfNums, ByteArray.empty, ByteArray.emptyWithCapacity]
    rfl
theorem str_eq {xs ys : List Int} (hx : InR 256 xs) (hy : InR 256 ys) : ((strOfNums xs).toList == (strOfNums ys).toList) = decide (xs = ys) := by
  have hi : xs.map (fun n => UInt8.ofNat n.toNat) = ys.map (fun n => UInt8.ofNat n.toNat) → xs = ys := by
    intro h2
    have hl : xs.length = ys.length := by simpa using congrArg List.length h2
    refine List.ext_getElem hl fun i h1 h3 => ?_
    have h4 := congrArg (fun l => l[i]?) h2
    simp only [List.getElem?_map, List.getElem?_eq_getElem h1, List.getElem?_eq_getElem h3, Option.map_some, Option.some.injEq] at h4
    have h5 := congrArg UInt8.toNat h4
    simp only [UInt8.toNat_ofNat'] at h5
    have a1 := hx _ (List.getElem_mem h1)
    have a2 := hy _ (List.getElem_mem h3)
    omega
  unfold strOfNums
  rw [ByteArray.toList_eq, ByteArray.toList_eq]
  by_cases h : xs = ys
  · subst h; simp
  · rw [decide_eq_false h]
    exact beq_eq_false_iff_ne.mpr (fun e => h (hi (by simpa using e)))

set_option maxHeartbeats 1000000 in
set_option maxRecDepth 100000 in
theorem Same_calls (A B : Option Addr) (n c m d : Nat) (xs ys : List Int) (w : World) (hA : Rd .u8 w A n xs) (hB : Rd .u8 w B m ys) (hx : InR 256 xs) (hy : InR 256 ys) :
    Calls Tryz.prog 88 #[.slice A n c, .slice B m d] w fun e w' => e = .returned (.bool (decide (xs = ys))) ∧ w = w' := by
  have h1 := run_str (P := Tryz.prog) 48 5 9 rfl rfl rfl hA c
  have h2 := run_str (P := Tryz.prog) 48 5 9 rfl rfl rfl hB d
  have HS := As.mk (str_eq hx hy)
  clear hA hB hx hy
  go_enter Tryz.func88, Tryz.ntmps88
  go_wp2
  go_ret
  exact ⟨by rw [← HS.out]; rfl, rfl⟩

end Go.Proofs.YteofgpaceeibpaaGreat.Ref

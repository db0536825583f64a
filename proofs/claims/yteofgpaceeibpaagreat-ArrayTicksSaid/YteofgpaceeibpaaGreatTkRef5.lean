/- Small functions of the references: parts of bytes, numbers, sums. | parity.Xor, slices of slices and of structs that are one's own. | The reference's sum of bytes is the program's, of one list. | The reference's seal and open of a record. -/
import Derived.Test.YteofgpaceeibpaaGreatTkSeal
import Derived.Laws.BytesArg
import Derived.Laws.BitsAllLaws
import Derived.Test.YteofgpaceeibpaaGreatTkRead
import Derived.Test.YteofgpaceeibpaaGreatTkOpen
namespace Go.Proofs.YteofgpaceeibpaaGreat.Ref
open Go.RowKit Gab Wr Go.Proofs.YteofgpaceeibpaaGreat.Sum Rdr
set_option linter.unusedVariables false
set_option linter.unusedSimpArgs false

/-- A row of one's own that grows: nothing old has changed. -/
theorem row_grow {e : TypeId} {k : IntKind} {w wr w1 : World} {v : Value} {xs : List Int} (h : Row e k wr w.heap.size v xs) (hf : Fr None_ w wr) (h1 : Fr (fun b => v.ownBlock = some b) wr w1) : Fr None_ w w1 :=
  hf.after h1 (fun i hi hb => absurd hi (by have := (h.blk i hb).1; omega))

set_option maxHeartbeats 1000000 in
set_option maxRecDepth 100000 in
theorem Zeros_calls (n : Nat) (w : World) (hn : n ≤ 70368744177664) :
    Calls Tryz.prog 79 #[.int .i64 (n : Int)] w fun e w' => ∃ v, e = .returned v ∧ Row 5 .u8 w' w.heap.size v (List.replicate n 0) ∧ Fr None_ w w' := by
  have hmk := Gab.run_make (P := Tryz.prog) 48 5 .u8 1 Tryz.underlying48 infoByte (by decide) n (by omega)
  have HN := As.mk hn
  clear hn
  go_enter Tryz.func79, Tryz.ntmps79
  go_wp2
  go_ret
  exact ⟨_, rfl, Row.made w w.heap.size _ _ n (Nat.le_refl _) (by have := HN.out; omega), (Fr.refl None_ w).alloc _⟩

/-! ### numbers -/
/-- The number of bytes, the lowest first. -/
def leVal : List Int → Int
  | [] => 0
  | x :: l => x + 256 * leVal l
theorem leVal_snoc : ∀ (l : List Int) (x : Int), leVal (l ++ [x]) = leVal l + x * 256 ^ l.length
  | [], x => by simp [leVal]
  | y :: l, x => by
    rw [List.cons_append, leVal, leVal_snoc l, leVal, List.length_cons, Int.pow_succ, Int.mul_add]
    rw [show 256 * (x * 256 ^ l.length) = x * (256 ^ l.length * 256) by rw [Int.mul_comm, Int.mul_assoc]]
    omega
theorem leVal_range : ∀ (l : List Int), InR 256 l → 0 ≤ leVal l ∧ leVal l < 256 ^ l.length
  | [], _ => by simp [leVal]
  | y :: l, h => by
    have h1 := leVal_range l (fun x hx => h x (List.mem_cons_of_mem _ hx))
    have h2 := h y List.mem_cons_self
    rw [leVal, List.length_cons, Int.pow_succ]
    omega
theorem inR_take {m : Int} {l : List Int} (h : InR m l) (j : Nat) : InR m (l.take j) := fun x hx => h x (List.mem_of_mem_take hx)
theorem inR_drop {m : Int} {l : List Int} (h : InR m l) (j : Nat) : InR m (l.drop j) := fun x hx => h x (List.mem_of_mem_drop hx)

/-! ### one list in the place of a part of another -/
def withAt (xs : List Int) (i : Nat) (ys : List Int) : List Int := xs.take i ++ ys ++ xs.drop (i + ys.length)
/-! ### equal lists, noughts -/
theorem run_str {P : Program} (src e dst : TypeId) (hs : P.underlying src = some (.slice e)) (he : P.underlying e = some (.int .u8)) (hd : P.underlying dst = some .string) {w : World} {A : Option Addr} {n : Nat} {xs : List Int} (h : Rd .u8 w A n xs) (c : Nat) :
    (convert src dst (.slice A n c)).run P w = .ok (.string (strOfNums xs)) w := by
  rcases A with _ | ad
  · have hx : xs = [] := by
      rcases Nat.eq_zero_or_pos n with h0 | h0
      · exact List.eq_nil_of_length_eq_zero (h.1.trans h0)
      · obtain ⟨ad, h, _⟩ := h.2.2 h0
        cases h
    subst hx
    rw [run_convert_bytes_nil w src e hs he n c dst hd]
    rfl
  · have hl : (loadCells ad n).run P w = .ok (xs.map (Value.int .u8)).toArray w := by
      have := run_loadCells_list (P := P) w ad (xs.map (Value.int .u8)) (fun j v hj => by
        have hjl : j < xs.length := by
          rcases Nat.lt_or_ge j xs.length with h | h
          · exact h
          · simp [List.getElem?_eq_none (show (xs.map (Value.int .u8)).length ≤ j by simpa using h)] at hj
        have hjn : j < n := by rw [← h.1]; exact hjl
        obtain ⟨ad', e', hc⟩ := h.2.2 (by omega)
        injection e' with e'
        subst e'
        rw [hc j hjn]
        simp [List.getElem?_eq_getElem hjl] at hj
        subst hj
        simp [List.getD, List.getElem?_eq_getElem hjl])
      simpa [h.1] using this
    rw [run_convert_bytes_string w src dst e _ n c hs he hd, run_bytesToString w _ n c xs hl, foldl_push_bytes]
    simp [strOfNums, ByteArray.empty, ByteArray.emptyWithCapacity]
    rfl
theorem str_eq {xs ys : List Int} (hx : InR 256 xs) (hy : InR 256 ys) : ((strOfNums xs).toList == (strOfNums ys).toList) = decide (xs = ys) := by
  have hi : xs.map (fun n => UInt8.ofNat n.toNat) = ys.map (fun n => UInt8.ofNat n.toNat) → xs = ys := by
    intro h2
    have hl : xs.length = ys.length := by simpa using congrArg List.length h2
    refine List.ext_getElem hl fun i h1 h3 => ?_
    have h4 := congrArg (fun l => l[i]?) h2
    simp only [List.getElem?_map, List.getElem?_eq_getElem h1, List.getElem?_eq_getElem h3, Option.map_some, Option.some.injEq] at h4
    have h5 := congrArg UInt8.toNat h4
    simp only [UInt8.toNat_ofNat'] at h5
    have a1 := hx _ (List.getElem_mem h1)
    have a2 := hy _ (List.getElem_mem h3)
    omega
  unfold strOfNums
  rw [ByteArray.toList_eq, ByteArray.toList_eq]
  by_cases h : xs = ys
  · subst h; simp
  · rw [decide_eq_false h]
    exact beq_eq_false_iff_ne.mpr (fun e => h (hi (by simpa using e)))

set_option maxHeartbeats 1000000 in
set_option maxRecDepth 100000 in
theorem Same_calls (A B : Option Addr) (n c m d : Nat) (xs ys : List Int) (w : World) (hA : Rd .u8 w A n xs) (hB : Rd .u8 w B m ys) (hx : InR 256 xs) (hy : InR 256 ys) :
    Calls Tryz.prog 88 #[.slice A n c, .slice B m d] w fun e w' => e = .returned (.bool (decide (xs = ys))) ∧ w = w' := by
  have h1 := run_str (P := Tryz.prog) 48 5 9 rfl rfl rfl hA c
  have h2 := run_str (P := Tryz.prog) 48 5 9 rfl rfl rfl hB d
  have HS := As.mk (str_eq hx hy)
  clear hA hB hx hy
  go_enter Tryz.func88, Tryz.ntmps88
  go_wp2
  go_ret
  exact ⟨by rw [← HS.out]; rfl, rfl⟩

end Go.Proofs.YteofgpaceeibpaaGreat.Ref
namespace Go.Proofs.YteofgpaceeibpaaGreat.Par
open Go.RowKit Gab Wr Go.Proofs.YteofgpaceeibpaaGreat.Sum Ref
set_option linter.unusedVariables false
set_option linter.unusedSimpArgs false

/-! ### rows of whatever values -/
/-- A value that is a slice of bytes. -/
def Sl (w : World) (v : Value) (xs : List Int) : Prop := ∃ A n c, v = .slice A n c ∧ n ≤ c ∧ Rd .u8 w A n xs
theorem Sl.fr {S : Nat → Prop} {w w' : World} {v : Value} {xs : List Int} (h : Sl w v xs) (hf : Fr S w w') (hS : ∀ b, v.ownBlock = some b → ¬ S b) : Sl w' v xs := by
  obtain ⟨A, n, c, rfl, h1, h2⟩ := h
  exact ⟨A, n, c, rfl, h1, h2.fr hf (fun ad e _ => hS _ (by subst e; rfl))⟩
theorem Sl.none_ {w w' : World} {v : Value} {xs : List Int} (h : Sl w v xs) (hf : Fr None_ w w') : Sl w' v xs := h.fr hf (fun _ _ h => h)
theorem Row.sl {w : World} {base : Nat} {v : Value} {xs : List Int} (h : Row 5 .u8 w base v xs) : Sl w v xs := by
  obtain ⟨A, n, c, e, h1, h2, _⟩ := h.rd
  exact ⟨A, n, c, e, h1.out, h2.out⟩
/-- Values that are slices of bytes. -/
def Sls (w : World) (vs : List Value) (ls : List (List Int)) : Prop := vs.length = ls.length ∧ ∀ j, j < ls.length → Sl w (vs.getD j undef) (ls.getD j [])
theorem Sls.none_ {w w' : World} {vs : List Value} {ls : List (List Int)} (h : Sls w vs ls) (hf : Fr None_ w w') : Sls w' vs ls := ⟨h.1, fun j hj => (h.2 j hj).none_ hf⟩
theorem Sls.nil (w : World) : Sls w [] [] := ⟨rfl, fun j hj => absurd hj (by simp)⟩
theorem Sls.snoc {w : World} {vs : List Value} {ls : List (List Int)} (h : Sls w vs ls) {v : Value} {xs : List Int} (hv : Sl w v xs) : Sls w (vs ++ [v]) (ls ++ [xs]) := by
  refine ⟨by simp [h.1], fun j hj => ?_⟩
  simp only [List.getD_eq_getElem?_getD]
  by_cases e : j < ls.length
  · rw [List.getElem?_append_left (by rw [h.1]; exact e), List.getElem?_append_left e]
    have := h.2 j e
    simpa only [List.getD_eq_getElem?_getD] using this
  · have e2 : j = ls.length := by simp at hj; omega
    subst e2
    rw [List.getElem?_append_right (by rw [h.1]; exact Nat.le_refl _), List.getElem?_append_right (Nat.le_refl _), h.1]
    simpa using hv
/-- A row of one's own, whatever its cells. -/
def RowV (e : TypeId) (size : Nat) (w : World) (base : Nat) (v : Value) (n : Nat) (vs : List Value) : Prop := w.ownsRow base e size v n vs ∧ vs.length = n * size
theorem RowV.nil (e : TypeId) (size : Nat) (w : World) (base : Nat) : RowV e size w base (.slice none 0 0) 0 [] := ⟨⟨by simp, .inl ⟨rfl, rfl⟩⟩, by simp⟩
theorem RowV.fr {S : Nat → Prop} {e : TypeId} {size : Nat} {w w' : World} {base : Nat} {v : Value} {n : Nat} {vs : List Value} (h : RowV e size w base v n vs) (hf : Fr S w w') (hS : ∀ b, v.ownBlock = some b → ¬ S b) : RowV e size w' base v n vs := by
  refine ⟨⟨h.1.1, ?_⟩, h.2⟩
  rcases h.1.2 with h2 | ⟨g, cap, cur, rfl, hb, hg, r⟩
  · exact .inl h2
  · exact .inr ⟨g, cap, cur, rfl, hb, hf.heap hg (hS g rfl), r⟩
theorem RowV.none_ {e : TypeId} {size : Nat} {w w' : World} {base : Nat} {v : Value} {n : Nat} {vs : List Value} (h : RowV e size w base v n vs) (hf : Fr None_ w w') : RowV e size w' base v n vs := h.fr hf (fun _ _ h => h)
theorem RowV.lower {e : TypeId} {size : Nat} {w : World} {base base' : Nat} {v : Value} {n : Nat} {vs : List Value} (h : RowV e size w base v n vs) (hb : base' ≤ base) : RowV e size w base' v n vs := by
  refine ⟨⟨h.1.1, ?_⟩, h.2⟩
  rcases h.1.2 with h2 | ⟨g, cap, cur, rfl, hg, r⟩
  · exact .inl h2
  · exact .inr ⟨g, cap, cur, rfl, by omega, r⟩
theorem RowV.blk {e : TypeId} {size : Nat} {w : World} {base : Nat} {v : Value} {n : Nat} {vs : List Value} (h : RowV e size w base v n vs) (b : Nat) (hb : v.ownBlock = some b) : base ≤ b ∧ b < w.heap.size ∧ ∃ cs, w.heap[b]? = some (.cells cs e (0, 0)) := by
  rcases h.1.2 with ⟨rfl, _⟩ | ⟨g, cap, cur, rfl, hg, hh, r⟩
  · simp [Value.ownBlock] at hb
  · obtain rfl : g = b := by simpa [Value.ownBlock] using hb
    exact ⟨hg, (Array.getElem?_eq_some_iff.1 hh).1, cur, hh⟩
theorem RowV.grow {e : TypeId} {size : Nat} {w wr w1 : World} {v : Value} {n : Nat} {vs : List Value} (h : RowV e size wr w.heap.size v n vs) (hf : Fr None_ w wr) (h1 : Fr (fun b => v.ownBlock = some b) wr w1) : Fr None_ w w1 :=
  hf.after h1 (fun i hi hb => absurd hi (by have := (h.blk i hb).1; omega))
/-- Cells that are read. -/
def RdC (w : World) (A : Option Addr) (m : Nat) (vs : List Value) : Prop := vs.length = m ∧ (0 < m → ∃ ad, A = some ad ∧ ∀ j, j < m → w.cell? (ad.add j) = some (vs.getD j undef))
theorem RdC.fr {S : Nat → Prop} {w w' : World} {A : Option Addr} {m : Nat} {vs : List Value} (h : RdC w A m vs) (hf : Fr S w w') (hS : ∀ ad, A = some ad → 0 < m → ¬ S ad.block) : RdC w' A m vs :=
  ⟨h.1, fun hm => by
    obtain ⟨ad, e, hc⟩ := h.2 hm
    exact ⟨ad, e, fun j hj => hf.cell (hc j hj) (by rw [add_block]; exact hS ad e hm)⟩⟩
theorem RdC.none_ {w w' : World} {A : Option Addr} {m : Nat} {vs : List Value} (h : RdC w A m vs) (hf : Fr None_ w w') : RdC w' A m vs := h.fr hf (fun _ _ _ h => h)
theorem RowV.rd {e : TypeId} {size : Nat} {w : World} {base : Nat} {v : Value} {n : Nat} {vs : List Value} (h : RowV e size w base v n vs) : ∃ A c, v = .slice A n c ∧ As (n ≤ c) ∧ As (RdC w A (n * size) vs) ∧ As (∀ ad, A = some ad → v.ownBlock = some ad.block) := by
  have h0 := h.1
  rcases h.1.2 with ⟨rfl, hn⟩ | ⟨g, cap, cur, rfl, hg, hh, hc, hm, hs, ht⟩
  · subst hn
    exact ⟨none, 0, rfl, ⟨Nat.le_refl _⟩, ⟨h.2, fun hp => by simp at hp⟩, ⟨fun ad e => by cases e⟩⟩
  · refine ⟨_, cap, rfl, ⟨hc⟩, ⟨h.2, fun hp => ⟨_, rfl, fun j hj => ?_⟩⟩, ⟨fun ad e => by cases e; rfl⟩⟩
    refine World.ownsRow.cells h0 rfl j _ ?_
    rw [List.getD_eq_getElem?_getD, List.getElem?_eq_getElem (by rw [h.2]; exact hj)]
    rfl
/-- Slices among cells. -/
theorem RdC.sls {w : World} {A : Option Addr} {n : Nat} {vs : List Value} {ls : List (List Int)} (h : RdC w A n vs) (hs : Sls w vs ls) (hn : n ≤ 9223372036854775807) : RdS .u8 w A n ls := by
  refine ⟨by rw [← hs.1, h.1], hn, fun hp => ?_⟩
  obtain ⟨ad, e, hc⟩ := h.2 hp
  refine ⟨ad, e, fun j hj => ?_⟩
  obtain ⟨Aj, nj, cj, ej, h1, h2⟩ := hs.2 j (by rw [← hs.1, h.1]; exact hj)
  exact ⟨Aj, nj, cj, by rw [hc j hj, ej], h1, h2⟩
section
variable {P : Program} {ops : Array Oper} {rest : List Oper} {o : Oper} {a : Act} {Q : Exit → Act → World → Prop}
/-- append(v, y): behind 'at_builtin'; the goal's world is W with the box of y's cells. -/
theorem appendV {W : World} (base : Nat) (hgd : o.guard = none) (s x : Operand) (t e : TypeId) (z : Value) (size bytes : Nat)
    (ho : o.op = .call { callee := .builtin .append, args := #[s, x], argTypes := #[t, t] })
    (ht : P.underlying t = some (.slice e)) (hinfo : (P.info? e).map (fun i => (i.zero, i.size, i.bytes)) = some (some z, size, bytes)) (hzs : z.cells.size = size) (hs0 : 0 < size) (hb0 : 0 < bytes)
    (v : Value) (n : Nat) (vs : List Value) (ys : Array Value) (g : Nat) (hg : W.heap.size = g) (hs : a.eval s = v) (hx : a.eval x = .slice (some ⟨g, 0, none⟩) 1 1) (hys : ys.size = size) (hone : ∀ u ∈ ys.toList, u.oneCell' = true)
    (HO : RowV e size W base v n vs) (hbase : base ≤ W.heap.size) (hl : (n + 1) * bytes ≤ 140737488355328)
    (h : ∀ v1 w1, RowV e size w1 base v1 (n + 1) (vs ++ ys.toList) → Fr (fun b => v.ownBlock = some b) W w1 → (v1.ownBlock = v.ownBlock ∨ ∃ b, v1.ownBlock = some b ∧ W.heap.size ≤ b) → wpList P ops Q rest (a.put o.dst v1) w1) :
    wpList P ops Q (o :: rest) a (W.alloc (.cells ys e)) := by
  obtain ⟨i0, hi, hzz⟩ := Option.map_eq_some_iff.1 hinfo
  simp only [Prod.mk.injEq] at hzz
  obtain ⟨hz0, hz1, hz2⟩ := hzz
  subst hg
  have hlen : n + 1 ≤ 140737488355328 := Nat.le_trans (Nat.le_mul_of_pos_right _ hb0) hl
  refine wpList_append_own_at (W.alloc (.cells ys e)) hgd s x t ho base e i0 z size bytes ht hi hz0 hz1 hz2 hzs hs0 v n vs hs (World.ownsRow.alloc HO.1 _) ⟨W.heap.size, 0, none⟩ 1 1 ys.toList hx (by simp [hys])
    (World.news_of_block (cs := ys) (t := e) (fr := (0, 0)) (heap_alloc_new W _)) hone (by simp only [maxLen]; omega) hl (by simp; omega) ?_
  intro v1 w1 hown hg _ hat
  refine h v1 w1 ⟨hown, ?_⟩ (((Fr.refl _ W).alloc _).grown hg (fun k hk _ => hk)) ?_
  · rw [List.length_append, HO.2, Array.length_toList, hys, Nat.add_mul, Nat.one_mul]
  · rcases hat with hat | hat
    · exact .inl hat
    · exact .inr ⟨_, hat, by simp⟩
end

theorem RdS.none_ {k : IntKind} {w w' : World} {A : Option Addr} {n : Nat} {ls : List (List Int)} (h : RdS k w A n ls) (hf : Fr None_ w w') : RdS k w' A n ls :=
  ⟨h.1, h.2.1, fun hp => by
    obtain ⟨ad, e, hc⟩ := h.2.2 hp
    refine ⟨ad, e, fun j hj => ?_⟩
    obtain ⟨Aj, nj, cj, h1, h2, h3⟩ := hc j hj
    exact ⟨Aj, nj, cj, hf.cell h1 (fun h => h), h2, h3.none_ hf⟩⟩

/-! ### Xor -/
def bx (a b : Int) : Int := bits .xor .u8 a b
def xorAll (N : Nat) (ls : List (List Int)) : List Int := ls.foldl (List.zipWith bx) (List.replicate N 0)
theorem xorAll_len (N : Nat) : ∀ (ls : List (List Int)) (z : List Int), z.length = N → (∀ l ∈ ls, l.length = N) → (ls.foldl (List.zipWith bx) z).length = N
  | [], z, hz, _ => hz
  | l :: ls, z, hz, h => by
    rw [List.foldl_cons]
    refine xorAll_len N ls _ ?_ (fun l' hl => h l' (List.mem_cons_of_mem _ hl))
    rw [List.length_zipWith, hz, h l (List.mem_cons_self)]
    omega
theorem part_xor {z l : List Int} {j : Nat} (hz : j < z.length) (hl : j < l.length) :
    ((List.zipWith bx z l).take j ++ z.drop j).set j (bx (z.getD j 0) (l.getD j 0)) = (List.zipWith bx z l).take (j + 1) ++ z.drop (j + 1) := by
  have h1 : ((List.zipWith bx z l).take j).length = j := by rw [List.length_take, List.length_zipWith]; omega
  rw [List.set_append_right _ _ (by omega), h1, Nat.sub_self, List.drop_eq_getElem_cons hz, List.set_cons_zero]
  rw [List.take_succ_eq_append_getElem (by rw [List.length_zipWith]; omega), List.getElem_zipWith, List.append_assoc]
  simp [List.getD_eq_getElem?_getD, List.getElem?_eq_getElem hz, List.getElem?_eq_getElem hl]
theorem part_get {z l : List Int} {j : Nat} (hz : j < z.length) (hl : j < l.length) : ((List.zipWith bx z l).take j ++ z.drop j).getD j 0 = z.getD j 0 := by
  have h1 : ((List.zipWith bx z l).take j).length = j := by rw [List.length_take, List.length_zipWith]; omega
  simp only [List.getD_eq_getElem?_getD]
  rw [List.getElem?_append_right (by omega), h1, List.getElem?_drop]
  simp

set_option maxHeartbeats 2000000 in
set_option maxRecDepth 100000 in
theorem Xor_calls (N : Nat) (ls : List (List Int)) (A : Option Addr) (n c : Nat) (w : World) (hR : RdS .u8 w A n ls) (hlen : ∀ l ∈ ls, l.length = N) (hN : N ≤ 1000000) (hn0 : 0 < n) :
    Calls Tryz.prog 110 #[.slice A n c] w fun e w' => ∃ v, e = .returned v ∧ Row 5 .u8 w' w.heap.size v (xorAll N ls) ∧ Fr None_ w w' := by
  have hmk := Gab.run_make (P := Tryz.prog) 48 5 .u8 1 Tryz.underlying48 infoByte (by decide) N (by omega)
  have HMK := As.mk hmk
  have HR := As.mk hR
  have HL := As.mk hlen
  have HN := As.mk hR.1
  have hn := hR.2.1
  clear hR hlen hmk
  go_enter Tryz.func110, Tryz.ntmps110
  go_wp2
  go_loop [3, 5, 13] (fun v3 v5 v13 => ∃ (t i : Int), v3 = .int .i64 t ∧ v13 = .int .i64 i ∧ 0 ≤ i ∧ i ≤ (n : Int) ∧ 0 ≤ t ∧ t ≤ (N : Int) ∧ As (0 < i → t = N)) (fun _ _ v13 => n - (intOf v13).toNat)
  case atStart => exact ⟨0, 0, rfl, rfl, by omega, by omega, by omega, by omega, ⟨fun h => by omega⟩⟩
  case round =>
    obtain ⟨t, i, rfl, rfl, hi0, hi, ht0, ht1, HT⟩ := hrel
    by_cases hlt : i < (n : Int)
    · obtain ⟨ad, Aj, nj, cj, rfl, hc, HJ, HD⟩ := HR.out.at_ i hi0 hlt
      have hil : i.toNat < ls.length := by have := HN.out; omega
      have hnj : nj = N := by
        rw [← HD.out.1, List.getD_eq_getElem?_getD, List.getElem?_eq_getElem hil]
        exact HL.out _ (List.getElem_mem hil)
      subst hnj
      go_wp2
      exact ⟨⟨_, i + 1, rfl, rfl, by omega, by omega, by omega, by omega, ⟨fun _ => by omega⟩⟩, by simp [intOf]; omega⟩
    · obtain rfl : t = N := HT.out (by omega)
      have hmk := HMK.out
      clear ht0 ht1
      go_wp2
      clear hmk
      have hW : As (Fr None_ w (w.alloc (.cells (madeCells #[.int .u8 0] N) 5))) := ⟨(Fr.refl _ w).alloc _⟩
      have hRow : As (RowAt 5 .u8 (w.alloc (.cells (madeCells #[.int .u8 0] N) 5)) w.heap.size w.heap.size N N (List.replicate N 0)) := ⟨⟨by simp, Row.made w w.heap.size 5 .u8 N (Nat.le_refl _) (by omega)⟩⟩
      generalize w.alloc (.cells (madeCells #[.int .u8 0] N) 5) = w1 at *
      go_loopw [8, 9, 10, 26] (fun v8 v9 v10 v26 w' => ∃ i : Int, v26 = .int .i64 i ∧ 0 ≤ i ∧ i ≤ (n : Int) ∧ As (RowAt 5 .u8 w' w.heap.size w.heap.size N N (xorAll N (ls.take i.toNat))) ∧ As (Fr None_ w w')) (fun _ _ _ v26 _ => n - (intOf v26).toNat)
      case atStart => exact ⟨0, rfl, by omega, by omega, hRow, hW⟩
      case round =>
        obtain ⟨i, rfl, hi0, hi, HX, HF⟩ := hrel
        by_cases hlt : i < (n : Int)
        · obtain ⟨ad, Aj, nj, cj, rfl, hc0, HJ, HD⟩ := HR.out.at_ i hi0 hlt
          have hc := HF.out.cell hc0 (fun h => h)
          clear hc0
          have hil : i.toNat < ls.length := by have := HN.out; omega
          have hnj : nj = N := by
            rw [← HD.out.1, List.getD_eq_getElem?_getD, List.getElem?_eq_getElem hil]
            exact HL.out _ (List.getElem_mem hil)
          subst hnj
          have HS : As (xorAll nj (ls.take (i + 1).toNat) = List.zipWith bx (xorAll nj (ls.take i.toNat)) (ls.getD i.toNat [])) := ⟨by rw [show (i + 1).toNat = i.toNat + 1 by omega]; exact foldl_snoc (List.zipWith bx) _ [] ls _ hil⟩
          have HZ : As ((xorAll nj (ls.take i.toNat)).length = nj) := ⟨HX.out.1⟩
          have HDL := As.mk HD.out.1
          generalize xorAll nj (ls.take i.toNat) = z at *
          generalize ls.getD i.toNat [] = l at *
          clear hil
          go_wp2
          clear hc
          go_loopw [9, 10, 32] (fun v9 v10 v32 w' => ∃ j : Int, v32 = .int .i64 j ∧ 0 ≤ j ∧ j ≤ (nj : Int) ∧ As (RowAt 5 .u8 w' w.heap.size w.heap.size nj nj ((List.zipWith bx z l).take j.toNat ++ z.drop j.toNat)) ∧ As (Fr None_ w w')) (fun _ _ v32 _ => nj - (intOf v32).toNat)
          case atStart => exact ⟨0, rfl, by omega, by omega, by simpa using HX, HF⟩
          case round =>
            obtain ⟨j, rfl, hj0, hj, HY, HG⟩ := hrel
            by_cases hlj : j < (nj : Int)
            · obtain ⟨ad2, rfl, hc2⟩ := (HD.out.none_ HG.out).at_ j hj0 hlj
              have hcell := HY.out.cell j hj0 hlj
              rw [part_get (by have := HZ.out; omega) (by have := HDL.out; omega)] at hcell
              obtain ⟨hc3, hf3⟩ := hcell
              have HP : As (((List.zipWith bx z l).take j.toNat ++ z.drop j.toNat).set j.toNat (bx (z.getD j.toNat 0) (l.getD j.toNat 0)) = (List.zipWith bx z l).take (j + 1).toNat ++ z.drop (j + 1).toNat) := ⟨by rw [show (j + 1).toNat = j.toNat + 1 by omega]; exact part_xor (by have := HZ.out; omega) (by have := HDL.out; omega)⟩
              have HST := As.mk (HY.out.store j (bx (z.getD j.toNat 0) (l.getD j.toNat 0)))
              have HFN := As.mk (HG.out.setCell (p := ⟨w.heap.size, j.toNat, none⟩) (fun h => absurd h (Nat.lt_irrefl _)) (.int .u8 (bx (z.getD j.toNat 0) (l.getD j.toNat 0))))
              unfold bx at HST HFN
              generalize z.getD j.toNat 0 = x at *
              generalize l.getD j.toNat 0 = y at *
              go_wp2
              refine ⟨⟨j + 1, rfl, by omega, by omega, ⟨?_⟩, HFN⟩, by simp [intOf]; omega⟩
              rw [← HP.out]
              exact HST.out
            · go_wp2
              refine ⟨⟨i + 1, rfl, by omega, by omega, ⟨?_⟩, HG⟩, by simp [intOf]; omega⟩
              rw [HS.out]
              have h := HY.out
              rw [List.take_of_length_le (by rw [List.length_zipWith]; have := HZ.out; have := HDL.out; omega), List.drop_eq_nil_of_le (by have := HZ.out; omega), List.append_nil] at h
              exact h
        · go_wp2
          go_ret
          refine ⟨_, rfl, ?_, HF.out⟩
          have h := HX.out.2
          rw [List.take_of_length_le (by have := HN.out; omega)] at h
          exact h
end Go.Proofs.YteofgpaceeibpaaGreat.Par
namespace Go.Proofs.YteofgpaceeibpaaGreat.SumR
open Go.RowKit Gab Wr Go.Proofs.YteofgpaceeibpaaGreat.Sum
set_option linter.unusedVariables false
set_option linter.unusedSimpArgs false

theorem and_one (s : Int) (h0 : 0 ≤ s) (h1 : s < 4294967296) : (bits .and .u32 s 1 == 1) = (s % 2 == 1) := by
  rw [u32_and s 1 h0 h1 (by decide) (by decide), show Int.toNat 1 = 1 from rfl, nat_mask1]
  rw [show ((s.toNat % 2 : Nat) : Int) = s % 2 by omega]
theorem not_u32 (s : Int) (h0 : 0 ≤ s) (h1 : s < 4294967296) : bits .xor .u32 (IntKind.u32.max) s = 4294967295 - s := by
  rw [show IntKind.u32.max = 4294967295 from rfl, u32_xor 4294967295 s (by decide) (by decide) h0 h1, show Int.toNat 4294967295 = 4294967295 from rfl]
  have hs : s.toNat < 2 ^ 32 := by omega
  have h := BitVec.toNat_not (x := BitVec.ofNat 32 s.toNat)
  have e : (4294967295 ^^^ s.toNat) = (~~~ (BitVec.ofNat 32 s.toNat)).toNat := by
    rw [BitVec.not_def, BitVec.toNat_xor, BitVec.toNat_allOnes, BitVec.toNat_ofNat, Nat.mod_eq_of_lt hs]
  rw [e, h, BitVec.toNat_ofNat, Nat.mod_eq_of_lt hs]
  omega
theorem step_range {s : Int} (h0 : 0 ≤ s) (h1 : s < 4294967296) : 0 ≤ crcStep s ∧ crcStep s < 4294967296 := by
  unfold crcStep
  split
  · exact bits_range _ _ _
  · omega
set_option maxHeartbeats 2000000 in
set_option maxRecDepth 100000 in
theorem Of_calls (xs : List Int) (A : Option Addr) (n c : Nat) (w : World) (hA : Rd .u8 w A n xs) (hr : InR 256 xs) :
    Calls Tryz.prog 91 #[.slice A n c] w fun e w' => e = .returned (.int .u32 (sumOf [xs])) ∧ w = w' := by
  have HA := As.mk hA
  have HI := As.mk hr
  have hn := hA.2.1
  clear hA hr
  go_enter Tryz.func91, Tryz.ntmps91
  go_wp2
  go_loop [3, 4, 5, 6] (fun v3 v4 v5 v6 => ∃ (t : Int) (j : Nat), v3 = .int .u32 t ∧ v4 = .int .i64 (j : Int) ∧ j ≤ n ∧ 0 ≤ t ∧ t < 4294967296 ∧ As (crcList 4294967295 (xs.take j) = t)) (fun _ v4 _ _ => n - (intOf v4).toNat)
  case atStart => exact ⟨4294967295, 0, rfl, rfl, by omega, by omega, by omega, ⟨rfl⟩⟩
  case round =>
    obtain ⟨t, j, rfl, rfl, hj, ht0, ht1, HT⟩ := hrel
    by_cases hlt : j < n
    · obtain ⟨ad, rfl, hc⟩ := HA.out.at_ j (by omega) (by omega)
      have hjl : j < xs.length := by have := HA.out.1; omega
      have hx := inR_at HI.out hjl
      have HJ : As (crcList 4294967295 (xs.take (j + 1)) = crcByte t (xs.getD j 0)) := ⟨by unfold crcList at *; rw [foldl_snoc crcByte _ 0 xs _ hjl, HT.out]⟩
      rw [show Int.toNat (j : Int) = j by omega] at hc
      clear hjl
      generalize xs.getD j 0 = x at *
      obtain ⟨hx0, hx1⟩ := hx
      go_wp2
      go_loop [3, 5, 6] (fun v3 v5 v6 => ∃ (u : Int) (k : Nat), v3 = .int .u32 u ∧ v5 = .int .i64 (k : Int) ∧ k ≤ 8 ∧ 0 ≤ u ∧ u < 4294967296 ∧ As (crcSteps k (bits .xor .u32 t x) = u)) (fun _ v5 _ => 8 - (intOf v5).toNat)
      case atStart =>
        have := bits_range .xor t x
        exact ⟨_, 0, rfl, rfl, by omega, this.1, this.2, ⟨rfl⟩⟩
      case round =>
        obtain ⟨u, k, rfl, rfl, hk, hu0, hu1, HU⟩ := hrel
        have HU2 : As (crcSteps (k + 1) (bits .xor .u32 t x) = crcStep u) := ⟨by rw [crcSteps, HU.out]⟩
        have HS := As.mk (step_range hu0 hu1)
        have HA1 := As.mk (and_one u hu0 hu1)
        by_cases hlk : k < 8
        · by_cases hb : u % 2 = 1
          · have HU3 : As (crcStep u = bits .xor .u32 (u / 2) 2197175160) := ⟨by rw [crcStep, HA1.out, if_pos (beq_iff_eq.mpr hb)]⟩
            go_wp2
            exact ⟨⟨_, k + 1, rfl, by go_num, by omega, by rw [← HU3.out]; exact HS.out.1, by rw [← HU3.out]; exact HS.out.2, ⟨by rw [HU2.out, HU3.out]⟩⟩, by simp [intOf]; omega⟩
          · have HU3 : As (crcStep u = u / 2) := ⟨by rw [crcStep, HA1.out, if_neg (fun h => hb (beq_iff_eq.mp h))]⟩
            go_wp2
            exact ⟨⟨_, k + 1, rfl, by go_num, by omega, by rw [← HU3.out]; exact HS.out.1, by rw [← HU3.out]; exact HS.out.2, ⟨by rw [HU2.out, HU3.out]⟩⟩, by simp [intOf]; omega⟩
        · have HU3 : As (crcByte t x = u) := ⟨by have h := HU.out; rw [show k = 8 by omega] at h; exact h⟩
          go_wp2
          exact ⟨⟨u, j + 1, rfl, by go_num, by omega, hu0, hu1, ⟨by rw [HJ.out, HU3.out]⟩⟩, by simp [intOf]; omega⟩
    · have HF : As (crcAll [xs] = t) := ⟨by have h := HT.out; rw [List.take_of_length_le (by have := HA.out.1; omega)] at h; exact h⟩
      have HG := As.mk (not_u32 t ht0 ht1)
      go_wp2
      go_ret
      refine ⟨?_, rfl⟩
      unfold sumOf
      rw [HF.out, HG.out]
      rfl
end Go.Proofs.YteofgpaceeibpaaGreat.SumR
namespace Go.Proofs.YteofgpaceeibpaaGreat.Ref5
open Go.RowKit Gab Wr Go.Proofs.YteofgpaceeibpaaGreat.Sum Fields Seal Ref SumR Go.Proofs.YteofgpaceeibpaaGreat.Open
set_option linter.unusedVariables false
set_option linter.unusedSimpArgs false

def rvals (h : Head) : Array Value := #[.int .i64 h.kind, .int .i64 h.epoch, .int .i64 h.batch, .int .i64 h.index, .int .i64 h.count, .int .i64 h.block, .int .i64 h.more]
end Go.Proofs.YteofgpaceeibpaaGreat.Ref5

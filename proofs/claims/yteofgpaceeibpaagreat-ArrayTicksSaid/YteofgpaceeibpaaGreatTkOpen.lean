/- record.Open: the header beside a page. -/
import Derived.Test.YteofgpaceeibpaaGreatTkRead
import Derived.Test.YteofgpaceeibpaaGreatTkSeal
import Derived.Deep.RegionHeld3
import Derived.Outline
import Derived.StillTailTactics
namespace Go.Proofs.YteofgpaceeibpaaGreat.Open
open Go.RowKit Reg Gab Wr Rdr Fields Go.Proofs.YteofgpaceeibpaaGreat.Sum Seal
set_option linter.unusedVariables false
set_option linter.unusedSimpArgs false

/-- k bytes from i on, as a number. -/
def numAt (bs : List Int) (i k : Nat) : Int := leNum ((bs.drop i).take k) % 256 ^ k
/-- The header that bytes say. -/
def headOf (bs : List Int) : Head := { kind := numAt bs 2 1, epoch := numAt bs 4 4, batch := numAt bs 8 4, index := numAt bs 12 2, count := numAt bs 14 2, block := numAt bs 16 4, more := numAt bs 20 4 }
/-- Are its mark, its noughts and its sum right? -/
def rightB (bs data : List Int) : Bool := numAt bs 0 2 == 22356 && numAt bs 3 1 == 0 && numAt bs 28 4 == 0 && numAt bs 24 4 == sumOf [bs.take 24, data, bs.drop 32]

/-- What stands while the header is read. -/
structure St (w0 : World) (p hb ob db kb : Nat) (A D : Option Addr) (c nd cd : Nat) (bs data : List Int) (i : Int) (v : Head) (w : World) : Prop where
  rr : Rr w p A 64 c i
  rd : Rd .u8 w A 64 bs
  dd : Rd .u8 w D nd data
  hh : w.heap[hb]? = some (.cells v.vals 112 (0, 0))
  ho : w.heap[ob]? = some (.cells #[.slice A 64 c] 48 (0, 0))
  hd : w.heap[db]? = some (.cells #[.slice D nd cd] 48 (0, 0))
  hk : w.heap[kb]? = some (.cells #[.bool false] 4 (0, 0))
  fr : Fr (fun b => b = p ∨ b = hb ∨ b = kb) w0 w
  apart : (∀ ad, A = some ad → ad.block ≠ p ∧ ad.block ≠ hb) ∧ (∀ ad, D = some ad → 0 < nd → ad.block ≠ p ∧ ad.block ≠ hb) ∧ hb ≠ p ∧ ob ≠ p ∧ db ≠ p ∧ kb ≠ p ∧ ob ≠ hb ∧ db ≠ hb ∧ kb ≠ hb
section
variable {w0 : World} {p hb ob db kb : Nat} {A D : Option Addr} {c nd cd : Nat} {bs data : List Int} {i : Int} {v : Head} {w : World}
theorem St.read (h : St w0 p hb ob db kb A D c nd cd bs data i v w) {w' : World} {j : Int} (hr : Rr w' p A 64 c j) (hf : Fr (fun b => b = p) w w') : St w0 p hb ob db kb A D c nd cd bs data j v w' := by
  obtain ⟨a1, a2, a3, a4, a5, a6, a7⟩ := h.apart
  exact ⟨hr, h.rd.fr hf (fun ad e _ => (a1 ad e).1), h.dd.fr hf (fun ad e hn => (a2 ad e hn).1), hf.heap h.hh a3, hf.heap h.ho a4, hf.heap h.hd a5, hf.heap h.hk a6, h.fr.after hf (fun _ _ e => .inl e), h.apart⟩
theorem St.store (h : St w0 p hb ob db kb A D c nd cd bs data i v w) (k : Nat) (u : Value) (v' : Head) (hv : v'.vals = v.vals.setIfInBounds k u) : St w0 p hb ob db kb A D c nd cd bs data i v' (w.setCell ⟨hb, k, none⟩ u) := by
  obtain ⟨a1, a2, a3, a4, a5, a6, a7, a8, a9⟩ := h.apart
  have hf := (Fr.refl (fun b => b = hb) w).setCell (p := ⟨hb, k, none⟩) (fun _ => rfl) u
  refine ⟨hf.heap h.rr a3.symm, h.rd.fr hf (fun ad e _ => (a1 ad e).2), h.dd.fr hf (fun ad e hn => (a2 ad e hn).2), ?_, hf.heap h.ho a7, hf.heap h.hd a8, hf.heap h.hk a9, h.fr.after hf (fun _ _ e => .inr (.inl e)), h.apart⟩
  rw [hv]
  simp [World.setCell, Array.getElem?_modify, h.hh]
theorem St.cell (h : St w0 p hb ob db kb A D c nd cd bs data i v w) {k : Nat} {u : Value} (hk : v.vals[k]? = some u) : w.cell? ⟨hb, k, none⟩ = some u ∧ w.frozen? ⟨hb, k, none⟩ = false := by
  simp [World.cell?, World.frozen?, h.hh, hk]
theorem St.sep (h : St w0 p hb ob db kb A D c nd cd bs data i v w) : ∀ ad, A = some ad → 0 < 64 → ad.block ≠ p := fun ad e _ => (h.apart.1 ad e).1
end

/-- What the operations of the last test leave where the answer is no. -/
def DF (magic zero rest : Int) (j : Nat) (v : Value) (_ : World) : Prop := match j with
  | 0 => v = .int .u16 magic
  | 1 => v = .bool (magic == 22356)
  | 2 => v = .bool (magic == 22356)
  | 3 => (magic == 22356) = true → v = .int .u8 zero
  | 4 => (magic == 22356) = true → v = .bool (zero == 0)
  | 5 => v = .bool ((magic == 22356) && (zero == 0))
  | 6 => v = .bool ((magic == 22356) && (zero == 0))
  | 7 => ((magic == 22356) && (zero == 0)) = true → v = .int .u32 rest
  | 8 => ((magic == 22356) && (zero == 0)) = true → v = .bool (rest == 0)
  | 9 => v = .bool (((magic == 22356) && (zero == 0)) && (rest == 0))
  | 10 => v = .bool (((magic == 22356) && (zero == 0)) && (rest == 0))
  | 20 => v = .bool false
  | _ => True
structure GF (kb : Nat) (w : World) (d : Nat → Bool) (w' : World) : Prop where
  hk : w'.heap[kb]? = some (.cells #[.bool false] 4 (0, 0))
  fr : Fr (fun b => b = kb) w w'
theorem GF.keep {kb : Nat} {w w' : World} {d : Nat → Bool} (h : GF kb w d w') (i : Nat) (_ : i ≠ 99) : GF kb w (doneSet d i) w' := ⟨h.hk, h.fr⟩

set_option maxHeartbeats 4000000 in
set_option maxRecDepth 100000 in
theorem by_calls (base p hb ob db kb : Nat) (A D : Option Addr) (c nd cd : Nat) (bs data : List Int) (w : World) (hR : Rr w p A 64 c 0) (hA : Rd .u8 w A 64 bs) (hD : Rd .u8 w D nd data) (hr : InR 256 bs) (hrd : InR 256 data) (hc : 64 ≤ c) (hcd : nd ≤ cd)
    (hh : w.heap[hb]? = some (.cells #[.int .u8 0, .int .u32 0, .int .u32 0, .int .u16 0, .int .u16 0, .int .u32 0, .int .u32 0] 112 (0, 0)))
    (ho : w.heap[ob]? = some (.cells #[.slice A 64 c] 48 (0, 0))) (hd : w.heap[db]? = some (.cells #[.slice D nd cd] 48 (0, 0))) (hk : w.heap[kb]? = some (.cells #[.bool false] 4 (0, 0)))
    (hAb : ∀ ad, A = some ad → ad.block < base) (hDb : ∀ ad, D = some ad → 0 < nd → ad.block < base) (hpb : base ≤ p) (hhb : base ≤ hb) (hkb : base ≤ kb) :
    Calls Tryz.prog 75 #[.pointer (some ⟨p, 0, none⟩), .pointer (some ⟨hb, 0, none⟩), .pointer (some ⟨ob, 0, none⟩), .pointer (some ⟨db, 0, none⟩), .pointer (some ⟨kb, 0, none⟩)] w fun e w' => e = .returned (.tuple #[]) ∧
      w'.heap[hb]? = some (.cells (headOf bs).vals 112 (0, 0)) ∧ w'.heap[kb]? = some (.cells #[.bool (rightB bs data)] 4 (0, 0)) ∧ Fr (fun b => b = p ∨ b = hb ∨ b = kb) w w' := by
  have HRG := As.mk hr
  have HRD := As.mk hrd
  have HC64 := As.mk hc
  have HCD := As.mk hcd
  have T1 : hb ≠ p := by rintro rfl; unfold Rr at hR; rw [hh] at hR; cases hR
  have T2 : ob ≠ p := by rintro rfl; unfold Rr at hR; rw [ho] at hR; cases hR
  have T3 : db ≠ p := by rintro rfl; unfold Rr at hR; rw [hd] at hR; cases hR
  have T4 : kb ≠ p := by rintro rfl; unfold Rr at hR; rw [hk] at hR; cases hR
  have T5 : ob ≠ hb := by rintro rfl; rw [hh] at ho; cases ho
  have T6 : db ≠ hb := by rintro rfl; rw [hh] at hd; cases hd
  have T7 : kb ≠ hb := by rintro rfl; rw [hh] at hk; cases hk
  have HS0 : As (St w p hb ob db kb A D c nd cd bs data 0 ⟨0, 0, 0, 0, 0, 0, 0⟩ w) := ⟨⟨hR, hA, hD, hh, ho, hd, hk, Fr.refl _ w, fun ad e => ⟨by have := hAb ad e; omega, by have := hAb ad e; omega⟩, fun ad e hn => ⟨by have := hDb ad e hn; omega, by have := hDb ad e hn; omega⟩, T1, T2, T3, T4, T5, T6, T7⟩⟩
  have HT := As.mk (And.intro T1 (And.intro T4 T7))
  have HKB : As (∀ w' : World, Fr (fun b => b = p ∨ b = hb) w w' → True) := ⟨fun _ _ => trivial⟩
  clear hR hA hD hr hrd hc hcd hh ho hd hk hAb hDb hpb hhb hkb T1 T2 T3 T4 T5 T6 T7 HKB
  go_enter Tryz.func75, Tryz.ntmps75
  go_wp2_with fail
  ((with_reducible refine (Rdr.U16_calls p A 64 c 0 bs _ HS0.out.rr HS0.out.rd HS0.out.sep HRG.out (by decide) (by decide) HC64.out).mono ?_); rintro e w1 ⟨rfl, hr1, hf1⟩)
  have Hw1 := As.mk (HS0.out.read hr1 hf1)
  clear hr1 hf1
  generalize hmagic : leNum (List.take 2 (List.drop (Int.toNat 0) bs)) % 65536 = magic
  have Hmagic : As (numAt bs 0 2 = magic) := ⟨hmagic⟩
  clear hmagic
  go_wp2_with fail
  ((with_reducible refine (Rdr.U8_calls p A 64 c 2 bs _ Hw1.out.rr Hw1.out.rd Hw1.out.sep HRG.out (by decide) (by decide) HC64.out).mono ?_); rintro e w2 ⟨rfl, hr1, hf1⟩)
  have Hw2 := As.mk (Hw1.out.read hr1 hf1)
  clear hr1 hf1
  generalize hkind : leNum (List.take 1 (List.drop (Int.toNat 2) bs)) % 256 = kind
  have Hkind : As (numAt bs 2 1 = kind) := ⟨hkind⟩
  clear hkind
  obtain ⟨c2, f2⟩ := Hw2.out.cell (k := 0) rfl
  have Hw3 := As.mk (Hw2.out.store 0 (.int .u8 kind) ⟨kind, 0, 0, 0, 0, 0, 0⟩ rfl)
  go_wp2_with fail
  ((with_reducible refine (Rdr.U8_calls p A 64 c 3 bs _ Hw3.out.rr Hw3.out.rd Hw3.out.sep HRG.out (by decide) (by decide) HC64.out).mono ?_); rintro e w4 ⟨rfl, hr1, hf1⟩)
  have Hw4 := As.mk (Hw3.out.read hr1 hf1)
  clear hr1 hf1
  generalize hzero : leNum (List.take 1 (List.drop (Int.toNat 3) bs)) % 256 = zero
  have Hzero : As (numAt bs 3 1 = zero) := ⟨hzero⟩
  clear hzero
  go_wp2_with fail
  ((with_reducible refine (Rdr.U32_calls p A 64 c 4 bs _ Hw4.out.rr Hw4.out.rd Hw4.out.sep HRG.out (by decide) (by decide) HC64.out).mono ?_); rintro e w5 ⟨rfl, hr1, hf1⟩)
  have Hw5 := As.mk (Hw4.out.read hr1 hf1)
  clear hr1 hf1
  generalize hepoch : leNum (List.take 4 (List.drop (Int.toNat 4) bs)) % 4294967296 = epoch
  have Hepoch : As (numAt bs 4 4 = epoch) := ⟨hepoch⟩
  clear hepoch
  go_wp2_with fail
  ((with_reducible refine (Rdr.U32_calls p A 64 c 8 bs _ Hw5.out.rr Hw5.out.rd Hw5.out.sep HRG.out (by decide) (by decide) HC64.out).mono ?_); rintro e w6 ⟨rfl, hr1, hf1⟩)
  have Hw6 := As.mk (Hw5.out.read hr1 hf1)
  clear hr1 hf1
  generalize hbatch : leNum (List.take 4 (List.drop (Int.toNat 8) bs)) % 4294967296 = batch
  have Hbatch : As (numAt bs 8 4 = batch) := ⟨hbatch⟩
  clear hbatch
  obtain ⟨c6, f6⟩ := Hw6.out.cell (k := 1) rfl
  obtain ⟨c6b, f6b⟩ := Hw6.out.cell (k := 2) rfl
  have Hw7 := As.mk ((Hw6.out.store 1 (.int .u32 epoch) ⟨kind, epoch, 0, 0, 0, 0, 0⟩ rfl).store 2 (.int .u32 batch) ⟨kind, epoch, batch, 0, 0, 0, 0⟩ rfl)
  go_wp2_with fail
  ((with_reducible refine (Rdr.U16_calls p A 64 c 12 bs _ Hw7.out.rr Hw7.out.rd Hw7.out.sep HRG.out (by decide) (by decide) HC64.out).mono ?_); rintro e w8 ⟨rfl, hr1, hf1⟩)
  have Hw8 := As.mk (Hw7.out.read hr1 hf1)
  clear hr1 hf1
  generalize hindex : leNum (List.take 2 (List.drop (Int.toNat 12) bs)) % 65536 = index
  have Hindex : As (numAt bs 12 2 = index) := ⟨hindex⟩
  clear hindex
  go_wp2_with fail
  ((with_reducible refine (Rdr.U16_calls p A 64 c 14 bs _ Hw8.out.rr Hw8.out.rd Hw8.out.sep HRG.out (by decide) (by decide) HC64.out).mono ?_); rintro e w9 ⟨rfl, hr1, hf1⟩)
  have Hw9 := As.mk (Hw8.out.read hr1 hf1)
  clear hr1 hf1
  generalize hcount : leNum (List.take 2 (List.drop (Int.toNat 14) bs)) % 65536 = count
  have Hcount : As (numAt bs 14 2 = count) := ⟨hcount⟩
  clear hcount
  obtain ⟨c9, f9⟩ := Hw9.out.cell (k := 3) rfl
  obtain ⟨c9b, f9b⟩ := Hw9.out.cell (k := 4) rfl
  have Hw10 := As.mk ((Hw9.out.store 3 (.int .u16 index) ⟨kind, epoch, batch, index, 0, 0, 0⟩ rfl).store 4 (.int .u16 count) ⟨kind, epoch, batch, index, count, 0, 0⟩ rfl)
  go_wp2_with fail
  ((with_reducible refine (Rdr.U32_calls p A 64 c 16 bs _ Hw10.out.rr Hw10.out.rd Hw10.out.sep HRG.out (by decide) (by decide) HC64.out).mono ?_); rintro e w11 ⟨rfl, hr1, hf1⟩)
  have Hw11 := As.mk (Hw10.out.read hr1 hf1)
  clear hr1 hf1
  generalize hblock : leNum (List.take 4 (List.drop (Int.toNat 16) bs)) % 4294967296 = block
  have Hblock : As (numAt bs 16 4 = block) := ⟨hblock⟩
  clear hblock
  go_wp2_with fail
  ((with_reducible refine (Rdr.U32_calls p A 64 c 20 bs _ Hw11.out.rr Hw11.out.rd Hw11.out.sep HRG.out (by decide) (by decide) HC64.out).mono ?_); rintro e w12 ⟨rfl, hr1, hf1⟩)
  have Hw12 := As.mk (Hw11.out.read hr1 hf1)
  clear hr1 hf1
  generalize hmore : leNum (List.take 4 (List.drop (Int.toNat 20) bs)) % 4294967296 = more
  have Hmore : As (numAt bs 20 4 = more) := ⟨hmore⟩
  clear hmore
  obtain ⟨c12, f12⟩ := Hw12.out.cell (k := 5) rfl
  obtain ⟨c12b, f12b⟩ := Hw12.out.cell (k := 6) rfl
  have Hw13 := As.mk ((Hw12.out.store 5 (.int .u32 block) ⟨kind, epoch, batch, index, count, block, 0⟩ rfl).store 6 (.int .u32 more) ⟨kind, epoch, batch, index, count, block, more⟩ rfl)
  go_wp2_with fail
  ((with_reducible refine (Rdr.U32_calls p A 64 c 24 bs _ Hw13.out.rr Hw13.out.rd Hw13.out.sep HRG.out (by decide) (by decide) HC64.out).mono ?_); rintro e w14 ⟨rfl, hr1, hf1⟩)
  have Hw14 := As.mk (Hw13.out.read hr1 hf1)
  clear hr1 hf1
  generalize hown : leNum (List.take 4 (List.drop (Int.toNat 24) bs)) % 4294967296 = own
  have Hown : As (numAt bs 24 4 = own) := ⟨hown⟩
  clear hown
  go_wp2_with fail
  ((with_reducible refine (Rdr.U32_calls p A 64 c 28 bs _ Hw14.out.rr Hw14.out.rd Hw14.out.sep HRG.out (by decide) (by decide) HC64.out).mono ?_); rintro e w15 ⟨rfl, hr1, hf1⟩)
  have Hw15 := As.mk (Hw14.out.read hr1 hf1)
  clear hr1 hf1
  generalize hrest : leNum (List.take 4 (List.drop (Int.toNat 28) bs)) % 4294967296 = rest
  have Hrest : As (numAt bs 28 4 = rest) := ⟨hrest⟩
  clear hrest
  go_wp2
  obtain ⟨T1, T4, T7⟩ := HT.out
  have HHD : As (headOf bs = ⟨kind, epoch, batch, index, count, block, more⟩) := ⟨by unfold headOf; rw [Hkind.out, Hepoch.out, Hbatch.out, Hindex.out, Hcount.out, Hblock.out, Hmore.out]⟩
  have hok : w15.cell? ⟨kb, 0, none⟩ = some (.bool false) := cell_of Hw15.out.hk
  have hof : w15.frozen? ⟨kb, 0, none⟩ = false := free_of Hw15.out.hk
  have hco : w15.cell? ⟨ob, 0, none⟩ = some (.slice A 64 c) := cell_of Hw15.out.ho
  have hcd : w15.cell? ⟨db, 0, none⟩ = some (.slice D nd cd) := cell_of Hw15.out.hd
  by_cases hall : magic = 22356 ∧ zero = 0 ∧ rest = 0
  · obtain ⟨g1, g2, g3⟩ := hall
    have b1 : (magic == 22356) = true := beq_iff_eq.mpr g1
    have b2 : (zero == 0) = true := beq_iff_eq.mpr g2
    have b3 : (rest == 0) = true := beq_iff_eq.mpr g3
    have d1 : c ≠ 24 := by have := HC64.out; omega
    have d2 : c ≠ 32 := by have := HC64.out; omega
    have d3 := HC64.out
    have d4 : 24 ≤ c := by omega
    have d5 : (24 : Int) ≤ (c : Int) := by omega
    have HCUT : As (Rd .u8 w15 (Option.map (fun x : Addr => { block := x.block, off := x.off + 32 }) A) 32 (bs.drop 32)) := ⟨by
      have h := Hw15.out.rd.drop (c := c) 32 (by decide) d3
      rw [if_neg d2] at h
      have e : (fun x : Addr => x.add 32) = fun x : Addr => { block := x.block, off := x.off + 32 } := by funext x; simp [Addr.add]
      rw [← e]
      exact h⟩
    have HTK : As (Rd .u8 w15 A 24 (bs.take 24)) := ⟨Hw15.out.rd.take 24 (by decide)⟩
    have HFA := As.mk (((Fr.refl None_ w15).alloc (.cells #[.slice A 24 c, .slice D nd cd, .slice (Option.map (fun x : Addr => { block := x.block, off := x.off + 32 }) A) 32 (c - 32)] 48)).drew)
    have HRS := As.mk (RdS.three (w := (w15.alloc (.cells #[.slice A 24 c, .slice D nd cd, .slice (Option.map (fun x : Addr => { block := x.block, off := x.off + 32 }) A) 32 (c - 32)] 48)).drew) (heap_alloc_new w15 (.cells #[.slice A 24 c, .slice D nd cd, .slice (Option.map (fun x : Addr => { block := x.block, off := x.off + 32 }) A) 32 (c - 32)] 48)) d4 HCD.out (by omega) (HTK.out.none_ HFA.out) (Hw15.out.dd.none_ HFA.out) (HCUT.out.none_ HFA.out))
    have HIN : As (∀ l ∈ [bs.take 24, data, bs.drop 32], InR 256 l) := ⟨by
      intro l hl
      simp only [List.mem_cons, List.not_mem_nil, or_false] at hl
      rcases hl with rfl | rfl | rfl
      · exact fun x hx => HRG.out x (List.mem_of_mem_take hx)
      · exact HRD.out
      · exact fun x hx => HRG.out x (List.mem_of_mem_drop hx)⟩
    have HRB : As (rightB bs data = (own == sumOf [bs.take 24, data, bs.drop 32])) := ⟨by unfold rightB; rw [Hmagic.out, Hzero.out, Hrest.out, Hown.out, g1, g2, g3]; rfl⟩
    have n1 : ¬ w15.heap.size = kb := World.new_ne w15 ⟨kb, 0, none⟩ hok
    have n2 : ¬ w15.heap.size = ob := World.new_ne w15 ⟨ob, 0, none⟩ hco
    have n3 : ¬ w15.heap.size = db := World.new_ne w15 ⟨db, 0, none⟩ hcd
    have n4 : ¬ kb = ob := by rintro rfl; have h := Hw15.out.hk; rw [Hw15.out.ho] at h; cases h
    have n5 : ¬ kb = db := by rintro rfl; have h := Hw15.out.hk; rw [Hw15.out.hd] at h; cases h
    have n6 : ¬ ob = kb := fun e => n4 e.symm
    have n7 : ¬ db = kb := fun e => n5 e.symm
    have hco2 : ((w15.alloc (.cells #[.slice A 24 c, .slice D nd cd, .slice (Option.map (fun x : Addr => { block := x.block, off := x.off + 32 }) A) 32 (c - 32)] 48)).drew).cell? ⟨ob, 0, none⟩ = some (.slice A 64 c) := HFA.out.cell hco (fun h => h)
    have hcd2 : ((w15.alloc (.cells #[.slice A 24 c, .slice D nd cd, .slice (Option.map (fun x : Addr => { block := x.block, off := x.off + 32 }) A) 32 (c - 32)] 48)).drew).cell? ⟨db, 0, none⟩ = some (.slice D nd cd) := HFA.out.cell hcd (fun h => h)
    have hok2 : ((w15.alloc (.cells #[.slice A 24 c, .slice D nd cd, .slice (Option.map (fun x : Addr => { block := x.block, off := x.off + 32 }) A) 32 (c - 32)] 48)).drew).cell? ⟨kb, 0, none⟩ = some (.bool false) := HFA.out.cell hok (fun h => h)
    have hof2 : ((w15.alloc (.cells #[.slice A 24 c, .slice D nd cd, .slice (Option.map (fun x : Addr => { block := x.block, off := x.off + 32 }) A) 32 (c - 32)] 48)).drew).frozen? ⟨kb, 0, none⟩ = false := free_of (HFA.out.heap Hw15.out.hk (fun h => h))
    have HOF := As.mk (Of_calls [bs.take 24, data, bs.drop 32] _ 3 3 _ HRS.out HIN.out)
    generalize sumOf [bs.take 24, data, bs.drop 32] = sm at *
    clear g1 g2 g3
    go_region_held3 (fun w' => w'.cell? ⟨ob, 0, none⟩ = some (.slice A 64 c) ∧ w'.cell? ⟨db, 0, none⟩ = some (.slice D nd cd)) (go_keep) (first | (go_at_call 76; (with_reducible refine (HOF.out).mono ?_); rintro e w16 ⟨rfl, rfl⟩))
    go_end0
    have hset := set_of (u := .bool (own == sm)) (HFA.out.heap Hw15.out.hk (fun h => h))
    refine ⟨rfl, ?_, ?_, ?_⟩
    · rw [HHD.out]
      exact ((Fr.refl (fun b => b = kb) _).setCell (p := ⟨kb, 0, none⟩) (fun _ => rfl) _).heap (HFA.out.heap Hw15.out.hh (fun h => h)) T7.symm
    · rw [HRB.out]
      exact hset
    · exact (Hw15.out.fr.after HFA.out (fun _ _ h => h.elim)).setCell (p := ⟨kb, 0, none⟩) (fun _ => .inr (.inr rfl)) _
  · have hf : ((magic == 22356) && ((zero == 0) && (rest == 0))) = false := by
      cases h1 : (magic == 22356) <;> cases h2 : (zero == 0) <;> cases h3 : (rest == 0) <;> simp_all
    have hf2 : (((magic == 22356) && (zero == 0)) && (rest == 0)) = false := by rw [Bool.and_assoc]; exact hf
    have HRB : As (rightB bs data = false) := ⟨by unfold rightB; rw [Hmagic.out, Hzero.out, Hrest.out, hf2]; rfl⟩
    have HKB := As.mk Hw15.out.hk
    have HF2 := As.mk hf2
    clear hall hf hf2
    refine wp_region_any (by kernel_rfl) ?_
    refine region_rule (n := 60) _ rfl (by rfl) (DF magic zero rest) (GF kb w15) ?_ ?_ _ ?_
    · intro i hi
      match i, hi with
      | 0, _ =>
        refine StepOk.of_pure rfl rfl rfl (.int .u16 magic) ?_ (fun _ _ _ => rfl) (fun _ _ hg => hg.keep 0 (by decide))
        intro d a w' hdep hG hold hdone
        have eo : a.tmps[6]?.getD undef = .int .u16 magic := by simpa [Act.eval] using hold 6 (old_of (by rfl))
        go_simp
      | 1, _ =>
        refine StepOk.of_pure rfl rfl rfl (.bool (magic == 22356)) ?_ (fun _ _ _ => rfl) (fun _ _ hg => hg.keep 1 (by decide))
        intro d a w' hdep hG hold hdone
        have e0 : a.tmps[39]?.getD undef = .int .u16 magic := by have e0 : DF magic zero rest 0 (a.eval (.tmp 39)) w' := hdone 0 (hdep 0 (by decide)); simpa [Act.eval, DF] using e0
        go_simp
      | 2, _ =>
        refine StepOk.of_pure rfl rfl rfl (.bool (magic == 22356)) ?_ (fun _ _ _ => rfl) (fun _ _ hg => hg.keep 2 (by decide))
        intro d a w' hdep hG hold hdone
        have e1 : a.tmps[40]?.getD undef = .bool (magic == 22356) := by have e0 : DF magic zero rest 1 (a.eval (.tmp 40)) w' := hdone 1 (hdep 1 (by decide)); simpa [Act.eval, DF] using e0
        go_simp
      | 3, _ =>
        refine StepOk.guarded (g := 2) (want := true) rfl rfl (magic == 22356) ?_ ?_ (fun hne _ _ hg => ⟨fun h => absurd h hne, hg.keep 3 (by decide)⟩)
        · intro d a w' hdep hG hdone
          exact yielded_of (hdone 2 (hdep 2 (by decide)))
        · intro hb d a w' hi hdep hG hold hdone
          have eo : a.tmps[7]?.getD undef = .int .u8 zero := by simpa [Act.eval] using hold 7 (old_of (by rfl))
          go_simp
          exact ⟨_, rfl, fun _ => rfl, hG.keep 3 (by decide)⟩
      | 4, _ =>
        refine StepOk.guarded (g := 2) (want := true) rfl rfl (magic == 22356) ?_ ?_ (fun hne _ _ hg => ⟨fun h => absurd h hne, hg.keep 4 (by decide)⟩)
        · intro d a w' hdep hG hdone
          exact yielded_of (hdone 2 (hdep 2 (by decide)))
        · intro hb d a w' hi hdep hG hold hdone
          have e3 : a.tmps[42]?.getD undef = .int .u8 zero := by have e0 : DF magic zero rest 3 (a.eval (.tmp 42)) w' := hdone 3 (hdep 3 (by decide)); simpa [Act.eval] using e0 hb
          go_simp
          exact ⟨_, rfl, fun _ => rfl, hG.keep 4 (by decide)⟩
      | 5, _ =>
        refine StepOk.of_pure rfl rfl rfl (.bool ((magic == 22356) && (zero == 0))) ?_ (fun _ _ _ => rfl) (fun _ _ hg => hg.keep 5 (by decide))
        intro d a w' hdep hG hold hdone
        have e2 : a.tmps[41]?.getD undef = .bool (magic == 22356) := by have e0 : DF magic zero rest 2 (a.eval (.tmp 41)) w' := hdone 2 (hdep 2 (by decide)); simpa [Act.eval, DF] using e0
        have et : (magic == 22356) = true → a.tmps[43]?.getD undef = .bool (zero == 0) := by have e0 : DF magic zero rest 4 (a.eval (.tmp 43)) w' := hdone 4 (hdep 4 (by decide)); intro hb; simpa [Act.eval] using e0 hb
        cases hcb : (magic == 22356)
        · rw [hcb] at e2
          go_simp
        · rw [hcb] at e2
          have et2 := et hcb
          clear et
          go_simp
      | 6, _ =>
        refine StepOk.of_pure rfl rfl rfl (.bool ((magic == 22356) && (zero == 0))) ?_ (fun _ _ _ => rfl) (fun _ _ hg => hg.keep 6 (by decide))
        intro d a w' hdep hG hold hdone
        have e5 : a.tmps[44]?.getD undef = .bool ((magic == 22356) && (zero == 0)) := by have e0 : DF magic zero rest 5 (a.eval (.tmp 44)) w' := hdone 5 (hdep 5 (by decide)); simpa [Act.eval, DF] using e0
        go_simp
      | 7, _ =>
        refine StepOk.guarded (g := 6) (want := true) rfl rfl ((magic == 22356) && (zero == 0)) ?_ ?_ (fun hne _ _ hg => ⟨fun h => absurd h hne, hg.keep 7 (by decide)⟩)
        · intro d a w' hdep hG hdone
          exact yielded_of (hdone 6 (hdep 6 (by decide)))
        · intro hb d a w' hi hdep hG hold hdone
          have eo : a.tmps[9]?.getD undef = .int .u32 rest := by simpa [Act.eval] using hold 9 (old_of (by rfl))
          go_simp
          exact ⟨_, rfl, fun _ => rfl, hG.keep 7 (by decide)⟩
      | 8, _ =>
        refine StepOk.guarded (g := 6) (want := true) rfl rfl ((magic == 22356) && (zero == 0)) ?_ ?_ (fun hne _ _ hg => ⟨fun h => absurd h hne, hg.keep 8 (by decide)⟩)
        · intro d a w' hdep hG hdone
          exact yielded_of (hdone 6 (hdep 6 (by decide)))
        · intro hb d a w' hi hdep hG hold hdone
          have e7 : a.tmps[46]?.getD undef = .int .u32 rest := by have e0 : DF magic zero rest 7 (a.eval (.tmp 46)) w' := hdone 7 (hdep 7 (by decide)); simpa [Act.eval] using e0 hb
          go_simp
          exact ⟨_, rfl, fun _ => rfl, hG.keep 8 (by decide)⟩
      | 9, _ =>
        refine StepOk.of_pure rfl rfl rfl (.bool (((magic == 22356) && (zero == 0)) && (rest == 0))) ?_ (fun _ _ _ => rfl) (fun _ _ hg => hg.keep 9 (by decide))
        intro d a w' hdep hG hold hdone
        have e6 : a.tmps[45]?.getD undef = .bool ((magic == 22356) && (zero == 0)) := by have e0 : DF magic zero rest 6 (a.eval (.tmp 45)) w' := hdone 6 (hdep 6 (by decide)); simpa [Act.eval, DF] using e0
        have et : ((magic == 22356) && (zero == 0)) = true → a.tmps[47]?.getD undef = .bool (rest == 0) := by have e0 : DF magic zero rest 8 (a.eval (.tmp 47)) w' := hdone 8 (hdep 8 (by decide)); intro hb; simpa [Act.eval] using e0 hb
        cases hcb : ((magic == 22356) && (zero == 0))
        · rw [hcb] at e6
          go_simp
        · rw [hcb] at e6
          have et2 := et hcb
          clear et
          go_simp
      | 10, _ =>
        refine StepOk.of_pure rfl rfl rfl (.bool (((magic == 22356) && (zero == 0)) && (rest == 0))) ?_ (fun _ _ _ => rfl) (fun _ _ hg => hg.keep 10 (by decide))
        intro d a w' hdep hG hold hdone
        have e9 : a.tmps[48]?.getD undef = .bool (((magic == 22356) && (zero == 0)) && (rest == 0)) := by have e0 : DF magic zero rest 9 (a.eval (.tmp 48)) w' := hdone 9 (hdep 9 (by decide)); simpa [Act.eval, DF] using e0
        go_simp
      | 11, _ =>
        refine StepOk.guarded (g := 10) (want := true) rfl rfl (((magic == 22356) && (zero == 0)) && (rest == 0)) ?_ ?_ (fun hne _ _ hg => ⟨trivial, hg.keep 11 (by decide)⟩)
        · intro d a w' hdep hG hdone
          exact yielded_of (hdone 10 (hdep 10 (by decide)))
        · intro hb
          rw [HF2.out] at hb
          cases hb
      | 12, _ =>
        refine StepOk.guarded (g := 10) (want := true) rfl rfl (((magic == 22356) && (zero == 0)) && (rest == 0)) ?_ ?_ (fun hne _ _ hg => ⟨trivial, hg.keep 12 (by decide)⟩)
        · intro d a w' hdep hG hdone
          exact yielded_of (hdone 10 (hdep 10 (by decide)))
        · intro hb
          rw [HF2.out] at hb
          cases hb
      | 13, _ =>
        refine StepOk.guarded (g := 10) (want := true) rfl rfl (((magic == 22356) && (zero == 0)) && (rest == 0)) ?_ ?_ (fun hne _ _ hg => ⟨trivial, hg.keep 13 (by decide)⟩)
        · intro d a w' hdep hG hdone
          exact yielded_of (hdone 10 (hdep 10 (by decide)))
        · intro hb
          rw [HF2.out] at hb
          cases hb
      | 14, _ =>
        refine StepOk.guarded (g := 10) (want := true) rfl rfl (((magic == 22356) && (zero == 0)) && (rest == 0)) ?_ ?_ (fun hne _ _ hg => ⟨trivial, hg.keep 14 (by decide)⟩)
        · intro d a w' hdep hG hdone
          exact yielded_of (hdone 10 (hdep 10 (by decide)))
        · intro hb
          rw [HF2.out] at hb
          cases hb
      | 15, _ =>
        refine StepOk.guarded (g := 10) (want := true) rfl rfl (((magic == 22356) && (zero == 0)) && (rest == 0)) ?_ ?_ (fun hne _ _ hg => ⟨trivial, hg.keep 15 (by decide)⟩)
        · intro d a w' hdep hG hdone
          exact yielded_of (hdone 10 (hdep 10 (by decide)))
        · intro hb
          rw [HF2.out] at hb
          cases hb
      | 16, _ =>
        refine StepOk.guarded (g := 10) (want := true) rfl rfl (((magic == 22356) && (zero == 0)) && (rest == 0)) ?_ ?_ (fun hne _ _ hg => ⟨trivial, hg.keep 16 (by decide)⟩)
        · intro d a w' hdep hG hdone
          exact yielded_of (hdone 10 (hdep 10 (by decide)))
        · intro hb
          rw [HF2.out] at hb
          cases hb
      | 17, _ =>
        refine StepOk.guarded (g := 10) (want := true) rfl rfl (((magic == 22356) && (zero == 0)) && (rest == 0)) ?_ ?_ (fun hne _ _ hg => ⟨trivial, hg.keep 17 (by decide)⟩)
        · intro d a w' hdep hG hdone
          exact yielded_of (hdone 10 (hdep 10 (by decide)))
        · intro hb
          rw [HF2.out] at hb
          cases hb
      | 18, _ =>
        refine StepOk.guarded (g := 10) (want := true) rfl rfl (((magic == 22356) && (zero == 0)) && (rest == 0)) ?_ ?_ (fun hne _ _ hg => ⟨trivial, hg.keep 18 (by decide)⟩)
        · intro d a w' hdep hG hdone
          exact yielded_of (hdone 10 (hdep 10 (by decide)))
        · intro hb
          rw [HF2.out] at hb
          cases hb
      | 19, _ =>
        refine StepOk.guarded (g := 10) (want := true) rfl rfl (((magic == 22356) && (zero == 0)) && (rest == 0)) ?_ ?_ (fun hne _ _ hg => ⟨trivial, hg.keep 19 (by decide)⟩)
        · intro d a w' hdep hG hdone
          exact yielded_of (hdone 10 (hdep 10 (by decide)))
        · intro hb
          rw [HF2.out] at hb
          cases hb
      | 20, _ =>
        refine StepOk.of_pure rfl rfl rfl (.bool false) ?_ (fun _ _ _ => rfl) (fun _ _ hg => hg.keep 20 (by decide))
        intro d a w' hdep hG hold hdone
        have e10 : a.tmps[49]?.getD undef = .bool false := by have e0 : DF magic zero rest 10 (a.eval (.tmp 49)) w' := hdone 10 (hdep 10 (by decide)); have e1 : a.eval (.tmp 49) = .bool (((magic == 22356) && (zero == 0)) && (rest == 0)) := e0; rw [HF2.out] at e1; simpa [Act.eval] using e1
        go_simp
      | 21, _ =>
        refine StepOk.free rfl rfl ?_
        intro d a w' hi hdep hG hold hdone
        have e20 : a.tmps[59]?.getD undef = .bool false := by have e0 : DF magic zero rest 20 (a.eval (.tmp 59)) w' := hdone 20 (hdep 20 (by decide)); simpa [Act.eval, DF] using e0
        have eo : a.tmps[4]?.getD undef = .pointer (some ⟨kb, 0, none⟩) := by simpa [Act.eval] using hold 4 (old_of (by rfl))
        have hc := cell_of hG.hk
        have hfz := free_of (i := 0) hG.hk
        go_simp
        exact ⟨trivial, ⟨set_of hG.hk, hG.fr.setCell (p := ⟨kb, 0, none⟩) (fun _ => rfl) _⟩, fun _ _ _ h => h⟩
      | i + 22, hx => exact absurd hx (Nat.not_lt.2 (Nat.le_add_left 22 i))
    · intro a w' hsz hdef hold hdone hG
      refine bodyPost_end (results_none rfl _ _ _) hdef ⟨rfl, ?_, ?_, ?_⟩
      · rw [HHD.out]
        exact hG.fr.heap Hw15.out.hh (fun e => T7 e.symm)
      · rw [HRB.out]
        exact hG.hk
      · exact Hw15.out.fr.after hG.fr (fun _ _ e => .inr (.inr e))
    · exact ⟨HKB.out, (Fr.refl _ w15).drew⟩

theorem fr_new {S : Nat → Prop} {a b : World} (h : Fr S a b) {g : Nat} (hg : a.heap.size ≤ g) (i : Nat) (u : Value) : Fr S a (b.setCell ⟨g, i, none⟩ u) :=
  h.setCell (p := ⟨g, i, none⟩) (fun h => by have h2 : g < a.heap.size := h; omega) u
/-- What record.Open answers: the header, if there is one. -/
def okB (data oob : List Int) : Bool := oob.length == 64 && (rightB oob data && (decide (1 ≤ (headOf oob).kind) && decide ((headOf oob).kind ≤ 6)))
def zeroHead : Head := ⟨0, 0, 0, 0, 0, 0, 0⟩
def openOf (data oob : List Int) : Head × Bool := if okB data oob = true then (headOf oob, true) else (zeroHead, false)

set_option maxHeartbeats 4000000 in
set_option maxRecDepth 100000 in
theorem Open_calls (A D : Option Addr) (n c nd cd : Nat) (bs data : List Int) (w : World) (hA : Rd .u8 w A n bs) (hD : Rd .u8 w D nd data) (hr : InR 256 bs) (hrd : InR 256 data) (hc : n ≤ c) (hcd : nd ≤ cd) :
    Calls Tryz.prog 42 #[.slice D nd cd, .slice A n c] w fun e w' => e = .returned (.tuple #[.agg (openOf data bs).1.vals, .bool (openOf data bs).2]) ∧ Fr None_ w w' := by
  have HA := As.mk hA
  have HD := As.mk hD
  have HR := As.mk hr
  have HRD := As.mk hrd
  have HC := As.mk hc
  have HCD := As.mk hcd
  have HN := As.mk hA.1
  have hmf : ∀ (fn : Fn) (first cap : Array Value) (w : World), (Instr.makeFunc fn first cap).run Tryz.prog w = .ok (.func fn first cap) w := fun _ _ _ _ => rfl
  clear hA hD hr hrd hc hcd
  by_cases h64 : n = 64
  · subst h64
    have hb : (((64 : Nat) : Int) != 64) = false := by decide
    -- the world in which the bytes are read
    obtain ⟨W, hW⟩ : ∃ W : World, W = (((((w.alloc (.cells #[.slice D nd cd] 48)).alloc (.cells #[.slice A 64 c] 48)).alloc (.cells zeroHead.vals 112)).alloc (.cells zeroHead.vals 112)).alloc (.cells #[.bool false] 4)) := ⟨_, rfl⟩
    have HW := As.mk hW
    have F0 : Fr None_ w W := by rw [hW]; exact (((((Fr.refl None_ w).alloc _).alloc _).alloc _).alloc _).alloc _
    have s1 := size_new (w := w) (.cells #[.slice D nd cd] 48) rfl
    have s2 := size_new (.cells #[.slice A 64 c] 48) s1
    have s3 := size_new (.cells zeroHead.vals 112) s2
    have s4 := size_new (.cells zeroHead.vals 112) s3
    have s5 := size_new (.cells #[.bool false] 4) s4
    have b0 := at_old (.cells #[.bool false] 4) (at_old (.cells zeroHead.vals 112) (at_old (.cells zeroHead.vals 112) (at_old (.cells #[.slice A 64 c] 48) (at_new (w := w) (.cells #[.slice D nd cd] 48) rfl))))
    have b1 := at_old (.cells #[.bool false] 4) (at_old (.cells zeroHead.vals 112) (at_old (.cells zeroHead.vals 112) (at_new (.cells #[.slice A 64 c] 48) s1)))
    have b2 := at_old (.cells #[.bool false] 4) (at_old (.cells zeroHead.vals 112) (at_new (.cells zeroHead.vals 112) s2))
    have b3 := at_old (.cells #[.bool false] 4) (at_new (.cells zeroHead.vals 112) s3)
    have b4 := at_new (.cells #[.bool false] 4) s4
    rw [← hW] at s5 b0 b1 b2 b3 b4
    clear s1 s2 s3 s4
    -- what the closure does
    have F1 : Fr None_ W ((W.alloc (.cells #[.int .i64 0] 27)).alloc (.cells #[.slice A 64 c, .int .i64 0] 196)) := ((Fr.refl None_ W).alloc _).alloc _
    have HBY := by_calls (w.heap.size) (W.heap.size + 1) (w.heap.size + 3) (w.heap.size + 1) (w.heap.size) (w.heap.size + 4) A D c nd cd bs data
      ((W.alloc (.cells #[.int .i64 0] 27)).alloc (.cells #[.slice A 64 c, .int .i64 0] 196)) (at_new _ (size_new _ rfl)) ((HA.out.none_ F0).none_ F1) ((HD.out.none_ F0).none_ F1) HR.out HRD.out HC.out HCD.out
      (F1.heap b3 (fun h => h)) (F1.heap b1 (fun h => h)) (F1.heap b0 (fun h => h)) (F1.heap b4 (fun h => h)) (fun ad e => HA.out.lt ad e (by decide)) (fun ad e hn => HD.out.lt ad e hn) (by omega) (by omega) (by omega)
    have HRD2 := As.mk (Read.Read_ok 75 #[.pointer (some ⟨w.heap.size + 3, 0, none⟩), .pointer (some ⟨w.heap.size + 1, 0, none⟩), .pointer (some ⟨w.heap.size, 0, none⟩), .pointer (some ⟨w.heap.size + 4, 0, none⟩)] A 64 c W
      (fun w' => w'.heap[w.heap.size + 3]? = some (.cells (headOf bs).vals 112 (0, 0)) ∧ w'.heap[w.heap.size + 4]? = some (.cells #[.bool (rightB bs data)] 4 (0, 0)) ∧ w'.heap[w.heap.size + 2]? = some (.cells zeroHead.vals 112 (0, 0)) ∧ Fr None_ w w')
      (fun _ _ => rfl) (HBY.mono (fun e w' ⟨he, h1, h2, h3⟩ => ⟨he, ⟨h1, h2, h3.heap (F1.heap b2 (fun h => h)) (by omega), (F0.after F1 (fun _ _ h => h)).after h3 (fun i hi h => by omega)⟩, h3.heap (at_old _ (at_new _ rfl)) (by omega)⟩)))
    have S5 := As.mk s5
    clear HBY F0 F1 b0 b1 b2 b3 b4 s5
    subst hW
    clear HW
    go_enter Tryz.func42, Tryz.ntmps42
    go_wp2_with fail
    refine HRD2.out.mono ?_
    rintro e w1 ⟨rfl, w2, ⟨hh, hk, hz, hf⟩, rfl⟩
    have e5 := S5.out
    have f3 := (Fr.refl (fun b => b = w.heap.size + 5) w2).setCell (p := ⟨_, 0, none⟩) (fun _ => e5) (.int .i64 0)
    have g1 := f3.heap hh (by omega)
    have g2 := f3.heap hk (by omega)
    have g3 := f3.heap hz (by omega)
    have F3 := As.mk (hf.after f3 (fun i hi e => by omega))
    generalize w2.setCell ⟨_, 0, none⟩ (.int .i64 0) = w3 at *
    have c0 : w3.cell? ⟨w.heap.size + 1 + 1 + 1, 0, none⟩ = some (.int .u8 (headOf bs).kind) := by simp [World.cell?, g1, Head.vals]
    have c1 : w3.cell? ⟨w.heap.size + 1 + 1 + 1, 1, none⟩ = some (.int .u32 (headOf bs).epoch) := by simp [World.cell?, g1, Head.vals]
    have c2 : w3.cell? ⟨w.heap.size + 1 + 1 + 1, 2, none⟩ = some (.int .u32 (headOf bs).batch) := by simp [World.cell?, g1, Head.vals]
    have c3 : w3.cell? ⟨w.heap.size + 1 + 1 + 1, 3, none⟩ = some (.int .u16 (headOf bs).index) := by simp [World.cell?, g1, Head.vals]
    have c4 : w3.cell? ⟨w.heap.size + 1 + 1 + 1, 4, none⟩ = some (.int .u16 (headOf bs).count) := by simp [World.cell?, g1, Head.vals]
    have c5 : w3.cell? ⟨w.heap.size + 1 + 1 + 1, 5, none⟩ = some (.int .u32 (headOf bs).block) := by simp [World.cell?, g1, Head.vals]
    have c6 : w3.cell? ⟨w.heap.size + 1 + 1 + 1, 6, none⟩ = some (.int .u32 (headOf bs).more) := by simp [World.cell?, g1, Head.vals]
    have ck : w3.cell? ⟨w.heap.size + 1 + 1 + 1 + 1, 0, none⟩ = some (.bool (rightB bs data)) := by simp [World.cell?, g2]
    have hOF : openOf data bs = if okB data bs = true then (headOf bs, true) else (zeroHead, false) := rfl
    have hOK : okB data bs = (rightB bs data && (decide (1 ≤ (headOf bs).kind) && decide ((headOf bs).kind ≤ 6))) := by unfold okB; rw [HN.out]; rfl
    rw [hOK] at hOF
    clear hOK hh hk hz hf f3 e5 g2
    have G1 := As.mk g1
    have z0 : w3.cell? ⟨w.heap.size + 1 + 1, 0, none⟩ = some (.int .u8 0) := by simp [World.cell?, g3, Head.vals, zeroHead]
    have y0 : w3.frozen? ⟨w.heap.size + 1 + 1, 0, none⟩ = false := by simp [World.frozen?, g3]
    have z1 : w3.cell? ⟨w.heap.size + 1 + 1, 1, none⟩ = some (.int .u32 0) := by simp [World.cell?, g3, Head.vals, zeroHead]
    have y1 : w3.frozen? ⟨w.heap.size + 1 + 1, 1, none⟩ = false := by simp [World.frozen?, g3]
    have z2 : w3.cell? ⟨w.heap.size + 1 + 1, 2, none⟩ = some (.int .u32 0) := by simp [World.cell?, g3, Head.vals, zeroHead]
    have y2 : w3.frozen? ⟨w.heap.size + 1 + 1, 2, none⟩ = false := by simp [World.frozen?, g3]
    have z3 : w3.cell? ⟨w.heap.size + 1 + 1, 3, none⟩ = some (.int .u16 0) := by simp [World.cell?, g3, Head.vals, zeroHead]
    have y3 : w3.frozen? ⟨w.heap.size + 1 + 1, 3, none⟩ = false := by simp [World.frozen?, g3]
    have z4 : w3.cell? ⟨w.heap.size + 1 + 1, 4, none⟩ = some (.int .u16 0) := by simp [World.cell?, g3, Head.vals, zeroHead]
    have y4 : w3.frozen? ⟨w.heap.size + 1 + 1, 4, none⟩ = false := by simp [World.frozen?, g3]
    have z5 : w3.cell? ⟨w.heap.size + 1 + 1, 5, none⟩ = some (.int .u32 0) := by simp [World.cell?, g3, Head.vals, zeroHead]
    have y5 : w3.frozen? ⟨w.heap.size + 1 + 1, 5, none⟩ = false := by simp [World.frozen?, g3]
    have z6 : w3.cell? ⟨w.heap.size + 1 + 1, 6, none⟩ = some (.int .u32 0) := by simp [World.cell?, g3, Head.vals, zeroHead]
    have y6 : w3.frozen? ⟨w.heap.size + 1 + 1, 6, none⟩ = false := by simp [World.frozen?, g3]
    have Hz := As.mk g3
    clear g3
    clear g1
    generalize rightB bs data = rt at *
    generalize hHD : headOf bs = hd at *
    have HHD := As.mk hHD
    have HOF := As.mk hOF
    clear hHD hOF
    cases rt
    · have HO2 : As (openOf data bs = (zeroHead, false)) := ⟨by rw [HOF.out]; rfl⟩
      go_wp2
      exact bodyPost_ret (v := .tuple #[.agg zeroHead.vals, .bool false]) (by simp [results, Tryz.results42, go_sem, zeroHead, Head.vals, z0, z1, z2, z3, z4, z5, z6]) rfl ⟨by rw [HO2.out], (fr_new (fr_new (fr_new (fr_new (fr_new (fr_new (fr_new F3.out (by omega) 0 _) (by omega) 1 _) (by omega) 2 _) (by omega) 3 _) (by omega) 4 _) (by omega) 5 _) (by omega) 6 _)⟩
    · by_cases k1 : hd.kind < 1
      · have HO2 : As (openOf data bs = (zeroHead, false)) := ⟨by rw [HOF.out, decide_eq_false (show ¬ 1 ≤ hd.kind by omega)]; rfl⟩
        have k1b : decide (hd.kind < 1) = true := decide_eq_true k1
        go_wp2
        exact bodyPost_ret (v := .tuple #[.agg zeroHead.vals, .bool false]) (by simp [results, Tryz.results42, go_sem, zeroHead, Head.vals, z0, z1, z2, z3, z4, z5, z6]) rfl ⟨by rw [HO2.out], (fr_new (fr_new (fr_new (fr_new (fr_new (fr_new (fr_new F3.out (by omega) 0 _) (by omega) 1 _) (by omega) 2 _) (by omega) 3 _) (by omega) 4 _) (by omega) 5 _) (by omega) 6 _)⟩
      · have k1b : decide (hd.kind < 1) = false := decide_eq_false k1
        by_cases k6 : 6 < hd.kind
        · have HO2 : As (openOf data bs = (zeroHead, false)) := ⟨by rw [HOF.out, decide_eq_false (show ¬ hd.kind ≤ 6 by omega)]; simp⟩
          have k6b : decide (6 < hd.kind) = true := decide_eq_true k6
          go_wp2
          exact bodyPost_ret (v := .tuple #[.agg zeroHead.vals, .bool false]) (by simp [results, Tryz.results42, go_sem, zeroHead, Head.vals, z0, z1, z2, z3, z4, z5, z6]) rfl ⟨by rw [HO2.out], (fr_new (fr_new (fr_new (fr_new (fr_new (fr_new (fr_new F3.out (by omega) 0 _) (by omega) 1 _) (by omega) 2 _) (by omega) 3 _) (by omega) 4 _) (by omega) 5 _) (by omega) 6 _)⟩
        · have HO2 : As (openOf data bs = (hd, true)) := ⟨by rw [HOF.out, decide_eq_true (show 1 ≤ hd.kind by omega), decide_eq_true (show hd.kind ≤ 6 by omega)]; rfl⟩
          have k6b : decide (6 < hd.kind) = false := decide_eq_false k6
          go_wp2
          exact bodyPost_ret (v := .tuple #[.agg hd.vals, .bool true]) (by simp [results, Tryz.results42, go_sem, Head.vals, z0, z1, z2, z3, z4, z5, z6]) rfl ⟨by rw [HO2.out], (fr_new (fr_new (fr_new (fr_new (fr_new (fr_new (fr_new F3.out (by omega) 0 _) (by omega) 1 _) (by omega) 2 _) (by omega) 3 _) (by omega) 4 _) (by omega) 5 _) (by omega) 6 _)⟩
  · have hb : ((n : Int) != 64) = true := by rw [bne_iff_ne]; omega
    have HO : As (openOf data bs = (zeroHead, false)) := ⟨by unfold openOf okB; rw [HN.out]; simp [h64]⟩
    clear h64
    go_enter Tryz.func42, Tryz.ntmps42
    go_wp2
    exact bodyPost_ret (v := .tuple #[.agg zeroHead.vals, .bool false]) (by simp [results, Tryz.results42, go_sem, zeroHead, Head.vals]) rfl ⟨by rw [HO.out], (((Fr.refl None_ w).alloc _).alloc _).alloc _⟩
end Go.Proofs.YteofgpaceeibpaaGreat.Open

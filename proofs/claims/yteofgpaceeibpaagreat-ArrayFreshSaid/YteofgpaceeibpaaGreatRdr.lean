/- The reader of package cursor, where there are bytes enough. -/
import Derived.Test.YteofgpaceeibpaaGreatWr
namespace Go.Proofs.YteofgpaceeibpaaGreat.Rdr
open Go.RowKit Go.Proofs.YteofgpaceeibpaaGreat.Gab Go.Proofs.YteofgpaceeibpaaGreat.Wr
set_option linter.unusedVariables false
set_option linter.unusedSimpArgs false

/-- A reader at block p, of the bytes of a slice, at a place. -/
def Rr (w : World) (p : Nat) (A : Option Addr) (n c : Nat) (i : Int) : Prop := w.heap[p]? = some (.cells #[.slice A n c, .int .i64 i] 196 (0, 0))
theorem Rr.c0 {w : World} {p : Nat} {A : Option Addr} {n c : Nat} {i : Int} (h : Rr w p A n c i) : w.cell? ⟨p, 0, none⟩ = some (.slice A n c) := by unfold Rr at h; simp [World.cell?, h]
theorem Rr.c1 {w : World} {p : Nat} {A : Option Addr} {n c : Nat} {i : Int} (h : Rr w p A n c i) : w.cell? ⟨p, 1, none⟩ = some (.int .i64 i) := by unfold Rr at h; simp [World.cell?, h]
theorem Rr.f1 {w : World} {p : Nat} {A : Option Addr} {n c : Nat} {i : Int} (h : Rr w p A n c i) : w.frozen? ⟨p, 1, none⟩ = false := by unfold Rr at h; simp [World.frozen?, h]
theorem Rr.set {w : World} {p : Nat} {A : Option Addr} {n c : Nat} {i : Int} (h : Rr w p A n c i) (j : Int) : Rr (w.setCell ⟨p, 1, none⟩ (.int .i64 j)) p A n c j := by
  unfold Rr at *
  simp [World.setCell, Array.getElem?_modify, h]
theorem Rr.drewN {w : World} {p : Nat} {A : Option Addr} {n c : Nat} {i : Int} (h : Rr w p A n c i) (k : Nat) : Rr (w.drewN k) p A n c i := h
/-- Where a cut lies. -/
def cutAt (A : Option Addr) (c i : Nat) : Option Addr := if c = i then A else A.map (·.add i)

set_option maxHeartbeats 2000000 in
set_option maxRecDepth 100000 in
theorem take_calls (p : Nat) (A : Option Addr) (n c : Nat) (i k : Int) (w : World) (hR : Rr w p A n c i) (h0 : 0 ≤ i) (hk0 : 0 ≤ k) (hk : i + k ≤ (n : Int)) (hc : n ≤ c) (hn : n ≤ 9223372036854775807) :
    Calls Tryz.prog 119 #[.pointer (some ⟨p, 0, none⟩), .int .i64 k] w fun e w' => e = .returned (.slice (cutAt A c i.toNat) k.toNat (c - i.toNat)) ∧ Rr w' p A n c (i + k) ∧ Fr (fun b => b = p) w w' := by
  have HR := As.mk hR
  have hc0 := hR.c0
  have hc1 := hR.c1
  have hf1 := hR.f1
  clear hR
  have d1 : decide (k < 0) = false := decide_eq_false (by omega)
  have d2 : decide ((n : Int) - i < k) = false := decide_eq_false (by omega)
  have hi9 : i ≤ 9223372036854775807 := by omega
  have hk9 : k ≤ 9223372036854775807 := by omega
  have hs : i + k ≤ 9223372036854775807 := by omega
  go_enter Tryz.func119, Tryz.ntmps119
  go_wp2
  go_quiet (fail)
  go_wp2
  go_quiet (fail)
  go_wp2
  all_goals
    go_ret
    have hk2 : (i + k).toNat - i.toNat = k.toNat := by omega
    refine ⟨?_, ?_, ?_⟩
    · simp [cutAt, hk2, *]
    · first | exact (HR.out.drewN _).set _ | (have e : c = i.toNat := (by assumption); rw [← e]; exact (HR.out.drewN _).set _)
    · exact ((Fr.refl (fun b => b = p) w).drewN _).setCell (p := ⟨p, 1, none⟩) (fun _ => rfl) _

/-- The number of bytes, the lowest first: as the code reckons it. -/
def orOf (v : Int) : Nat → List Int → Int
  | _, [] => v
  | i, c :: l => orOf (bits .or .u64 v (IntKind.u64.wrap (c * 2 ^ (8 * i)))) (i + 1) l
def leNum (l : List Int) : Int := orOf 0 0 l
theorem orOf_snoc : ∀ (l : List Int) (v : Int) (i : Nat) (c : Int), orOf v i (l ++ [c]) = bits .or .u64 (orOf v i l) (IntKind.u64.wrap (c * 2 ^ (8 * (i + l.length))))
  | [], v, i, c => by simp [orOf]
  | x :: l, v, i, c => by
    rw [List.cons_append, orOf, orOf_snoc l, orOf, List.length_cons, show i + 1 + l.length = i + (l.length + 1) by omega]

set_option maxHeartbeats 2000000 in
set_option maxRecDepth 100000 in
theorem num_calls (p : Nat) (A : Option Addr) (n c : Nat) (i k : Int) (bs : List Int) (w : World) (hR : Rr w p A n c i) (hA : Rd .u8 w A n bs) (hS : ∀ ad, A = some ad → 0 < n → ad.block ≠ p) (hr : InR 256 bs)
    (h0 : 0 ≤ i) (hk0 : 0 ≤ k) (hk8 : k ≤ 8) (hk : i + k ≤ (n : Int)) (hc : n ≤ c) :
    Calls Tryz.prog 106 #[.pointer (some ⟨p, 0, none⟩), .int .i64 k] w fun e w' => e = .returned (.int .u64 (leNum ((bs.drop i.toNat).take k.toNat))) ∧ Rr w' p A n c (i + k) ∧ Fr (fun b => b = p) w w' := by
  have HR := As.mk hR
  have HA := As.mk hA
  have HS := As.mk hS
  have HI := As.mk hr
  have hn := hA.2.1
  have HN := As.mk hA.1
  clear hR hA hS hr
  go_enter Tryz.func106, Tryz.ntmps106
  go_wp2_with fail
  ((with_reducible refine (take_calls p A n c i k _ HR.out h0 hk0 hk hc hn).mono ?_); rintro e w1 ⟨rfl, hr1, hf1⟩)
  have HR1 := As.mk hr1
  have HF1 := As.mk hf1
  have HD : As (Rd .u8 w1 (cutAt A c i.toNat) k.toNat ((bs.drop i.toNat).take k.toNat)) := ⟨((HA.out.fr hf1 HS.out).drop (c := c) i.toNat (by omega) hc).take k.toNat (by omega)⟩
  have HRG : As (InR 256 ((bs.drop i.toNat).take k.toNat)) := ⟨fun x hx => HI.out x (List.mem_of_mem_drop (List.mem_of_mem_take hx))⟩
  have HKL := As.mk HD.out.1
  generalize hl : (bs.drop i.toNat).take k.toNat = l at *
  have HLE := As.mk hl
  clear hl
  generalize cutAt A c i.toNat = B at *
  clear hr1 hf1
  go_wp2
  go_loopw [5, 6, 7, 12] (fun v5 _ _ v12 w' => ∃ j : Int, v12 = .int .i64 j ∧ 0 ≤ j ∧ j ≤ k ∧ v5 = .int .u64 (leNum (l.take j.toNat)) ∧ w' = w1) (fun _ _ _ v12 _ => k.toNat - (intOf v12).toNat)
  case atStart => exact ⟨0, rfl, by omega, by omega, rfl, rfl⟩
  case round =>
    obtain ⟨j, rfl, hj0, hj, rfl, rfl⟩ := hrel
    have hkt : (k.toNat : Int) = k := by omega
    by_cases hlt : j < k
    · obtain ⟨ad, rfl, hcell⟩ := HD.out.at_ j hj0 (by omega)
      have hx := inR_at HRG.out (i := j.toNat) (by have := HKL.out; omega)
      have HSN : As (leNum (l.take (j + 1).toNat) = bits .or .u64 (leNum (l.take j.toNat)) (IntKind.u64.wrap (l.getD j.toNat 0 * 2 ^ (8 * j).toNat))) := ⟨by
        have hjl : j.toNat < l.length := by have := HKL.out; omega
        unfold leNum
        rw [show (j + 1).toNat = j.toNat + 1 by omega, List.take_succ_eq_append_getElem hjl, orOf_snoc, List.length_take, List.getD_eq_getElem?_getD, List.getElem?_eq_getElem hjl]
        simp only [Option.getD_some, Nat.zero_add]
        rw [Nat.min_eq_left (by omega), show (8 * j).toNat = 8 * j.toNat by omega]⟩
      generalize l.getD j.toNat 0 = x at *
      obtain ⟨hx0, hx1⟩ := hx
      go_wp2
      exact ⟨⟨j + 1, rfl, by omega, by omega, by rw [HSN.out], trivial⟩, by simp [intOf]; omega⟩
    · have hjk : j = k := by omega
      subst hjk
      have hlk : l.take j.toNat = l := List.take_of_length_le (by have := HKL.out; omega)
      rw [hlk]
      go_wp2
      go_ret
      exact ⟨by rw [HLE.out]; rfl, HR1.out, HF1.out⟩


set_option maxHeartbeats 1000000 in
set_option maxRecDepth 100000 in
theorem U8_calls (p : Nat) (A : Option Addr) (n c : Nat) (i : Int) (bs : List Int) (w : World) (hR : Rr w p A n c i) (hA : Rd .u8 w A n bs) (hS : ∀ ad, A = some ad → 0 < n → ad.block ≠ p) (hr : InR 256 bs)
    (h0 : 0 ≤ i) (hk : i + 1 ≤ (n : Int)) (hc : n ≤ c) :
    Calls Tryz.prog 69 #[.pointer (some ⟨p, 0, none⟩)] w fun e w' => e = .returned (.int .u8 (leNum ((bs.drop i.toNat).take 1) % 256)) ∧ Rr w' p A n c (i + 1) ∧ Fr (fun b => b = p) w w' := by
  go_enter Tryz.func69, Tryz.ntmps69
  go_wp2_with fail
  ((with_reducible refine (num_calls p A n c i 1 bs _ hR hA hS hr h0 (by decide) (by decide) hk hc).mono ?_); rintro e w1 ⟨rfl, hr1, hf1⟩)
  have HR1 := As.mk hr1
  have HF1 := As.mk hf1
  clear hr1 hf1
  generalize hl : leNum ((bs.drop i.toNat).take (Int.toNat 1)) = v
  have HL := As.mk hl
  clear hl hR hA hS hr h0 hk hc
  go_wp2
  go_ret
  exact ⟨by rw [← HL.out]; rfl, HR1.out, HF1.out⟩


set_option maxHeartbeats 1000000 in
set_option maxRecDepth 100000 in
theorem U16_calls (p : Nat) (A : Option Addr) (n c : Nat) (i : Int) (bs : List Int) (w : World) (hR : Rr w p A n c i) (hA : Rd .u8 w A n bs) (hS : ∀ ad, A = some ad → 0 < n → ad.block ≠ p) (hr : InR 256 bs)
    (h0 : 0 ≤ i) (hk : i + 2 ≤ (n : Int)) (hc : n ≤ c) :
    Calls Tryz.prog 70 #[.pointer (some ⟨p, 0, none⟩)] w fun e w' => e = .returned (.int .u16 (leNum ((bs.drop i.toNat).take 2) % 65536)) ∧ Rr w' p A n c (i + 2) ∧ Fr (fun b => b = p) w w' := by
  go_enter Tryz.func70, Tryz.ntmps70
  go_wp2_with fail
  ((with_reducible refine (num_calls p A n c i 2 bs _ hR hA hS hr h0 (by decide) (by decide) hk hc).mono ?_); rintro e w1 ⟨rfl, hr1, hf1⟩)
  have HR1 := As.mk hr1
  have HF1 := As.mk hf1
  clear hr1 hf1
  generalize hl : leNum ((bs.drop i.toNat).take (Int.toNat 2)) = v
  have HL := As.mk hl
  clear hl hR hA hS hr h0 hk hc
  go_wp2
  go_ret
  exact ⟨by rw [← HL.out]; rfl, HR1.out, HF1.out⟩


set_option maxHeartbeats 1000000 in
set_option maxRecDepth 100000 in
theorem U32_calls (p : Nat) (A : Option Addr) (n c : Nat) (i : Int) (bs : List Int) (w : World) (hR : Rr w p A n c i) (hA : Rd .u8 w A n bs) (hS : ∀ ad, A = some ad → 0 < n → ad.block ≠ p) (hr : InR 256 bs)
    (h0 : 0 ≤ i) (hk : i + 4 ≤ (n : Int)) (hc : n ≤ c) :
    Calls Tryz.prog 68 #[.pointer (some ⟨p, 0, none⟩)] w fun e w' => e = .returned (.int .u32 (leNum ((bs.drop i.toNat).take 4) % 4294967296)) ∧ Rr w' p A n c (i + 4) ∧ Fr (fun b => b = p) w w' := by
  go_enter Tryz.func68, Tryz.ntmps68
  go_wp2_with fail
  ((with_reducible refine (num_calls p A n c i 4 bs _ hR hA hS hr h0 (by decide) (by decide) hk hc).mono ?_); rintro e w1 ⟨rfl, hr1, hf1⟩)
  have HR1 := As.mk hr1
  have HF1 := As.mk hf1
  clear hr1 hf1
  generalize hl : leNum ((bs.drop i.toNat).take (Int.toNat 4)) = v
  have HL := As.mk hl
  clear hl hR hA hS hr h0 hk hc
  go_wp2
  go_ret
  exact ⟨by rw [← HL.out]; rfl, HR1.out, HF1.out⟩

end Go.Proofs.YteofgpaceeibpaaGreat.Rdr

/- That a page is right: its seal, made again from what it says, is what stands there. Plain. | What is sealed is opened. | vol: lay, save (nothing fails). | vol: save (nothing fails). | record.Blank: are all bytes 255? What is sealed isn't blank. -/
import Derived.Test.YteofgpaceeibpaaGreatTkRef5
import Derived.Test.YteofgpaceeibpaaGreatTkVolC
import Derived.Test.YteofgpaceeibpaaGreatTkOpen
import Derived.Handy
namespace Go.Proofs.YteofgpaceeibpaaGreat.OpenLaw
open Go.RowKit Gab Wr Go.Proofs.YteofgpaceeibpaaGreat.Sum Fields Seal Rdr Ref SumR Go.Proofs.YteofgpaceeibpaaGreat.Open
set_option linter.unusedVariables false
set_option linter.unusedSimpArgs false

theorem or_comm64 (a b : Int) : bits .or .u64 a b = bits .or .u64 b a := by simp only [bits, BitVec.or_comm]
theorem wraps_u64 (n : Int) (h0 : 0 ≤ n) (h1 : n < 2 ^ 64) : IntKind.u64.wrap n = n := by rw [IntKind.wrap_u64]; omega
theorem pow_8 (n : Nat) : (2 : Int) ^ (8 * n) = 256 ^ n := by rw [Int.pow_mul]; rfl
theorem pow_le8 {n : Nat} (h : n ≤ 8) : (256 : Int) ^ n ≤ 2 ^ 64 := by
  match n, h with
  | 0, _ => decide
  | 1, _ => decide
  | 2, _ => decide
  | 3, _ => decide
  | 4, _ => decide
  | 5, _ => decide
  | 6, _ => decide
  | 7, _ => decide
  | 8, _ => decide
theorem leNum_val : ∀ (n : Nat) (l : List Int), l.length = n → n ≤ 8 → InR 256 l → leNum l = leVal l
  | 0, l, hl, _, _ => by rw [List.eq_nil_of_length_eq_zero hl]; rfl
  | n + 1, l, hl, hn, hr => by
    obtain ⟨l', c, rfl⟩ : ∃ l' c, l = l' ++ [c] := ⟨l.take n, l[n], by rw [List.take_append_getElem (by omega), List.take_of_length_le (by omega)]⟩
    have hl' : l'.length = n := by simpa using hl
    have hr' : InR 256 l' := fun x hx => hr x (List.mem_append_left _ hx)
    have hc := hr c (List.mem_append_right _ (List.mem_singleton.2 rfl))
    have ih := leNum_val n l' hl' (by omega) hr'
    unfold leNum at *
    rw [orOf_snoc, ih, leVal_snoc, Nat.zero_add, hl', pow_8]
    have hrg := leVal_range l' hr'
    rw [hl'] at hrg
    have h1 := pow_le8 (n := n) (by omega)
    have h2 := pow_le8 hn
    rw [Int.pow_succ] at h2
    have h0 : (0 : Int) ≤ 256 ^ n := Int.pow_nonneg (by decide)
    have hm : 0 ≤ c * 256 ^ n := Int.mul_nonneg (by omega) h0
    have hm2 : c * 256 ^ n ≤ 255 * 256 ^ n := Int.mul_le_mul_of_nonneg_right (by omega) h0
    have hmm : c * 256 ^ n < 2 ^ 64 := by omega
    rw [wraps_u64 _ hm hmm, or_comm64]
    rw [bits_join .u64 64 (by decide) wraps_u64 (8 * n) (c * 256 ^ n) (leVal l') hm (by rw [pow_8]; exact Int.mul_emod_left _ _) hmm hrg.1 (by rw [pow_8]; exact hrg.2) (by omega)]
    omega
theorem numAt_val {bs : List Int} (hr : InR 256 bs) (i k : Nat) (hk : k ≤ 8) (hi : i + k ≤ bs.length) : numAt bs i k = leVal ((bs.drop i).take k) := by
  have hl : ((bs.drop i).take k).length = k := by rw [List.length_take, List.length_drop]; omega
  have hr' := inR_take (inR_drop hr i) k
  unfold numAt
  rw [leNum_val k _ hl hk hr']
  have h := leVal_range _ hr'
  rw [hl] at h
  exact Int.emod_eq_of_lt h.1 h.2

theorem le_val : ∀ (l : List Int), InR 256 l → le (leVal l) l.length = l
  | [], _ => rfl
  | x :: l, h => by
    have hx := h x List.mem_cons_self
    have ih := le_val l (fun y hy => h y (List.mem_cons_of_mem _ hy))
    rw [List.length_cons, le, leVal]
    rw [show (x + 256 * leVal l) % 256 = x by omega, show (x + 256 * leVal l) / 256 = leVal l by omega, ih]
theorem val_le : ∀ (n : Nat) (v : Int), 0 ≤ v → v < 256 ^ n → leVal (le v n) = v
  | 0, v, h0, h1 => by simp at h1; simp [le, leVal]; omega
  | n + 1, v, h0, h1 => by
    rw [le, leVal, val_le n (v / 256) (by omega) (by rw [Int.pow_succ] at h1; omega)]
    omega
theorem le_numAt {bs : List Int} (hr : InR 256 bs) (i k : Nat) (hk : k ≤ 8) (hi : i + k ≤ bs.length) : le (numAt bs i k) k = (bs.drop i).take k := by
  have hl : ((bs.drop i).take k).length = k := by rw [List.length_take, List.length_drop]; omega
  rw [numAt_val hr i k hk hi]
  have := le_val _ (inR_take (inR_drop hr i) k)
  rwa [hl] at this
/-- A number stands there, if its bytes do. -/
theorem numAt_iff {bs : List Int} (hr : InR 256 bs) (i k : Nat) (hk : k ≤ 8) (hi : i + k ≤ bs.length) (v : Int) (h0 : 0 ≤ v) (h1 : v < 256 ^ k) : numAt bs i k = v ↔ (bs.drop i).take k = le v k := by
  constructor
  · rintro rfl
    exact (le_numAt hr i k hk hi).symm
  · intro h
    rw [numAt_val hr i k hk hi, h, val_le k v h0 h1]
theorem part_add (bs : List Int) (i j k : Nat) : (bs.drop i).take j ++ (bs.drop (i + j)).take k = (bs.drop i).take (j + k) := by
  rw [List.take_add, List.drop_drop]
/-- What a header's bytes are, but for the mark and the nought. -/
theorem head_bytes {bs : List Int} (hr : InR 256 bs) (hl : bs.length = 64) : (headOf bs).bytes = le 22356 2 ++ (bs.drop 2).take 1 ++ le 0 1 ++ (bs.drop 4).take 20 := by
  have h1 := le_numAt hr 2 1 (by decide) (by omega)
  have h2 := le_numAt hr 4 4 (by decide) (by omega)
  have h3 := le_numAt hr 8 4 (by decide) (by omega)
  have h4 := le_numAt hr 12 2 (by decide) (by omega)
  have h5 := le_numAt hr 14 2 (by decide) (by omega)
  have h6 := le_numAt hr 16 4 (by decide) (by omega)
  have h7 := le_numAt hr 20 4 (by decide) (by omega)
  have e : (bs.drop 4).take 20 = (bs.drop 4).take 4 ++ (bs.drop 8).take 4 ++ (bs.drop 12).take 2 ++ (bs.drop 14).take 2 ++ (bs.drop 16).take 4 ++ (bs.drop 20).take 4 := by
    rw [part_add bs 4 4 4, part_add bs 4 8 2, part_add bs 4 10 2, part_add bs 4 12 4, part_add bs 4 16 4]
  rw [e, ← h1, ← h2, ← h3, ← h4, ← h5, ← h6, ← h7]
  simp [Head.bytes, headOf, les]
theorem parts {bs : List Int} (hl : bs.length = 64) : bs = bs.take 2 ++ (bs.drop 2).take 1 ++ (bs.drop 3).take 1 ++ (bs.drop 4).take 20 ++ (bs.drop 24).take 4 ++ (bs.drop 28).take 4 ++ bs.drop 32 := by
  have h0 : bs.take 2 = (bs.drop 0).take 2 := by simp
  rw [h0, part_add bs 0 2 1, part_add bs 0 3 1, part_add bs 0 4 20, part_add bs 0 24 4, part_add bs 0 28 4]
  simp
/-- The reference's test is the program's. -/
theorem open_law {bs data : List Int} (hr : InR 256 bs) (hl : bs.length = 64) : rightB bs data = decide (sealOf (headOf bs) data (bs.drop 32) = bs) := by
  have ht : tailOf (bs.drop 32) = bs.drop 32 := by
    unfold tailOf
    rw [List.take_of_length_le (by rw [List.length_drop]; omega), padTo_le (by rw [List.length_drop]; omega)]
  have hb := head_bytes hr hl
  have hbl : (headOf bs).bytes.length = 24 := by
    rw [hb]
    simp only [List.length_append, le_length, List.length_take, List.length_drop]
    omega
  have hs : sealOf (headOf bs) data (bs.drop 32) = (headOf bs).bytes ++ le (sumOf [(headOf bs).bytes, data, bs.drop 32]) 4 ++ List.replicate 4 0 ++ bs.drop 32 := by
    unfold sealOf padTo
    rw [ht, List.length_append, le_length, hbl]
  rw [hs]
  have hsr := sum_range [(headOf bs).bytes, data, bs.drop 32]
  have i1 := numAt_iff hr 0 2 (by decide) (by omega) 22356 (by decide) (by decide)
  have i2 := numAt_iff hr 3 1 (by decide) (by omega) 0 (by decide) (by decide)
  have i3 := numAt_iff hr 28 4 (by decide) (by omega) 0 (by decide) (by decide)
  have hz : le 0 4 = List.replicate 4 0 := by decide
  rw [hz] at i3
  rw [List.drop_zero] at i1
  have hp := parts hl
  have hpl : ((bs.drop 2).take 1).length = 1 ∧ ((bs.drop 4).take 20).length = 20 ∧ ((bs.drop 24).take 4).length = 4 ∧ ((bs.drop 28).take 4).length = 4 ∧ (bs.take 2).length = 2 ∧ ((bs.drop 3).take 1).length = 1 := by
    refine ⟨?_, ?_, ?_, ?_, ?_, ?_⟩ <;> simp <;> omega
  obtain ⟨l1, l2, l3, l4, l5, l6⟩ := hpl
  rw [Bool.eq_iff_iff, decide_eq_true_eq]
  unfold rightB
  simp only [Bool.and_eq_true, beq_iff_eq]
  constructor
  · rintro ⟨⟨⟨h1, h2⟩, h3⟩, h4⟩
    have h1' := i1.1 h1
    have h2' := i2.1 h2
    have h3' := i3.1 h3
    have e24 : bs.take 24 = (headOf bs).bytes := by
      rw [hb, ← h1', ← h2']
      have h0 : bs.take 2 = (bs.drop 0).take 2 := by simp
      rw [h0, part_add bs 0 2 1, part_add bs 0 3 1, part_add bs 0 4 20]
      simp
    rw [e24] at h4
    have h4' := (numAt_iff hr 24 4 (by decide) (by omega) _ hsr.1 hsr.2).1 h4
    rw [← h4', ← h3', hb, ← h1', ← h2']
    exact hp.symm
  · intro h
    generalize hsm : le (sumOf [(headOf bs).bytes, data, bs.drop 32]) 4 = sm at h
    have hsl : sm.length = 4 := by rw [← hsm, le_length]
    have hh : (headOf bs).bytes ++ sm ++ List.replicate 4 0 ++ bs.drop 32 = bs.take 2 ++ (bs.drop 2).take 1 ++ (bs.drop 3).take 1 ++ (bs.drop 4).take 20 ++ (bs.drop 24).take 4 ++ (bs.drop 28).take 4 ++ bs.drop 32 := h.trans hp
    obtain ⟨h, _⟩ := List.append_inj hh (by simp [hbl, hsl, l1, l2, l3, l4, l5, l6])
    obtain ⟨h, h3⟩ := List.append_inj h (by simp [hbl, hsl, l1, l2, l3, l4, l5, l6])
    obtain ⟨h, h4⟩ := List.append_inj h (by simp [hbl, hsl, l1, l2, l3, l4, l5, l6])
    have e24 : bs.take 24 = (headOf bs).bytes := by
      rw [h]
      have h0 : bs.take 2 = (bs.drop 0).take 2 := by simp
      rw [h0, part_add bs 0 2 1, part_add bs 0 3 1, part_add bs 0 4 20]
      simp
    rw [hb] at h
    obtain ⟨h, _⟩ := List.append_inj h (by simp [le_length, l1, l2, l3, l4, l5, l6])
    obtain ⟨h, h2⟩ := List.append_inj h (by simp [le_length, l1, l2, l3, l4, l5, l6])
    obtain ⟨h1, _⟩ := List.append_inj h (by simp [le_length, l1, l2, l3, l4, l5, l6])
    rw [e24]
    exact ⟨⟨⟨i1.2 h1.symm, i2.2 h2.symm⟩, i3.2 h3.symm⟩, (numAt_iff hr 24 4 (by decide) (by omega) _ hsr.1 hsr.2).2 (by rw [hsm]; exact h4.symm)⟩
theorem okB_law {bs data : List Int} (hr : InR 256 bs) : okB data bs = (decide (bs.length = 64) && (decide (1 ≤ (headOf bs).kind) && decide ((headOf bs).kind ≤ 6) && decide (sealOf (headOf bs) data (bs.drop 32) = bs))) := by
  unfold okB
  by_cases hl : bs.length = 64
  · rw [open_law hr hl, hl, Bool.and_comm (decide (sealOf _ _ _ = _))]
    rfl
  · rw [decide_eq_false hl, beq_eq_false_iff_ne.mpr hl]
    rfl
end Go.Proofs.YteofgpaceeibpaaGreat.OpenLaw
namespace Go.Proofs.YteofgpaceeibpaaGreat.OS
open Go.RowKit Gab Wr Go.Proofs.YteofgpaceeibpaaGreat.Sum Fields Seal Go.Proofs.YteofgpaceeibpaaGreat.Open OpenLaw
set_option linter.unusedVariables false
set_option linter.unusedSimpArgs false

theorem tail_len (b : List Int) : (tailOf b).length = 32 := by unfold tailOf; rw [padTo_length, List.length_take]; omega
theorem tail_tail (b : List Int) : tailOf (tailOf b) = tailOf b := by
  rw [show tailOf (tailOf b) = padTo ((tailOf b).take 32) 32 from rfl, List.take_of_length_le (by rw [tail_len]; omega), padTo_le (by rw [tail_len]; omega)]
theorem bytes_len (h : Head) : h.bytes.length = 24 := by simp [Head.bytes, les_length]
theorem front_len (h : Head) (data b : List Int) : (padTo (h.bytes ++ le (sumOf [h.bytes, data, tailOf b]) 4) 32).length = 32 := by rw [padTo_length, List.length_append, bytes_len, le_length]; rfl
theorem seal_len (h : Head) (data b : List Int) : (sealOf h data b).length = 64 := by unfold sealOf; rw [List.length_append, front_len, tail_len]
theorem seal_tail (h : Head) (data b : List Int) : (sealOf h data b).drop 32 = tailOf b := by
  unfold sealOf
  rw [List.drop_append, front_len, List.drop_of_length_le (by rw [front_len]; omega)]
  simp
theorem seal_again (h : Head) (data b : List Int) : sealOf h data (tailOf b) = sealOf h data b := by unfold sealOf; rw [tail_tail]
theorem seal_part (h : Head) (data b : List Int) (i k : Nat) (hik : i + k ≤ 24) : ((sealOf h data b).drop i).take k = (h.bytes.drop i).take k := by
  unfold sealOf padTo
  rw [List.append_assoc, List.append_assoc, List.drop_append_of_le_length (by rw [bytes_len]; omega), List.take_append_of_le_length (by rw [List.length_drop, bytes_len]; omega)]
theorem seal_range' {h : Head} {data b : List Int} (hb : InR 256 b) : InR 256 (sealOf h data b) := inR_append (pad_range (inR_append (bytes_range h) (le_range 4 _)) _) (tail_range hb)
theorem head_seal {h : Head} (ho : h.Ok) {data b : List Int} (hb : InR 256 b) : headOf (sealOf h data b) = h := by
  have hr := seal_range' (h := h) (data := data) hb
  have hl := seal_len h data b
  have k : ∀ (i k : Nat) (v : Int), k ≤ 8 → i + k ≤ 24 → 0 ≤ v → v < 256 ^ k → (h.bytes.drop i).take k = le v k → numAt (sealOf h data b) i k = v := fun i k v hk hik h0 h1 he => (numAt_iff hr i k hk (by omega) v h0 h1).2 (by rw [seal_part h data b i k hik]; exact he)
  have h1 := k 2 1 h.kind (by decide) (by decide) ho.kind.1 (by have := ho.kind.2; omega) (by simp [Head.bytes, les, le])
  have h2 := k 4 4 h.epoch (by decide) (by decide) ho.epoch.1 (by have := ho.epoch.2; omega) (by simp [Head.bytes, les, le])
  have h3 := k 8 4 h.batch (by decide) (by decide) ho.batch.1 (by have := ho.batch.2; omega) (by simp [Head.bytes, les, le])
  have h4 := k 12 2 h.index (by decide) (by decide) ho.index.1 (by have := ho.index.2; omega) (by simp [Head.bytes, les, le])
  have h5 := k 14 2 h.count (by decide) (by decide) ho.count.1 (by have := ho.count.2; omega) (by simp [Head.bytes, les, le])
  have h6 := k 16 4 h.block (by decide) (by decide) ho.block.1 (by have := ho.block.2; omega) (by simp [Head.bytes, les, le])
  have h7 := k 20 4 h.more (by decide) (by decide) ho.more.1 (by have := ho.more.2; omega) (by simp [Head.bytes, les, le])
  unfold headOf
  rw [h1, h2, h3, h4, h5, h6, h7]
/-- What is sealed is opened. -/
theorem open_seal {h : Head} (ho : h.Ok) (hk1 : 1 ≤ h.kind) (hk6 : h.kind ≤ 6) {data b : List Int} (hb : InR 256 b) : openOf data (sealOf h data b) = (h, true) := by
  have hok : okB data (sealOf h data b) = true := by
    rw [okB_law (seal_range' hb), seal_len, head_seal ho hb, seal_tail, seal_again]
    simp [hk1, hk6]
  unfold openOf
  rw [if_pos hok, head_seal ho hb]
end Go.Proofs.YteofgpaceeibpaaGreat.OS
namespace Go.Proofs.YteofgpaceeibpaaGreat.VolD
open Go.RowKit Gab Wr Geom Ref Nand NandA NandB NandC NandD NandE NandH RemapA RemapB RemapC RemapD RemapE RemapF RemapG VolA VolB VolC
open Heap (cell_is heap_set heap_set7 fr_set7)
set_option linter.unusedVariables false
set_option linter.unusedSimpArgs false

/-- What stands beside a table's page. -/
def _root_.Go.Proofs.YteofgpaceeibpaaGreat.RemapA.Tab.oob (t : Tab) (S : Nat) : List Int := Seal.sealOf t.hd (t.page S) []
/-- A table is written into a block: the chips behind it, and the error. -/
def _root_.Go.Proofs.YteofgpaceeibpaaGreat.Nand.St.lay (s : St) (c b : Nat) (t : Tab) : St × Int :=
  if (s.erase c b).2 = 0 then (s.erase c b).1.prog c b 0 (t.page s.g.s.toNat) (t.oob s.g.s.toNat) else s.erase c b
theorem lay_g (s : St) (c b : Nat) (t : Tab) : (s.lay c b t).1.g = s.g ∧ (s.lay c b t).1.evs = s.evs := by
  have h1 := erase_g s c b
  unfold St.lay
  split
  · have h2 := prog_g (s.erase c b).1 c b 0 (t.page s.g.s.toNat) (t.oob s.g.s.toNat)
    exact ⟨h2.1.trans h1.1, h2.2.trans h1.2⟩
  · exact h1
theorem safe_lay {s : St} {n : Nat} (h : s.Safe (n + 2)) (c b : Nat) (t : Tab) : (s.lay c b t).1.Safe n := by
  have h1 : (s.erase c b).1.Safe (n + 1) := St.Safe.erase (n := n + 1) h c b
  unfold St.lay
  split
  · exact h1.prog c b 0 _ _
  · exact h1.le (Nat.le_succ n)
def LayPost (p : Nat) (s : St) (L : Lay) (c b : Nat) (t : Tab) (w : World) (e : Ending) (w' : World) : Prop := e = .returned (.int .i64 (s.lay c b t).2) ∧ Nand w' p (s.lay c b t).1 L ∧ Fr (NF p L s.n s.nb) w w'
theorem seal_len (h : Fields.Head) (data b : List Int) : (Seal.sealOf h data b).length = 64 := OS.seal_len h data b
theorem own_some {ad : Addr} {n c : Nat} : (Value.slice (some ad) n c).ownBlock = some ad.block := rfl
theorem row_at0 {e : TypeId} {size : Nat} {w : World} {base : Nat} {v : Value} {n : Nat} {vs : List Value} (h : Par.RowV e size w base v n vs) (hn : 0 < n) : ∃ g c, v = .slice (some ⟨g, 0, none⟩) n c ∧ base ≤ g ∧ ∀ j, j < n * size → w.cell? ⟨g, j, none⟩ = some (vs.getD j undef) := by
  rcases h.1.2 with ⟨rfl, h0⟩ | ⟨g, cap, cur, rfl, hb, _⟩
  · omega
  · refine ⟨g, cap, rfl, hb, fun j hj => ?_⟩
    obtain ⟨A, c, e1, _, hr, _⟩ := h.rd
    injection e1 with ea eb ec
    subst ea
    obtain ⟨ad, ead, hc⟩ := hr.out.2 (by omega)
    injection ead with ead
    subst ead
    have := hc j hj
    rwa [add_at] at this
/-- A volume's cells, all. -/
def VCs (w : World) (p c : Nat) (g : Geo) (t : Tab) (v : VLay) : Prop :=
  w.cell? ⟨v.vb, 0, none⟩ = some (.pointer (some ⟨p, 0, none⟩)) ∧ w.cell? ⟨v.vb, 1, none⟩ = some (.int .i64 (c : Int)) ∧ w.cell? ⟨v.vb, 2, none⟩ = some (.int .i64 g.c) ∧ w.cell? ⟨v.vb, 3, none⟩ = some (.int .i64 g.b) ∧ w.cell? ⟨v.vb, 4, none⟩ = some (.int .i64 g.p) ∧ w.cell? ⟨v.vb, 5, none⟩ = some (.int .i64 g.s) ∧
  w.cell? ⟨v.vb, 6, none⟩ = some (.int .u32 t.seq) ∧ w.cell? ⟨v.vb, 7, none⟩ = some (.slice v.A1 v.n1 v.c1) ∧ w.cell? ⟨v.vb, 8, none⟩ = some (.slice v.A2 v.n2 v.c2) ∧ w.cell? ⟨v.vb, 9, none⟩ = some (.int .i64 t.t0) ∧ w.cell? ⟨v.vb, 10, none⟩ = some (.int .i64 t.t1)
theorem _root_.Go.Proofs.YteofgpaceeibpaaGreat.VolA.VolAt.vcs {w : World} {p c : Nat} {g : Geo} {t : Tab} {v : VLay} (h : VolAt w p c g t v) : VCs w p c g t v :=
  ⟨cell_is h.main rfl, cell_is h.main rfl, cell_is h.main rfl, cell_is h.main rfl, cell_is h.main rfl, cell_is h.main rfl, cell_is h.main rfl, cell_is h.main rfl, cell_is h.main rfl, cell_is h.main rfl, cell_is h.main rfl⟩
theorem _root_.Go.Proofs.YteofgpaceeibpaaGreat.VolA.VolAt.tabV {w : World} {p c : Nat} {g : Geo} {t : Tab} {v : VLay} (h : VolAt w p c g t v) : TabV w (.agg #[.int .u32 t.seq, .slice v.A1 v.n1 v.c1, .slice v.A2 v.n2 v.c2, .int .i64 t.t0, .int .i64 t.t1]) t := ⟨_, _, _, _, _, _, rfl, h.l1, h.r1, h.l2, h.r2⟩
/-- Bytes of a page that is to be written. -/
theorem page_ok {t : Tab} {g : Geo} (hg : g.Ok) (ht : t.Ok g) : InR 256 (t.page g.s.toNat) ∧ InR 256 (t.oob g.s.toNat) ∧ (t.page g.s.toNat).length = g.s.toNat := by
  have h := enc_length hg ht
  have h2 := hg.s
  refine ⟨Seal.pad_range (enc_range hg ht) _, ?_, ?_⟩
  · unfold Tab.oob Seal.sealOf
    exact Seal.inR_append (Seal.pad_range (Seal.inR_append (Seal.bytes_range _) (Seal.le_range 4 _)) _) (Seal.tail_range (fun x hx => by cases hx))
  · unfold Tab.page
    rw [padTo_length]
    omega

set_option maxHeartbeats 8000000 in
set_option maxRecDepth 100000 in
theorem lay_calls (p c b : Nat) (s : St) (L : Lay) (t : Tab) (v : VLay) (w : World) (hN : Nand w p s L) (hV : VolAt w p c s.g t v) (ht : t.Ok s.g) (hc : c < s.n) (hb : b < s.nb) (n : Nat) (hs : s.Safe (n + 2)) :
    Calls Tryz.prog 94 #[.pointer (some ⟨v.vb, 0, none⟩), .int .i64 (b : Int)] w (LayPost p s L c b t w) := by
  have HPG := As.mk (fun (w' : World) (hf : Fr None_ w w') => Pages_calls t s.g _ w' hN.ok ht (hV.none_ hf).tabV)
  have HV := As.mk hV
  have HN := As.mk hN
  have hcs := hV.vcs
  unfold VCs at hcs
  have HCS := As.mk (fun (w' : World) (hf : Fr None_ w w') => (hV.none_ hf).vcs)
  unfold VCs at HCS
  have HER := As.mk (fun (w' : World) (hf : Fr None_ w w') => Eras_calls p s L c b w' (hN.none_ hf) hc hb (n + 1) hs)
  have HC := As.mk (And.intro hc hb)
  have HS := As.mk hs
  have HP := As.mk (page_ok hN.ok ht)
  clear hN hV ht hc hb hs
  unfold Geo.val at HPG
  go_enter Tryz.func94, Tryz.ntmps94
  go_upto_region 1 with fail
  go_region_held3 (fun w' => w'.cell? ⟨v.vb, 0, none⟩ = some (.pointer (some ⟨p, 0, none⟩)) ∧ w'.cell? ⟨v.vb, 1, none⟩ = some (.int .i64 (c : Int)) ∧ w'.cell? ⟨v.vb, 2, none⟩ = some (.int .i64 s.g.c) ∧ w'.cell? ⟨v.vb, 3, none⟩ = some (.int .i64 s.g.b) ∧ w'.cell? ⟨v.vb, 4, none⟩ = some (.int .i64 s.g.p) ∧ w'.cell? ⟨v.vb, 5, none⟩ = some (.int .i64 s.g.s) ∧
      w'.cell? ⟨v.vb, 6, none⟩ = some (.int .u32 t.seq) ∧ w'.cell? ⟨v.vb, 7, none⟩ = some (.slice v.A1 v.n1 v.c1) ∧ w'.cell? ⟨v.vb, 8, none⟩ = some (.slice v.A2 v.n2 v.c2) ∧ w'.cell? ⟨v.vb, 9, none⟩ = some (.int .i64 t.t0) ∧ w'.cell? ⟨v.vb, 10, none⟩ = some (.int .i64 t.t1)) (first | go_keep | exact hcs | exact HCS.out _ HF2.out) (first
    | (go_at_call 116; (with_reducible refine (HPG.out _ (Fr.refl None_ w).drew).mono ?_); rintro e w2 ⟨r, rfl, hpg⟩; obtain ⟨vd, vo, hrow, hsd, hso, hfr, hyd, hyo⟩ := hpg; have HF2 := As.mk (show Fr None_ w w2 from hfr.undrew); have HROW := As.mk (show Par.RowV 189 2 w2 w.heap.size r 1 [vd, vo] from hrow); have HSD := As.mk hsd; have HSO := As.mk hso; have HYD := As.mk (show Young w vd from hyd); have HYO := As.mk (show Young w vo from hyo); clear hrow hsd hso hfr hyd hyo)
    | fail)
  have HNF : As (∀ b', NF p L s.n s.nb b' → b' < w.heap.size) := ⟨fun b' h => HN.out.lt h⟩
  obtain ⟨D, nd, cd, rfl, hcd, hD⟩ := HSD.out
  obtain ⟨O, no, co, rfl, hco, hO⟩ := HSO.out
  have HD : As (∀ w', Fr None_ w2 w' → RdN w' (NF p L s.n s.nb) D nd (t.page s.g.s.toNat)) := ⟨fun w' hf => ⟨hD.none_ hf, fun ad e hn hnf => by subst e; have h1 := HYD.out _ own_some; have h2 := HNF.out _ hnf; omega⟩⟩
  have HO : As (∀ w', Fr None_ w2 w' → RdN w' (NF p L s.n s.nb) O no (t.oob s.g.s.toNat)) := ⟨fun w' hf => ⟨hO.none_ hf, fun ad e hn hnf => by subst e; have h1 := HYO.out _ own_some; have h2 := HNF.out _ hnf; omega⟩⟩
  have hnd : nd = s.g.s.toNat := by rw [← hD.1, HP.out.2.2]
  have hno : no = 64 := by rw [← hO.1]; exact seal_len _ _ _
  have HNO := As.mk (And.intro hnd hno)
  have hcs := HCS.out w2 HF2.out
  obtain ⟨c0, c1, _, _, _, _, _, _, _, _, _⟩ := hcs
  obtain ⟨rb, c5, e5, hrb, hcell⟩ := row_at0 HROW.out (by decide)
  subst e5
  clear hD hO hnd hno hcd hco HPG HSD HSO
  go_upto_region 4 with fail
  go_region_held3 (fun w' => w'.cell? ⟨v.vb, 0, none⟩ = some (.pointer (some ⟨p, 0, none⟩)) ∧ w'.cell? ⟨v.vb, 1, none⟩ = some (.int .i64 (c : Int))) (first | go_keep | exact ⟨c0, c1⟩ | exact ⟨HV3.out.vcs.1, HV3.out.vcs.2.1⟩) (first
    | (go_at_call 58; (with_reducible refine (HER.out _ HF2.out.drew).mono ?_); rintro e w3 ⟨rfl, hn3, hf3⟩; have HN3 := As.mk hn3; have HF23 := As.mk (show Fr (NF p L s.n s.nb) w2 w3 from hf3.undrew); have HV3 := As.mk ((HV.out.none_ HF2.out).nf (HN.out.none_ HF2.out) hf3.undrew); clear hn3 hf3)
    | fail)
  have HF3 := As.mk (HF2.out.trans HF23.out (fun _ _ h => h.elim) (fun _ _ h => h))
  by_cases hk : (s.erase c b).2 = 0
  · have HLY := As.mk (show s.lay c b t = (s.erase c b).1.prog c b 0 (t.page s.g.s.toNat) (t.oob s.g.s.toNat) from by unfold St.lay; rw [if_pos hk])
    have hg1 := erase_g s c b
    have HSE := As.mk (St.Safe.erase (n := n + 1) HS.out c b)
    have HPR := As.mk (fun (w' : World) (hf : Fr None_ w3 w') => NandH.Prog_calls p (s.erase c b).1 L c b 0 D O nd cd no co (t.page s.g.s.toNat) (t.oob s.g.s.toNat) w' (HN3.out.none_ hf) (by unfold St.n; rw [hg1.1]; exact HC.out.1) (by unfold St.nb; rw [hg1.1]; exact HC.out.2) (by unfold St.np; rw [hg1.1]; have := HN.out.ok.p; omega) n HSE.out
      (by unfold St.n St.nb; rw [hg1.1]; exact ((HD.out w2 (Fr.refl _ _)).frame HF23.out).none_ hf) (by unfold St.n St.nb; rw [hg1.1]; exact ((HO.out w2 (Fr.refl _ _)).frame HF23.out).none_ hf) (by rw [hg1.1, HNO.out.1]; have := HN.out.ok.s; omega) HNO.out.2 HP.out.1 HP.out.2.1)
    unfold PPost at HPR
    rw [← HLY.out] at HPR
    have HNE : As (∀ b', NF p L (s.erase c b).1.n (s.erase c b).1.nb b' → NF p L s.n s.nb b') := ⟨fun b' h => by unfold St.n St.nb at h; rw [hg1.1] at h; exact h⟩
    rw [hk]
    have hnf5 : ∀ j, j < 2 → w3.cell? ⟨rb, j, none⟩ = some ([Value.slice D nd cd, Value.slice O no co].getD j undef) := fun j hj => HF23.out.cell (hcell j hj) (fun hnf => by have h1 := HNF.out _ hnf; have : rb < w.heap.size := h1; omega)
    have k0 := hnf5 0 (by decide)
    have k1 := hnf5 1 (by decide)
    simp only [List.getD_cons_zero, List.getD_cons_succ] at k0 k1
    clear hcell hnf5 hg1 hk
    go_wp2_with fail
    go_loopw [41] (fun v41 w' => (v41 = .int .i64 0 ∧ w' = w3) ∨ (v41 = .int .i64 1 ∧ As ((s.lay c b t).2 = 0) ∧ As (Nand w' p (s.lay c b t).1 L) ∧ As (Fr (NF p L s.n s.nb) w w'))) (fun v41 _ => 1 - (intOf v41).toNat)
    case atStart => exact .inl ⟨rfl, rfl⟩
    case round =>
      rcases hrel with ⟨rfl, rfl⟩ | ⟨rfl, HK, HN4, HF4⟩
      · obtain ⟨c0, c1, _, _, _, _, _, _, _, _, _⟩ := HV3.out.vcs
        go_upto_region 10 with fail
        have hfa : Fr None_ wr (wr.alloc (.cells #[.slice D nd cd, .slice O no co] 189)) := (Fr.refl None_ wr).alloc _
        have HA5 := As.mk (heap_alloc_new wr (.cells #[.slice D nd cd, .slice O no co] 189))
        have HV5 := As.mk (HV3.out.none_ hfa)
        have HFA := As.mk hfa
        have HPR5 := As.mk (show Calls Tryz.prog 101 #[.pointer (some ⟨p, 0, none⟩), .int .i64 (c : Int), .int .i64 (b : Int), .int .i64 0, .slice D nd cd, .slice O no co] _ _ from HPR.out _ hfa.drew)
        generalize wr.alloc (.cells #[.slice D nd cd, .slice O no co] 189) = w5 at *
        generalize hpb : wr.heap.size = pb at *
        have HPB := As.mk (show NF p L s.n s.nb pb → False from fun h => by have h1 := HNF.out _ h; have h2 := HF3.out.size; omega)
        have c0 := HV5.out.vcs.1
        have c1 := HV5.out.vcs.2.1
        have q0 := cell_is (v := .slice D nd cd) (i := 0) HA5.out rfl
        have q1 := cell_is (v := .slice O no co) (i := 1) HA5.out rfl
        clear hfa hpb
        go_region_held3 (fun w' => w'.cell? ⟨v.vb, 0, none⟩ = some (.pointer (some ⟨p, 0, none⟩)) ∧ w'.cell? ⟨v.vb, 1, none⟩ = some (.int .i64 (c : Int)) ∧ w'.cell? ⟨pb, 0, none⟩ = some (.slice D nd cd) ∧ w'.cell? ⟨pb, 1, none⟩ = some (.slice O no co)) (first | go_keep | exact ⟨c0, c1, q0, q1⟩ | exact ⟨HV6.out.vcs.1, HV6.out.vcs.2.1, Fr.cell HF56.out q0 HPB.out, Fr.cell HF56.out q1 HPB.out⟩) (first
          | (go_at_call 101; (with_reducible refine (HPR5.out).mono ?_); rintro e w6 ⟨rfl, hn6, hf6⟩; have HN6 := As.mk hn6; have HF56 := As.mk (show Fr (NF p L s.n s.nb) w5 w6 from (hf6.undrew).mono (fun b' _ h => HNE.out b' h)); have HV6 := As.mk (HV5.out.nf (HN3.out.none_ HFA.out) hf6.undrew); clear hn6 hf6)
          | fail)
        have HF6 := As.mk (HF3.out.after ((HFA.out.trans HF56.out (fun _ _ h => h.elim) (fun _ _ h => h))) (fun _ _ h => h))
        by_cases hk : (s.lay c b t).2 = 0
        · have HK := As.mk hk
          rw [hk]
          clear hk c0 c1 q0 q1
          go_wp2_with fail
          exact ⟨.inr ⟨rfl, HK, HN6, HF6⟩, by simp [intOf]⟩
        · have dk : ((s.lay c b t).2 != 0) = true := by rw [bne_iff_ne]; exact hk
          have HPost := As.mk (show ∀ (e : Ending) (w' : World), e = .returned (.int .i64 (s.lay c b t).2) → Nand w' p (s.lay c b t).1 L → Fr (NF p L s.n s.nb) w w' → LayPost p s L c b t w e w' from fun e w' h1 h2 h3 => ⟨h1, h2, h3⟩)
          generalize (s.lay c b t).2 = k at *
          clear hk c0 c1 q0 q1
          go_wp2_with fail
          go_ret
          exact HPost.out _ _ rfl HN6.out HF6.out
      · have HPost := As.mk (show ∀ (e : Ending) (w' : World), e = .returned (.int .i64 0) → Nand w' p (s.lay c b t).1 L → Fr (NF p L s.n s.nb) w w' → LayPost p s L c b t w e w' from fun e w' h1 h2 h3 => by unfold LayPost; rw [HK.out]; exact ⟨h1, h2, h3⟩)
        go_wp2_with fail
        go_ret
        exact HPost.out _ _ rfl HN4.out HF4.out
  · have HLY := As.mk (show s.lay c b t = s.erase c b from by unfold St.lay; rw [if_neg hk])
    have dk : ((s.erase c b).2 != 0) = true := by rw [bne_iff_ne]; exact hk
    have HPost := As.mk (show ∀ (e : Ending) (w' : World), e = .returned (.int .i64 (s.erase c b).2) → Nand w' p (s.erase c b).1 L → Fr (NF p L s.n s.nb) w w' → LayPost p s L c b t w e w' from fun e w' h1 h2 h3 => by unfold LayPost; rw [HLY.out]; exact ⟨h1, h2, h3⟩)
    generalize (s.erase c b).2 = k at *
    go_wp2_with fail
    go_ret
    exact HPost.out _ _ rfl HN3.out HF3.out
end Go.Proofs.YteofgpaceeibpaaGreat.VolD
namespace Go.Proofs.YteofgpaceeibpaaGreat.VolE
open Go.RowKit Gab Wr Geom Ref Nand NandA NandB NandC NandD NandE NandH RemapA RemapB RemapC RemapD RemapE RemapF RemapG VolA VolB VolC VolD
open Heap (cell_is heap_set heap_set7 fr_set7 fr_set1)
set_option linter.unusedVariables false
set_option linter.unusedSimpArgs false

/-- A table whose number is one more. -/
def _root_.Go.Proofs.YteofgpaceeibpaaGreat.RemapA.Tab.up (t : Tab) : Tab := { t with seq := t.seq + 1 }
theorem up_ok {t : Tab} {g : Geo} (h : t.Ok g) (hs : t.seq < 4294967295) : t.up.Ok g := ⟨h.len, h.inr, h.nd, ⟨by show 0 ≤ t.seq + 1; have := h.seq; omega, by show t.seq + 1 < 4294967296; omega⟩, h.few⟩
/-- The block that the table goes to. -/
def _root_.Go.Proofs.YteofgpaceeibpaaGreat.RemapA.Tab.to (t : Tab) : Int := if t.seq % 2 = 0 then t.t0 else t.t1
theorem to_ok {t : Tab} {g : Geo} (h : t.Ok g) : 0 ≤ t.to ∧ t.to < g.b := by
  unfold Tab.to
  split
  · exact h.inr _ (by simp [Tab.all])
  · exact h.inr _ (by simp [Tab.all])
def _root_.Go.Proofs.YteofgpaceeibpaaGreat.Nand.St.vsave (s : St) (c : Nat) (t : Tab) : St × Int := s.lay c t.up.to.toNat t.up
def SavePost (p : Nat) (s : St) (L : Lay) (c : Nat) (t : Tab) (v : VLay) (w : World) (e : Ending) (w' : World) : Prop :=
  e = .returned (.int .i64 (s.vsave c t).2) ∧ Nand w' p (s.vsave c t).1 L ∧ VolAt w' p c s.g t.up v ∧ Fr (fun b => NF p L s.n s.nb b ∨ b = v.vb) w w'
theorem lay_code (s : St) (c b : Nat) (t : Tab) : (s.lay c b t).2 ≠ 70 := by
  unfold St.lay
  split
  · have := prog_code (s.erase c b).1 c b 0 (t.page s.g.s.toNat) (t.oob s.g.s.toNat); omega
  · have := erase_code s c b; omega
theorem i1_ne {w : World} {p c : Nat} {g : Geo} {t : Tab} {v : VLay} (h : VolAt w p c g t v) : (∀ ad, v.A1 = some ad → 0 < v.n1 → ¬ ad.block = v.vb) ∧ (∀ ad, v.A2 = some ad → 0 < v.n2 → ¬ ad.block = v.vb) := by
  refine ⟨fun ad e hn hb => ?_, fun ad e hn hb => ?_⟩
  · obtain ⟨cs, hc⟩ := h.i1 ad e hn
    rw [hb] at hc
    exact blk_ne h.main hc (by decide) rfl
  · obtain ⟨cs, hc⟩ := h.i2 ad e hn
    rw [hb] at hc
    exact blk_ne h.main hc (by decide) rfl

set_option maxHeartbeats 8000000 in
set_option maxRecDepth 100000 in
theorem save_calls (p c : Nat) (s : St) (L : Lay) (t : Tab) (v : VLay) (w : World) (hN : Nand w p s L) (hV : VolAt w p c s.g t v) (ht : t.Ok s.g) (hq : t.seq < 4294967295) (hc : c < s.n) (n : Nat) (hs : s.Safe (n + 2)) :
    Calls Tryz.prog 59 #[.pointer (some ⟨v.vb, 0, none⟩)] w (SavePost p s L c t v w) := by
  have hs0 := ht.seq
  have htu := up_ok ht hq
  have hto := to_ok htu
  have hsf := fr_set1 (w' := w) (b := v.vb) (i := 6) (.int .u32 (t.seq + 1))
  have hm1 : (w.setCell ⟨v.vb, 6, none⟩ (.int .u32 (t.seq + 1))).heap[v.vb]? = _ := heap_set hV.main 6 (.int .u32 (t.seq + 1))
  have hN1 := hN.one hV.main hsf ⟨⟨by decide, by decide, by decide, by decide, by decide⟩, by decide, by decide⟩
  have hV1 : VolAt (w.setCell ⟨v.vb, 6, none⟩ (.int .u32 (t.seq + 1))) p c s.g t.up v :=
    ⟨by rw [hm1]; rfl, hV.l1, hV.r1.fr hsf (i1_ne hV).1, hV.l2, hV.r2.fr hsf (i1_ne hV).2, hV.i1.fr hsf (i1_ne hV).1, hV.i2.fr hsf (i1_ne hV).2⟩
  have HLAY := As.mk (lay_calls p c t.up.to.toNat s L t.up v _ hN1 hV1 htu hc (by unfold St.nb; omega) n hs)
  have hne : ((s.lay c t.up.to.toNat t.up).2 != 70) = true := by rw [bne_iff_ne]; exact lay_code _ _ _ _
  have HPost := As.mk (show ∀ (e : Ending) (w' : World), LayPost p s L c t.up.to.toNat t.up (w.setCell ⟨v.vb, 6, none⟩ (.int .u32 (t.seq + 1))) e w' → SavePost p s L c t v w e w' from by
    rintro e w' ⟨h1, h2, h3⟩
    exact ⟨h1, h2, hV1.nf hN1 h3, hsf.trans h3 (fun _ _ h => .inr h) (fun _ _ h => .inl h)⟩)
  have c6 := cell_is (i := 6) hV.main rfl
  have f6 := free_of (i := 6) hV.main
  have d6 := cell_is (v := .int .u32 (t.seq + 1)) (i := 6) hV1.main rfl
  have d9 := cell_is (v := .int .i64 t.t0) (i := 9) hV1.main rfl
  have d10 := cell_is (v := .int .i64 t.t1) (i := 10) hV1.main rfl
  have HTO := As.mk (show t.up.to = if (t.seq + 1) % 2 = 0 then t.t0 else t.t1 from rfl)
  have hmd : (t.seq + 1) % 2 = 0 ∨ (t.seq + 1) % 2 = 1 := by omega
  have HTZ := As.mk (show ((t.up.to.toNat : Nat) : Int) = t.up.to by omega)
  have hwr : IntKind.u32.wrap (t.seq + 1) = t.seq + 1 := by rw [IntKind.wrap_u32]; omega
  have htd : (t.seq + 1).tmod 2 = (t.seq + 1) % 2 := by rw [Int.tmod_eq_emod_of_nonneg (by omega)]
  clear hN hV ht hq hc hs hs0 htu hto hsf hm1 hN1 hV1
  go_enter Tryz.func59, Tryz.ntmps59
  go_upto_region 2 with fail
  generalize w.setCell ⟨v.vb, 6, none⟩ (.int .u32 (t.seq + 1)) = w1 at *
  rw [HTZ.out] at HLAY
  generalize t.up.to.toNat = B at *
  go_loop [2] (fun v2 => v2 = .int .i64 0) (fun _ => 0)
  case atStart => rfl
  case round =>
    obtain rfl := hrel
    rcases hmd with hm | hm
    · skip
      rw [HTO.out, if_pos hm] at HLAY
      go_wp2_with fail
      ((with_reducible refine (HLAY.out).mono ?_); rintro e w2 hp)
      have HP2 := As.mk (HPost.out _ _ hp)
      obtain ⟨rfl, _, _⟩ := hp
      generalize (s.lay c B t.up).2 = k at *
      go_wp2_with fail
      go_ret
      exact HP2.out
    · skip
      rw [HTO.out, if_neg (by omega)] at HLAY
      go_wp2_with fail
      ((with_reducible refine (HLAY.out).mono ?_); rintro e w2 hp)
      have HP2 := As.mk (HPost.out _ _ hp)
      obtain ⟨rfl, _, _⟩ := hp
      generalize (s.lay c B t.up).2 = k at *
      go_wp2_with fail
      go_ret
      exact HP2.out
end Go.Proofs.YteofgpaceeibpaaGreat.VolE
namespace Go.Proofs.YteofgpaceeibpaaGreat.Blank
open Go.RowKit Gab Fields Go.Proofs.YteofgpaceeibpaaGreat.Open
open Wr (InR)
set_option linter.unusedVariables false
set_option linter.unusedSimpArgs false
def allFF (xs : List Int) : Prop := ∀ b ∈ xs, b = 255
theorem allFF_of {xs : List Int} (h : ∀ j, j < xs.length → xs.getD j 0 = 255) : allFF xs := fun b hb => by
  obtain ⟨i, hi, rfl⟩ := List.getElem_of_mem hb
  have := h i hi
  rwa [List.getD_eq_getElem?_getD, List.getElem?_eq_getElem hi] at this

theorem index0 (u v : Value) (w : World) : (Instr.index 150 (.agg #[u, v]) (.int .i64 0)).run Tryz.prog w = .ok u w := by kernel_rfl
theorem index1 (u v : Value) (w : World) : (Instr.index 150 (.agg #[u, v]) (.int .i64 1)).run Tryz.prog w = .ok v w := by kernel_rfl
set_option maxHeartbeats 4000000 in
set_option maxRecDepth 100000 in
theorem Blank_calls (A B : Option Addr) (n c m d : Nat) (xs ys : List Int) (w : World) (hA : Rd .u8 w A n xs) (hB : Rd .u8 w B m ys) (r : Bool) (hr : r = true ↔ allFF xs ∧ allFF ys) :
    Calls Tryz.prog 41 #[.slice A n c, .slice B m d] w fun e w' => e = .returned (.bool r) ∧ Fr None_ w w' := by
  have HA := As.mk hA
  have HB := As.mk hB
  have HR := As.mk hr
  have hn := hA.2.1
  have hm := hB.2.1
  have hi0 := index0
  have hi1 := index1
  clear hA hB hr
  go_enter Tryz.func41, Tryz.ntmps41
  go_wp2_with fail
  go_loopw [6, 8, 12, 17] (fun v6 v8 v12 v17 w' => ∃ j : Int, v12 = .int .i64 j ∧ 0 ≤ j ∧ j ≤ 2 ∧ As (1 ≤ j → allFF xs) ∧ As (2 ≤ j → allFF ys) ∧ As (Fr None_ w w')) (fun _ _ v12 _ _ => (2 - intOf v12).toNat)
  case atStart => exact ⟨0, rfl, by omega, by omega, ⟨fun h => absurd h (by decide)⟩, ⟨fun h => absurd h (by decide)⟩, ⟨Fr.refl _ _⟩⟩
  case round =>
    obtain ⟨j, rfl, hj0, hj2, HX, HY, HF⟩ := hrel
    have hj : j = 0 ∨ j = 1 ∨ j = 2 := by omega
    rcases hj with rfl | rfl | rfl
    · go_wp2_with fail
      go_loopw [8, 17] (fun v8 v17 w' => ∃ i : Int, v17 = .int .i64 i ∧ 0 ≤ i ∧ i ≤ (n : Int) ∧ As (∀ k : Nat, (k : Int) < i → xs.getD k 0 = 255) ∧ As (Fr None_ w w')) (fun _ v17 _ => n - (intOf v17).toNat)
      case atStart => exact ⟨0, rfl, by omega, by omega, ⟨fun k h => absurd h (by omega)⟩, HF⟩
      case round =>
        obtain ⟨i, rfl, hi0, hi1, HI, HG⟩ := hrel
        by_cases hlt : i < (n : Int)
        · obtain ⟨ad, e, hc⟩ := (HA.out.none_ HG.out).at_ i hi0 hlt
          subst e
          by_cases e : xs.getD i.toNat 0 = 255
          · rw [e] at hc
            have HE := As.mk e
            clear e
            go_wp2_with fail
            exact ⟨⟨i + 1, rfl, by omega, by omega, ⟨fun k hk => by by_cases h : (k : Int) < i; exact HI.out k h; (rw [show k = i.toNat by omega]; exact HE.out)⟩, HG⟩, by simp [intOf]; omega⟩
          · have HE : As (r = false) := ⟨by
              cases r
              · rfl
              · exfalso
                have h := (HR.out.1 rfl).1
                refine e (h _ ?_)
                have hl := HA.out.1
                rw [List.getD_eq_getElem?_getD, List.getElem?_eq_getElem (by omega)]
                exact List.getElem_mem _⟩
            have hb : (xs.getD i.toNat 0 != 255) = true := by simp only [bne_iff_ne, ne_eq]; exact e
            generalize xs.getD i.toNat 0 = z at *
            go_wp2_with fail
            go_ret
            exact ⟨by rw [HE.out]; rfl, HG.out⟩
        · have HXX : As (allFF xs) := ⟨allFF_of (fun k hk => HI.out k (by have := HA.out.1; omega))⟩
          go_wp2_with fail
          exact ⟨⟨1, rfl, by omega, by omega, ⟨fun _ => HXX.out⟩, ⟨fun h => absurd h (by decide)⟩, HG⟩, by simp [intOf]⟩
    · go_wp2_with fail
      go_loopw [8, 17] (fun v8 v17 w' => ∃ i : Int, v17 = .int .i64 i ∧ 0 ≤ i ∧ i ≤ (m : Int) ∧ As (∀ k : Nat, (k : Int) < i → ys.getD k 0 = 255) ∧ As (Fr None_ w w')) (fun _ v17 _ => m - (intOf v17).toNat)
      case atStart => exact ⟨0, rfl, by omega, by omega, ⟨fun k h => absurd h (by omega)⟩, HF⟩
      case round =>
        obtain ⟨i, rfl, hi0, hi1, HI, HG⟩ := hrel
        by_cases hlt : i < (m : Int)
        · obtain ⟨ad, e, hc⟩ := (HB.out.none_ HG.out).at_ i hi0 hlt
          subst e
          by_cases e : ys.getD i.toNat 0 = 255
          · rw [e] at hc
            have HE := As.mk e
            clear e
            go_wp2_with fail
            exact ⟨⟨i + 1, rfl, by omega, by omega, ⟨fun k hk => by by_cases h : (k : Int) < i; exact HI.out k h; (rw [show k = i.toNat by omega]; exact HE.out)⟩, HG⟩, by simp [intOf]; omega⟩
          · have HE : As (r = false) := ⟨by
              cases r
              · rfl
              · exfalso
                have h := (HR.out.1 rfl).2
                refine e (h _ ?_)
                have hl := HB.out.1
                rw [List.getD_eq_getElem?_getD, List.getElem?_eq_getElem (by omega)]
                exact List.getElem_mem _⟩
            have hb : (ys.getD i.toNat 0 != 255) = true := by simp only [bne_iff_ne, ne_eq]; exact e
            generalize ys.getD i.toNat 0 = z at *
            go_wp2_with fail
            go_ret
            exact ⟨by rw [HE.out]; rfl, HG.out⟩
        · have HYY : As (allFF ys) := ⟨allFF_of (fun k hk => HI.out k (by have := HB.out.1; omega))⟩
          go_wp2_with fail
          exact ⟨⟨2, rfl, by omega, by omega, ⟨fun _ => HX.out (by decide)⟩, ⟨fun _ => HYY.out⟩, HG⟩, by simp [intOf]⟩
    · have HE : As (r = true) := ⟨HR.out.2 ⟨HX.out (by decide), HY.out (by decide)⟩⟩
      go_wp2_with fail
      go_ret
      exact ⟨by rw [HE.out]; rfl, HF.out⟩
end Go.Proofs.YteofgpaceeibpaaGreat.Blank

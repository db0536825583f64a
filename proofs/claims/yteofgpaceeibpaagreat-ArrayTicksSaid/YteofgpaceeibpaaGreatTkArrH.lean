/- array: save. | array: look. -/
import Derived.Test.YteofgpaceeibpaaGreatTkArrF
namespace Go.Proofs.YteofgpaceeibpaaGreat.ArrG
open Go.RowKit Gab Wr Geom Ref Nand NandA NandB NandC NandD NandE NandH RemapA RemapB VolA VolD VolE VolF MemA MemB MemC ArrA ArrB ArrC ArrD ArrE ArrF
open Heap (cell_is heap_set fr_set1)
set_option linter.unusedVariables false
set_option linter.unusedSimpArgs false

/-- A block is erased, and gets its first page. -/
def _root_.Go.Proofs.YteofgpaceeibpaaGreat.Nand.St.put (s : St) (c k : Nat) (d o : List Int) : St × Int := if (s.erase c k).2 = 0 then (s.erase c k).1.prog c k 0 d o else s.erase c k
theorem put_g (s : St) (c k : Nat) (d o : List Int) : (s.put c k d o).1.g = s.g ∧ (s.put c k d o).1.evs = s.evs := by
  have h := erase_g s c k
  unfold St.put
  split
  · have h2 := prog_g (s.erase c k).1 c k 0 d o
    exact ⟨h2.1.trans h.1, h2.2.trans h.2⟩
  · exact h
theorem safe_put {s : St} {n : Nat} (h : s.Safe (n + 2)) (c k : Nat) (d o : List Int) : (s.put c k d o).1.Safe n := by
  have h1 : (s.erase c k).1.Safe (n + 1) := St.Safe.erase (n := n + 1) h c k
  unfold St.put
  split
  · exact h1.prog c k 0 d o
  · exact h1.le (Nat.le_succ n)
/-- The set, its number one more. -/
def _root_.Go.Proofs.YteofgpaceeibpaaGreat.MemA.MS.up (m : MS) : MS := { m with seq := m.seq + 1 }
def _root_.Go.Proofs.YteofgpaceeibpaaGreat.ArrA.Ar.up (σ : Ar) : Ar := { σ with set := σ.set.up }
theorem mup_ok {m : MS} {g : Geo} (h : m.Ok g) (hs : m.seq < 4294967295) : m.up.Ok g := ⟨h.len, ⟨by show 0 ≤ m.seq + 1; have := h.seq; omega, by show m.seq + 1 < 4294967296; omega⟩, h.inr, h.nd, h.dead, h.done, h.dn⟩
/-- The set is written onto a chip. -/
def _root_.Go.Proofs.YteofgpaceeibpaaGreat.ArrA.Ar.save1 (τ : Ar) (c b : Nat) (d o : List Int) : Ar × Int := match τ.vol c with
  | none => (τ, 0)
  | some t => if (τ.s.put c (t.at b) d o).2 = 71 then Ar.died { τ with s := (τ.s.put c (t.at b) d o).1 } c else ({ τ with s := (τ.s.put c (t.at b) d o).1 }, (τ.s.put c (t.at b) d o).2)
def _root_.Go.Proofs.YteofgpaceeibpaaGreat.ArrA.Ar.saveN (σ : Ar) (b : Nat) (d o : List Int) : Nat → Ar × Int
  | 0 => (σ, 0)
  | i + 1 => if (σ.saveN b d o i).2 = 0 then (σ.saveN b d o i).1.save1 i b d o else σ.saveN b d o i
/-- The set is written onto all chips that are there. -/
def _root_.Go.Proofs.YteofgpaceeibpaaGreat.ArrA.Ar.save (σ : Ar) : Ar × Int := σ.up.saveN (σ.up.set.seq % 2).toNat (σ.up.set.page σ.s.g) (σ.up.set.oob σ.s.g) σ.s.n
theorem saveN_stuck (σ : Ar) (b : Nat) (d o : List Int) : ∀ n m, n ≤ m → (σ.saveN b d o n).2 ≠ 0 → σ.saveN b d o m = σ.saveN b d o n
  | n, 0, h, _ => by
    obtain rfl : n = 0 := by omega
    rfl
  | n, m + 1, h, hk => by
    by_cases e : n = m + 1
    · rw [e]
    · have ih := saveN_stuck σ b d o n m (by omega) hk
      show (if (σ.saveN b d o m).2 = 0 then _ else σ.saveN b d o m) = _
      rw [ih, if_neg hk]
theorem safe_save1 {τ : Ar} {n : Nat} (h : τ.s.Safe (n + 2)) (c b : Nat) (d o : List Int) : (τ.save1 c b d o).1.s.Safe n := by
  unfold Ar.save1
  split
  · exact h.le (by omega)
  · split
    · rw [(died_same _ _).1]; exact safe_put h _ _ _ _
    · exact safe_put h _ _ _ _
theorem safe_saveN {σ : Ar} (b : Nat) (d o : List Int) : ∀ i n, σ.s.Safe (n + 2 * i) → (σ.saveN b d o i).1.s.Safe n
  | 0, n, h => h
  | i + 1, n, h => by
    have h2 := safe_saveN b d o i (n + 2) (by rw [show n + 2 + 2 * i = n + 2 * (i + 1) by omega]; exact h)
    unfold Ar.saveN
    split
    · exact safe_save1 h2 i b d o
    · exact h2.le (by omega)
def SvPost (σ : Ar) (K : ALay) (w : World) (e : Ending) (w' : World) : Prop := e = .returned (.int .i64 σ.save.2) ∧ ArAt w' σ.save.1 K ∧ Fr (AF K σ) w w'
theorem rdn_of {w : World} {p : Nat} {s : St} {L : Lay} (hN : Nand w p s L) {w2 : World} {A : Option Addr} {n c : Nat} {xs : List Int} (hr : Row 5 .u8 w2 w.heap.size (.slice A n c) xs) : RdN w2 (NF p L s.n s.nb) A n xs := by
  obtain ⟨A1, n1, c1, e1, _, h2, h3⟩ := hr.rd
  injection e1 with ea eb ec
  subst ea eb ec
  refine ⟨h2.out, fun ad e hn hnf => ?_⟩
  have := (hr.blk _ (h3.out ad e)).1
  have := hN.lt hnf
  omega

set_option maxHeartbeats 8000000 in
set_option maxRecDepth 100000 in
theorem save_calls (σ : Ar) (K : ALay) (w : World) (h : ArAt w σ K) (hq : σ.set.seq < 4294967295) (n : Nat) (hs : σ.s.Safe (n + 34)) :
    Calls Tryz.prog 34 #[.pointer (some ⟨K.x, 0, none⟩)] w (SvPost σ K w) := by
  have hgc := h.nand.ok.c
  have hgb := h.nand.ok.b
  have hs0 := h.ok.set.seq
  have hsf := fr_set1 (w' := w) (b := K.x) (i := 6) (.int .u32 (σ.set.seq + 1))
  have hm1 := heap_set h.main 6 (.int .u32 (σ.set.seq + 1))
  have hA1 := h.put σ.up rfl rfl rfl ⟨mup_ok h.ok.set hq, h.ok.more⟩ hsf (by rw [hm1]; rfl)
  have c6 := h.cs.2.2.2.2.2.2.1
  have f6 := free_of (i := 6) h.main
  have HA1 := As.mk hA1
  have HF1 := As.mk (show Fr (AF K σ) w (w.setCell ⟨K.x, 6, none⟩ (.int .u32 (σ.set.seq + 1))) from hsf.mono (fun b _ e => .inr (.inl e)))
  have hwr : IntKind.u32.wrap (σ.set.seq + 1) = σ.set.seq + 1 := by rw [IntKind.wrap_u32]; omega
  have HSV := As.mk (show σ.save = σ.up.saveN (σ.up.set.seq % 2).toNat (σ.up.set.page σ.s.g) (σ.up.set.oob σ.s.g) σ.s.n from rfl)
  have hnn : σ.s.n ≤ 17 := by unfold St.n; omega
  have HSS := As.mk (show σ.up.s.Safe (n + 34) from hs)
  have hB : σ.up.set.seq % 2 = (((σ.up.set.seq % 2).toNat : Nat) : Int) := by omega
  have hB2 : (σ.up.set.seq % 2).toNat ≤ 1 := by omega
  have HGO := As.mk h.nand.ok
  have HPG := As.mk (fun (w' : World) (hA : ArAt w' σ.up K) => MemB.Page_calls σ.up.set σ.s.g (.agg #[.int .u32 σ.up.set.seq, .slice (some ⟨K.cb, 0, none⟩) σ.s.g.c.toNat K.cc, .int .i64 σ.set.spare, .int .i64 σ.set.dead, .int .i64 σ.set.done]) w' h.nand.ok hA.ok.set ⟨_, _, _, rfl, hA.ccn, hA.rd⟩)
  have htd : σ.up.set.seq.tmod 2 = σ.up.set.seq % 2 := by rw [Int.tmod_eq_emod_of_nonneg (by show 0 ≤ σ.set.seq + 1; omega)]
  have hup : σ.set.seq + 1 = σ.up.set.seq := rfl
  rw [hup] at hA1 HA1 HF1
  have HU := As.mk hup
  have hw0 := h.nand.lt (b := K.p) (.inl rfl)
  have HLT := As.mk (fun b' (hb : NF K.p K.L σ.s.n σ.s.nb b') => h.nand.lt hb)
  have hgs := h.nand.ok.s
  clear h hq hs hs0 hsf hm1 hA1 hgc hgb hup hw0
  unfold Geo.val at HPG
  go_enter Tryz.func34, Tryz.ntmps34
  go_upto_region 2 with fail
  rw [HU.out]
  generalize w.setCell ⟨K.x, 6, none⟩ (.int .u32 σ.up.set.seq) = w1 at *
  obtain ⟨_, c1, c2, c3, c4, c5, c6, c7, c8, c9, c10, _⟩ := HA1.out.cs
  change w1.cell? ⟨K.x, 1, none⟩ = some (.int .i64 σ.s.g.c) at c1
  change w1.cell? ⟨K.x, 2, none⟩ = some (.int .i64 σ.s.g.b) at c2
  change w1.cell? ⟨K.x, 3, none⟩ = some (.int .i64 σ.s.g.p) at c3
  change w1.cell? ⟨K.x, 4, none⟩ = some (.int .i64 σ.s.g.s) at c4
  change w1.cell? ⟨K.x, 6, none⟩ = some (.int .u32 σ.up.set.seq) at c6
  change w1.cell? ⟨K.x, 7, none⟩ = some (.slice (some ⟨K.cb, 0, none⟩) σ.s.g.c.toNat K.cc) at c7
  change w1.cell? ⟨K.x, 8, none⟩ = some (.int .i64 σ.set.spare) at c8
  change w1.cell? ⟨K.x, 9, none⟩ = some (.int .i64 σ.set.dead) at c9
  change w1.cell? ⟨K.x, 10, none⟩ = some (.int .i64 σ.set.done) at c10
  have HPG1 := As.mk (HPG.out _ (HA1.out.none_ (Fr.refl None_ w1).drew))
  unfold PagePost at HPG1
  go_cut [3, 4, 5] (fun v3 v4 v5 wx => ∃ D nd cd O no co, v3 = .slice D nd cd ∧ v4 = .slice O no co ∧ v5 = .int .i64 0 ∧ As (Row 5 .u8 wx w1.heap.size (.slice D nd cd) (σ.up.set.page σ.s.g)) ∧ As (Row 5 .u8 wx w1.heap.size (.slice O no co) (σ.up.set.oob σ.s.g)) ∧ As (Fr None_ w1 wx))
  case first =>
    go_region_held3 (fun w' => w'.cell? ⟨K.x, 1, none⟩ = some (.int .i64 σ.s.g.c) ∧ w'.cell? ⟨K.x, 2, none⟩ = some (.int .i64 σ.s.g.b) ∧ w'.cell? ⟨K.x, 3, none⟩ = some (.int .i64 σ.s.g.p) ∧ w'.cell? ⟨K.x, 4, none⟩ = some (.int .i64 σ.s.g.s) ∧ w'.cell? ⟨K.x, 6, none⟩ = some (.int .u32 σ.up.set.seq) ∧ w'.cell? ⟨K.x, 7, none⟩ = some (.slice (some ⟨K.cb, 0, none⟩) σ.s.g.c.toNat K.cc) ∧ w'.cell? ⟨K.x, 8, none⟩ = some (.int .i64 σ.set.spare) ∧ w'.cell? ⟨K.x, 9, none⟩ = some (.int .i64 σ.set.dead) ∧ w'.cell? ⟨K.x, 10, none⟩ = some (.int .i64 σ.set.done)) (first | go_keep | exact ⟨c1, c2, c3, c4, c6, c7, c8, c9, c10⟩ | exact ⟨Fr.cell HF2.out c1 (fun h => h), Fr.cell HF2.out c2 (fun h => h), Fr.cell HF2.out c3 (fun h => h), Fr.cell HF2.out c4 (fun h => h), Fr.cell HF2.out c6 (fun h => h), Fr.cell HF2.out c7 (fun h => h), Fr.cell HF2.out c8 (fun h => h), Fr.cell HF2.out c9 (fun h => h), Fr.cell HF2.out c10 (fun h => h)⟩) (first
      | (go_at_call 60; (with_reducible refine (HPG1.out).mono ?_); rintro e w2 ⟨vd, vo, rfl, hrd, hro, hf2⟩; have HF2 := As.mk (show Fr None_ w1 w2 from hf2.undrew); have HRD := As.mk (show Row 5 .u8 w2 w1.heap.size vd (σ.up.set.page σ.s.g) from hrd); have HRO := As.mk (show Row 5 .u8 w2 w1.heap.size vo (σ.up.set.oob σ.s.g) from hro); clear hrd hro hf2; obtain ⟨D, nd, cd, eD, _, _, _⟩ := HRD.out.rd; subst eD; obtain ⟨O, no, co, eO, _, _, _⟩ := HRO.out.rd; subst eO)
      | fail)
    go_wp2_with fail
    go_meet
    case rel => exact ⟨_, _, _, _, _, _, rfl, rfl, rfl, HRD, HRO, HF2⟩
  case rest =>
    obtain ⟨D, nd, cd, O, no, co, rfl, rfl, rfl, HRD, HRO, HF2⟩ := hcut
    rename World => w2
    have HA2 := As.mk (HA1.out.none_ HF2.out)
    have HFA2 := As.mk (HF1.out.after HF2.out (fun _ _ h => h.elim))
    clear c1 c2 c3 c4 c5 c6 c7 c8 c9 c10 HPG1
    obtain ⟨_, _, _, _, _, c5, c6, _, _, _, _, _⟩ := HA2.out.cs
    change w2.cell? ⟨K.x, 5, none⟩ = some (.slice (some ⟨K.V, 0, none⟩) σ.s.n σ.s.n) at c5
    have HDD := As.mk (show RdN w2 (NF K.p K.L σ.s.n σ.s.nb) D nd (σ.up.set.page σ.s.g) from rdn_of HA1.out.nand HRD.out)
    have HOO := As.mk (show RdN w2 (NF K.p K.L σ.s.n σ.s.nb) O no (σ.up.set.oob σ.s.g) from rdn_of HA1.out.nand HRO.out)
    have HNX := As.mk (show (∀ ad, D = some ad → 0 < nd → ∀ m : Nat, w2.heap.size ≤ m → ¬ (ad.block = K.x ∨ ad.block = K.V)) ∧ (∀ ad, O = some ad → 0 < no → ∀ m : Nat, w2.heap.size ≤ m → ¬ (ad.block = K.x ∨ ad.block = K.V)) from by
      have hx : K.x < w1.heap.size := (Array.getElem?_eq_some_iff.1 HA1.out.main).1
      obtain ⟨cs, hv, _⟩ := HA1.out.vols
      have hv' : K.V < w1.heap.size := (Array.getElem?_eq_some_iff.1 hv).1
      refine ⟨fun ad e hn m _ hh => ?_, fun ad e hn m _ hh => ?_⟩
      · subst e
        have := (HRD.out.blk _ own_some).1
        omega
      · subst e
        have := (HRO.out.blk _ own_some).1
        omega)
    rw [hB] at htd
    generalize hD' : σ.up.set.page σ.s.g = d at *
    generalize hO' : σ.up.set.oob σ.s.g = o at *
    have HRR := As.mk (show InR 256 d ∧ InR 256 o ∧ d.length = σ.s.g.s.toNat ∧ o.length = 64 from by
      rw [← hD', ← hO']
      have hl := MemB.enc_length HGO.out HA1.out.ok.set
      refine ⟨Seal.pad_range ?_ _, ?_, ?_, OS.seal_len _ _ _⟩
      · unfold MS.enc
        exact Seal.inR_append (Seal.inR_append (Seal.inR_append (Seal.les_range _ _) (Seal.les_range _ _)) (Seal.les_range _ _)) (Seal.les_range _ _)
      · unfold MS.oob Seal.sealOf
        exact Seal.inR_append (Seal.pad_range (Seal.inR_append (Seal.bytes_range _) (Seal.le_range 4 _)) _) (Seal.tail_range (fun x hx => by cases hx))
      · have h2 : (σ.up.set.enc σ.s.g).length ≤ 256 := hl.2
        unfold MS.page
        rw [padTo_length]
        omega)
    generalize (σ.up.set.seq % 2).toNat = B at *
    have HND := As.mk (show (nd : Int) = σ.s.g.s ∧ no = 64 from by have h1 := HDD.out.1.1; have h2 := HOO.out.1.1; have h3 := HRR.out; omega)
    clear hD' hO'
    go_wp2_with fail
    go_loopw [48] (fun v48 w' => ∃ i : Nat, v48 = .int .i64 (i : Int) ∧ i ≤ σ.s.n ∧ As ((σ.up.saveN B d o i).2 = 0) ∧ As (ArAt w' (σ.up.saveN B d o i).1 K) ∧ As ((σ.up.saveN B d o i).1.s.g = σ.s.g) ∧ As (Fr (AF K σ) w w') ∧ As (Fr (AF K σ) w2 w') ∧ As (RdN w' (NF K.p K.L σ.s.n σ.s.nb) D nd d) ∧ As (RdN w' (NF K.p K.L σ.s.n σ.s.nb) O no o)) (fun v48 _ => σ.s.n - (intOf v48).toNat)
    case atStart => exact ⟨0, rfl, Nat.zero_le _, ⟨rfl⟩, HA2, ⟨rfl⟩, HFA2, ⟨Fr.refl _ _⟩, HDD, HOO⟩
    case round =>
      obtain ⟨i, rfl, hi, HK, HAi, HGi, HFi, HFj, HDi, HOi⟩ := hrel
      by_cases hlt : i < σ.s.n
      · have hltI : (i : Int) < (σ.s.n : Int) := by omega
        have HS1 := As.mk (show σ.up.saveN B d o (i + 1) = (σ.up.saveN B d o i).1.save1 i B d o from by show (if (σ.up.saveN B d o i).2 = 0 then _ else _) = _; rw [if_pos HK.out])
        have hsaf := safe_saveN B d o i (n + 0 + 2) (HSS.out.le (show n + 0 + 2 + 2 * i ≤ n + 34 by omega))
        have HAFE := As.mk (AF.eq (K := K) HGi.out)
        have hgi := HGi.out
        generalize hσi : (σ.up.saveN B d o i).1 = τ at *
        have hin : i < τ.s.n := by rw [(n_same hgi).1]; exact hlt
        have hvc := (HAi.out.volc hin).1
        rcases ht : τ.vol i with _ | t
        · have hvp : wr.cell? ⟨K.V, i, none⟩ = some (.pointer none) := by rw [hvc]; unfold vptr; rw [ht]
          have HN1 := As.mk (show σ.up.saveN B d o (i + 1) = (τ, 0) from by rw [HS1.out]; unfold Ar.save1; rw [ht])
          clear ht hvc hsaf hσi hin hgi
          go_wp2_with fail
          exact ⟨⟨i + 1, rfl, by omega, ⟨by rw [HN1.out]⟩, ⟨by rw [HN1.out]; exact HAi.out⟩, ⟨by rw [HN1.out]; exact HGi.out⟩, HFi, HFj, HDi, HOi⟩, by simp [intOf]; omega⟩
        · have hvp : wr.cell? ⟨K.V, i, none⟩ = some (.pointer (some ⟨(K.v i).vb, 0, none⟩)) := by rw [hvc]; unfold vptr; rw [ht]
          have hvv := HAi.out.vol i t hin ht
          have htok := HAi.out.ok.more _ t hin ht
          have hgi2 : σ.s.g.b = τ.s.g.b := by rw [hgi]
          have hltb : B < t.place.length := by have h1 := htok.len; have h2 := HGO.out.b; omega
          have HER := As.mk (VolA.Erase_calls K.p i τ.s K.L t (K.v i) B wr HAi.out.nand hvv.1 htok hin hltb (n + 1) hsaf)
          unfold ErasePost at HER
          have hge := (erase_g τ.s i (t.at B)).1
          have HN1 := As.mk (show σ.up.saveN B d o (i + 1) = if (τ.s.put i (t.at B) d o).2 = 71 then Ar.died { τ with s := (τ.s.put i (t.at B) d o).1 } i else ({ τ with s := (τ.s.put i (t.at B) d o).1 }, (τ.s.put i (t.at B) d o).2) from by rw [HS1.out]; unfold Ar.save1; rw [ht])
          have hgp := (put_g τ.s i (t.at B) d o).1
          have hgr : (τ.s.put i (t.at B) d o).1.g = σ.s.g := hgp.trans hgi
          have HTE := As.mk (fun (w' : World) (hN : Nand w' K.p (τ.s.erase i (t.at B)).1 K.L) (hf2 : Fr (NF K.p K.L τ.s.n τ.s.nb) wr w') => HAi.out.turn hN hge hf2)
          have HNT := As.mk (And.intro hin (And.intro ht (And.intro htok (And.intro hltb (And.intro hgi hge)))))
          have HSF := As.mk (St.Safe.erase (n := n + 1) hsaf i (t.at B))
          have hne7 : (τ.s.put i (t.at B) d o).2 = if (τ.s.erase i (t.at B)).2 = 0 then ((τ.s.erase i (t.at B)).1.prog i (t.at B) 0 d o).2 else (τ.s.erase i (t.at B)).2 := by unfold St.put; split <;> rfl
          have HAFD := As.mk (fun (w' : World) (hA : ArAt w' { τ with s := (τ.s.put i (t.at B) d o).1 } K) => died_calls { τ with s := (τ.s.put i (t.at B) d o).1 } K i w' hA (by show i < St.n _; rw [(n_same hgr).1]; exact hlt))
          have HGR := As.mk hgr
          clear hsaf hσi hvc hvv hltb hgi hge hgp hgi2 ht htok hin
          go_upto_if 59 with (go_at_call 61; (with_reducible refine (HER.out).mono ?_); rintro e w3 ⟨rfl, hn3, hf3⟩; have HA3 := As.mk (HTE.out w3 hn3 hf3); have HF3 := As.mk hf3; clear hn3 hf3)
          have HNFE : As (∀ b, NF K.p K.L τ.s.n τ.s.nb b ↔ NF K.p K.L σ.s.n σ.s.nb b) := ⟨fun b => by unfold St.n St.nb; rw [HGi.out]⟩
          have HFs := As.mk (HF3.out.mono (T := NF K.p K.L σ.s.n σ.s.nb) (fun b _ h => (HNFE.out b).1 h))
          go_cut [9] (fun v9 wx => v9 = .int .i64 (τ.s.put i (t.at B) d o).2 ∧ As (ArAt wx { τ with s := (τ.s.put i (t.at B) d o).1 } K) ∧ As (Fr (NF K.p K.L σ.s.n σ.s.nb) wr wx))
          case first =>
            by_cases hk0 : (τ.s.erase i (t.at B)).2 = 0
            · have hpe : τ.s.put i (t.at B) d o = (τ.s.erase i (t.at B)).1.prog i (t.at B) 0 d o := by unfold St.put; rw [if_pos hk0]
              obtain ⟨hin, ht, htok, hltb, hgi, hge⟩ := HNT.out
              have hge2 := hge.trans hgi
              have hvv3 := HA3.out.vol i t (by show i < St.n _; rw [(n_same hge).1]; exact hin) ht
              have HPR := As.mk (show Calls Tryz.prog 62 #[.pointer (some ⟨(K.v i).vb, 0, none⟩), .int .i64 (B : Int), .int .i64 0, .slice D nd cd, .slice O no co] w3 _ from VolA.Prog_calls K.p i (τ.s.erase i (t.at B)).1 K.L t (K.v i) B 0 D O nd cd no co d o w3 HA3.out.nand hvv3.1 (by rw [hge]; exact htok) (by rw [(n_same hge).1]; exact hin) hltb (by unfold St.np; rw [hge2]; have := HGO.out.p; omega) n HSF.out
                (by unfold St.n St.nb; rw [hge2]; exact HDi.out.frame HFs.out) (by unfold St.n St.nb; rw [hge2]; exact HOi.out.frame HFs.out) (by rw [hge2]; exact HND.out.1) HND.out.2 HRR.out.1 HRR.out.2.1)
              unfold PPost at HPR
              rw [← hpe] at HPR
              have HNF3 : As (∀ b, NF K.p K.L (τ.s.erase i (t.at B)).1.n (τ.s.erase i (t.at B)).1.nb b → NF K.p K.L σ.s.n σ.s.nb b) := ⟨fun b h => by unfold St.n St.nb at h; rw [hge2] at h; exact h⟩
              have HT2 := As.mk (fun (w' : World) (hN : Nand w' K.p (τ.s.put i (t.at B) d o).1 K.L) (hf2 : Fr (NF K.p K.L (τ.s.erase i (t.at B)).1.n (τ.s.erase i (t.at B)).1.nb) w3 w') => HA3.out.turn hN (show (τ.s.put i (t.at B) d o).1.g = (τ.s.erase i (t.at B)).1.g from by rw [HGR.out, hge2]) hf2)
              rw [hk0]
              clear hk0 hpe hin ht htok hltb hgi hge hge2 hvv3 hne7
              go_wp2_with fail
              ((with_reducible refine (HPR.out).mono ?_); rintro e w4 ⟨rfl, hn4, hf4⟩)
              have HA4 := As.mk (HT2.out w4 hn4 hf4)
              have HF4 := As.mk (HFs.out.after hf4 (fun b _ h => HNF3.out b h))
              clear hn4 hf4
              go_wp2_with fail
              go_meet
              case rel => exact ⟨rfl, HA4, HF4⟩
            · have hpe : τ.s.put i (t.at B) d o = τ.s.erase i (t.at B) := by unfold St.put; rw [if_neg hk0]
              have d0 : ((τ.s.erase i (t.at B)).2 == 0) = false := beq_eq_false_iff_ne.2 hk0
              have HPE := As.mk hpe
              generalize hkk : (τ.s.erase i (t.at B)).2 = k at *
              have HKK := As.mk hkk
              clear hk0 hpe hne7 hkk
              go_wp2_with fail
              go_meet
              case rel => exact ⟨by rw [HPE.out, HKK.out], ⟨by rw [HPE.out]; exact HA3.out⟩, HFs⟩
          case rest =>
            obtain ⟨rfl, HA4, HFw⟩ := hcut
            rename World => w4
            have HF4 := As.mk (HFi.out.after HFw.out (fun b _ h => .inl h))
            have HF24 := As.mk (HFj.out.after HFw.out (fun b _ h => .inl h))
            have HD4 := As.mk (HDi.out.frame HFw.out)
            have HO4 := As.mk (HOi.out.frame HFw.out)
            clear hne7 HER
            generalize τ.s.put i (t.at B) d o = r at *
            by_cases hk7 : r.2 = 71
            · have HDD7 := As.mk (HAFD.out w4 HA4.out)
              have HN2 := As.mk (show σ.up.saveN B d o (i + 1) = Ar.died { τ with s := r.1 } i from by rw [HN1.out, if_pos hk7])
              have HG := As.mk (show ∀ b, (b = K.x ∨ b = K.V) → AF K σ b from fun b h => by rcases h with h | h; exact .inr (.inl h); exact .inr (.inr h))
              have HXN := As.mk (show ∀ {A : Option Addr} {n : Nat} {xs : List Int} {w' : World}, RdN w4 (NF K.p K.L σ.s.n σ.s.nb) A n xs → (∀ ad, A = some ad → 0 < n → ∀ m : Nat, w2.heap.size ≤ m → ¬ (ad.block = K.x ∨ ad.block = K.V)) → Fr (fun b => b = K.x ∨ b = K.V) w4 w' → RdN w' (NF K.p K.L σ.s.n σ.s.nb) A n xs from fun hr hne hf => ⟨hr.1.fr hf (fun ad e hn => hne ad e hn _ HF24.out.size), hr.2⟩)
              unfold DiedPost at HDD7
              rw [← HN2.out] at HDD7
              have HG7 := As.mk (show (σ.up.saveN B d o (i + 1)).1.s.g = σ.s.g from by rw [HN2.out, (died_same _ _).1]; exact HGR.out)
              rw [hk7]
              clear hk7
              go_wp2_with fail
              ((with_reducible refine (HDD7.out).mono ?_); rintro e w5 ⟨rfl, ha5, hf5⟩)
              have HA5 := As.mk ha5
              have HF5 := As.mk (HF4.out.after hf5 (fun b _ h => HG.out b h))
              have HF25 := As.mk (HF24.out.after hf5 (fun b _ h => HG.out b h))
              have HD5 := As.mk (HXN.out HD4.out (HNX.out.1) hf5)
              have HO5 := As.mk (HXN.out HO4.out (HNX.out.2) hf5)
              clear ha5 hf5
              by_cases hk0 : (σ.up.saveN B d o (i + 1)).2 = 0
              · have HK5 := As.mk hk0
                rw [hk0]
                clear hk0
                go_wp2_with fail
                exact ⟨⟨i + 1, rfl, by omega, HK5, HA5, HG7, HF5, HF25, HD5, HO5⟩, by simp [intOf]; omega⟩
              · have d0 : ((σ.up.saveN B d o (i + 1)).2 != 0) = true := by rw [bne_iff_ne]; exact hk0
                have HPost := As.mk (show ∀ (e : Ending) (w' : World), e = .returned (.int .i64 (σ.up.saveN B d o (i + 1)).2) → ArAt w' (σ.up.saveN B d o (i + 1)).1 K → Fr (AF K σ) w w' → SvPost σ K w e w' from fun e w' k1 k2 k3 => by
                  have h1 : σ.save = σ.up.saveN B d o (i + 1) := by rw [HSV.out]; exact saveN_stuck σ.up B d o (i + 1) _ (by omega) hk0
                  unfold SvPost
                  rw [h1]
                  exact ⟨k1, k2, k3⟩)
                generalize (σ.up.saveN B d o (i + 1)).2 = k at *
                clear hk0
                go_wp2_with fail
                go_ret
                exact HPost.out _ _ rfl HA5.out HF5.out
            · have d7 : (r.2 == 71) = false := beq_eq_false_iff_ne.2 hk7
              have HN2 := As.mk (show σ.up.saveN B d o (i + 1) = ({ τ with s := r.1 }, r.2) from by rw [HN1.out, if_neg hk7])
              by_cases hk0 : r.2 = 0
              · rw [hk0] at HN2 ⊢
                clear hk0 hk7 d7
                go_wp2_with fail
                exact ⟨⟨i + 1, rfl, by omega, ⟨by rw [HN2.out]⟩, ⟨by rw [HN2.out]; exact HA4.out⟩, ⟨by rw [HN2.out]; exact HGR.out⟩, HF4, HF24, HD4, HO4⟩, by simp [intOf]; omega⟩
              · have d0 : (r.2 != 0) = true := by rw [bne_iff_ne]; exact hk0
                have HPost := As.mk (show ∀ (e : Ending) (w' : World), e = .returned (.int .i64 r.2) → ArAt w' { τ with s := r.1 } K → Fr (AF K σ) w w' → SvPost σ K w e w' from fun e w' k1 k2 k3 => by
                  have h0 : (σ.up.saveN B d o (i + 1)).2 ≠ 0 := by rw [HN2.out]; exact hk0
                  have h1 : σ.save = σ.up.saveN B d o (i + 1) := by rw [HSV.out]; exact saveN_stuck σ.up B d o (i + 1) _ (by omega) h0
                  unfold SvPost
                  rw [h1, HN2.out]
                  exact ⟨k1, k2, k3⟩)
                generalize r.2 = k at *
                clear hk0 hk7
                go_wp2_with fail
                go_ret
                exact HPost.out _ _ rfl HA4.out HF4.out
      · have hltI : ¬ (i : Int) < (σ.s.n : Int) := by omega
        have HPost := As.mk (show ∀ (e : Ending) (w' : World), e = .returned (.int .i64 0) → ArAt w' (σ.up.saveN B d o i).1 K → Fr (AF K σ) w w' → SvPost σ K w e w' from fun e w' k1 k2 k3 => by
          have h1 : σ.save = σ.up.saveN B d o i := by rw [HSV.out]; congr 1; omega
          unfold SvPost
          rw [h1, HK.out]
          exact ⟨k1, k2, k3⟩)
        go_wp2_with fail
        go_ret
        exact HPost.out _ _ rfl HAi.out HFi.out
end Go.Proofs.YteofgpaceeibpaaGreat.ArrG
namespace Go.Proofs.YteofgpaceeibpaaGreat.ArrH
open Go.RowKit Gab Wr Geom Ref Nand NandA NandB NandC NandD NandE NandH RemapA RemapB VolA VolD VolE VolF MemA MemB MemC ArrA ArrB ArrC ArrD ArrE ArrF ArrG
open Heap (cell_is heap_set fr_set1)
set_option linter.unusedVariables false
set_option linter.unusedSimpArgs false

def _root_.Go.Proofs.YteofgpaceeibpaaGreat.ArrA.Ar.look1 (τ : Ar) (m : Nat) : Ar × Int := match τ.vol (τ.chip m) with
  | none => τ.gone m
  | some _ => (τ, 0)
def _root_.Go.Proofs.YteofgpaceeibpaaGreat.ArrA.Ar.lookN (σ : Ar) : Nat → Ar × Int
  | 0 => (σ, 0)
  | i + 1 => if (σ.lookN i).2 = 0 then (σ.lookN i).1.look1 i else σ.lookN i
/-- The chip in reserve is dead. -/
def _root_.Go.Proofs.YteofgpaceeibpaaGreat.ArrA.Ar.lookS (τ : Ar) : Ar := if τ.set.spare ≠ 255 ∧ τ.s.dead τ.set.spare.toNat = true then { τ with set := { τ.set with spare := 255, done := 0 } } else τ
/-- It isn't there. -/
def _root_.Go.Proofs.YteofgpaceeibpaaGreat.ArrA.Ar.lookV (τ : Ar) : Ar := if 0 < τ.set.done ∧ τ.vol τ.set.spare.toNat = none then { τ with set := { τ.set with done := 0 } } else τ
/-- Which members are dead now. -/
def _root_.Go.Proofs.YteofgpaceeibpaaGreat.ArrA.Ar.look (σ : Ar) : Ar × Int := if (σ.lookN σ.s.g.c.toNat).2 = 0 then ((σ.lookN σ.s.g.c.toNat).1.lookS.lookV, 0) else σ.lookN σ.s.g.c.toNat
theorem spare_ok {m : MS} {g : Geo} (h : m.Ok g) : { m with spare := 255, done := 0 : MS }.Ok g := by
  have hinr : ∀ x ∈ ({ m with spare := 255, done := 0 } : MS).all, x ∈ m.all := fun x hx => by
    unfold MS.all at hx ⊢
    rw [if_pos rfl, List.append_nil] at hx
    exact List.mem_append_left _ hx
  have hnd : ({ m with spare := 255, done := 0 } : MS).all.Nodup := by
    have := h.nd
    unfold MS.all at this ⊢
    rw [if_pos rfl, List.append_nil]
    exact (List.nodup_append.1 this).1
  have := h.done
  exact ⟨h.len, h.seq, fun x hx => h.inr x (hinr x hx), hnd, h.dead, ⟨Int.le_refl 0, by show (0 : Int) ≤ g.b - 5; omega⟩, fun h => absurd h (Int.lt_irrefl 0)⟩
def LookPost (σ : Ar) (K : ALay) (w : World) (e : Ending) (w' : World) : Prop := e = .returned (.int .i64 σ.look.2) ∧ ArAt w' σ.look.1 K ∧ Fr (fun b => b = K.x) w w'

end Go.Proofs.YteofgpaceeibpaaGreat.ArrH

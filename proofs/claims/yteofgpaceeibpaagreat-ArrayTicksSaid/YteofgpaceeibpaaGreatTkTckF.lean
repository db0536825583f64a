/- array.step, the first: the chip in reserve is made ready. | array.step, behind the first: a block is made anew; behind the last one the chip is the member. -/
import Derived.Test.YteofgpaceeibpaaGreatTkTckD
import Derived.Test.YteofgpaceeibpaaGreatTkArrI
namespace Go.Proofs.YteofgpaceeibpaaGreat.TckE
open Go.RowKit Gab Wr Geom Ref Nand NandA NandC NandD NandH RemapA VolA VolD VolE VolF MemA MemC ArrA ArrC ArrD ArrG ArrI TckD
open Heap (cell_is heap_set fr_set1)
set_option linter.unusedVariables false
set_option linter.unusedSimpArgs false

/-- How much is made anew. -/
def _root_.Go.Proofs.YteofgpaceeibpaaGreat.ArrA.Ar.upto (σ : Ar) (d : Int) : Ar := { σ with set := { σ.set with done := d } }
theorem done_is {m : MS} {g : Geo} (h : m.Ok g) (d : Int) (h0 : 0 ≤ d ∧ d ≤ g.b - 5) (hd : m.dead ≠ 255) (hs : m.spare ≠ 255) : ({ m with done := d } : MS).Ok g :=
  ⟨h.len, h.seq, h.inr, h.nd, h.dead, h0, fun _ => ⟨hd, hs⟩⟩
theorem uptoV {w : World} {σ : Ar} {K : ALay} (h : ArAt w σ K) (d : Int) (h0 : 0 ≤ d ∧ d ≤ σ.s.g.b - 5) (hd : σ.set.dead ≠ 255) (hs : σ.set.spare ≠ 255) : ArAt (w.setCell ⟨K.x, 10, none⟩ (.int .i64 d)) (σ.upto d) K :=
  h.put (σ.upto d) rfl rfl rfl ⟨done_is h.ok.set d h0 hd hs, h.ok.more⟩ (fr_set1 (.int .i64 d)) (by rw [heap_set h.main 10 (.int .i64 d)]; rfl)
/-- The array when the chip in reserve is ready. -/
def _root_.Go.Proofs.YteofgpaceeibpaaGreat.ArrA.Ar.ready (σ : Ar) (c : Nat) : Ar := (({ σ with s := (σ.s.fmt c).1 } : Ar).vput c (tabOf σ.s.g).up).upto 2
def StepA (σ : Ar) (K : ALay) (c : Nat) (w : World) (e : Ending) (w' : World) : Prop :=
  e = .returned (.int .i64 0) ∧ ∃ v, ArAt w' (σ.ready c) (K.vput c v) ∧ Fr (AF K σ) w w'

set_option maxHeartbeats 8000000 in
set_option maxRecDepth 100000 in
theorem stepA_calls (σ : Ar) (K : ALay) (c : Nat) (w : World) (hR : ArAt w σ K) (hd0 : σ.set.done = 0) (hsp : σ.set.spare = (c : Int)) (hs255 : (c : Int) ≠ 255) (hdd : σ.set.dead ≠ 255) (hc : c < σ.s.n) (n : Nat) (hs : σ.s.Safe (n + 66)) (hk : (σ.s.fmt c).2 = 0) :
    Calls Tryz.prog 53 #[.pointer (some ⟨K.x, 0, none⟩)] w (StepA σ K c w) := by
  have hok := hR.nand.ok
  have hgb := hok.b
  have HR := As.mk hR
  have hfg := (fmt_g σ.s c).1
  have HFM := As.mk (fun (w' : World) (hf : Fr None_ w w') => (VolF.Format_calls K.p c σ.s K.L w' (hR.nand.none_ hf) hc n hs).mono (R' := fun e w'' => ∃ v : VLay, e = .returned (.tuple #[.pointer (some ⟨v.vb, 0, none⟩), .int .i64 0]) ∧ ArAt w'' { σ with s := (σ.s.fmt c).1 } K ∧ VolAt w'' K.p c σ.s.g (tabOf σ.s.g).up v ∧ VNew w.heap.size v ∧ Fr (AF K σ) w w'') (fun e w'' h => by
    obtain ⟨h1, h2, h3 | h3⟩ := h
    · obtain ⟨_, v, h4, h5, h6, h7⟩ := h3
      refine ⟨v, h4, (hR.none_ hf).turn h1 hfg h2, h5, ⟨Nat.le_trans hf.size h6, fun ad e => Nat.le_trans hf.size (h7.1 ad e), fun ad e => Nat.le_trans hf.size (h7.2 ad e)⟩, hf.trans h2 (fun _ _ h => h.elim) (fun _ _ h => .inl h)⟩
    · exact absurd hk h3.1))
  have hlx : K.x < w.heap.size := (Array.getElem?_eq_some_iff.1 hR.main).1
  have hlcb : K.cb < w.heap.size := by
    obtain ⟨cs, e, _⟩ := hR.chips
    exact (Array.getElem?_eq_some_iff.1 e).1
  obtain ⟨c0, c1, c2, c3, c4, c5, c6, c7, c8, c9, c10, c11⟩ := hR.cs
  rw [hsp] at c8
  rw [hd0] at c10
  have HSET := As.mk (And.intro hsp (And.intro hs255 (And.intro hdd (And.intro hc hk))))
  have HGE := As.mk (And.intro hok (And.intro hlcb (fmt_g σ.s c).1))
  clear hR hd0 hsp hs255 hdd hs hk hok
  go_enter Tryz.func53, Tryz.ntmps53
  go_upto_region 2 with fail
  go_cut [3, 4] (fun v3 v4 wx => ∃ v : VLay, v3 = .pointer (some ⟨v.vb, 0, none⟩) ∧ v4 = .int .i64 0 ∧ As (ArAt wx { σ with s := (σ.s.fmt c).1 } K ∧ VolAt wx K.p c σ.s.g (tabOf σ.s.g).up v ∧ VNew w.heap.size v ∧ Fr (AF K σ) w wx))
  case first =>
    go_region_held3 (fun w' => w'.cell? ⟨K.x, 0, none⟩ = some (.pointer (some ⟨K.p, 0, none⟩)) ∧ w'.cell? ⟨K.x, 8, none⟩ = some (.int .i64 (c : Int))) (first | go_keep | exact ⟨y0, y8⟩) (first | ((with_reducible refine (HFM.out _ ?_).mono ?_); (focus repeat (first | exact Fr.refl _ _ | apply Fr.drew | apply Fr.drewN | apply Fr.alloc)); rintro e w2 ⟨v, rfl, ha2, hv2, hn2, hf2⟩; have y0 := ha2.cs.1; have y8 := ha2.cs.2.2.2.2.2.2.2.2.1; have hX := (show ArAt w2 { σ with s := (σ.s.fmt c).1 } K ∧ VolAt w2 K.p c σ.s.g (tabOf σ.s.g).up v ∧ VNew w.heap.size v ∧ Fr (AF K σ) w w2 from ⟨ha2, hv2, hn2, hf2⟩); have HX := As.mk hX; clear ha2 hv2 hn2 hf2 hX; (rw [show (({ σ with s := (σ.s.fmt c).1 } : Ar).set.spare) = (c : Int) from HSET.out.1] at y8)))
    all_goals
      go_wp2_with fail
      go_meet
      case rel => exact ⟨v, rfl, rfl, HX⟩
  case rest =>
    obtain ⟨v, rfl, rfl, HX⟩ := hcut
    rename World => w2
    obtain ⟨hA2, hv2, hn2, hf2⟩ := HX.out
    obtain ⟨hsp, hs255, hdd, hc, hk⟩ := HSET.out
    have hn : ({ σ with s := (σ.s.fmt c).1 } : Ar).s.n = σ.s.n := by show St.n (σ.s.fmt c).1 = _; unfold St.n; rw [HGE.out.2.2]
    have hcI : (c : Int) < (σ.s.n : Int) := by omega
    have hct : Int.toNat (c : Int) = c := by omega
    have hvp := vputV hA2 (c := c) (t := (tabOf σ.s.g).up) (v := v) (by rw [hn]; exact hc) (by rw [show ({ σ with s := (σ.s.fmt c).1 } : Ar).s.g = σ.s.g from HGE.out.2.2]; exact hv2) (by rw [show ({ σ with s := (σ.s.fmt c).1 } : Ar).s.g = σ.s.g from HGE.out.2.2]; exact up_ok (tabOf_ok HGE.out.1) (show (0 : Int) < 4294967295 by decide)) ⟨fun ad e => by have := hn2.2.1 ad e; have := HGE.out.2.1; omega, fun ad e => by have := hn2.2.2 ad e; have := HGE.out.2.1; omega⟩
    have hvd := hvp.none_ ((Fr.refl None_ (w2.setCell ⟨K.V, c, none⟩ (.pointer (some ⟨v.vb, 0, none⟩)))).drew)
    have hup := uptoV hvd 2 (by rw [show (({ σ with s := (σ.s.fmt c).1 } : Ar).vput c (tabOf σ.s.g).up).s.g = σ.s.g from HGE.out.2.2]; omega) hdd (by show σ.set.spare ≠ 255; omega)
    have HUP := As.mk hup
    have hvc := hA2.volc (c := c) (by rw [hn]; exact hc)
    obtain ⟨g0, g1⟩ := hvc
    have y0 := hA2.cs.2.2.2.2.2.1
    have y8 := hA2.cs.2.2.2.2.2.2.2.2.1
    have m1 := hvd.main
    have f10 := free_of (i := 10) m1
    change World.frozen? _ ⟨K.x, 10, none⟩ = false at f10
    have y10 := hvd.cs.2.2.2.2.2.2.2.2.2.2.1
    change World.cell? _ ⟨K.x, 10, none⟩ = _ at y10
    rw [hn] at y0
    rw [show (({ σ with s := (σ.s.fmt c).1 } : Ar).set.spare) = (c : Int) from hsp] at y8
    have HF4 := As.mk ((hf2.setCell (p := ⟨K.V, c, none⟩) (fun _ => .inr (.inr rfl)) (.pointer (some ⟨v.vb, 0, none⟩))).drew.setCell (p := ⟨K.x, 10, none⟩) (fun _ => .inr (.inl rfl)) (.int .i64 2))
    clear hA2 hv2 hn2 hf2 hsp hs255 hdd hk hvp hvd hup m1 hn HFM c0 c1 c2 c3 c4 c5 c6 c7 c8 c9 c10 c11 hc
    go_upto_region 5 with fail
    go_region
    all_goals
      generalize (w2.setCell ⟨K.V, c, none⟩ (.pointer (some ⟨v.vb, 0, none⟩))).drew = w3 at *
      go_wp2_with fail
      go_ret
      unfold StepA
      exact ⟨rfl, v, HUP.out, HF4.out⟩
end Go.Proofs.YteofgpaceeibpaaGreat.TckE
namespace Go.Proofs.YteofgpaceeibpaaGreat.TckF
open Go.RowKit Gab Wr Geom Ref Nand NandA NandC NandD NandH RemapA VolA VolD VolE VolF MemA MemC ArrA ArrC ArrD ArrG ArrI TckD TckE
open Heap (cell_is heap_set fr_set1)
set_option linter.unusedVariables false
set_option linter.unusedSimpArgs false

/-- The chip in reserve is the member. -/
def _root_.Go.Proofs.YteofgpaceeibpaaGreat.ArrA.Ar.whole (σ : Ar) : Ar := { σ with set := { σ.set with chips := σ.set.chips.set σ.set.dead.toNat σ.set.spare, spare := 255, dead := 255, done := 0 } }
/-- A block more is made anew. -/
def _root_.Go.Proofs.YteofgpaceeibpaaGreat.ArrA.Ar.more (σ : Ar) (b : Nat) : Ar := if (b : Int) + 1 = σ.s.g.b - 5 then σ.whole else σ.upto ((b : Int) + 1)
theorem nodup_set {a : Int} : ∀ (l : List Int) (i : Nat), l.Nodup → a ∉ l → (l.set i a).Nodup
  | [], _, h, _ => h
  | x :: l, 0, h, ha => List.nodup_cons.2 ⟨fun hx => ha (List.mem_cons_of_mem _ hx), (List.nodup_cons.1 h).2⟩
  | x :: l, i + 1, h, ha => List.nodup_cons.2 ⟨fun hx => by
      rcases List.mem_or_eq_of_mem_set hx with h1 | h1
      · exact (List.nodup_cons.1 h).1 h1
      · exact ha (by rw [h1]; exact List.mem_cons_self), nodup_set l i (List.nodup_cons.1 h).2 (fun hx => ha (List.mem_cons_of_mem _ hx))⟩
theorem whole_set {m : MS} {g : Geo} (h : m.Ok g) (hc : g.c < 255) (hd : 0 ≤ m.dead ∧ m.dead < g.c) (hs : m.spare ≠ 255) (hb : 5 ≤ g.b) : ({ m with chips := m.chips.set m.dead.toNat m.spare, spare := 255, dead := 255, done := 0 } : MS).Ok g := by
  have hl := h.len
  have hall : ∀ x ∈ ({ m with chips := m.chips.set m.dead.toNat m.spare, spare := 255, dead := 255, done := 0 } : MS).all, x ∈ m.all := fun x hx => by
    unfold MS.all at hx ⊢
    rw [if_neg hs]
    rw [if_pos rfl, List.append_nil] at hx
    rcases List.mem_or_eq_of_mem_set hx with h1 | h1
    · exact List.mem_append_left _ h1
    · rw [h1]; simp
  refine ⟨by show ((m.chips.set m.dead.toNat m.spare).length : Int) = g.c; rw [List.length_set]; exact hl, h.seq, fun x hx => h.inr x (hall x hx), ?_, .inl rfl, ⟨Int.le_refl 0, by show (0 : Int) ≤ g.b - 5; omega⟩, fun h => absurd h (Int.lt_irrefl 0)⟩
  have hnd := h.nd
  unfold MS.all at hnd ⊢
  rw [if_neg hs] at hnd
  rw [if_pos rfl, List.append_nil]
  show (m.chips.set m.dead.toNat m.spare).Nodup
  have h1 := (List.nodup_append.1 hnd)
  have h2 : m.spare ∉ m.chips := fun hx => h1.2.2 _ hx _ (by simp) rfl
  exact nodup_set _ _ h1.1 h2
/-- A chip is put in its place. -/
theorem wholeV {w w' : World} {σ : Ar} {K : ALay} (h : ArAt w σ K) (hd : 0 ≤ σ.set.dead ∧ σ.set.dead < σ.s.g.c) (hs : σ.set.spare ≠ 255)
    (hf : Fr (fun b => b = K.cb ∨ b = K.x) w w') (hm : w'.heap[K.x]? = some (.cells (acells σ.whole K) AT (0, 0))) (hcb : ∀ cs, w.heap[K.cb]? = some (.cells cs 3 (0, 0)) → w'.heap[K.cb]? = some (.cells (cs.setIfInBounds σ.set.dead.toNat (.int .i64 σ.set.spare)) 3 (0, 0))) : ArAt w' σ.whole K := by
  have hgc := h.nand.ok.c
  have hgb := h.nand.ok.b
  obtain ⟨cs, e, hc⟩ := h.chips
  have hne : ∀ {b : Nat} {cs : Array Value} {T : TypeId} {f : Nat × Nat}, w.heap[b]? = some (.cells cs T f) → T ≠ 3 → T ≠ AT → ¬ (b = K.cb ∨ b = K.x) := fun hb h1 h2 h3 => by
    rcases h3 with h3 | h3
    · exact blk_ne hb e h1 h3
    · exact blk_ne hb h.main h2 h3
  refine ⟨h.nand.typed hf (fun b cs' T f hs' hb => ?_), hm, h.ccn, ?_, fun c t hcn e2 => ⟨?_, (h.vol c t hcn e2).2⟩, ⟨_, hcb cs e, fun j hj => ?_⟩, ⟨whole_set (g := σ.s.g) h.ok.set (by omega) hd hs (by omega), h.ok.more⟩⟩
  · rcases hs' with rfl | rfl
    · rw [e] at hb
      injection hb with hb
      injection hb with _ hb
      subst hb
      exact ⟨⟨by decide, by decide, by decide, by decide, by decide⟩, by decide, by decide⟩
    · rw [h.main] at hb
      injection hb with hb
      injection hb with _ hb
      subst hb
      exact ⟨⟨by decide, by decide, by decide, by decide, by decide⟩, by decide, by decide⟩
  · obtain ⟨ds, e2, hds⟩ := h.vols
    exact ⟨ds, hf.heap e2 (hne e2 (by decide) (by decide)), hds⟩
  · have hv := h.vol c t hcn e2
    refine hv.1.fr hf (hne hv.1.main (by decide) (by decide)) (fun ad ea hn hb => ?_) (fun ad ea hn hb => ?_)
    · rcases hb with hb | hb
      · exact hv.2.1 ad ea hb
      · obtain ⟨cs2, h2⟩ := hv.1.i1 ad ea hn
        exact blk_ne h2 h.main (by decide) hb
    · rcases hb with hb | hb
      · exact hv.2.2 ad ea hb
      · obtain ⟨cs2, h2⟩ := hv.1.i2 ad ea hn
        exact blk_ne h2 h.main (by decide) hb
  · show (cs.setIfInBounds σ.set.dead.toNat (.int .i64 σ.set.spare))[j]? = some (.int .i64 ((σ.set.chips.set σ.set.dead.toNat σ.set.spare).getD j 0))
    have h1 := hc j hj
    have h2 := (Array.getElem?_eq_some_iff.1 h1).1
    by_cases ej : σ.set.dead.toNat = j
    · subst ej
      rw [Array.getElem?_setIfInBounds_self_of_lt h2, List.getD_eq_getElem?_getD, List.getElem?_set_self (by have := h.ok.set.len; omega)]
      rfl
    · rw [Array.getElem?_setIfInBounds_ne ej, h1, List.getD_eq_getElem?_getD, List.getD_eq_getElem?_getD, List.getElem?_set_ne ej]

def StepB (σ : Ar) (K : ALay) (b N : Nat) (Like Mid : Nat → Ar → Prop) (w : World) (e : Ending) (w' : World) : Prop :=
  e = .returned (.int .i64 0) ∧ ∃ τ, ((N < σ.s.g.p.toNat ∧ Mid N τ) ∨ (N = σ.s.g.p.toNat ∧ Like N τ)) ∧ ArAt w' (τ.more b) K ∧ Fr (fun i => AF K σ i ∨ i = K.cb) w w'

set_option maxHeartbeats 8000000 in
set_option maxRecDepth 100000 in
theorem stepB_calls (σ : Ar) (K : ALay) (b c : Nat) (t : Tab) (N : Nat) (Like Mid : Nat → Ar → Prop) (pgd : Nat → List Int × List Int) (w : World) (hR : ArAt w σ K) (hb2 : 1 ≤ b) (hb : (b : Int) < σ.s.g.b - 5) (hc : c < σ.s.n) (hdn : σ.set.done = (b : Int)) (hsp : σ.set.spare = (c : Int)) (hs255 : (c : Int) ≠ 255) (hdd : 0 ≤ σ.set.dead ∧ σ.set.dead < σ.s.g.c) (hv : σ.vol c = some t)
    (n : Nat) (hs : σ.s.Safe (n + 1)) (he : (σ.s.erase c (t.at b)).2 = 0) (hS : TckD.Steps { σ with s := (σ.s.erase c (t.at b)).1 } K b c t N Like Mid pgd) (hset : ∀ τ, Mid N τ ∨ Like N τ → τ.set = σ.set) :
    Calls Tryz.prog 53 #[.pointer (some ⟨K.x, 0, none⟩)] w (StepB σ K b N Like Mid w) := by
  have hok := hR.nand.ok
  have hgb := hok.b
  have hgc := hok.c
  have hvv := hR.vol c t hc hv
  have htok := hR.ok.more c t hc hv
  have hlt : b < t.place.length := by rw [htok.len]; omega
  have heg := (erase_g σ.s c (t.at b)).1
  have HER := As.mk (fun (w' : World) (hf : Fr None_ w w') => (VolA.Erase_calls K.p c σ.s K.L t (K.v c) b w' (hR.nand.none_ hf) (hvv.1.none_ hf) htok hc hlt n hs).mono (R' := fun e w'' => e = .returned (.int .i64 0) ∧ ArAt w'' { σ with s := (σ.s.erase c (t.at b)).1 } K ∧ Fr (AF K σ) w w'') (fun e w'' h => ⟨by rw [← he]; exact h.1, (hR.none_ hf).turn h.2.1 heg h.2.2, hf.trans h.2.2 (fun _ _ h => h.elim) (fun _ _ h => .inl h)⟩))
  have HBL := As.mk (fun (w' : World) (hA : ArAt w' { σ with s := (σ.s.erase c (t.at b)).1 } K) => block_calls { σ with s := (σ.s.erase c (t.at b)).1 } K b c t N Like Mid pgd w' hA (by rw [show ({ σ with s := (σ.s.erase c (t.at b)).1 } : Ar).s.g = σ.s.g from heg]; exact hb) (by rw [show ({ σ with s := (σ.s.erase c (t.at b)).1 } : Ar).s.n = σ.s.n from (n_same heg).1]; exact hc) hS)
  have HVI := As.mk (fun w => Virtual_calls σ.s.g w hok)
  unfold Geo.val at HVI
  unfold BlkPost at HBL
  have HSET := As.mk (And.intro hset (And.intro hS.likeg (And.intro hS.midg (And.intro heg (And.intro hdn (And.intro hsp (And.intro hs255 hdd)))))))
  have HAFE := As.mk (fun i => AF.eq (K := K) (σ := σ) (σ' := ({ σ with s := (σ.s.erase c (t.at b)).1 } : Ar)) heg i)
  obtain ⟨c0, c1, c2, c3, c4, c5, c6, c7, c8, c9, c10, c11⟩ := hR.cs
  rw [hsp] at c8
  rw [hdn] at c10
  obtain ⟨g0, g1⟩ := hR.volc hc
  have hvp : vptr σ K c = .pointer (some ⟨(K.v c).vb, 0, none⟩) := by unfold vptr; rw [hv]
  rw [hvp] at g0
  have hb0 : ((b : Int) == 0) = false := beq_eq_false_iff_ne.2 (by omega)
  have hcI : (c : Int) < (σ.s.n : Int) := by omega
  have hct : Int.toNat (c : Int) = c := by omega
  clear hR hset hS hsp hdn hs255 hdd he hs hvv htok hlt hv hvp heg hok
  go_enter Tryz.func53, Tryz.ntmps53
  go_upto_region 9 with fail
  go_cut [6] (fun v6 wx => v6 = .pointer (some ⟨(K.v c).vb, 0, none⟩) ∧ As (Fr None_ w wx))
  case first =>
    go_region
    all_goals
      go_wp2_with fail
      go_meet
      case rel => exact ⟨rfl, ⟨(Fr.refl None_ w).drew⟩⟩
  case rest =>
    obtain ⟨rfl, HF⟩ := hcut
    rename World => w1
    have HER1 := As.mk (HER.out w1 HF.out)
    clear c0 c1 c2 c3 c4 c5 c6 c7 c8 c9 c10 c11 g0 g1 HER
    go_wp2_with fail
    ((with_reducible refine (HER1.out).mono ?_); rintro e w2 ⟨rfl, hA2, hf2⟩)
    have HBL2 := As.mk (HBL.out w2 hA2)
    have HF2 := As.mk hf2
    clear hA2 hf2 HER1 HBL
    go_wp2_with fail
    ((with_reducible refine (HBL2.out).mono ?_); rintro e w3 ⟨rfl, τ, hor, hA3, hf3⟩)
    obtain ⟨hset, hlg, hmg, heg, hdn, hsp, hs255, hdd⟩ := HSET.out
    have hτg : τ.s.g = σ.s.g := by
      rcases hor with h | h
      · exact (hmg _ _ h.2).trans heg
      · exact (hlg _ _ h.2).trans heg
    have hτs : τ.set = σ.set := by
      rcases hor with h | h
      · exact hset _ (.inl h.2)
      · exact hset _ (.inr h.2)
    rw [show ({ σ with s := (σ.s.erase c (t.at b)).1 } : Ar).s.g = σ.s.g from heg] at hor
    have HOR := As.mk hor
    have HF3 := As.mk ((HF2.out.after hf3 (fun i _ h => (HAFE.out i).1 h)).mono (T := fun i => AF K σ i ∨ i = K.cb) (fun _ _ h => .inl h))
    obtain ⟨c0, c1, c2, c3, c4, c5, c6, c7, c8, c9, c10, c11⟩ := hA3.cs
    rw [hτs, hdn] at c10
    have hup := uptoV hA3 ((b : Int) + 1) (by rw [hτg]; omega) (by rw [hτs]; omega) (by rw [hτs, hsp]; exact hs255)
    have f10 := free_of (i := 10) hA3.main
    have hwr : IntKind.i64.wrap ((b : Int) + 1) = (b : Int) + 1 := i64_in _ (by omega) (by omega)
    have HUP := As.mk hup
    have HF4 := As.mk (HF3.out.after (fr_set1 (w' := w3) (b := K.x) (i := 10) (.int .i64 ((b : Int) + 1))) (fun _ _ h => .inl (.inr (.inl h))))
    have HTG := As.mk (And.intro hτg hτs)
    have HSE2 := HSET
    clear hset hlg hmg heg hdn hsp hs255 hor hup hA3 hf3 HBL2 c0 c1 c2 c3 c4 c5 c6 c7 c8 c9 c11
    go_upto_region 17 with fail
    generalize w3.setCell ⟨K.x, 10, none⟩ (.int .i64 ((b : Int) + 1)) = w4 at *
    clear c10 f10 hwr
    obtain ⟨c0, c1, c2, c3, c4, c5, c6, c7, c8, c9, c10, c11⟩ := HUP.out.cs
    change w4.cell? ⟨K.x, 1, none⟩ = some (.int .i64 τ.s.g.c) at c1
    change w4.cell? ⟨K.x, 2, none⟩ = some (.int .i64 τ.s.g.b) at c2
    change w4.cell? ⟨K.x, 3, none⟩ = some (.int .i64 τ.s.g.p) at c3
    change w4.cell? ⟨K.x, 4, none⟩ = some (.int .i64 τ.s.g.s) at c4
    change w4.cell? ⟨K.x, 10, none⟩ = some (.int .i64 ((b : Int) + 1)) at c10
    rw [hτg] at c1 c2 c3 c4
    clear hτg hτs
    go_cut [94] (fun v94 wx => v94 = .bool (((b : Int) + 1) == σ.s.g.b - 5) ∧ As (Fr None_ w4 wx))
    case first =>
      clear c0 c5 c6 c7 c8 c9 c11
      go_region_held3 (fun w' => w'.cell? ⟨K.x, 1, none⟩ = some (.int .i64 σ.s.g.c) ∧ w'.cell? ⟨K.x, 2, none⟩ = some (.int .i64 σ.s.g.b) ∧ w'.cell? ⟨K.x, 3, none⟩ = some (.int .i64 σ.s.g.p) ∧ w'.cell? ⟨K.x, 4, none⟩ = some (.int .i64 σ.s.g.s) ∧ w'.cell? ⟨K.x, 10, none⟩ = some (.int .i64 ((b : Int) + 1))) (first | go_keep | exact ⟨hf5.cell c1 (fun h => h), hf5.cell c2 (fun h => h), hf5.cell c3 (fun h => h), hf5.cell c4 (fun h => h), hf5.cell c10 (fun h => h)⟩) (first | ((with_reducible refine (HVI.out _).mono ?_); rintro e w5 ⟨rfl, hf5'⟩; have hf5 : Fr None_ w4 w5 := ⟨hf5'.os, hf5'.tape, hf5'.output, hf5'.size, hf5'.block⟩; clear hf5'))
      all_goals
        go_wp2_with fail
        go_meet
        case rel => exact ⟨rfl, ⟨hf5⟩⟩
    case rest =>
      obtain ⟨rfl, HF5⟩ := hcut
      rename World => w5
      have HUP5 := As.mk (HUP.out.none_ HF5.out)
      have HF6 := As.mk (HF4.out.after HF5.out (fun _ _ h => h.elim))
      by_cases hlast : (b : Int) + 1 = σ.s.g.b - 5
      · have hbl : (((b : Int) + 1) == σ.s.g.b - 5) = true := beq_iff_eq.2 hlast
        have HMO := As.mk (show τ.more b = τ.whole from by unfold Ar.more; rw [HTG.out.1, if_pos hlast])
        clear hlast c0 c1 c2 c3 c4 c5 c6 c7 c8 c9 c10 c11 HVI
        obtain ⟨_, _, _, _, _, _, _, c7, c8, c9, _, _⟩ := HUP5.out.cs
        have hq7 := HTG.out.2
        obtain ⟨hset, hlg, hmg, heg, hdn, hsp, hs255, hdd⟩ := HSE2.out
        have hchc := HUP5.out.chipc (m := σ.set.dead.toNat) (by show ((σ.set.dead.toNat : Nat) : Int) < τ.s.g.c; rw [HTG.out.1]; omega)
        have hq8 := hchc.1
        change w5.cell? ⟨K.x, 7, none⟩ = some (.slice (some ⟨K.cb, 0, none⟩) τ.s.g.c.toNat K.cc) at c7
        change w5.cell? ⟨K.x, 8, none⟩ = some (.int .i64 τ.set.spare) at c8
        change w5.cell? ⟨K.x, 9, none⟩ = some (.int .i64 τ.set.dead) at c9
        rw [HTG.out.1] at c7
        rw [hq7, hsp] at c8
        rw [hq7] at c9
        obtain ⟨ccs, ecs, hcs⟩ := HUP5.out.chips
        have fcb := free_of (i := σ.set.dead.toNat) ecs
        have hxcb : K.x ≠ K.cb := blk_ne HUP5.out.main ecs (by decide)
        obtain ⟨w6, h6⟩ : ∃ w6, w6 = (w5.setCell ⟨K.cb, σ.set.dead.toNat, none⟩ (.int .i64 (c : Int))).drew := ⟨_, rfl⟩
        have hm6 : w6.heap[K.x]? = some (.cells (acells (τ.upto ((b : Int) + 1)) K) AT (0, 0)) := by rw [h6]; exact (fr_set1 (w' := w5) (b := K.cb) (i := σ.set.dead.toNat) (.int .i64 (c : Int))).heap HUP5.out.main hxcb
        have f8 := free_of (i := 8) hm6
        have f9 := free_of (i := 9) hm6
        have f10 := free_of (i := 10) hm6
        have y8 : w6.cell? ⟨K.x, 8, none⟩ = some (.int .i64 τ.set.spare) := cell_is hm6 rfl
        have y9 : w6.cell? ⟨K.x, 9, none⟩ = some (.int .i64 τ.set.dead) := cell_is hm6 rfl
        have y10 : w6.cell? ⟨K.x, 10, none⟩ = some (.int .i64 ((b : Int) + 1)) := cell_is hm6 rfl
        have p1 := heap_set hm6 8 (.int .i64 255)
        have p2 := heap_set p1 9 (.int .i64 255)
        have p3 := heap_set p2 10 (.int .i64 0)
        have hq1 : Fr (fun i => i = K.cb ∨ i = K.x) w5 (((w6.setCell ⟨K.x, 8, none⟩ (.int .i64 255)).setCell ⟨K.x, 9, none⟩ (.int .i64 255)).setCell ⟨K.x, 10, none⟩ (.int .i64 0)) := by
          rw [h6]
          exact (((((Fr.refl _ w5).setCell (p := ⟨K.cb, σ.set.dead.toNat, none⟩) (fun _ => .inl rfl) _).drew).setCell (p := ⟨K.x, 8, none⟩) (fun _ => .inr rfl) _).setCell (p := ⟨K.x, 9, none⟩) (fun _ => .inr rfl) _).setCell (p := ⟨K.x, 10, none⟩) (fun _ => .inr rfl) _
        have hq2 : ∀ cs, w5.heap[K.cb]? = some (.cells cs 3 (0, 0)) → (((w6.setCell ⟨K.x, 8, none⟩ (.int .i64 255)).setCell ⟨K.x, 9, none⟩ (.int .i64 255)).setCell ⟨K.x, 10, none⟩ (.int .i64 0)).heap[K.cb]? = some (.cells (cs.setIfInBounds σ.set.dead.toNat (.int .i64 (c : Int))) 3 (0, 0)) := fun cs hcs => by
          have h1 := heap_set hcs σ.set.dead.toNat (.int .i64 (c : Int))
          have h2 : w6.heap[K.cb]? = some (.cells (cs.setIfInBounds σ.set.dead.toNat (.int .i64 (c : Int))) 3 (0, 0)) := by rw [h6]; exact h1
          exact ((((Fr.refl (fun i => i = K.x) w6).setCell (p := ⟨K.x, 8, none⟩) (fun _ => rfl) _).setCell (p := ⟨K.x, 9, none⟩) (fun _ => rfl) _).setCell (p := ⟨K.x, 10, none⟩) (fun _ => rfl) _).heap h2 (fun e => hxcb e.symm)
        have hwh := wholeV (σ := τ.upto ((b : Int) + 1)) HUP5.out (w' := ((w6.setCell ⟨K.x, 8, none⟩ (.int .i64 255)).setCell ⟨K.x, 9, none⟩ (.int .i64 255)).setCell ⟨K.x, 10, none⟩ (.int .i64 0)) (by show 0 ≤ τ.set.dead ∧ τ.set.dead < τ.s.g.c; rw [hq7, HTG.out.1]; exact hdd) (by show τ.set.spare ≠ 255; rw [hq7, hsp]; exact hs255) hq1 (by rw [p3]; rfl) (fun cs hcs => by have h1 := hq2 cs hcs; rw [← hsp, ← hq7] at h1; exact h1)
        have HWH := As.mk hwh
        have HF7 := As.mk (HF6.out.after hq1 (fun i _ h => by rcases h with h | h; exact .inr h; exact .inl (.inr (.inl h))))
        have hdI : σ.set.dead < (σ.s.g.c.toNat : Int) := by omega
        have hd0 : 0 ≤ σ.set.dead := hdd.1
        clear hset hlg hmg heg hdn hsp hs255 hdd hchc hcs ecs hm6 p1 p2 p3 hq1 hq2 hwh hq7
        go_upto_region 18 with fail
        go_region
        all_goals
          rw [← h6]
          clear h6
          go_wp2_with fail
          go_ret
          unfold StepB
          exact ⟨rfl, τ, HOR.out, by rw [HMO.out]; exact HWH.out, HF7.out⟩
      · have hbl : (((b : Int) + 1) == σ.s.g.b - 5) = false := beq_eq_false_iff_ne.2 hlast
        have HMO := As.mk (show τ.more b = τ.upto ((b : Int) + 1) from by unfold Ar.more; rw [HTG.out.1, if_neg hlast])
        clear hlast c0 c1 c2 c3 c4 c5 c6 c7 c8 c9 c10 c11 HVI
        go_wp2_with fail
        go_ret
        unfold StepB
        exact ⟨rfl, τ, HOR.out, by rw [HMO.out]; exact HUP5.out, HF6.out⟩
end Go.Proofs.YteofgpaceeibpaaGreat.TckF

/- Plain facts of stripes: what is written is read, whichever one member is bad. -/
import Derived.Test.YtlhgbamajabnfaaSRead
import Derived.Test.YtlhgbamajabnfaaXor
import Derived.Test.YtlhgbamajabnfaaOS
namespace Go.Proofs.Ytlhgbamajabnfaa.Stripe
open Go.RowKit Go.Proofs.Ytlhgbamajabnfaa.Gab Go.Proofs.Ytlhgbamajabnfaa.Geom Go.Proofs.Ytlhgbamajabnfaa.Ram Go.Proofs.Ytlhgbamajabnfaa.Par Go.Proofs.Ytlhgbamajabnfaa.Fields Go.Proofs.Ytlhgbamajabnfaa.Seal Go.Proofs.Ytlhgbamajabnfaa.Ord Go.Proofs.Ytlhgbamajabnfaa.Write Go.Proofs.Ytlhgbamajabnfaa.Miss Go.Proofs.Ytlhgbamajabnfaa.Again Go.Proofs.Ytlhgbamajabnfaa.SRead Go.Proofs.Ytlhgbamajabnfaa.Xor
open Go.Proofs.Ytlhgbamajabnfaa.Wr (InR)
open Go.Proofs.Ytlhgbamajabnfaa.Str (parOf take_snoc)
open Go.Proofs.Ytlhgbamajabnfaa.Open (openOf)
set_option linter.unusedVariables false
set_option linter.unusedSimpArgs false

theorem mem_order {first c m : Int} (h0 : 0 ≤ m) (h1 : m < c) : m ∈ orderOf first c := by
  unfold orderOf
  by_cases e : m = first
  · refine List.mem_append_left _ ?_
    unfold pre
    rw [if_pos (by omega), e]
    exact List.mem_singleton.2 rfl
  · refine List.mem_append_right _ (List.mem_filter.2 ⟨?_, by simpa using e⟩)
    unfold upTo
    exact List.mem_map.2 ⟨m.toNat, List.mem_range.2 (by omega), by simp only [Int.ofNat_eq_natCast]; omega⟩
theorem progs_pages (seg row : Int) (pg : Int → List Int) (m' b' q' : Int) : ∀ (ms : List Int) (s : Ram.St), (s.progs seg row pg ms).pages m' b' q' = if m' ∈ ms ∧ b' = seg ∧ q' = row ∧ ¬ 0 < s.gone m' then pg m' else s.pages m' b' q'
  | [], s => by simp [Ram.St.progs]
  | m :: ms, s => by
    have hg := (prog_gone s m seg row (pg m)).1
    have ih := progs_pages seg row pg m' b' q' ms (s.prog m seg row (pg m))
    rw [hg] at ih
    unfold Ram.St.progs at *
    rw [List.foldl_cons, ih]
    have hp : (s.prog m seg row (pg m)).pages m' b' q' = if m' = m ∧ b' = seg ∧ q' = row ∧ ¬ 0 < s.gone m then pg m else s.pages m' b' q' := by
      unfold Ram.St.prog
      by_cases h : 0 < s.gone m
      · rw [if_pos h, if_neg (fun x => x.2.2.2 h)]
        rfl
      · rw [if_neg h]
        show (if m' = m ∧ b' = seg ∧ q' = row then pg m else s.pages m' b' q') = _
        exact if_iff ⟨fun x => ⟨x.1, x.2.1, x.2.2, h⟩, fun x => ⟨x.1, x.2.1, x.2.2.1⟩⟩
    rw [hp]
    by_cases h1 : m' ∈ ms ∧ b' = seg ∧ q' = row ∧ ¬ 0 < s.gone m'
    · rw [if_pos h1, if_pos ⟨List.mem_cons_of_mem _ h1.1, h1.2⟩]
    · rw [if_neg h1]
      by_cases h2 : m' = m ∧ b' = seg ∧ q' = row ∧ ¬ 0 < s.gone m
      · obtain ⟨rfl, h3⟩ := h2
        rw [if_pos ⟨rfl, h3⟩, if_pos ⟨List.mem_cons_self, h3⟩]
      · rw [if_neg h2, if_neg]
        rintro ⟨h3, h4⟩
        rcases List.mem_cons.1 h3 with rfl | h3
        · exact h2 ⟨rfl, h4⟩
        · exact h1 ⟨h3, h4⟩
/-- Pages that may be written. -/
structure LOk (g : Geo) (l : List (Head × List Int)) : Prop where
  len : (l.length : Int) = g.c - 1
  head : ∀ q ∈ l, q.1.Ok ∧ 1 ≤ q.1.kind ∧ q.1.kind ≤ 6
  data : ∀ q ∈ l, (q.2.length : Int) = g.s ∧ InR 256 q.2
theorem getD_mem {α : Type} {l : List α} {i : Nat} (h : i < l.length) (d : α) : l.getD i d ∈ l := by rw [List.getD_eq_getElem?_getD, List.getElem?_eq_getElem h]; exact List.getElem_mem h
theorem nil_range : InR 256 [] := fun x hx => by cases hx
/-- A member's page. -/
theorem data_page {g : Geo} {l : List (Head × List Int)} (hg : g.Ok) (hl : LOk g l) {seg row m : Int} (hm0 : 0 ≤ m) (hm1 : m < g.c) (hd : m ≠ g.par seg row) :
    ∃ sl : Nat, sl < l.length ∧ (sl : Int) = g.slot seg row m ∧ pageOf g l seg row m = ((l.getD sl noPage).2, sealOf (l.getD sl noPage).1 (l.getD sl noPage).2 []) := by
  have hdt : g.isData seg row m = true := by unfold Geo.isData; simpa using hd
  obtain ⟨h0, h1⟩ := slot_range hg hm0 hm1 hdt
  have hlen := hl.len
  refine ⟨(g.slot seg row m).toNat, by omega, by omega, ?_⟩
  unfold pageOf
  rw [if_pos hdt]
  exact sealed_get (by omega)
theorem par_page {g : Geo} {l : List (Head × List Int)} (seg row : Int) : pageOf g l seg row (g.par seg row) = parPage g l seg row := by
  unfold pageOf
  rw [if_neg (by unfold Geo.isData; simp)]
theorem good_data {g : Geo} {l : List (Head × List Int)} (hl : LOk g l) (hg : g.Ok) : Xor.Good g.s.toNat ((sealedOf l).map (·.1)) := by
  intro x hx
  obtain ⟨q, hq, rfl⟩ := List.mem_map.1 hx
  obtain ⟨q', hq', rfl⟩ := List.mem_map.1 hq
  have h1 := hl.data q' hq'
  have h2 := hg.s
  exact ⟨by show q'.2.length = _; omega, h1.2⟩
theorem good_heads {g : Geo} {l : List (Head × List Int)} (hl : LOk g l) : Xor.Good 32 ((sealedOf l).map fun p => p.2.take 32) := by
  intro x hx
  obtain ⟨q, hq, rfl⟩ := List.mem_map.1 hx
  obtain ⟨q', hq', rfl⟩ := List.mem_map.1 hq
  refine ⟨?_, fun y hy => seal_range (h := q'.1) (data := q'.2) nil_range y (List.mem_of_mem_take hy)⟩
  show ((sealOf q'.1 q'.2 []).take 32).length = 32
  rw [List.length_take, sealOf_len]
  rfl
theorem par_open {g : Geo} {l : List (Head × List Int)} (hg : g.Ok) (hl : LOk g l) {seg row : Int} (ha : g.At seg row) : openOf (parPage g l seg row).1 (parPage g l seg row).2 = (parHead l seg row, true) := by
  have h0 : 0 < l.length := by have := hl.len; have := hg.c; omega
  have hh := (hl.head _ (getD_mem h0 noPage)).1
  have ha1 := ha.seg
  have ha2 := ha.row
  have hb := hg.b
  have hp := hg.p
  have hpo : (parHead l seg row).Ok := ⟨by show (0 : Int) ≤ 5 ∧ (5 : Int) < 256; decide, hh.epoch, hh.batch, by show 0 ≤ row ∧ row < 65536; omega, by show 0 ≤ seg ∧ seg < 65536; omega, by show (0 : Int) ≤ 0 ∧ (0 : Int) < 4294967296; decide, by show (0 : Int) ≤ 0 ∧ (0 : Int) < 4294967296; decide⟩
  exact OS.open_seal hpo (by show (1 : Int) ≤ 5; decide) (by show (5 : Int) ≤ 6; decide) (Str.xor_range _ _)
/-- What a member's page is: as long as it must be, sealed. -/
theorem page_ok {g : Geo} {l : List (Head × List Int)} (hg : g.Ok) (hl : LOk g l) {seg row m : Int} (ha : g.At seg row) (hm0 : 0 ≤ m) (hm1 : m < g.c) :
    ((pageOf g l seg row m).1.length : Int) = g.s ∧ (pageOf g l seg row m).2.length = 64 ∧ ∃ h, openOf (pageOf g l seg row m).1 (pageOf g l seg row m).2 = (h, true) := by
  have hgs := hg.s
  by_cases hd : m = g.par seg row
  · subst hd
    rw [par_page]
    refine ⟨?_, sealOf_len _ _ _, parHead l seg row, ?_⟩
    · have := xorAll_length (good_data hl hg)
      show ((xorAll g.s.toNat ((sealedOf l).map (·.1))).length : Int) = g.s
      omega
    · exact par_open hg hl ha
  · obtain ⟨sl, h1, h2, h3⟩ := data_page hg hl hm0 hm1 hd
    rw [h3]
    have hd := hl.data _ (getD_mem h1 noPage)
    have hh := hl.head _ (getD_mem h1 noPage)
    exact ⟨hd.1, sealOf_len _ _ _, _, OS.open_seal hh.1 hh.2.1 hh.2.2 nil_range⟩
theorem parts_of {s : Ram.St} {seg row m : Int} {x y : List Int} (h : s.pages m seg row = x ++ y) (hx : (x.length : Int) = s.g.s) (hy : y.length = 64) : pD s seg row m = x ∧ pO s seg row m = y := by
  have hp : s.page m seg row = x ++ y := by
    unfold Ram.St.page
    rw [if_neg, h]
    rw [h]
    intro e
    have := congrArg List.length e
    simp only [List.length_append, List.length_nil] at this
    omega
  have hn : s.g.s.toNat = x.length := by omega
  unfold pD pO
  rw [hp, hn]
  exact ⟨List.take_left, List.drop_left⟩
/-- A stripe that was written, all members but x being as they were. -/
structure Stands (s : Ram.St) (l : List (Head × List Int)) (seg row x : Int) : Prop where
  ok : s.g.Ok
  at_ : s.g.At seg row
  lok : LOk s.g l
  gone : ∀ m, 0 ≤ m → m < s.g.c → m ≠ x → ¬ 0 < s.gone m
  pages : ∀ m, 0 ≤ m → m < s.g.c → m ≠ x → s.pages m seg row = (pageOf s.g l seg row m).1 ++ (pageOf s.g l seg row m).2
theorem Stands.parts {s : Ram.St} {l : List (Head × List Int)} {seg row x : Int} (h : Stands s l seg row x) {m : Int} (h0 : 0 ≤ m) (h1 : m < s.g.c) (hx : m ≠ x) : pD s seg row m = (pageOf s.g l seg row m).1 ∧ pO s seg row m = (pageOf s.g l seg row m).2 := by
  have hp := page_ok h.ok h.lok h.at_ h0 h1 (seg := seg) (row := row)
  exact parts_of (h.pages m h0 h1 hx) hp.1 hp.2.1
theorem mem_is (g : Geo) (seg row s : Int) : g.mem seg row s = memOf (g.par seg row) s := rfl
theorem slot_mem {g : Geo} (hg : g.Ok) (seg row s : Int) (h0 : 0 ≤ s) : g.slot seg row (g.mem seg row s) = s := by
  obtain ⟨h1, h2⟩ := par_range hg seg row
  unfold Geo.slot Geo.mem
  by_cases h : g.par seg row ≤ s
  · rw [if_pos h, if_neg (by omega), if_pos (by omega)]; omega
  · rw [if_neg h, if_neg (by omega), if_neg (by omega)]
theorem filter_and {α : Type} (p q : α → Bool) (l : List α) : l.filter (fun x => p x && q x) = (l.filter q).filter p := List.filter_filter.symm
theorem pick_but (L : List (List Int × List Int)) (d : List Int × List Int) (sl : Nat) (hs : sl < L.length) : ((upTo L.length).filter fun t => decide (t ≠ (sl : Int))).map (fun t => L.getD t.toNat d) = L.take sl ++ L.drop (sl + 1) := by
  rw [upTo_but (sl : Int) (by omega) L.length, if_neg (by omega), List.map_map]
  apply List.ext_getElem
  · simp [upTo]; omega
  · intro i h1 h2
    have hi : i < L.length - 1 := by simpa [upTo] using h1
    rw [List.getElem_map]
    have hu : (upTo (L.length - 1))[i]'(by simpa [upTo] using hi) = (i : Int) := by simp [upTo]
    rw [hu]
    show L.getD (memOf (sl : Int) (i : Int)).toNat d = _
    by_cases hle : sl ≤ i
    · have e : (memOf (sl : Int) (i : Int)).toNat = i + 1 := by unfold memOf; rw [if_pos (by omega)]; omega
      rw [e, List.getElem_append_right (by simp; omega), List.getD_eq_getElem?_getD, List.getElem?_eq_getElem (by omega)]
      simp
      congr 1
      omega
    · have e : (memOf (sl : Int) (i : Int)).toNat = i := by unfold memOf; rw [if_neg (by omega)]; omega
      rw [e, List.getElem_append_left (by simp; omega), List.getD_eq_getElem?_getD, List.getElem?_eq_getElem (by omega)]
      simp
theorem split_at {α : Type} (L : List α) (sl : Nat) (hs : sl < L.length) (d : α) : L = L.take sl ++ L.getD sl d :: L.drop (sl + 1) := by
  rw [List.getD_eq_getElem?_getD, List.getElem?_eq_getElem hs, Option.getD_some, ← List.drop_eq_getElem_cons hs, List.take_append_drop]

/-- All others of the missing member x's stripe: the pages but its own, in their order. -/
theorem others_are {s : Ram.St} {l : List (Head × List Int)} {seg row : Int} {sl : Nat} (hsl : sl < l.length) (h : Stands s l seg row (s.g.mem seg row sl)) :
    othersTo s seg row (s.g.mem seg row sl) s.g.c.toNat = (sealedOf l).take sl ++ (sealedOf l).drop (sl + 1) := by
  have hlen := h.lok.len
  have hc := h.ok.c
  have hL : (sealedOf l).length = l.length := by simp [sealedOf]
  obtain ⟨k0, k1⟩ := par_range h.ok seg row
  rw [← pick_but (sealedOf l) ([], []) sl (by omega), hL]
  unfold othersTo
  rw [filter_and, upTo_but _ k0 s.g.c.toNat, if_neg (by omega), List.filter_map, List.map_map, show s.g.c.toNat - 1 = l.length by omega]
  have hin : ∀ t ∈ upTo l.length, 0 ≤ t ∧ t < (l.length : Int) := by
    intro t ht
    unfold upTo at ht
    obtain ⟨k, hk, rfl⟩ := List.mem_map.1 ht
    have := List.mem_range.1 hk
    simp only [Int.ofNat_eq_natCast]
    omega
  have hinj : ∀ t ∈ upTo l.length, (memOf (s.g.par seg row) t = s.g.mem seg row sl ↔ t = (sl : Int)) := by
    intro t ht
    have := hin t ht
    rw [mem_is]
    unfold memOf
    constructor
    · intro e; split at e <;> split at e <;> omega
    · rintro rfl; rfl
  have hf : (upTo l.length).filter ((fun n => decide (n ≠ s.g.mem seg row sl)) ∘ memOf (s.g.par seg row)) = (upTo l.length).filter fun t => decide (t ≠ (sl : Int)) := by
    apply List.filter_congr
    intro t ht
    simp only [Function.comp, decide_eq_decide, ne_eq]
    exact not_congr (hinj t ht)
  rw [hf]
  apply List.map_congr_left
  intro t ht
  have htm := (List.mem_filter.1 ht).1
  have htn : t ≠ (sl : Int) := by simpa using (List.mem_filter.1 ht).2
  obtain ⟨t0, t1⟩ := hin t htm
  have hmx : memOf (s.g.par seg row) t ≠ s.g.mem seg row sl := fun e => htn ((hinj t htm).1 e)
  have hr := mem_range h.ok seg row t t0 (by omega)
  rw [mem_is] at hr
  have hp := h.parts hr.1 hr.2.1 hmx
  simp only [Function.comp]
  rw [hp.1, hp.2]
  have hd : s.g.isData seg row (memOf (s.g.par seg row) t) = true := by unfold Geo.isData; simpa using hr.2.2
  unfold pageOf
  rw [if_pos hd, ← mem_is, slot_mem h.ok seg row t t0]
theorem head_even {g : Geo} {l : List (Head × List Int)} {seg row : Int} (hl : LOk g l) : (parPage g l seg row).2.drop 32 = xorAll 32 ((sealedOf l).map fun p => p.2.take 32) := by
  show (sealOf _ _ _).drop 32 = _
  rw [OS.seal_tail]
  have h1 := xorAll_length (good_heads hl)
  unfold tailOf
  rw [List.take_of_length_le (by omega), Wr.padTo_le (by omega)]
theorem seal_whole (h : Head) (data : List Int) : (sealOf h data []).take 32 ++ List.replicate 32 0 = sealOf h data [] := by
  have h1 := OS.seal_tail h data []
  have h2 : tailOf [] = List.replicate 32 0 := rfl
  rw [h2] at h1
  rw [← h1, List.take_append_drop]
/-- What is made is what was written. -/
theorem makes {s : Ram.St} {l : List (Head × List Int)} {seg row : Int} {sl : Nat} (hsl : sl < l.length) (h : Stands s l seg row (s.g.mem seg row sl)) : Makes s seg row (s.g.mem seg row sl) (l.getD sl noPage).1 (l.getD sl noPage).2 := by
  have hlen := h.lok.len
  have hc := h.ok.c
  have hgs := h.ok.s
  obtain ⟨k0, k1⟩ := par_range h.ok seg row
  have hr := mem_range h.ok seg row sl (by omega) (by omega)
  have hpp := h.parts k0 k1 (fun e => hr.2.2 e.symm)
  have hpk := page_ok h.ok h.lok h.at_ k0 k1 (seg := seg) (row := row)
  rw [par_page] at hpp hpk
  have hL : (sealedOf l).length = l.length := by simp [sealedOf]
  have hsp := split_at (sealedOf l) sl (by omega) ([], [])
  rw [sealed_get hsl] at hsp
  have hoth := others_are hsl h
  have hD : missD s.g.s.toNat (parPage s.g l seg row).1 (othersTo s seg row (s.g.mem seg row sl) s.g.c.toNat) = (l.getD sl noPage).2 := by
    rw [hoth]
    show xorAll _ (xorAll s.g.s.toNat ((sealedOf l).map (·.1)) :: _) = _
    have hgd := good_data h.lok h.ok
    have hm : ((sealedOf l).map (·.1)) = ((sealedOf l).take sl).map (·.1) ++ (l.getD sl noPage).2 :: ((sealedOf l).drop (sl + 1)).map (·.1) := by
      conv => lhs; rw [hsp]
      rw [List.map_append, List.map_cons]
    rw [hm] at hgd ⊢
    rw [List.map_append]
    exact xor_missing _ _ _ hgd
  have hO : missO (parPage s.g l seg row).2 (othersTo s seg row (s.g.mem seg row sl) s.g.c.toNat) = sealOf (l.getD sl noPage).1 (l.getD sl noPage).2 [] := by
    rw [hoth]
    unfold missO
    rw [head_even h.lok]
    have hgh := good_heads h.lok
    have hx : xorAll 32 (xorAll 32 ((sealedOf l).map fun p => p.2.take 32) :: ((sealedOf l).take sl ++ (sealedOf l).drop (sl + 1)).map fun p => p.2.take 32) = (sealOf (l.getD sl noPage).1 (l.getD sl noPage).2 []).take 32 := by
      have hm : ((sealedOf l).map fun p => p.2.take 32) = ((sealedOf l).take sl).map (fun p => p.2.take 32) ++ (sealOf (l.getD sl noPage).1 (l.getD sl noPage).2 []).take 32 :: ((sealedOf l).drop (sl + 1)).map (fun p => p.2.take 32) := by
        conv => lhs; rw [hsp]
        rw [List.map_append, List.map_cons]
      rw [hm] at hgh ⊢
      rw [List.map_append]
      exact xor_missing _ _ _ hgh
    rw [hx]
    exact seal_whole _ _
  refine ⟨h.gone, fun n n0 n1 nx _ => ?_, ?_, ?_, ?_⟩
  · obtain ⟨_, _, hh, ho⟩ := page_ok h.ok h.lok h.at_ n0 n1 (seg := seg) (row := row)
    have hp := h.parts n0 n1 nx
    rw [hp.1, hp.2, ho]
  · refine ⟨parHead l seg row, ?_, rfl⟩
    rw [hpp.1, hpp.2]
    exact par_open h.ok h.lok h.at_
  · rw [hpp.1, hpp.2, hD, hO]
    have hh := h.lok.head _ (getD_mem hsl noPage)
    exact OS.open_seal hh.1 hh.2.1 hh.2.2 nil_range
  · rw [hpp.1, hD]
/-- Whichever one member is bad, a page is read as it was written. -/
theorem reads {s : Ram.St} {l : List (Head × List Int)} {seg row x : Int} {sl : Nat} (hsl : sl < l.length) (h : Stands s l seg row x) (hx : s.g.mem seg row sl = x → 0 < s.gone x ∨ (openOf (pD s seg row x) (pO s seg row x)).2 = false) :
    Reads s seg row sl (l.getD sl noPage).1 (l.getD sl noPage).2 := by
  have hlen := h.lok.len
  have hr := mem_range h.ok seg row sl (by omega) (by omega)
  by_cases e : s.g.mem seg row sl = x
  · refine .inr ⟨?_, makes hsl (by rw [e]; exact h)⟩
    rw [e]
    exact hx e
  · have hp := h.parts hr.1 hr.2.1 e
    obtain ⟨s2, h1, h2, h3⟩ := data_page h.ok h.lok hr.1 hr.2.1 hr.2.2
    rw [slot_mem h.ok seg row sl (by omega)] at h2
    obtain rfl : s2 = sl := by omega
    refine .inl ⟨h.gone _ hr.1 hr.2.1 e, ?_, ?_⟩
    · rw [hp.1, hp.2, h3]
      have hh := h.lok.head _ (getD_mem hsl noPage)
      exact OS.open_seal hh.1 hh.2.1 hh.2.2 nil_range
    · rw [hp.1, h3]
end Go.Proofs.Ytlhgbamajabnfaa.Stripe

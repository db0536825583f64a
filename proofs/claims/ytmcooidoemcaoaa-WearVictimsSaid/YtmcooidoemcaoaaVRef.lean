/- The document's Victim, walked by hand: it returns the first of the best closed ones. -/
import Derived.Test.YtmcooidoemcaoaaOWearNexts
import Derived.Outline
namespace Go.Proofs.Ytmcooidoemcaoaa.VRef
open Go.RowKit Go.Proofs.Ytmcooidoemcaoaa.PWearNexts Go.Proofs.YtmcooidoemcaoaaW.PrintWords Go.Proofs.YtmcooidoemcaoaaW.PrintLast Go.Proofs.YtmcooidoemcaoaaW.PrintMore Go.Proofs.Ytmcooidoemcaoaa.PureWearNexts
set_option linter.unusedVariables false
set_option linter.unusedSimpArgs false

/-- The cells of the segment at x, as the walk asks for them. -/
theorem cells {w : World} {A : Option Addr} {l : List S34} (hr : Kd.C k43 w A (l.map conv).length (l.map conv)) (x : Int) (h0 : 0 ≤ x) (h1 : x < (l.length : Int)) :
    ∃ ad, A = some ad ∧ w.cell? (ad.add (x.toNat * 3)) = some (.int .i64 (at_ l x.toNat).f0) ∧ w.cell? ⟨(ad.add (x.toNat * 3)).block, (ad.add (x.toNat * 3)).off + 1, none⟩ = some (.int .i64 (at_ l x.toNat).f1) ∧ w.cell? ⟨(ad.add (x.toNat * 3)).block, (ad.add (x.toNat * 3)).off + 2, none⟩ = some (.int .i64 (at_ l x.toNat).f2) := by
  obtain ⟨ad, e, c0, c1, c2⟩ := at_T43 hr x h0 (by rw [List.length_map]; exact h1)
  have hx : (x.toNat : Int) = x := by omega
  have hrd := rd_conv l x.toNat
  rw [hx] at hrd
  rw [hrd] at c0 c1 c2
  exact ⟨ad, e, c0, c1, c2⟩

theorem st0 {l : List S34} {x a b e : Int} (h : EndsInv l x.toNat a b) (he : (at_ l x.toNat).f2 = e) (hw : Wf (at_ l x.toNat)) (hx : x = 0) : EndsInv l (x + 1).toNat e e := by
  subst hx he
  have h1 := ends_step h hw
  rw [if_pos (by rfl)] at h1
  have h2 : mx b (at_ l (Int.toNat 0)).f2 = (at_ l (Int.toNat 0)).f2 := by
    rcases h with ⟨_, _, hb⟩ | ⟨h, _⟩
    · have := hw.1
      unfold mx; split <;> omega
    · exact absurd h (by decide)
  rw [h2] at h1
  exact h1
theorem st1 {l : List S34} {x a b e : Int} (h : EndsInv l x.toNat a b) (he : (at_ l x.toNat).f2 = e) (hw : Wf (at_ l x.toNat)) (h0 : 0 ≤ x) (hx : ¬ x = 0) : EndsInv l (x + 1).toNat (if e < a then e else a) (if b < e then e else b) := by
  subst he
  have h1 := ends_step h hw
  rw [if_neg (by omega), show x.toNat + 1 = (x + 1).toNat by omega] at h1
  have h2 : mx b (at_ l x.toNat).f2 = (if b < (at_ l x.toNat).f2 then (at_ l x.toNat).f2 else b) := by
    unfold mx; split <;> rfl
  rw [h2] at h1
  exact h1
theorem ends_one {l : List S34} {n : Nat} {a b a' b' : Int} (h : EndsInv l n a b) (g : EndsInv l n a' b') : a = a' ∧ b = b' := by
  rcases h with ⟨h0, ha, hb⟩ | ⟨h0, ⟨ja, hja, ea⟩, ⟨jb, hjb, eb⟩, hall⟩ <;> rcases g with ⟨g0, ga, gb⟩ | ⟨g0, ⟨ka, hka, fa⟩, ⟨kb, hkb, fb⟩, gall⟩
  · omega
  · omega
  · omega
  · have h1 := (hall ka hka).1
    have h2 := (gall ja hja).1
    have h3 := (hall kb hkb).2
    have h4 := (gall jb hjb).2
    omega
theorem cold_is {l : List S34} {n : Nat} {a b : Int} (hw : ∀ x ∈ l, Wf x) (h : EndsInv l n a b) : decide (8 < wrap64 (b - a)) = Cold a b := by
  unfold Cold
  rw [decide_eq_decide]
  rcases h with ⟨_, rfl, rfl⟩ | ⟨h0, ⟨ja, hja, ea⟩, ⟨jb, hjb, eb⟩, hall⟩
  · unfold wrap64; omega
  · have h1 := wf_at hw ja
    have h2 := wf_at hw jb
    have h3 := (hall ja hja).2
    unfold Wf at h1 h2
    unfold wrap64
    omega
/-- The k-th is cleared ahead of the i-th. -/
def Ahead (cold : Bool) (l : List S34) (k i : Nat) : Prop := Bet cold (at_ l k) (at_ l i) ∨ (k1 cold (at_ l k) = k1 cold (at_ l i) ∧ k2 cold (at_ l k) = k2 cold (at_ l i) ∧ k < i)
/-- None of the first x is ahead of the i-th. -/
def Head (cold : Bool) (l : List S34) (i x : Nat) : Prop := ∀ j, j < x → j ≠ i → (at_ l j).f0 = 2 → ¬ Ahead cold l j i
theorem ahead_false (l : List S34) {x y : Int} (hx : 0 ≤ x) (hy : 0 ≤ y) : Ahead false l x.toNat y.toNat ↔ ((at_ l x.toNat).f1 < (at_ l y.toNat).f1 ∨ ((at_ l x.toNat).f1 = (at_ l y.toNat).f1 ∧ (at_ l x.toNat).f2 < (at_ l y.toNat).f2) ∨ ((at_ l x.toNat).f1 = (at_ l y.toNat).f1 ∧ (at_ l x.toNat).f2 = (at_ l y.toNat).f2 ∧ x < y)) := by
  unfold Ahead Bet k1 k2
  simp only [Bool.false_eq_true, if_false]
  omega
theorem ahead_true (l : List S34) {x y : Int} (hx : 0 ≤ x) (hy : 0 ≤ y) : Ahead true l x.toNat y.toNat ↔ ((at_ l x.toNat).f2 < (at_ l y.toNat).f2 ∨ ((at_ l x.toNat).f2 = (at_ l y.toNat).f2 ∧ (at_ l x.toNat).f1 < (at_ l y.toNat).f1) ∨ ((at_ l x.toNat).f2 = (at_ l y.toNat).f2 ∧ (at_ l x.toNat).f1 = (at_ l y.toNat).f1 ∧ x < y)) := by
  unfold Ahead Bet k1 k2
  simp only [if_true]
  omega
theorem head_more {cold : Bool} {l : List S34} {i x : Nat} : Head cold l i (x + 1) ↔ Head cold l i x ∧ (x ≠ i → (at_ l x).f0 = 2 → ¬ Ahead cold l x i) := by
  constructor
  · intro h
    exact ⟨fun j hj => h j (by omega), h x (by omega)⟩
  · rintro ⟨h, g⟩ j hj
    by_cases e : j = x
    · subst e; exact g
    · exact h j (by omega)
theorem head_end {cold : Bool} {l : List S34} {i : Nat} {r : Int} (hi : i < l.length) (hk : (at_ l i).f0 = 2) (hV : VInv cold l l.length r) : Head cold l i l.length ↔ r = (i : Int) := by
  rcases hV with ⟨rfl, h⟩ | ⟨m, rfl, hm, hP, h⟩
  · exact absurd hk (h i hi)
  · constructor
    · intro hH
      by_cases e : m = i
      · rw [e]
      · have h1 := hH m hm e hP
        have h2 := h i hi hk
        exfalso
        rcases Nat.lt_or_ge i m with c | c
        · exact h1 (.inl (h2.2 c))
        · refine h1 ?_
          have h3 := h2.1
          unfold Ahead
          unfold Bet at h3 ⊢
          omega
    · intro e
      obtain rfl : m = i := by omega
      intro j hj hne hkj hA
      have h2 := h j hj hkj
      have h3 := h2.1
      have h4 := h2.2
      unfold Ahead at hA
      unfold Bet at h3 h4 hA
      omega

set_option maxHeartbeats 8000000 in
set_option maxRecDepth 100000 in
theorem ref_calls (A0 : Option Addr) (c0 : Nat) (l : List S34) (n : Nat) (hln : (l.map conv).length = n) (hn : n < 5864062014805) (hw : ∀ x ∈ l, Wf x) (a b : Int) (hE : EndsInv l l.length a b) (r : Int) (hV : VInv (Cold a b) l l.length r) (w : World) (hr0 : Kd.C k43 w A0 (l.map conv).length (l.map conv)) (hc0 : n ≤ c0) :
    Calls Try.prog 10 #[.slice A0 n c0] w fun e w' => e = .returned (.int .i64 r) ∧ Drawn0 w w' := by
  have HR0 := Aside0.mk hr0
  have HLN := Aside0.mk hln
  have HE := Aside0.mk hE
  have HV := Aside0.mk hV
  have HW := Aside0.mk hw
  clear hr0 hE hV hw hln
  go_enter Try.func10, Try.ntmps10
  go_wp2
  repeat (go_quiet (fail); try go_wp2)
  go_loopw [3, 4, 5] (fun v3 v4 v5 w' => ∃ (x3 : Int) (x4 : Int) (x5 : Int), v3 = .int .i64 x3 ∧ v4 = .int .i64 x4 ∧ v5 = .int .i64 x5 ∧ 0 ≤ x5 ∧ x5 ≤ (n : Int) ∧ Aside0 (EndsInv l x5.toNat x3 x4) ∧ Drawn0 w w') (fun _ _ v5 _ => n - (intOf v5).toNat)
  case atStart => exact ⟨0, 0, 0, rfl, rfl, rfl, by omega, by omega, ⟨.inl ⟨rfl, rfl, rfl⟩⟩, Drawn0.refl _⟩
  case round =>
    obtain ⟨x3, x4, x5, rfl, rfl, rfl, h0, h1, HI, ⟨m1, rfl⟩⟩ := hrel
    by_cases hlt : x5 < (n : Int)
    · have hc := cells HR0.out x5 h0 (by have := HLN.out; rw [List.length_map] at this; omega)
      obtain ⟨ad, rfl, e0, e1, e2⟩ := hc
      have hwf := wf_at HW.out x5.toNat
      have hltb : decide (x5 < (n : Int)) = true := decide_eq_true hlt
      have p := eq_true h0
      have q := eq_true hlt
      have hw5 : wrap64 (x5 + 1) = x5 + 1 := by unfold wrap64; omega
      have HX : Aside0 (0 ≤ x5 ∧ x5 < (n : Int)) := ⟨⟨h0, hlt⟩⟩
      clear h0 hlt h1
      by_cases c1 : x5 = 0
      · have HS := Aside0.mk (st0 HI.out rfl hwf c1)
        generalize (at_ l x5.toNat).f2 = ee at *
        clear hwf
        have b1 : (x5 == 0) = true := beq_iff_eq.mpr c1
        clear c1
        go_wp2
        repeat (go_quiet (fail); try go_wp2)
        go_roundw
        case rel => exact ⟨ee, ee, x5 + 1, rfl, rfl, by rw [hw5], by have := HX.out; omega, by have := HX.out; omega, HS, by repeat (first | exact Drawn0.refl _ | apply Drawn0.step)⟩
        case measure => have := HX.out; simp [intOf]; omega
      · have HS := Aside0.mk (st1 HI.out rfl hwf HX.out.1 c1)
        generalize (at_ l x5.toNat).f2 = ee at *
        clear hwf
        have b1 : (x5 == 0) = false := beq_eq_false_iff_ne.mpr c1
        clear c1
        by_cases c2 : ee < x3 <;> by_cases c3 : x4 < ee
        all_goals
          first | rw [if_pos c2, if_pos c3] at HS | rw [if_pos c2, if_neg c3] at HS | rw [if_neg c2, if_pos c3] at HS | rw [if_neg c2, if_neg c3] at HS
          go_wp2
          repeat (go_quiet (fail); try go_wp2)
          go_roundw
          case rel => exact ⟨_, _, x5 + 1, rfl, rfl, by rw [hw5], by have := HX.out; omega, by have := HX.out; omega, HS, by repeat (first | exact Drawn0.refl _ | apply Drawn0.step)⟩
          case measure => have := HX.out; simp [intOf]; omega
    · have hx5 : x5.toNat = l.length := by have := HLN.out; rw [List.length_map] at this; omega
      have hI := HI.out
      rw [hx5] at hI
      obtain ⟨h3, h4⟩ := ends_one hI HE.out
      have hcold := cold_is HW.out HE.out
      rw [← h3, ← h4] at hcold
      have HV1 := Aside0.mk HV.out
      rw [← h3, ← h4] at HV1
      clear HV
      have HCO := Aside0.mk hcold
      clear hcold h3 h4 hI hx5 HI HE
      have hx5 : decide (x5 < (n : Int)) = false := decide_eq_false hlt
      rcases hcc : Cold x3 x4 with _ | _
      · rw [hcc] at HV1 HCO
        clear hcc
        have hcold := HCO.out
        clear HCO
        go_wp2
        repeat (go_quiet (fail); try go_wp2)
        go_loopw [7] (fun v7 w' => ∃ x7 : Int, v7 = .int .i64 x7 ∧ 0 ≤ x7 ∧ x7 ≤ (n : Int) ∧ Aside0 (∀ j : Nat, (j : Int) < x7 → r ≠ (j : Int)) ∧ Drawn0 w w') (fun v7 _ => n - (intOf v7).toNat)
        case atStart => exact ⟨0, rfl, by omega, by omega, ⟨fun j hj => by omega⟩, by repeat (first | exact Drawn0.refl _ | apply Drawn0.step)⟩
        case round =>
          obtain ⟨x7, rfl, g0, g1, HN, ⟨m2, rfl⟩⟩ := hrel
          by_cases hlt7 : x7 < (n : Int)
          · have hln7 : x7.toNat < l.length := by have := HLN.out; rw [List.length_map] at this; omega
            obtain ⟨ad, rfl, e0, e1, e2⟩ := cells HR0.out x7 g0 (by omega)
            have h7b : decide (x7 < (n : Int)) = true := decide_eq_true hlt7
            have p7 := eq_true g0
            have q7 := eq_true hlt7
            have hw7 : wrap64 (x7 + 1) = x7 + 1 := by unfold wrap64; omega
            have HX7 : Aside0 (0 ≤ x7 ∧ x7 < (n : Int)) := ⟨⟨g0, hlt7⟩⟩
            have HL7 := Aside0.mk hln7
            clear g0 g1 hlt7 hln7
            by_cases ck : (at_ l x7.toNat).f0 = 2
            · have HK := Aside0.mk ck
              have bk : ((at_ l x7.toNat).f0 != 2) = false := bne_eq_false_iff_eq.mpr ck
              clear ck
              go_wp2
              repeat (go_quiet (fail); try go_wp2)
              go_loopw [8, 9] (fun v8 v9 w' => ∃ (x8 : Bool) (x9 : Int), v8 = .bool x8 ∧ v9 = .int .i64 x9 ∧ 0 ≤ x9 ∧ x9 ≤ (n : Int) ∧ Aside0 (x8 = true ↔ Head false l x7.toNat x9.toNat) ∧ Drawn0 w w') (fun _ v9 _ => n - (intOf v9).toNat)
              case atStart => exact ⟨true, 0, rfl, rfl, by omega, by omega, ⟨⟨fun _ j hj => by exact absurd hj (Nat.not_lt_zero j), fun _ => rfl⟩⟩, by repeat (first | exact Drawn0.refl _ | apply Drawn0.step)⟩
              case round =>
                obtain ⟨x8, x9, rfl, rfl, f0, f1, HH, ⟨m3, rfl⟩⟩ := hrel
                by_cases hlt9 : x9 < (n : Int)
                · have hln9 : x9.toNat < l.length := by have := HLN.out; rw [List.length_map] at this; omega
                  obtain ⟨ad', ead, d0, d1, d2⟩ := cells HR0.out x9 f0 (by omega)
                  obtain rfl : ad = ad' := by injection ead
                  have h9b : decide (x9 < (n : Int)) = true := decide_eq_true hlt9
                  have p9 := eq_true f0
                  have q9 := eq_true hlt9
                  have hw9 : wrap64 (x9 + 1) = x9 + 1 := by unfold wrap64; omega
                  have HX9 : Aside0 (0 ≤ x9 ∧ x9 < (n : Int)) := ⟨⟨f0, hlt9⟩⟩
                  have HM := Aside0.mk (head_more (cold := false) (l := l) (i := x7.toNat) (x := x9.toNat))
                  rw [show x9.toNat + 1 = (x9 + 1).toNat by omega] at HM
                  clear f0 f1 hlt9 hln9
                  by_cases c97 : x9 = x7
                  · have b97 : (x9 == x7) = true := beq_iff_eq.mpr c97
                    have HH' : Aside0 (x8 = true ↔ Head false l x7.toNat (x9 + 1).toNat) := ⟨by rw [HM.out]; exact HH.out.trans ⟨fun h => ⟨h, fun hne => absurd (by rw [c97]) hne⟩, fun h => h.1⟩⟩
                    clear c97
                    go_wp2
                    repeat (go_quiet (fail); try go_wp2)
                    go_roundw
                    case rel => exact ⟨x8, x9 + 1, rfl, by rw [hw9], by have := HX9.out; omega, by have := HX9.out; omega, HH', by repeat (first | exact Drawn0.refl _ | apply Drawn0.step)⟩
                    case measure => have := HX9.out; simp [intOf]; omega
                  · have b97 : (x9 == x7) = false := beq_eq_false_iff_ne.mpr c97
                    have hne : x9.toNat ≠ x7.toNat := by have := HX9.out; have := HX7.out; omega
                    have HNE := Aside0.mk hne
                    clear c97 hne
                    by_cases c9 : (at_ l x9.toNat).f0 = 2
                    · have b9 : ((at_ l x9.toNat).f0 != 2) = false := bne_eq_false_iff_eq.mpr c9
                      have HA : Aside0 (Head false l x7.toNat (x9 + 1).toNat ↔ Head false l x7.toNat x9.toNat ∧ ¬ Ahead false l x9.toNat x7.toNat) := ⟨by rw [HM.out]; exact ⟨fun h => ⟨h.1, h.2 HNE.out c9⟩, fun h => ⟨h.1, fun _ _ => h.2⟩⟩⟩
                      clear c9 HM
                      have hA : Ahead false l x9.toNat x7.toNat ↔ ((at_ l x9.toNat).f1 < (at_ l x7.toNat).f1 ∨ ((at_ l x9.toNat).f1 = (at_ l x7.toNat).f1 ∧ (at_ l x9.toNat).f2 < (at_ l x7.toNat).f2) ∨ ((at_ l x9.toNat).f1 = (at_ l x7.toNat).f1 ∧ (at_ l x9.toNat).f2 = (at_ l x7.toNat).f2 ∧ x9 < x7)) := by have := HX9.out; have := HX7.out; exact ahead_false l (by omega) (by omega)
                      rw [hA] at HA
                      clear hA
                      generalize (at_ l x9.toNat).f1 = K1 at *
                      generalize (at_ l x9.toNat).f2 = K2 at *
                      generalize (at_ l x7.toNat).f1 = I1 at *
                      generalize (at_ l x7.toNat).f2 = I2 at *
                      by_cases c1 : K1 < I1
                      · have HH' : Aside0 (false = true ↔ Head false l x7.toNat (x9 + 1).toNat) := ⟨by rw [HA.out]; exact ⟨fun h => absurd h (by decide), fun h => absurd (.inl c1) h.2⟩⟩
                        clear HA HH
                        go_wp2
                        repeat (go_quiet (fail); try go_wp2)
                        go_roundw
                        case rel => exact ⟨false, x9 + 1, rfl, by rw [hw9], by have := HX9.out; omega, by have := HX9.out; omega, HH', by repeat (first | exact Drawn0.refl _ | apply Drawn0.step)⟩
                        case measure => have := HX9.out; simp [intOf]; omega
                      · by_cases c2 : K1 = I1
                        · have b2 : (K1 == I1) = true := beq_iff_eq.mpr c2
                          by_cases c3 : K2 < I2
                          · have HH' : Aside0 (false = true ↔ Head false l x7.toNat (x9 + 1).toNat) := ⟨by rw [HA.out]; exact ⟨fun h => absurd h (by decide), fun h => absurd (.inr (.inl ⟨c2, c3⟩)) h.2⟩⟩
                            clear HA HH c2
                            go_wp2
                            repeat (go_quiet (fail); try go_wp2)
                            go_roundw
                            case rel => exact ⟨false, x9 + 1, rfl, by rw [hw9], by have := HX9.out; omega, by have := HX9.out; omega, HH', by repeat (first | exact Drawn0.refl _ | apply Drawn0.step)⟩
                            case measure => have := HX9.out; simp [intOf]; omega
                          · by_cases c4 : K2 = I2
                            · have b4 : (K2 == I2) = true := beq_iff_eq.mpr c4
                              by_cases c5 : x9 < x7
                              · have HH' : Aside0 (false = true ↔ Head false l x7.toNat (x9 + 1).toNat) := ⟨by rw [HA.out]; exact ⟨fun h => absurd h (by decide), fun h => absurd (.inr (.inr ⟨c2, c4, c5⟩)) h.2⟩⟩
                                clear HA HH c2 c4
                                go_wp2
                                repeat (go_quiet (fail); try go_wp2)
                                go_roundw
                                case rel => exact ⟨false, x9 + 1, rfl, by rw [hw9], by have := HX9.out; omega, by have := HX9.out; omega, HH', by repeat (first | exact Drawn0.refl _ | apply Drawn0.step)⟩
                                case measure => have := HX9.out; simp [intOf]; omega
                              · have HH' : Aside0 (x8 = true ↔ Head false l x7.toNat (x9 + 1).toNat) := ⟨by rw [HA.out]; exact HH.out.trans ⟨fun h => ⟨h, by omega⟩, fun h => h.1⟩⟩
                                clear HA HH c2 c4
                                go_wp2
                                repeat (go_quiet (fail); try go_wp2)
                                go_roundw
                                case rel => exact ⟨x8, x9 + 1, rfl, by rw [hw9], by have := HX9.out; omega, by have := HX9.out; omega, HH', by repeat (first | exact Drawn0.refl _ | apply Drawn0.step)⟩
                                case measure => have := HX9.out; simp [intOf]; omega
                            · have b4 : (K2 == I2) = false := beq_eq_false_iff_ne.mpr c4
                              have HH' : Aside0 (x8 = true ↔ Head false l x7.toNat (x9 + 1).toNat) := ⟨by rw [HA.out]; exact HH.out.trans ⟨fun h => ⟨h, by omega⟩, fun h => h.1⟩⟩
                              clear HA HH c2 c4
                              go_wp2
                              repeat (go_quiet (fail); try go_wp2)
                              go_roundw
                              case rel => exact ⟨x8, x9 + 1, rfl, by rw [hw9], by have := HX9.out; omega, by have := HX9.out; omega, HH', by repeat (first | exact Drawn0.refl _ | apply Drawn0.step)⟩
                              case measure => have := HX9.out; simp [intOf]; omega
                        · have b2 : (K1 == I1) = false := beq_eq_false_iff_ne.mpr c2
                          have HH' : Aside0 (x8 = true ↔ Head false l x7.toNat (x9 + 1).toNat) := ⟨by rw [HA.out]; exact HH.out.trans ⟨fun h => ⟨h, by omega⟩, fun h => h.1⟩⟩
                          clear HA HH c2
                          go_wp2
                          repeat (go_quiet (fail); try go_wp2)
                          go_roundw
                          case rel => exact ⟨x8, x9 + 1, rfl, by rw [hw9], by have := HX9.out; omega, by have := HX9.out; omega, HH', by repeat (first | exact Drawn0.refl _ | apply Drawn0.step)⟩
                          case measure => have := HX9.out; simp [intOf]; omega
                    · have b9 : ((at_ l x9.toNat).f0 != 2) = true := bne_iff_ne.mpr c9
                      have HH' : Aside0 (x8 = true ↔ Head false l x7.toNat (x9 + 1).toNat) := ⟨by rw [HM.out]; exact HH.out.trans ⟨fun h => ⟨h, fun _ h2 => absurd h2 c9⟩, fun h => h.1⟩⟩
                      clear c9
                      go_wp2
                      repeat (go_quiet (fail); try go_wp2)
                      go_roundw
                      case rel => exact ⟨x8, x9 + 1, rfl, by rw [hw9], by have := HX9.out; omega, by have := HX9.out; omega, HH', by repeat (first | exact Drawn0.refl _ | apply Drawn0.step)⟩
                      case measure => have := HX9.out; simp [intOf]; omega
                · have hx9 : x9.toNat = l.length := by have := HLN.out; rw [List.length_map] at this; omega
                  have hH := HH.out
                  rw [hx9, head_end HL7.out HK.out HV1.out] at hH
                  have hx7 : ((x7.toNat : Nat) : Int) = x7 := by have := HX7.out; omega
                  rw [hx7] at hH
                  have h9b : decide (x9 < (n : Int)) = false := decide_eq_false hlt9
                  cases x8
                  · have HN' : Aside0 (∀ j : Nat, (j : Int) < x7 + 1 → r ≠ (j : Int)) := ⟨fun j hj e => by
                      by_cases e7 : (j : Int) = x7
                      · exact absurd (hH.2 (by omega)) (by decide)
                      · exact HN.out j (by omega) e⟩
                    clear hx9 hH hx7 HH
                    go_wp2
                    repeat (go_quiet (fail); try go_wp2)
                    go_roundw
                    case rel => exact ⟨x7 + 1, by rw [hw7], by have := HX7.out; omega, by have := HX7.out; omega, HN', by repeat (first | exact Drawn0.refl _ | apply Drawn0.step)⟩
                    case measure => have := HX7.out; simp [intOf]; omega
                  · obtain rfl := hH.1 rfl
                    clear hx9 hH hx7 HH
                    go_wp2
                    repeat (go_quiet (fail); try go_wp2)
                    go_ret
                    exact ⟨rfl, by repeat (first | exact Drawn0.refl _ | apply Drawn0.step)⟩
            · have HN' : Aside0 (∀ j : Nat, (j : Int) < x7 + 1 → r ≠ (j : Int)) := ⟨fun j hj e => by
                by_cases e7 : (j : Int) = x7
                · rcases HV1.out with ⟨h, _⟩ | ⟨m, h, hm, hP, _⟩
                  · omega
                  · have hmx : m = x7.toNat := by omega
                    rw [hmx] at hP
                    exact ck hP
                · exact HN.out j (by omega) e⟩
              have bk : ((at_ l x7.toNat).f0 != 2) = true := bne_iff_ne.mpr ck
              clear ck
              generalize (at_ l x7.toNat).f0 = kk at *
              go_wp2
              repeat (go_quiet (fail); try go_wp2)
              go_roundw
              case rel => exact ⟨x7 + 1, by rw [hw7], by have := HX7.out; omega, by have := HX7.out; omega, HN', by repeat (first | exact Drawn0.refl _ | apply Drawn0.step)⟩
              case measure => have := HX7.out; simp [intOf]; omega
          · have hr : r = -1 := by
              rcases HV1.out with ⟨h, _⟩ | ⟨m, h, hm, hP, _⟩
              · exact h
              · have := HLN.out
                rw [List.length_map] at this
                exact absurd h (HN.out m (by omega))
            subst hr
            have h7b : decide (x7 < (n : Int)) = false := decide_eq_false hlt7
            go_wp2
            repeat (go_quiet (fail); try go_wp2)
            go_ret
            exact ⟨rfl, by repeat (first | exact Drawn0.refl _ | apply Drawn0.step)⟩
      · rw [hcc] at HV1 HCO
        clear hcc
        have hcold := HCO.out
        clear HCO
        go_wp2
        repeat (go_quiet (fail); try go_wp2)
        go_loopw [7] (fun v7 w' => ∃ x7 : Int, v7 = .int .i64 x7 ∧ 0 ≤ x7 ∧ x7 ≤ (n : Int) ∧ Aside0 (∀ j : Nat, (j : Int) < x7 → r ≠ (j : Int)) ∧ Drawn0 w w') (fun v7 _ => n - (intOf v7).toNat)
        case atStart => exact ⟨0, rfl, by omega, by omega, ⟨fun j hj => by omega⟩, by repeat (first | exact Drawn0.refl _ | apply Drawn0.step)⟩
        case round =>
          obtain ⟨x7, rfl, g0, g1, HN, ⟨m2, rfl⟩⟩ := hrel
          by_cases hlt7 : x7 < (n : Int)
          · have hln7 : x7.toNat < l.length := by have := HLN.out; rw [List.length_map] at this; omega
            obtain ⟨ad, rfl, e0, e1, e2⟩ := cells HR0.out x7 g0 (by omega)
            have h7b : decide (x7 < (n : Int)) = true := decide_eq_true hlt7
            have p7 := eq_true g0
            have q7 := eq_true hlt7
            have hw7 : wrap64 (x7 + 1) = x7 + 1 := by unfold wrap64; omega
            have HX7 : Aside0 (0 ≤ x7 ∧ x7 < (n : Int)) := ⟨⟨g0, hlt7⟩⟩
            have HL7 := Aside0.mk hln7
            clear g0 g1 hlt7 hln7
            by_cases ck : (at_ l x7.toNat).f0 = 2
            · have HK := Aside0.mk ck
              have bk : ((at_ l x7.toNat).f0 != 2) = false := bne_eq_false_iff_eq.mpr ck
              clear ck
              go_wp2
              repeat (go_quiet (fail); try go_wp2)
              go_loopw [8, 9] (fun v8 v9 w' => ∃ (x8 : Bool) (x9 : Int), v8 = .bool x8 ∧ v9 = .int .i64 x9 ∧ 0 ≤ x9 ∧ x9 ≤ (n : Int) ∧ Aside0 (x8 = true ↔ Head true l x7.toNat x9.toNat) ∧ Drawn0 w w') (fun _ v9 _ => n - (intOf v9).toNat)
              case atStart => exact ⟨true, 0, rfl, rfl, by omega, by omega, ⟨⟨fun _ j hj => by exact absurd hj (Nat.not_lt_zero j), fun _ => rfl⟩⟩, by repeat (first | exact Drawn0.refl _ | apply Drawn0.step)⟩
              case round =>
                obtain ⟨x8, x9, rfl, rfl, f0, f1, HH, ⟨m3, rfl⟩⟩ := hrel
                by_cases hlt9 : x9 < (n : Int)
                · have hln9 : x9.toNat < l.length := by have := HLN.out; rw [List.length_map] at this; omega
                  obtain ⟨ad', ead, d0, d1, d2⟩ := cells HR0.out x9 f0 (by omega)
                  obtain rfl : ad = ad' := by injection ead
                  have h9b : decide (x9 < (n : Int)) = true := decide_eq_true hlt9
                  have p9 := eq_true f0
                  have q9 := eq_true hlt9
                  have hw9 : wrap64 (x9 + 1) = x9 + 1 := by unfold wrap64; omega
                  have HX9 : Aside0 (0 ≤ x9 ∧ x9 < (n : Int)) := ⟨⟨f0, hlt9⟩⟩
                  have HM := Aside0.mk (head_more (cold := true) (l := l) (i := x7.toNat) (x := x9.toNat))
                  rw [show x9.toNat + 1 = (x9 + 1).toNat by omega] at HM
                  clear f0 f1 hlt9 hln9
                  by_cases c97 : x9 = x7
                  · have b97 : (x9 == x7) = true := beq_iff_eq.mpr c97
                    have HH' : Aside0 (x8 = true ↔ Head true l x7.toNat (x9 + 1).toNat) := ⟨by rw [HM.out]; exact HH.out.trans ⟨fun h => ⟨h, fun hne => absurd (by rw [c97]) hne⟩, fun h => h.1⟩⟩
                    clear c97
                    go_wp2
                    repeat (go_quiet (fail); try go_wp2)
                    go_roundw
                    case rel => exact ⟨x8, x9 + 1, rfl, by rw [hw9], by have := HX9.out; omega, by have := HX9.out; omega, HH', by repeat (first | exact Drawn0.refl _ | apply Drawn0.step)⟩
                    case measure => have := HX9.out; simp [intOf]; omega
                  · have b97 : (x9 == x7) = false := beq_eq_false_iff_ne.mpr c97
                    have hne : x9.toNat ≠ x7.toNat := by have := HX9.out; have := HX7.out; omega
                    have HNE := Aside0.mk hne
                    clear c97 hne
                    by_cases c9 : (at_ l x9.toNat).f0 = 2
                    · have b9 : ((at_ l x9.toNat).f0 != 2) = false := bne_eq_false_iff_eq.mpr c9
                      have HA : Aside0 (Head true l x7.toNat (x9 + 1).toNat ↔ Head true l x7.toNat x9.toNat ∧ ¬ Ahead true l x9.toNat x7.toNat) := ⟨by rw [HM.out]; exact ⟨fun h => ⟨h.1, h.2 HNE.out c9⟩, fun h => ⟨h.1, fun _ _ => h.2⟩⟩⟩
                      clear c9 HM
                      have hA : Ahead true l x9.toNat x7.toNat ↔ ((at_ l x9.toNat).f2 < (at_ l x7.toNat).f2 ∨ ((at_ l x9.toNat).f2 = (at_ l x7.toNat).f2 ∧ (at_ l x9.toNat).f1 < (at_ l x7.toNat).f1) ∨ ((at_ l x9.toNat).f2 = (at_ l x7.toNat).f2 ∧ (at_ l x9.toNat).f1 = (at_ l x7.toNat).f1 ∧ x9 < x7)) := by have := HX9.out; have := HX7.out; exact ahead_true l (by omega) (by omega)
                      rw [hA] at HA
                      clear hA
                      generalize (at_ l x9.toNat).f1 = K1 at *
                      generalize (at_ l x9.toNat).f2 = K2 at *
                      generalize (at_ l x7.toNat).f1 = I1 at *
                      generalize (at_ l x7.toNat).f2 = I2 at *
                      by_cases c1 : K2 < I2
                      · have HH' : Aside0 (false = true ↔ Head true l x7.toNat (x9 + 1).toNat) := ⟨by rw [HA.out]; exact ⟨fun h => absurd h (by decide), fun h => absurd (.inl c1) h.2⟩⟩
                        clear HA HH
                        go_wp2
                        repeat (go_quiet (fail); try go_wp2)
                        go_roundw
                        case rel => exact ⟨false, x9 + 1, rfl, by rw [hw9], by have := HX9.out; omega, by have := HX9.out; omega, HH', by repeat (first | exact Drawn0.refl _ | apply Drawn0.step)⟩
                        case measure => have := HX9.out; simp [intOf]; omega
                      · by_cases c2 : K2 = I2
                        · have b2 : (K2 == I2) = true := beq_iff_eq.mpr c2
                          by_cases c3 : K1 < I1
                          · have HH' : Aside0 (false = true ↔ Head true l x7.toNat (x9 + 1).toNat) := ⟨by rw [HA.out]; exact ⟨fun h => absurd h (by decide), fun h => absurd (.inr (.inl ⟨c2, c3⟩)) h.2⟩⟩
                            clear HA HH c2
                            go_wp2
                            repeat (go_quiet (fail); try go_wp2)
                            go_roundw
                            case rel => exact ⟨false, x9 + 1, rfl, by rw [hw9], by have := HX9.out; omega, by have := HX9.out; omega, HH', by repeat (first | exact Drawn0.refl _ | apply Drawn0.step)⟩
                            case measure => have := HX9.out; simp [intOf]; omega
                          · by_cases c4 : K1 = I1
                            · have b4 : (K1 == I1) = true := beq_iff_eq.mpr c4
                              by_cases c5 : x9 < x7
                              · have HH' : Aside0 (false = true ↔ Head true l x7.toNat (x9 + 1).toNat) := ⟨by rw [HA.out]; exact ⟨fun h => absurd h (by decide), fun h => absurd (.inr (.inr ⟨c2, c4, c5⟩)) h.2⟩⟩
                                clear HA HH c2 c4
                                go_wp2
                                repeat (go_quiet (fail); try go_wp2)
                                go_roundw
                                case rel => exact ⟨false, x9 + 1, rfl, by rw [hw9], by have := HX9.out; omega, by have := HX9.out; omega, HH', by repeat (first | exact Drawn0.refl _ | apply Drawn0.step)⟩
                                case measure => have := HX9.out; simp [intOf]; omega
                              · have HH' : Aside0 (x8 = true ↔ Head true l x7.toNat (x9 + 1).toNat) := ⟨by rw [HA.out]; exact HH.out.trans ⟨fun h => ⟨h, by omega⟩, fun h => h.1⟩⟩
                                clear HA HH c2 c4
                                go_wp2
                                repeat (go_quiet (fail); try go_wp2)
                                go_roundw
                                case rel => exact ⟨x8, x9 + 1, rfl, by rw [hw9], by have := HX9.out; omega, by have := HX9.out; omega, HH', by repeat (first | exact Drawn0.refl _ | apply Drawn0.step)⟩
                                case measure => have := HX9.out; simp [intOf]; omega
                            · have b4 : (K1 == I1) = false := beq_eq_false_iff_ne.mpr c4
                              have HH' : Aside0 (x8 = true ↔ Head true l x7.toNat (x9 + 1).toNat) := ⟨by rw [HA.out]; exact HH.out.trans ⟨fun h => ⟨h, by omega⟩, fun h => h.1⟩⟩
                              clear HA HH c2 c4
                              go_wp2
                              repeat (go_quiet (fail); try go_wp2)
                              go_roundw
                              case rel => exact ⟨x8, x9 + 1, rfl, by rw [hw9], by have := HX9.out; omega, by have := HX9.out; omega, HH', by repeat (first | exact Drawn0.refl _ | apply Drawn0.step)⟩
                              case measure => have := HX9.out; simp [intOf]; omega
                        · have b2 : (K2 == I2) = false := beq_eq_false_iff_ne.mpr c2
                          have HH' : Aside0 (x8 = true ↔ Head true l x7.toNat (x9 + 1).toNat) := ⟨by rw [HA.out]; exact HH.out.trans ⟨fun h => ⟨h, by omega⟩, fun h => h.1⟩⟩
                          clear HA HH c2
                          go_wp2
                          repeat (go_quiet (fail); try go_wp2)
                          go_roundw
                          case rel => exact ⟨x8, x9 + 1, rfl, by rw [hw9], by have := HX9.out; omega, by have := HX9.out; omega, HH', by repeat (first | exact Drawn0.refl _ | apply Drawn0.step)⟩
                          case measure => have := HX9.out; simp [intOf]; omega
                    · have b9 : ((at_ l x9.toNat).f0 != 2) = true := bne_iff_ne.mpr c9
                      have HH' : Aside0 (x8 = true ↔ Head true l x7.toNat (x9 + 1).toNat) := ⟨by rw [HM.out]; exact HH.out.trans ⟨fun h => ⟨h, fun _ h2 => absurd h2 c9⟩, fun h => h.1⟩⟩
                      clear c9
                      go_wp2
                      repeat (go_quiet (fail); try go_wp2)
                      go_roundw
                      case rel => exact ⟨x8, x9 + 1, rfl, by rw [hw9], by have := HX9.out; omega, by have := HX9.out; omega, HH', by repeat (first | exact Drawn0.refl _ | apply Drawn0.step)⟩
                      case measure => have := HX9.out; simp [intOf]; omega
                · have hx9 : x9.toNat = l.length := by have := HLN.out; rw [List.length_map] at this; omega
                  have hH := HH.out
                  rw [hx9, head_end HL7.out HK.out HV1.out] at hH
                  have hx7 : ((x7.toNat : Nat) : Int) = x7 := by have := HX7.out; omega
                  rw [hx7] at hH
                  have h9b : decide (x9 < (n : Int)) = false := decide_eq_false hlt9
                  cases x8
                  · have HN' : Aside0 (∀ j : Nat, (j : Int) < x7 + 1 → r ≠ (j : Int)) := ⟨fun j hj e => by
                      by_cases e7 : (j : Int) = x7
                      · exact absurd (hH.2 (by omega)) (by decide)
                      · exact HN.out j (by omega) e⟩
                    clear hx9 hH hx7 HH
                    go_wp2
                    repeat (go_quiet (fail); try go_wp2)
                    go_roundw
                    case rel => exact ⟨x7 + 1, by rw [hw7], by have := HX7.out; omega, by have := HX7.out; omega, HN', by repeat (first | exact Drawn0.refl _ | apply Drawn0.step)⟩
                    case measure => have := HX7.out; simp [intOf]; omega
                  · obtain rfl := hH.1 rfl
                    clear hx9 hH hx7 HH
                    go_wp2
                    repeat (go_quiet (fail); try go_wp2)
                    go_ret
                    exact ⟨rfl, by repeat (first | exact Drawn0.refl _ | apply Drawn0.step)⟩
            · have HN' : Aside0 (∀ j : Nat, (j : Int) < x7 + 1 → r ≠ (j : Int)) := ⟨fun j hj e => by
                by_cases e7 : (j : Int) = x7
                · rcases HV1.out with ⟨h, _⟩ | ⟨m, h, hm, hP, _⟩
                  · omega
                  · have hmx : m = x7.toNat := by omega
                    rw [hmx] at hP
                    exact ck hP
                · exact HN.out j (by omega) e⟩
              have bk : ((at_ l x7.toNat).f0 != 2) = true := bne_iff_ne.mpr ck
              clear ck
              generalize (at_ l x7.toNat).f0 = kk at *
              go_wp2
              repeat (go_quiet (fail); try go_wp2)
              go_roundw
              case rel => exact ⟨x7 + 1, by rw [hw7], by have := HX7.out; omega, by have := HX7.out; omega, HN', by repeat (first | exact Drawn0.refl _ | apply Drawn0.step)⟩
              case measure => have := HX7.out; simp [intOf]; omega
          · have hr : r = -1 := by
              rcases HV1.out with ⟨h, _⟩ | ⟨m, h, hm, hP, _⟩
              · exact h
              · have := HLN.out
                rw [List.length_map] at this
                exact absurd h (HN.out m (by omega))
            subst hr
            have h7b : decide (x7 < (n : Int)) = false := decide_eq_false hlt7
            go_wp2
            repeat (go_quiet (fail); try go_wp2)
            go_ret
            exact ⟨rfl, by repeat (first | exact Drawn0.refl _ | apply Drawn0.step)⟩

/-
  What is proved: the summary of conchref24.literal, as the kit's printer wrote it, one line of it mended. Conditions: those of each theorem.
-/
import Derived.Test.YtbmapjgajecgfaaPWordmRightx0
import Derived.Test.YtbmapjgajecgfaaPWordmRightx1
import Derived.Test.YtbmapjgajecgfaaPWordmRightx2
import Derived.Test.YtbmapjgajecgfaaPWordmRightx3
namespace Go.Proofs.Ytbmapjgajecgfaa.PWordmRight
open Go.RowKit Go.Proofs.YtbmapjgajecgfaaW.PrintWords Go.Proofs.YtbmapjgajecgfaaW.PrintLast Go.Proofs.YtbmapjgajecgfaaW.PrintMore
attribute [local go_sem] max2_int min2_int max_two min_two max_three min_three max_four min_four   -- for this text's walks alone
set_option linter.unusedVariables false
set_option linter.unusedSimpArgs false

/-! ### conchref24_literal: function 75 -/
mutual
def conchref24_literal.l0 : Nat → ByteArray → Int → Int → Option (Bool)
  | 0, _, _, _ => none
  | k + 1, x0, x1, x5 => if x5 < (x0.size : Int) then (if 0 ≤ x5 then ((conchref01_Class.f k (bt x0 x5)).bind fun t106 => (if t106 = 0 then (conchref24_literal.j1 k x0 x1 x5 t106 true) else (if (bt x0 x5) = 36 then (if (wrap64 (x5 + 1)) < (x0.size : Int) then (if 0 ≤ (wrap64 (x5 + 1)) then ((conchref24_dollar.f k (bt x0 (wrap64 (x5 + 1)))).bind fun t107 => (conchref24_literal.j1 k x0 x1 x5 t106 (!t107))) else (none)) else (conchref24_literal.j1 k x0 x1 x5 t106 false)) else (conchref24_literal.j1 k x0 x1 x5 t106 false)))) else (none)) else (some (x0.toList != ([] : List UInt8)))
def conchref24_literal.j1 : Nat → ByteArray → Int → Int → Int → Bool → Option (Bool)
  | 0, _, _, _, _, _ => none
  | k + 1, x0, x1, x5, x6, x39 => if x39 = true then (some false) else (if x1 = 0 then (if x6 = 3 then (conchref24_literal.j2 k x0 x1 x5 x6 false) else (if x6 = 4 then (conchref24_literal.j2 k x0 x1 x5 x6 false) else (if x6 = 8 then (conchref24_literal.j2 k x0 x1 x5 x6 false) else (conchref24_literal.j2 k x0 x1 x5 x6 (x6 != 7))))) else (conchref24_literal.j2 k x0 x1 x5 x6 false))
def conchref24_literal.j2 : Nat → ByteArray → Int → Int → Int → Bool → Option (Bool)
  | 0, _, _, _, _, _ => none
  | k + 1, x0, x1, x5, x6, x57 => if x57 = true then (some false) else (if x1 = 2 then (if 0 ≤ x5 then (if x5 < (x0.size : Int) then (if (bt x0 x5) = 125 then (conchref24_literal.j3 k x0 x1 x5 true) else (conchref24_literal.j3 k x0 x1 x5 (x6 == 6))) else (none)) else (none)) else (conchref24_literal.j3 k x0 x1 x5 false))
def conchref24_literal.j3 : Nat → ByteArray → Int → Int → Bool → Option (Bool)
  | 0, _, _, _, _ => none
  | k + 1, x0, x1, x5, x69 => if x69 = true then (some false) else (if x1 = 1 then (if 0 ≤ x5 then (if x5 < (x0.size : Int) then (if (bt x0 x5) = 34 then (conchref24_literal.j4 k x0 x1 x5 true) else (conchref24_literal.j4 k x0 x1 x5 ((bt x0 x5) == 96))) else (none)) else (none)) else (conchref24_literal.l0 k x0 x1 (wrap64 (x5 + 1))))
def conchref24_literal.j4 : Nat → ByteArray → Int → Int → Bool → Option (Bool)
  | 0, _, _, _, _ => none
  | k + 1, x0, x1, x5, x81 => if x81 = true then (some false) else (if 0 ≤ x5 then (if x5 < (x0.size : Int) then (if (bt x0 x5) = 92 then (if (wrap64 (x5 + 1)) ≥ (x0.size : Int) then (some false) else (if 0 ≤ (wrap64 (x5 + 1)) then (if (wrap64 (x5 + 1)) < (x0.size : Int) then ((conchref24_special.f (bt x0 (wrap64 (x5 + 1)))).bind fun t108 => (if t108 = true then (some false) else (if (bt x0 (wrap64 (x5 + 1))) = 10 then (some false) else (conchref24_literal.l0 k x0 x1 (wrap64 (x5 + 1)))))) else (none)) else (none))) else (conchref24_literal.l0 k x0 x1 (wrap64 (x5 + 1)))) else (none)) else (none))
end
def conchref24_literal.f (k : Nat) (a0 : ByteArray) (a1 : Int) : Option (Bool) := conchref24_literal.l0 k a0 a1 0
theorem conchref24_literal.mono_l : ∀ k, (∀ y0 y1 y2, LeO (conchref24_literal.l0 k y0 y1 y2) (conchref24_literal.l0 (k + 1) y0 y1 y2)) ∧ (∀ y0 y1 y2 y3 y4, LeO (conchref24_literal.j1 k y0 y1 y2 y3 y4) (conchref24_literal.j1 (k + 1) y0 y1 y2 y3 y4)) ∧ (∀ y0 y1 y2 y3 y4, LeO (conchref24_literal.j2 k y0 y1 y2 y3 y4) (conchref24_literal.j2 (k + 1) y0 y1 y2 y3 y4)) ∧ (∀ y0 y1 y2 y3, LeO (conchref24_literal.j3 k y0 y1 y2 y3) (conchref24_literal.j3 (k + 1) y0 y1 y2 y3)) ∧ (∀ y0 y1 y2 y3, LeO (conchref24_literal.j4 k y0 y1 y2 y3) (conchref24_literal.j4 (k + 1) y0 y1 y2 y3))
  | 0 => ⟨fun _ _ _ r h => by simp [conchref24_literal.l0] at h, fun _ _ _ _ _ r h => by simp [conchref24_literal.j1] at h, fun _ _ _ _ _ r h => by simp [conchref24_literal.j2] at h, fun _ _ _ _ r h => by simp [conchref24_literal.j3] at h, fun _ _ _ _ r h => by simp [conchref24_literal.j4] at h⟩
  | k + 1 => by
    obtain ⟨ih0, ih1, ih2, ih3, ih4⟩ := conchref24_literal.mono_l k
    refine ⟨?_, ?_, ?_, ?_, ?_⟩
    · intro y0 y1 y2
      unfold conchref24_literal.l0
      repeat' first
      | (with_reducible exact ih0 _ _ _)
      | (with_reducible exact ih1 _ _ _ _ _)
      | (with_reducible exact ih2 _ _ _ _ _)
      | (with_reducible exact ih3 _ _ _ _)
      | (with_reducible exact ih4 _ _ _ _)
      | (with_reducible exact conchref01_Class.mono _ _)
      | (with_reducible exact conchref24_dollar.mono _ _)
      | (with_reducible exact LeO.refl _)
      | (with_reducible exact LeO.none _)
      | (with_reducible refine LeO.ite ?_ ?_)
      | (with_reducible refine LeO.bind ?_ (fun _ => ?_))
      | exact ih0 _ _ _
      | exact ih1 _ _ _ _ _
      | exact ih2 _ _ _ _ _
      | exact ih3 _ _ _ _
      | exact ih4 _ _ _ _
      | exact conchref01_Class.mono _ _
      | exact conchref24_dollar.mono _ _
      | exact LeO.none _
      | refine LeO.ite ?_ ?_
      | refine LeO.bind ?_ (fun _ => ?_)
    · intro y0 y1 y2 y3 y4
      unfold conchref24_literal.j1
      repeat' first
      | (with_reducible exact ih0 _ _ _)
      | (with_reducible exact ih1 _ _ _ _ _)
      | (with_reducible exact ih2 _ _ _ _ _)
      | (with_reducible exact ih3 _ _ _ _)
      | (with_reducible exact ih4 _ _ _ _)
      | (with_reducible exact conchref01_Class.mono _ _)
      | (with_reducible exact conchref24_dollar.mono _ _)
      | (with_reducible exact LeO.refl _)
      | (with_reducible exact LeO.none _)
      | (with_reducible refine LeO.ite ?_ ?_)
      | (with_reducible refine LeO.bind ?_ (fun _ => ?_))
      | exact ih0 _ _ _
      | exact ih1 _ _ _ _ _
      | exact ih2 _ _ _ _ _
      | exact ih3 _ _ _ _
      | exact ih4 _ _ _ _
      | exact conchref01_Class.mono _ _
      | exact conchref24_dollar.mono _ _
      | exact LeO.none _
      | refine LeO.ite ?_ ?_
      | refine LeO.bind ?_ (fun _ => ?_)
    · intro y0 y1 y2 y3 y4
      unfold conchref24_literal.j2
      repeat' first
      | (with_reducible exact ih0 _ _ _)
      | (with_reducible exact ih1 _ _ _ _ _)
      | (with_reducible exact ih2 _ _ _ _ _)
      | (with_reducible exact ih3 _ _ _ _)
      | (with_reducible exact ih4 _ _ _ _)
      | (with_reducible exact conchref01_Class.mono _ _)
      | (with_reducible exact conchref24_dollar.mono _ _)
      | (with_reducible exact LeO.refl _)
      | (with_reducible exact LeO.none _)
      | (with_reducible refine LeO.ite ?_ ?_)
      | (with_reducible refine LeO.bind ?_ (fun _ => ?_))
      | exact ih0 _ _ _
      | exact ih1 _ _ _ _ _
      | exact ih2 _ _ _ _ _
      | exact ih3 _ _ _ _
      | exact ih4 _ _ _ _
      | exact conchref01_Class.mono _ _
      | exact conchref24_dollar.mono _ _
      | exact LeO.none _
      | refine LeO.ite ?_ ?_
      | refine LeO.bind ?_ (fun _ => ?_)
    · intro y0 y1 y2 y3
      unfold conchref24_literal.j3
      repeat' first
      | (with_reducible exact ih0 _ _ _)
      | (with_reducible exact ih1 _ _ _ _ _)
      | (with_reducible exact ih2 _ _ _ _ _)
      | (with_reducible exact ih3 _ _ _ _)
      | (with_reducible exact ih4 _ _ _ _)
      | (with_reducible exact conchref01_Class.mono _ _)
      | (with_reducible exact conchref24_dollar.mono _ _)
      | (with_reducible exact LeO.refl _)
      | (with_reducible exact LeO.none _)
      | (with_reducible refine LeO.ite ?_ ?_)
      | (with_reducible refine LeO.bind ?_ (fun _ => ?_))
      | exact ih0 _ _ _
      | exact ih1 _ _ _ _ _
      | exact ih2 _ _ _ _ _
      | exact ih3 _ _ _ _
      | exact ih4 _ _ _ _
      | exact conchref01_Class.mono _ _
      | exact conchref24_dollar.mono _ _
      | exact LeO.none _
      | refine LeO.ite ?_ ?_
      | refine LeO.bind ?_ (fun _ => ?_)
    · intro y0 y1 y2 y3
      unfold conchref24_literal.j4
      repeat' first
      | (with_reducible exact ih0 _ _ _)
      | (with_reducible exact ih1 _ _ _ _ _)
      | (with_reducible exact ih2 _ _ _ _ _)
      | (with_reducible exact ih3 _ _ _ _)
      | (with_reducible exact ih4 _ _ _ _)
      | (with_reducible exact conchref01_Class.mono _ _)
      | (with_reducible exact conchref24_dollar.mono _ _)
      | (with_reducible exact LeO.refl _)
      | (with_reducible exact LeO.none _)
      | (with_reducible refine LeO.ite ?_ ?_)
      | (with_reducible refine LeO.bind ?_ (fun _ => ?_))
      | exact ih0 _ _ _
      | exact ih1 _ _ _ _ _
      | exact ih2 _ _ _ _ _
      | exact ih3 _ _ _ _
      | exact ih4 _ _ _ _
      | exact conchref01_Class.mono _ _
      | exact conchref24_dollar.mono _ _
      | exact LeO.none _
      | refine LeO.ite ?_ ?_
      | refine LeO.bind ?_ (fun _ => ?_)
theorem conchref24_literal.mono : ∀ a0 a1 k, LeO (conchref24_literal.f k a0 a1) (conchref24_literal.f (k + 1) a0 a1) := by
  intro a0 a1 k
  obtain ⟨ih0, ih1, ih2, ih3, ih4⟩ := conchref24_literal.mono_l k
  unfold conchref24_literal.f
  repeat' first
      | (with_reducible exact ih0 _ _ _)
      | (with_reducible exact ih1 _ _ _ _ _)
      | (with_reducible exact ih2 _ _ _ _ _)
      | (with_reducible exact ih3 _ _ _ _)
      | (with_reducible exact ih4 _ _ _ _)
      | (with_reducible exact conchref01_Class.mono _ _)
      | (with_reducible exact conchref24_dollar.mono _ _)
      | (with_reducible exact LeO.refl _)
      | (with_reducible exact LeO.none _)
      | (with_reducible refine LeO.ite ?_ ?_)
      | (with_reducible refine LeO.bind ?_ (fun _ => ?_))
      | exact ih0 _ _ _
      | exact ih1 _ _ _ _ _
      | exact ih2 _ _ _ _ _
      | exact ih3 _ _ _ _
      | exact ih4 _ _ _ _
      | exact conchref01_Class.mono _ _
      | exact conchref24_dollar.mono _ _
      | exact LeO.none _
      | refine LeO.ite ?_ ?_
      | refine LeO.bind ?_ (fun _ => ?_)
set_option maxHeartbeats 8000000 in
set_option maxRecDepth 100000 in
theorem conchref24_literal.calls (k : Nat) (a0 : ByteArray) (a1 : Int) (r : Bool) (w : World) (h : conchref24_literal.f k a0 a1 = some r) :
    Calls Try.prog 75 #[.string a0, .int .i64 a1] w fun e w' => e = .returned (.bool r) ∧ Drawn0 w w' := by
  have H : (conchref24_literal.l0 k a0 a1 0) = some r := h
  clear h
  have H' := Aside0.mk H
  clear H
  go_enter Try.func75, Try.ntmps75
  go_wp2
  go_loopg [5] k (fun kq v5 w' => ∃ (x5_1 : Int), v5 = .int .i64 x5_1 ∧ Aside0 (conchref24_literal.l0 kq a0 a1 x5_1 = some r) ∧ Aside0 (kq ≤ k) ∧ Drawn0 w w')
  case atStart => exact ⟨(0), (by first | rfl | (simp; done) | (simp [*]; done)), H', ⟨Nat.le_refl _⟩, by repeat (first | exact Drawn0.refl _ | apply Drawn0.step)⟩
  case round =>
    clear H'
    try clear p2
    obtain ⟨x5_1, rfl, HA, HK1, ⟨m1, rfl⟩⟩ := hrel
    cases gk with
    | zero => exact absurd HA.out (by simp [conchref24_literal.l0])
    | succ k1 =>
      have H := HA.out
      clear HA
      simp only [conchref24_literal.l0] at H
      by_cases c3 : x5_1 < (a0.size : Int)
      · rw [if_pos c3] at H
        have c3b0 : decide (x5_1 < (a0.size : Int)) = true := decide_eq_true c3
        clear c3
        by_cases c4 : 0 ≤ x5_1
        · rw [if_pos c4] at H
          have c4b0 : decide (0 ≤ x5_1) = true := decide_eq_true c4
          clear c4
          replace H := Option.bind_eq_some_iff.mp H
          obtain ⟨t106, A60, H⟩ := H
          replace H : (if t106 = 0 then (conchref24_literal.j1 k1 a0 a1 x5_1 t106 true) else (if (bt a0 x5_1) = 36 then (if (wrap64 (x5_1 + 1)) < (a0.size : Int) then (if 0 ≤ (wrap64 (x5_1 + 1)) then ((conchref24_dollar.f k1 (bt a0 (wrap64 (x5_1 + 1)))).bind fun t107 => (conchref24_literal.j1 k1 a0 a1 x5_1 t106 (!t107))) else (none)) else (conchref24_literal.j1 k1 a0 a1 x5_1 t106 false)) else (conchref24_literal.j1 k1 a0 a1 x5_1 t106 false))) = some r := H
          have A6 := Aside0.mk A60
          clear A60
          have HC7 := Aside0.mk H
          clear H
          have p5 : 0 ≤ (x5_1 : Int) := of_decide_eq_true (by first | (with_reducible assumption) | assumption)
          have q5 : x5_1 < (a0.size : Int) := of_decide_eq_true (by first | (with_reducible assumption) | assumption)
          have hx5 := bt_at a0 x5_1
          replace p5 := eq_true p5
          replace q5 := eq_true q5
          go_upto_region 5 with (first | ((with_reducible refine gate_callee (f := 87) rfl ?_); refine goesL_ (some 16) rfl rfl Try.func87 (by kernel_rfl) rfl #[.int .u8 (bt a0 x5_1)] rfl (by (try simp only [List.map_toArray, List.map_cons, List.map_nil]); first | done | rfl | (simp only [List.length_drop, List.length_take]; rfl)) ?_; (with_reducible refine (conchref01_Class.calls k1 (bt a0 x5_1) t106 _ A6.out).mono ?_); rintro e w' ⟨rfl, ⟨nd, rfl⟩⟩; refine ⟨_, rfl, ?_⟩))
          (try simp only [Act.put, List.setIfInBounds_toArray, List.set_cons_zero, List.set_cons_succ])
          go_cut [39] (fun v39 wc => ∃ (kq : Nat) (x39_6 : Bool), v39 = .bool x39_6 ∧ Aside0 (conchref24_literal.j1 kq a0 a1 x5_1 t106 x39_6 = some r) ∧ Aside0 (kq ≤ k1) ∧ Drawn0 w wc)
          case first =>
            have H := HC7.out
            clear HC7
            by_cases c8 : t106 = 0
            · rw [if_pos c8] at H
              have c8b0 : (t106 == 0) = true := beq_iff_eq.mpr c8
              have c8b1 : (t106 != 0) = false := bne_eq_false_iff_eq.mpr c8
              clear c8
              (first | rw [c8b0] | (simp only [i64_w, i32_w]; rw [c8b0]) | skip)
              have H' := Aside0.mk H
              clear H
              go_wp2
              go_meet
              case rel => exact ⟨_, (true), (by first | rfl | (simp; done) | (simp [*]; done)), H', ⟨by have := HK1.out; first | omega | exact Nat.le_refl _⟩, by repeat (first | exact Drawn0.refl _ | apply Drawn0.step)⟩
            · rw [if_neg c8] at H
              have c8b0 : (t106 == 0) = false := beq_eq_false_iff_ne.mpr c8
              have c8b1 : (t106 != 0) = true := bne_iff_ne.mpr c8
              (first | rw [c8b0] | (simp only [i64_w, i32_w]; rw [c8b0]) | skip)
              by_cases c10 : (bt a0 x5_1) = 36
              · rw [if_pos c10] at H
                have c10b0 : ((bt a0 x5_1) == 36) = true := beq_iff_eq.mpr c10
                have c10b1 : ((bt a0 x5_1) != 36) = false := bne_eq_false_iff_eq.mpr c10
                clear c10
                by_cases c11 : (wrap64 (x5_1 + 1)) < (a0.size : Int)
                · rw [if_pos c11] at H
                  have c11b0 : decide ((wrap64 (x5_1 + 1)) < (a0.size : Int)) = true := decide_eq_true c11
                  clear c11
                  obtain ⟨ji12, hji12⟩ : ∃ j_ : Int, (wrap64 (x5_1 + 1)) = j_ := ⟨_, rfl⟩
                  replace H : (if 0 ≤ (ji12) then ((conchref24_dollar.f k1 (bt a0 (ji12))).bind fun t107 => (conchref24_literal.j1 k1 a0 a1 x5_1 t106 (!t107))) else (none)) = some r := by first | (rw [hji12] at H; exact H) | (simp only [hji12] at H ⊢; exact H)
                  (try rw [hji12] at c11b0)
                  have hji12w : (IntKind.i64.wrap (x5_1 + 1)) = ji12 := (i64_w _).trans hji12
                  by_cases c13 : 0 ≤ (ji12)
                  · rw [if_pos c13] at H
                    have c13b0 : decide (0 ≤ (ji12)) = true := decide_eq_true c13
                    clear c13
                    replace H := Option.bind_eq_some_iff.mp H
                    obtain ⟨t107, A150, H⟩ := H
                    replace H : (conchref24_literal.j1 k1 a0 a1 x5_1 t106 (!t107)) = some r := H
                    have A15 := Aside0.mk A150
                    clear A150
                    have H' := Aside0.mk H
                    clear H
                    have p9 : 0 ≤ (x5_1 : Int) := of_decide_eq_true (by first | (with_reducible assumption) | assumption)
                    have q9 : x5_1 < (a0.size : Int) := of_decide_eq_true (by first | (with_reducible assumption) | assumption)
                    have hx9 := bt_at a0 x5_1
                    replace p9 := eq_true p9
                    replace q9 := eq_true q9
                    have p14 : 0 ≤ ((ji12) : Int) := of_decide_eq_true (by first | (with_reducible assumption) | assumption)
                    have q14 : (ji12) < (a0.size : Int) := of_decide_eq_true (by first | (with_reducible assumption) | assumption)
                    have hx14 := bt_at a0 (ji12)
                    replace p14 := eq_true p14
                    replace q14 := eq_true q14
                    go_wp2_with (first | (go_at_call 88; (with_reducible refine (conchref24_dollar.calls k1 (bt a0 (ji12)) t107 _ A15.out).mono ?_); rintro e w' ⟨rfl, ⟨nd, rfl⟩⟩))
                    go_meet
                    case rel => exact ⟨_, (!t107), (by first | rfl | (simp; done) | (simp [*]; done)), H', ⟨by have := HK1.out; first | omega | exact Nat.le_refl _⟩, by repeat (first | exact Drawn0.refl _ | apply Drawn0.step)⟩
                  · rw [if_neg c13] at H
                    exact absurd H (by simp)
                · rw [if_neg c11] at H
                  have c11b0 : decide ((wrap64 (x5_1 + 1)) < (a0.size : Int)) = false := decide_eq_false c11
                  clear c11
                  have H' := Aside0.mk H
                  clear H
                  have p9 : 0 ≤ (x5_1 : Int) := of_decide_eq_true (by first | (with_reducible assumption) | assumption)
                  have q9 : x5_1 < (a0.size : Int) := of_decide_eq_true (by first | (with_reducible assumption) | assumption)
                  have hx9 := bt_at a0 x5_1
                  replace p9 := eq_true p9
                  replace q9 := eq_true q9
                  go_wp2
                  go_meet
                  case rel => exact ⟨_, (false), (by first | rfl | (simp; done) | (simp [*]; done)), H', ⟨by have := HK1.out; first | omega | exact Nat.le_refl _⟩, by repeat (first | exact Drawn0.refl _ | apply Drawn0.step)⟩
              · rw [if_neg c10] at H
                have c10b0 : ((bt a0 x5_1) == 36) = false := beq_eq_false_iff_ne.mpr c10
                have c10b1 : ((bt a0 x5_1) != 36) = true := bne_iff_ne.mpr c10
                have H' := Aside0.mk H
                clear H
                have p9 : 0 ≤ (x5_1 : Int) := of_decide_eq_true (by first | (with_reducible assumption) | assumption)
                have q9 : x5_1 < (a0.size : Int) := of_decide_eq_true (by first | (with_reducible assumption) | assumption)
                have hx9 := bt_at a0 x5_1
                replace p9 := eq_true p9
                replace q9 := eq_true q9
                go_wp2
                go_meet
                case rel => exact ⟨_, (false), (by first | rfl | (simp; done) | (simp [*]; done)), H', ⟨by have := HK1.out; first | omega | exact Nat.le_refl _⟩, by repeat (first | exact Drawn0.refl _ | apply Drawn0.step)⟩
          case rest =>
            clear HC7
            try clear c1
            try clear p1
            try clear q1
            try clear hx1
            try clear p2
            try clear c3
            try clear c3b0
            try clear c4
            try clear c4b0
            try clear p5
            try clear q5
            try clear hx5
            try clear p6
            try clear c7
            try clear c8
            try clear c8b0
            try clear c8b1
            try clear p9
            try clear q9
            try clear hx9
            try clear c10
            try clear c10b0
            try clear c10b1
            try clear c11
            try clear c11b0
            try clear c13
            try clear c13b0
            try clear p14
            try clear q14
            try clear hx14
            try clear p14
            try clear p2
            try clear p5
            try clear p9
            try clear q14
            try clear q5
            try clear q9
            obtain ⟨kq, x39_6, rfl, HA, HJ6, ⟨mc6, rfl⟩⟩ := hcut
            cases kq with
            | zero => exact absurd HA.out (by simp [conchref24_literal.j1])
            | succ kj6 =>
              have H := HA.out
              clear HA
              simp only [conchref24_literal.j1] at H
              by_cases c16 : x39_6 = true
              · subst c16
                have H1 : (some false) = some r := by rw [if_pos rfl] at H; exact H
                clear H
                have H := H1
                clear H1
                obtain rfl := Option.some.inj H
                go_wp2
                go_ret
                exact ⟨by first | rfl | (simp; done) | (simp [*]; done), by repeat (first | exact Drawn0.refl _ | apply Drawn0.step)⟩
              · replace c16 := Bool.eq_false_iff.mpr c16
                subst c16
                have H1 : (if a1 = 0 then (if t106 = 3 then (conchref24_literal.j2 kj6 a0 a1 x5_1 t106 false) else (if t106 = 4 then (conchref24_literal.j2 kj6 a0 a1 x5_1 t106 false) else (if t106 = 8 then (conchref24_literal.j2 kj6 a0 a1 x5_1 t106 false) else (conchref24_literal.j2 kj6 a0 a1 x5_1 t106 (t106 != 7))))) else (conchref24_literal.j2 kj6 a0 a1 x5_1 t106 false)) = some r := by rw [if_neg (show ¬ (false = true) by decide)] at H; exact H
                clear H
                have H := H1
                clear H1
                have HC17 := Aside0.mk H
                clear H
                go_upto_region 7 with (fail)
                go_cut [57] (fun v57 wc => ∃ (kq : Nat) (x57_16 : Bool), v57 = .bool x57_16 ∧ Aside0 (conchref24_literal.j2 kq a0 a1 x5_1 t106 x57_16 = some r) ∧ Aside0 (kq ≤ kj6) ∧ Drawn0 w wc)
                case first =>
                  have H := HC17.out
                  clear HC17
                  by_cases c18 : a1 = 0
                  · rw [if_pos c18] at H
                    have c18b0 : (a1 == 0) = true := beq_iff_eq.mpr c18
                    have c18b1 : (a1 != 0) = false := bne_eq_false_iff_eq.mpr c18
                    clear c18
                    (first | rw [c18b0] | (simp only [i64_w, i32_w]; rw [c18b0]) | skip)
                    by_cases c19 : t106 = 3
                    · rw [if_pos c19] at H
                      have c19b0 : (t106 == 3) = true := beq_iff_eq.mpr c19
                      have c19b1 : (t106 != 3) = false := bne_eq_false_iff_eq.mpr c19
                      clear c19
                      have H' := Aside0.mk H
                      clear H
                      go_wp2
                      go_meet
                      case rel => exact ⟨_, (false), (by first | rfl | (simp; done) | (simp [*]; done)), H', ⟨by have := HK1.out; have := HJ6.out; first | omega | exact Nat.le_refl _⟩, by repeat (first | exact Drawn0.refl _ | apply Drawn0.step)⟩
                    · rw [if_neg c19] at H
                      have c19b0 : (t106 == 3) = false := beq_eq_false_iff_ne.mpr c19
                      have c19b1 : (t106 != 3) = true := bne_iff_ne.mpr c19
                      by_cases c20 : t106 = 4
                      · rw [if_pos c20] at H
                        have c20b0 : (t106 == 4) = true := beq_iff_eq.mpr c20
                        have c20b1 : (t106 != 4) = false := bne_eq_false_iff_eq.mpr c20
                        clear c20
                        have H' := Aside0.mk H
                        clear H
                        go_wp2
                        go_meet
                        case rel => exact ⟨_, (false), (by first | rfl | (simp; done) | (simp [*]; done)), H', ⟨by have := HK1.out; have := HJ6.out; first | omega | exact Nat.le_refl _⟩, by repeat (first | exact Drawn0.refl _ | apply Drawn0.step)⟩
                      · rw [if_neg c20] at H
                        have c20b0 : (t106 == 4) = false := beq_eq_false_iff_ne.mpr c20
                        have c20b1 : (t106 != 4) = true := bne_iff_ne.mpr c20
                        by_cases c21 : t106 = 8
                        · rw [if_pos c21] at H
                          have c21b0 : (t106 == 8) = true := beq_iff_eq.mpr c21
                          have c21b1 : (t106 != 8) = false := bne_eq_false_iff_eq.mpr c21
                          clear c21
                          have H' := Aside0.mk H
                          clear H
                          go_wp2
                          go_meet
                          case rel => exact ⟨_, (false), (by first | rfl | (simp; done) | (simp [*]; done)), H', ⟨by have := HK1.out; have := HJ6.out; first | omega | exact Nat.le_refl _⟩, by repeat (first | exact Drawn0.refl _ | apply Drawn0.step)⟩
                        · rw [if_neg c21] at H
                          have c21b0 : (t106 == 8) = false := beq_eq_false_iff_ne.mpr c21
                          have c21b1 : (t106 != 8) = true := bne_iff_ne.mpr c21
                          have H' := Aside0.mk H
                          clear H
                          go_wp2
                          go_meet
                          case rel => exact ⟨_, ((t106 != 7)), (by first | rfl | (simp; done) | (simp [*]; done)), H', ⟨by have := HK1.out; have := HJ6.out; first | omega | exact Nat.le_refl _⟩, by repeat (first | exact Drawn0.refl _ | apply Drawn0.step)⟩
                  · rw [if_neg c18] at H
                    have c18b0 : (a1 == 0) = false := beq_eq_false_iff_ne.mpr c18
                    have c18b1 : (a1 != 0) = true := bne_iff_ne.mpr c18
                    (first | rw [c18b0] | (simp only [i64_w, i32_w]; rw [c18b0]) | skip)
                    have H' := Aside0.mk H
                    clear H
                    go_wp2
                    go_meet
                    case rel => exact ⟨_, (false), (by first | rfl | (simp; done) | (simp [*]; done)), H', ⟨by have := HK1.out; have := HJ6.out; first | omega | exact Nat.le_refl _⟩, by repeat (first | exact Drawn0.refl _ | apply Drawn0.step)⟩
                case rest =>
                  clear HC17
                  try clear c1
                  try clear p1
                  try clear q1
                  try clear hx1
                  try clear c2
                  try clear p2
                  try clear c3
                  try clear c3b0
                  try clear c4
                  try clear c4b0
                  try clear p5
                  try clear q5
                  try clear hx5
                  try clear c6
                  try clear p6
                  try clear c7
                  try clear c8
                  try clear c8b0
                  try clear c8b1
                  try clear p9
                  try clear q9
                  try clear hx9
                  try clear c10
                  try clear c10b0
                  try clear c10b1
                  try clear c11
                  try clear c11b0
                  try clear c13
                  try clear c13b0
                  try clear p14
                  try clear q14
                  try clear hx14
                  try clear c16
                  try clear c18
                  try clear c18b0
                  try clear c18b1
                  try clear c19
                  try clear c19b0
                  try clear c19b1
                  try clear c20
                  try clear c20b0
                  try clear c20b1
                  try clear c21
                  try clear c21b0
                  try clear c21b1
                  try clear p1
                  try clear p14
                  try clear p2
                  try clear p5
                  try clear p6
                  try clear p9
                  try clear q1
                  try clear q14
                  try clear q5
                  try clear q9
                  obtain ⟨kq, x57_16, rfl, HA, HJ16, ⟨mc16, rfl⟩⟩ := hcut
                  cases kq with
                  | zero => exact absurd HA.out (by simp [conchref24_literal.j2])
                  | succ kj16 =>
                    have H := HA.out
                    clear HA
                    simp only [conchref24_literal.j2] at H
                    by_cases c22 : x57_16 = true
                    · subst c22
                      have H1 : (some false) = some r := by rw [if_pos rfl] at H; exact H
                      clear H
                      have H := H1
                      clear H1
                      obtain rfl := Option.some.inj H
                      go_wp2
                      go_ret
                      exact ⟨by first | rfl | (simp; done) | (simp [*]; done), by repeat (first | exact Drawn0.refl _ | apply Drawn0.step)⟩
                    · replace c22 := Bool.eq_false_iff.mpr c22
                      subst c22
                      have H1 : (if a1 = 2 then (if 0 ≤ x5_1 then (if x5_1 < (a0.size : Int) then (if (bt a0 x5_1) = 125 then (conchref24_literal.j3 kj16 a0 a1 x5_1 true) else (conchref24_literal.j3 kj16 a0 a1 x5_1 (t106 == 6))) else (none)) else (none)) else (conchref24_literal.j3 kj16 a0 a1 x5_1 false)) = some r := by rw [if_neg (show ¬ (false = true) by decide)] at H; exact H
                      clear H
                      have H := H1
                      clear H1
                      have HC23 := Aside0.mk H
                      clear H
                      go_upto_region 9 with (fail)
                      go_cut [69] (fun v69 wc => ∃ (kq : Nat) (x69_22 : Bool), v69 = .bool x69_22 ∧ Aside0 (conchref24_literal.j3 kq a0 a1 x5_1 x69_22 = some r) ∧ Aside0 (kq ≤ kj16) ∧ Drawn0 w wc)
                      case first =>
                        have H := HC23.out
                        clear HC23
                        by_cases c24 : a1 = 2
                        · rw [if_pos c24] at H
                          have c24b0 : (a1 == 2) = true := beq_iff_eq.mpr c24
                          have c24b1 : (a1 != 2) = false := bne_eq_false_iff_eq.mpr c24
                          clear c24
                          (first | rw [c24b0] | (simp only [i64_w, i32_w]; rw [c24b0]) | skip)
                          by_cases c25 : 0 ≤ x5_1
                          · rw [if_pos c25] at H
                            have c25b0 : decide (0 ≤ x5_1) = true := decide_eq_true c25
                            clear c25
                            by_cases c26 : x5_1 < (a0.size : Int)
                            · rw [if_pos c26] at H
                              have c26b0 : decide (x5_1 < (a0.size : Int)) = true := decide_eq_true c26
                              clear c26
                              by_cases c28 : (bt a0 x5_1) = 125
                              · rw [if_pos c28] at H
                                have c28b0 : ((bt a0 x5_1) == 125) = true := beq_iff_eq.mpr c28
                                have c28b1 : ((bt a0 x5_1) != 125) = false := bne_eq_false_iff_eq.mpr c28
                                clear c28
                                have H' := Aside0.mk H
                                clear H
                                have p27 : 0 ≤ (x5_1 : Int) := of_decide_eq_true (by first | (with_reducible assumption) | assumption)
                                have q27 : x5_1 < (a0.size : Int) := of_decide_eq_true (by first | (with_reducible assumption) | assumption)
                                have hx27 := bt_at a0 x5_1
                                replace p27 := eq_true p27
                                replace q27 := eq_true q27
                                go_wp2
                                go_meet
                                case rel => exact ⟨_, (true), (by first | rfl | (simp; done) | (simp [*]; done)), H', ⟨by have := HK1.out; have := HJ6.out; have := HJ16.out; first | omega | exact Nat.le_refl _⟩, by repeat (first | exact Drawn0.refl _ | apply Drawn0.step)⟩
                              · rw [if_neg c28] at H
                                have c28b0 : ((bt a0 x5_1) == 125) = false := beq_eq_false_iff_ne.mpr c28
                                have c28b1 : ((bt a0 x5_1) != 125) = true := bne_iff_ne.mpr c28
                                have H' := Aside0.mk H
                                clear H
                                have p27 : 0 ≤ (x5_1 : Int) := of_decide_eq_true (by first | (with_reducible assumption) | assumption)
                                have q27 : x5_1 < (a0.size : Int) := of_decide_eq_true (by first | (with_reducible assumption) | assumption)
                                have hx27 := bt_at a0 x5_1
                                replace p27 := eq_true p27
                                replace q27 := eq_true q27
                                go_wp2
                                go_meet
                                case rel => exact ⟨_, ((t106 == 6)), (by first | rfl | (simp; done) | (simp [*]; done)), H', ⟨by have := HK1.out; have := HJ6.out; have := HJ16.out; first | omega | exact Nat.le_refl _⟩, by repeat (first | exact Drawn0.refl _ | apply Drawn0.step)⟩
                            · rw [if_neg c26] at H
                              exact absurd H (by simp)
                          · rw [if_neg c25] at H
                            exact absurd H (by simp)
                        · rw [if_neg c24] at H
                          have c24b0 : (a1 == 2) = false := beq_eq_false_iff_ne.mpr c24
                          have c24b1 : (a1 != 2) = true := bne_iff_ne.mpr c24
                          (first | rw [c24b0] | (simp only [i64_w, i32_w]; rw [c24b0]) | skip)
                          have H' := Aside0.mk H
                          clear H
                          go_wp2
                          go_meet
                          case rel => exact ⟨_, (false), (by first | rfl | (simp; done) | (simp [*]; done)), H', ⟨by have := HK1.out; have := HJ6.out; have := HJ16.out; first | omega | exact Nat.le_refl _⟩, by repeat (first | exact Drawn0.refl _ | apply Drawn0.step)⟩
                      case rest =>
                        clear HC23
                        try clear c1
                        try clear p1
                        try clear q1
                        try clear hx1
                        try clear c2
                        try clear p2
                        try clear q2
                        try clear hx2
                        try clear c3
                        try clear c3b0
                        try clear c4
                        try clear c4b0
                        try clear p5
                        try clear q5
                        try clear hx5
                        try clear c6
                        try clear p6
                        try clear c7
                        try clear c8
                        try clear c8b0
                        try clear c8b1
                        try clear p9
                        try clear q9
                        try clear hx9
                        try clear c10
                        try clear c10b0
                        try clear c10b1
                        try clear c11
                        try clear c11b0
                        try clear c13
                        try clear c13b0
                        try clear p14
                        try clear q14
                        try clear hx14
                        try clear c16
                        try clear c18
                        try clear c18b0
                        try clear c18b1
                        try clear c19
                        try clear c19b0
                        try clear c19b1
                        try clear c20
                        try clear c20b0
                        try clear c20b1
                        try clear c21
                        try clear c21b0
                        try clear c21b1
                        try clear c22
                        try clear c24
                        try clear c24b0
                        try clear c24b1
                        try clear c25
                        try clear c25b0
                        try clear c26
                        try clear c26b0
                        try clear p27
                        try clear q27
                        try clear hx27
                        try clear c28
                        try clear c28b0
                        try clear c28b1
                        try clear p1
                        try clear p14
                        try clear p2
                        try clear p27
                        try clear p5
                        try clear p6
                        try clear p9
                        try clear q1
                        try clear q14
                        try clear q27
                        try clear q5
                        try clear q9
                        obtain ⟨kq, x69_22, rfl, HA, HJ22, ⟨mc22, rfl⟩⟩ := hcut
                        cases kq with
                        | zero => exact absurd HA.out (by simp [conchref24_literal.j3])
                        | succ kj22 =>
                          have H := HA.out
                          clear HA
                          simp only [conchref24_literal.j3] at H
                          by_cases c29 : x69_22 = true
                          · subst c29
                            have H1 : (some false) = some r := by rw [if_pos rfl] at H; exact H
                            clear H
                            have H := H1
                            clear H1
                            obtain rfl := Option.some.inj H
                            go_wp2
                            go_ret
                            exact ⟨by first | rfl | (simp; done) | (simp [*]; done), by repeat (first | exact Drawn0.refl _ | apply Drawn0.step)⟩
                          · replace c29 := Bool.eq_false_iff.mpr c29
                            subst c29
                            have H1 : (if a1 = 1 then (if 0 ≤ x5_1 then (if x5_1 < (a0.size : Int) then (if (bt a0 x5_1) = 34 then (conchref24_literal.j4 kj22 a0 a1 x5_1 true) else (conchref24_literal.j4 kj22 a0 a1 x5_1 ((bt a0 x5_1) == 96))) else (none)) else (none)) else (conchref24_literal.l0 kj22 a0 a1 (wrap64 (x5_1 + 1)))) = some r := by rw [if_neg (show ¬ (false = true) by decide)] at H; exact H
                            clear H
                            have H := H1
                            clear H1
                            by_cases c30 : a1 = 1
                            · rw [if_pos c30] at H
                              have c30b0 : (a1 == 1) = true := beq_iff_eq.mpr c30
                              have c30b1 : (a1 != 1) = false := bne_eq_false_iff_eq.mpr c30
                              clear c30
                              have HC31 := Aside0.mk H
                              clear H
                              go_upto_region 12 with (fail)
                              go_cut [81] (fun v81 wc => ∃ (kq : Nat) (x81_30 : Bool), v81 = .bool x81_30 ∧ Aside0 (conchref24_literal.j4 kq a0 a1 x5_1 x81_30 = some r) ∧ Aside0 (kq ≤ kj22) ∧ Drawn0 w wc)
                              case first =>
                                have H := HC31.out
                                clear HC31
                                by_cases c32 : 0 ≤ x5_1
                                · rw [if_pos c32] at H
                                  have c32b0 : decide (0 ≤ x5_1) = true := decide_eq_true c32
                                  clear c32
                                  (first | rw [c32b0] | (simp only [i64_w, i32_w]; rw [c32b0]) | skip)
                                  by_cases c33 : x5_1 < (a0.size : Int)
                                  · rw [if_pos c33] at H
                                    have c33b0 : decide (x5_1 < (a0.size : Int)) = true := decide_eq_true c33
                                    clear c33
                                    by_cases c35 : (bt a0 x5_1) = 34
                                    · rw [if_pos c35] at H
                                      have c35b0 : ((bt a0 x5_1) == 34) = true := beq_iff_eq.mpr c35
                                      have c35b1 : ((bt a0 x5_1) != 34) = false := bne_eq_false_iff_eq.mpr c35
                                      clear c35
                                      have H' := Aside0.mk H
                                      clear H
                                      have p34 : 0 ≤ (x5_1 : Int) := of_decide_eq_true (by first | (with_reducible assumption) | assumption)
                                      have q34 : x5_1 < (a0.size : Int) := of_decide_eq_true (by first | (with_reducible assumption) | assumption)
                                      have hx34 := bt_at a0 x5_1
                                      replace p34 := eq_true p34
                                      replace q34 := eq_true q34
                                      go_wp2
                                      go_meet
                                      case rel => exact ⟨_, (true), (by first | rfl | (simp; done) | (simp [*]; done)), H', ⟨by have := HK1.out; have := HJ6.out; have := HJ16.out; have := HJ22.out; first | omega | exact Nat.le_refl _⟩, by repeat (first | exact Drawn0.refl _ | apply Drawn0.step)⟩
                                    · rw [if_neg c35] at H
                                      have c35b0 : ((bt a0 x5_1) == 34) = false := beq_eq_false_iff_ne.mpr c35
                                      have c35b1 : ((bt a0 x5_1) != 34) = true := bne_iff_ne.mpr c35
                                      have H' := Aside0.mk H
                                      clear H
                                      have p34 : 0 ≤ (x5_1 : Int) := of_decide_eq_true (by first | (with_reducible assumption) | assumption)
                                      have q34 : x5_1 < (a0.size : Int) := of_decide_eq_true (by first | (with_reducible assumption) | assumption)
                                      have hx34 := bt_at a0 x5_1
                                      replace p34 := eq_true p34
                                      replace q34 := eq_true q34
                                      have p36 : 0 ≤ (x5_1 : Int) := of_decide_eq_true (by first | (with_reducible assumption) | assumption)
                                      have q36 : x5_1 < (a0.size : Int) := of_decide_eq_true (by first | (with_reducible assumption) | assumption)
                                      have hx36 := bt_at a0 x5_1
                                      replace p36 := eq_true p36
                                      replace q36 := eq_true q36
                                      go_wp2
                                      go_meet
                                      case rel => exact ⟨_, (((bt a0 x5_1) == 96)), (by first | rfl | (simp; done) | (simp [*]; done)), H', ⟨by have := HK1.out; have := HJ6.out; have := HJ16.out; have := HJ22.out; first | omega | exact Nat.le_refl _⟩, by repeat (first | exact Drawn0.refl _ | apply Drawn0.step)⟩
                                  · rw [if_neg c33] at H
                                    exact absurd H (by simp)
                                · rw [if_neg c32] at H
                                  exact absurd H (by simp)
                              case rest =>
                                clear HC31
                                try clear c1
                                try clear p1
                                try clear q1
                                try clear hx1
                                try clear c2
                                try clear p2
                                try clear q2
                                try clear hx2
                                try clear c3
                                try clear c3b0
                                try clear p3
                                try clear q3
                                try clear hx3
                                try clear c4
                                try clear c4b0
                                try clear p5
                                try clear q5
                                try clear hx5
                                try clear c6
                                try clear p6
                                try clear c7
                                try clear c8
                                try clear c8b0
                                try clear c8b1
                                try clear p9
                                try clear q9
                                try clear hx9
                                try clear c10
                                try clear c10b0
                                try clear c10b1
                                try clear c11
                                try clear c11b0
                                try clear c13
                                try clear c13b0
                                try clear p14
                                try clear q14
                                try clear hx14
                                try clear c16
                                try clear c18
                                try clear c18b0
                                try clear c18b1
                                try clear c19
                                try clear c19b0
                                try clear c19b1
                                try clear c20
                                try clear c20b0
                                try clear c20b1
                                try clear c21
                                try clear c21b0
                                try clear c21b1
                                try clear c22
                                try clear c24
                                try clear c24b0
                                try clear c24b1
                                try clear c25
                                try clear c25b0
                                try clear c26
                                try clear c26b0
                                try clear p27
                                try clear q27
                                try clear hx27
                                try clear c28
                                try clear c28b0
                                try clear c28b1
                                try clear c29
                                try clear c30
                                try clear c30b0
                                try clear c30b1
                                try clear c32
                                try clear c32b0
                                try clear c33
                                try clear c33b0
                                try clear p34
                                try clear q34
                                try clear hx34
                                try clear c35
                                try clear c35b0
                                try clear c35b1
                                try clear p36
                                try clear q36
                                try clear hx36
                                try clear p1
                                try clear p14
                                try clear p2
                                try clear p27
                                try clear p34
                                try clear p36
                                try clear p5
                                try clear p6
                                try clear p9
                                try clear q1
                                try clear q14
                                try clear q2
                                try clear q27
                                try clear q34
                                try clear q36
                                try clear q5
                                try clear q9
                                obtain ⟨kq, x81_30, rfl, HA, HJ30, ⟨mc30, rfl⟩⟩ := hcut
                                cases kq with
                                | zero => exact absurd HA.out (by simp [conchref24_literal.j4])
                                | succ kj30 =>
                                  have H := HA.out
                                  clear HA
                                  simp only [conchref24_literal.j4] at H
                                  by_cases c37 : x81_30 = true
                                  · subst c37
                                    have H1 : (some false) = some r := by rw [if_pos rfl] at H; exact H
                                    clear H
                                    have H := H1
                                    clear H1
                                    obtain rfl := Option.some.inj H
                                    go_wp2
                                    go_ret
                                    exact ⟨by first | rfl | (simp; done) | (simp [*]; done), by repeat (first | exact Drawn0.refl _ | apply Drawn0.step)⟩
                                  · replace c37 := Bool.eq_false_iff.mpr c37
                                    subst c37
                                    have H1 : (if 0 ≤ x5_1 then (if x5_1 < (a0.size : Int) then (if (bt a0 x5_1) = 92 then (if (wrap64 (x5_1 + 1)) ≥ (a0.size : Int) then (some false) else (if 0 ≤ (wrap64 (x5_1 + 1)) then (if (wrap64 (x5_1 + 1)) < (a0.size : Int) then ((conchref24_special.f (bt a0 (wrap64 (x5_1 + 1)))).bind fun t108 => (if t108 = true then (some false) else (if (bt a0 (wrap64 (x5_1 + 1))) = 10 then (some false) else (conchref24_literal.l0 kj30 a0 a1 (wrap64 (x5_1 + 1)))))) else (none)) else (none))) else (conchref24_literal.l0 kj30 a0 a1 (wrap64 (x5_1 + 1)))) else (none)) else (none)) = some r := by rw [if_neg (show ¬ (false = true) by decide)] at H; exact H
                                    clear H
                                    have H := H1
                                    clear H1
                                    by_cases c38 : 0 ≤ x5_1
                                    · rw [if_pos c38] at H
                                      have c38b0 : decide (0 ≤ x5_1) = true := decide_eq_true c38
                                      clear c38
                                      by_cases c39 : x5_1 < (a0.size : Int)
                                      · rw [if_pos c39] at H
                                        have c39b0 : decide (x5_1 < (a0.size : Int)) = true := decide_eq_true c39
                                        clear c39
                                        by_cases c41 : (bt a0 x5_1) = 92
                                        · rw [if_pos c41] at H
                                          have c41b0 : ((bt a0 x5_1) == 92) = true := beq_iff_eq.mpr c41
                                          have c41b1 : ((bt a0 x5_1) != 92) = false := bne_eq_false_iff_eq.mpr c41
                                          clear c41
                                          by_cases c42 : (wrap64 (x5_1 + 1)) ≥ (a0.size : Int)
                                          · rw [if_pos c42] at H
                                            have c42b0 : decide ((a0.size : Int) ≤ (wrap64 (x5_1 + 1))) = true := decide_eq_true c42
                                            clear c42
                                            obtain rfl := Option.some.inj H
                                            have p40 : 0 ≤ (x5_1 : Int) := of_decide_eq_true (by first | (with_reducible assumption) | assumption)
                                            have q40 : x5_1 < (a0.size : Int) := of_decide_eq_true (by first | (with_reducible assumption) | assumption)
                                            have hx40 := bt_at a0 x5_1
                                            replace p40 := eq_true p40
                                            replace q40 := eq_true q40
                                            go_wp2
                                            go_ret
                                            exact ⟨by first | rfl | (simp; done) | (simp [*]; done), by repeat (first | exact Drawn0.refl _ | apply Drawn0.step)⟩
                                          · rw [if_neg c42] at H
                                            have c42b0 : decide ((a0.size : Int) ≤ (wrap64 (x5_1 + 1))) = false := decide_eq_false c42
                                            clear c42
                                            obtain ⟨ji43, hji43⟩ : ∃ j_ : Int, (wrap64 (x5_1 + 1)) = j_ := ⟨_, rfl⟩
                                            replace H : (if 0 ≤ (ji43) then (if (ji43) < (a0.size : Int) then ((conchref24_special.f (bt a0 (ji43))).bind fun t108 => (if t108 = true then (some false) else (if (bt a0 (ji43)) = 10 then (some false) else (conchref24_literal.l0 kj30 a0 a1 ji43)))) else (none)) else (none)) = some r := by first | (rw [hji43] at H; exact H) | (simp only [hji43] at H ⊢; exact H)
                                            (try rw [hji43] at c42b0)
                                            have hji43w : (IntKind.i64.wrap (x5_1 + 1)) = ji43 := (i64_w _).trans hji43
                                            by_cases c44 : 0 ≤ (ji43)
                                            · rw [if_pos c44] at H
                                              have c44b0 : decide (0 ≤ (ji43)) = true := decide_eq_true c44
                                              clear c44
                                              by_cases c45 : (ji43) < (a0.size : Int)
                                              · rw [if_pos c45] at H
                                                have c45b0 : decide ((ji43) < (a0.size : Int)) = true := decide_eq_true c45
                                                clear c45
                                                replace H := Option.bind_eq_some_iff.mp H
                                                obtain ⟨t108, A470, H⟩ := H
                                                replace H : (if t108 = true then (some false) else (if (bt a0 (ji43)) = 10 then (some false) else (conchref24_literal.l0 kj30 a0 a1 ji43))) = some r := H
                                                have A47 := Aside0.mk A470
                                                clear A470
                                                by_cases c48 : t108 = true
                                                · subst c48
                                                  have H1 : (some false) = some r := by rw [if_pos rfl] at H; exact H
                                                  clear H
                                                  have H := H1
                                                  clear H1
                                                  obtain rfl := Option.some.inj H
                                                  have p40 : 0 ≤ (x5_1 : Int) := of_decide_eq_true (by first | (with_reducible assumption) | assumption)
                                                  have q40 : x5_1 < (a0.size : Int) := of_decide_eq_true (by first | (with_reducible assumption) | assumption)
                                                  have hx40 := bt_at a0 x5_1
                                                  replace p40 := eq_true p40
                                                  replace q40 := eq_true q40
                                                  have p46 : 0 ≤ ((ji43) : Int) := of_decide_eq_true (by first | (with_reducible assumption) | assumption)
                                                  have q46 : (ji43) < (a0.size : Int) := of_decide_eq_true (by first | (with_reducible assumption) | assumption)
                                                  have hx46 := bt_at a0 (ji43)
                                                  replace p46 := eq_true p46
                                                  replace q46 := eq_true q46
                                                  go_wp2_with (first | (go_at_call 76; (with_reducible refine (conchref24_special.calls (bt a0 (ji43)) true _ A47.out).mono ?_); rintro e w' ⟨rfl, ⟨nd, rfl⟩⟩))
                                                  go_ret
                                                  exact ⟨by first | rfl | (simp; done) | (simp only [← hji43] <;> (first | rfl | simp)) | (simp [*]; done), by repeat (first | exact Drawn0.refl _ | apply Drawn0.step)⟩
                                                · replace c48 := Bool.eq_false_iff.mpr c48
                                                  subst c48
                                                  have H1 : (if (bt a0 (ji43)) = 10 then (some false) else (conchref24_literal.l0 kj30 a0 a1 ji43)) = some r := by rw [if_neg (show ¬ (false = true) by decide)] at H; exact H
                                                  clear H
                                                  have H := H1
                                                  clear H1
                                                  by_cases c50 : (bt a0 (ji43)) = 10
                                                  · rw [if_pos c50] at H
                                                    have c50b0 : ((bt a0 (ji43)) == 10) = true := beq_iff_eq.mpr c50
                                                    have c50b1 : ((bt a0 (ji43)) != 10) = false := bne_eq_false_iff_eq.mpr c50
                                                    clear c50
                                                    obtain rfl := Option.some.inj H
                                                    have p40 : 0 ≤ (x5_1 : Int) := of_decide_eq_true (by first | (with_reducible assumption) | assumption)
                                                    have q40 : x5_1 < (a0.size : Int) := of_decide_eq_true (by first | (with_reducible assumption) | assumption)
                                                    have hx40 := bt_at a0 x5_1
                                                    replace p40 := eq_true p40
                                                    replace q40 := eq_true q40
                                                    have p46 : 0 ≤ ((ji43) : Int) := of_decide_eq_true (by first | (with_reducible assumption) | assumption)
                                                    have q46 : (ji43) < (a0.size : Int) := of_decide_eq_true (by first | (with_reducible assumption) | assumption)
                                                    have hx46 := bt_at a0 (ji43)
                                                    replace p46 := eq_true p46
                                                    replace q46 := eq_true q46
                                                    go_wp2_with (first | (go_at_call 76; (with_reducible refine (conchref24_special.calls (bt a0 (ji43)) false _ A47.out).mono ?_); rintro e w' ⟨rfl, ⟨nd, rfl⟩⟩; have p49 : 0 ≤ ((ji43) : Int) := of_decide_eq_true (by first | (with_reducible assumption) | assumption); have q49 : (ji43) < (a0.size : Int) := of_decide_eq_true (by first | (with_reducible assumption) | assumption); have hx49 := bt_at a0 (ji43); replace p49 := eq_true p49; replace q49 := eq_true q49))
                                                    go_ret
                                                    exact ⟨by first | rfl | (simp; done) | (simp only [← hji43] <;> (first | rfl | simp)) | (simp [*]; done), by repeat (first | exact Drawn0.refl _ | apply Drawn0.step)⟩
                                                  · rw [if_neg c50] at H
                                                    have c50b0 : ((bt a0 (ji43)) == 10) = false := beq_eq_false_iff_ne.mpr c50
                                                    have c50b1 : ((bt a0 (ji43)) != 10) = true := bne_iff_ne.mpr c50
                                                    have H' := Aside0.mk H
                                                    clear H
                                                    have p40 : 0 ≤ (x5_1 : Int) := of_decide_eq_true (by first | (with_reducible assumption) | assumption)
                                                    have q40 : x5_1 < (a0.size : Int) := of_decide_eq_true (by first | (with_reducible assumption) | assumption)
                                                    have hx40 := bt_at a0 x5_1
                                                    replace p40 := eq_true p40
                                                    replace q40 := eq_true q40
                                                    have p46 : 0 ≤ ((ji43) : Int) := of_decide_eq_true (by first | (with_reducible assumption) | assumption)
                                                    have q46 : (ji43) < (a0.size : Int) := of_decide_eq_true (by first | (with_reducible assumption) | assumption)
                                                    have hx46 := bt_at a0 (ji43)
                                                    replace p46 := eq_true p46
                                                    replace q46 := eq_true q46
                                                    go_wp2_with (first | (go_at_call 76; (with_reducible refine (conchref24_special.calls (bt a0 (ji43)) false _ A47.out).mono ?_); rintro e w' ⟨rfl, ⟨nd, rfl⟩⟩; have p49 : 0 ≤ ((ji43) : Int) := of_decide_eq_true (by first | (with_reducible assumption) | assumption); have q49 : (ji43) < (a0.size : Int) := of_decide_eq_true (by first | (with_reducible assumption) | assumption); have hx49 := bt_at a0 (ji43); replace p49 := eq_true p49; replace q49 := eq_true q49))
                                                    go_roundg kj30
                                                    case measure => have := HK1.out; have := HJ6.out; have := HJ16.out; have := HJ22.out; have := HJ30.out; omega
                                                    case rel => exact ⟨(ji43), (by first | rfl | (simp; done) | (simp only [← hji43] <;> (first | rfl | simp)) | (simp [*]; done)), H', ⟨by have := HK1.out; have := HJ6.out; have := HJ16.out; have := HJ22.out; have := HJ30.out; omega⟩, by repeat (first | exact Drawn0.refl _ | apply Drawn0.step)⟩
                                              · rw [if_neg c45] at H
                                                exact absurd H (by simp)
                                            · rw [if_neg c44] at H
                                              exact absurd H (by simp)
                                        · rw [if_neg c41] at H
                                          have c41b0 : ((bt a0 x5_1) == 92) = false := beq_eq_false_iff_ne.mpr c41
                                          have c41b1 : ((bt a0 x5_1) != 92) = true := bne_iff_ne.mpr c41
                                          have H' := Aside0.mk H
                                          clear H
                                          have p40 : 0 ≤ (x5_1 : Int) := of_decide_eq_true (by first | (with_reducible assumption) | assumption)
                                          have q40 : x5_1 < (a0.size : Int) := of_decide_eq_true (by first | (with_reducible assumption) | assumption)
                                          have hx40 := bt_at a0 x5_1
                                          replace p40 := eq_true p40
                                          replace q40 := eq_true q40
                                          go_wp2
                                          go_roundg kj30
                                          case measure => have := HK1.out; have := HJ6.out; have := HJ16.out; have := HJ22.out; have := HJ30.out; omega
                                          case rel => exact ⟨(wrap64 (x5_1 + 1)), (by first | rfl | (simp; done) | (simp [*]; done)), H', ⟨by have := HK1.out; have := HJ6.out; have := HJ16.out; have := HJ22.out; have := HJ30.out; omega⟩, by repeat (first | exact Drawn0.refl _ | apply Drawn0.step)⟩
                                      · rw [if_neg c39] at H
                                        exact absurd H (by simp)
                                    · rw [if_neg c38] at H
                                      exact absurd H (by simp)
                            · rw [if_neg c30] at H
                              have c30b0 : (a1 == 1) = false := beq_eq_false_iff_ne.mpr c30
                              have c30b1 : (a1 != 1) = true := bne_iff_ne.mpr c30
                              have H' := Aside0.mk H
                              clear H
                              go_wp2
                              go_roundg kj22
                              case measure => have := HK1.out; have := HJ6.out; have := HJ16.out; have := HJ22.out; omega
                              case rel => exact ⟨(wrap64 (x5_1 + 1)), (by first | rfl | (simp; done) | (simp [*]; done)), H', ⟨by have := HK1.out; have := HJ6.out; have := HJ16.out; have := HJ22.out; omega⟩, by repeat (first | exact Drawn0.refl _ | apply Drawn0.step)⟩
        · rw [if_neg c4] at H
          exact absurd H (by simp)
      · rw [if_neg c3] at H
        have c3b0 : decide (x5_1 < (a0.size : Int)) = false := decide_eq_false c3
        clear c3
        obtain rfl := Option.some.inj H
        go_wp2
        go_ret
        exact ⟨by first | rfl | (simp; done) | (simp [*]; cases a0.toList <;> rfl), by repeat (first | exact Drawn0.refl _ | apply Drawn0.step)⟩

end Go.Proofs.Ytbmapjgajecgfaa.PWordmRight

/-
  What is proved: what the classes of bytes and Name answer, in the program and in the document. Conditions: those of each theorem.
-/
import Derived.Test.YthddfkemagpiaaaL4
import Derived.Laws.RangeString
set_option linter.unusedVariables false
set_option linter.unusedSimpArgs false
namespace Go.Proofs.Ythddfkemagpiaaa
open Go.RowKit
def ltr (c : Int) : Int := if 48 ≤ c ∧ c ≤ 57 then 3 else if c = 95 ∨ (97 ≤ bits .or .u8 c 32 ∧ bits .or .u8 c 32 ≤ 122) then 4 else 8
def cls (c : Int) : Int := if c = 0 then 0 else if c = 32 then 1 else if c = 9 then 1 else if c = 10 then 2 else if c = 38 then 5 else if c = 124 then 5 else if c = 59 then 5 else if c = 60 then 5 else if c = 62 then 5 else if c = 40 then 5 else if c = 41 then 5 else if c = 39 then 6 else if c = 34 then 6 else if c = 92 then 6 else if c = 96 then 6 else if c = 36 then 7 else ltr c
theorem letter_any (c : Int) (w : World) (h : 0 ≤ c ∧ c ≤ 255) : Calls Try.prog 131 #[.int .u8 c] w fun e w' => e = .returned (.int .i64 (ltr c)) ∧ w = w' := by
  obtain ⟨x, hx⟩ : ∃ x, bits .or .u8 c 32 = x := ⟨_, rfl⟩
  have key : (48 ≤ c ∧ c ≤ 57 ∧ ltr c = 3) ∨ (¬ (48 ≤ c ∧ c ≤ 57) ∧ ((c = 95 ∧ ltr c = 4) ∨ (c ≠ 95 ∧ 97 ≤ x ∧ x ≤ 122 ∧ ltr c = 4) ∨ (c ≠ 95 ∧ x < 97 ∧ ltr c = 8) ∨ (c ≠ 95 ∧ 97 ≤ x ∧ 122 < x ∧ ltr c = 8))) := by
    unfold ltr
    rw [hx]
    by_cases h1 : 48 ≤ c ∧ c ≤ 57
    · left; rw [if_pos h1]; exact ⟨h1.1, h1.2, rfl⟩
    · right
      refine ⟨h1, ?_⟩
      rw [if_neg h1]
      by_cases h2 : c = 95
      · left; rw [if_pos (.inl h2)]; exact ⟨h2, rfl⟩
      · right
        by_cases h3 : 97 ≤ x
        · by_cases h4 : x ≤ 122
          · left; rw [if_pos (.inr ⟨h3, h4⟩)]; exact ⟨h2, h3, h4, rfl⟩
          · right; right; rw [if_neg (by omega)]; exact ⟨h2, h3, by omega, rfl⟩
        · right; left; rw [if_neg (by omega)]; exact ⟨h2, by omega, rfl⟩
  rcases key with ⟨h1, h2, e⟩ | ⟨h0, ⟨h1, e⟩ | ⟨h1, h2, h3, e⟩ | ⟨h1, h2, e⟩ | ⟨h1, h2, h3, e⟩⟩
  · rw [e]
    clear e hx
    go_enter Try.func131, Try.ntmps131
    go_wp2
    go_ret
    exact ⟨rfl, rfl⟩
  · rw [e]
    subst h1
    clear e hx h0
    go_enter Try.func131, Try.ntmps131
    go_wp2
    go_ret
    exact ⟨rfl, rfl⟩
  all_goals
    rw [e]
    have b1 : (c == 95) = false := by simpa using h1
    rcases (by omega : c < 48 ∨ (48 ≤ c ∧ 57 < c)) with g1 | ⟨g1, g2⟩
    all_goals
      clear e h0 h1
      go_enter Try.func131, Try.ntmps131
      go_wp2
      go_ret
      exact ⟨rfl, rfl⟩
theorem class_any (c : Int) (w : World) (h : 0 ≤ c ∧ c ≤ 255) : Calls Try.prog 121 #[.int .u8 c] w fun e w' => e = .returned (.int .i64 (cls c)) ∧ w = w' := by
  by_cases hs : c ∈ [0, 32, 9, 10, 38, 124, 59, 60, 62, 40, 41, 39, 34, 92, 96, 36]
  · simp only [List.mem_cons, List.not_mem_nil, or_false] at hs
    rcases hs with rfl | rfl | rfl | rfl | rfl | rfl | rfl | rfl | rfl | rfl | rfl | rfl | rfl | rfl | rfl | rfl
    all_goals
      go_enter Try.func121, Try.ntmps121
      go_wp2
      go_ret
      exact ⟨rfl, rfl⟩
  · simp only [List.mem_cons, List.not_mem_nil, or_false, not_or] at hs
    obtain ⟨n0, n1, n2, n3, n4, n5, n6, n7, n8, n9, n10, n11, n12, n13, n14, n15⟩ := hs
    have e : cls c = ltr c := by unfold cls; simp only [if_neg n0, if_neg n1, if_neg n2, if_neg n3, if_neg n4, if_neg n5, if_neg n6, if_neg n7, if_neg n8, if_neg n9, if_neg n10, if_neg n11, if_neg n12, if_neg n13, if_neg n14, if_neg n15]
    rw [e]
    have m0 : (c == 0) = false := by simpa using n0
    have m1 : (c == 32) = false := by simpa using n1
    have m2 : (c == 9) = false := by simpa using n2
    have m3 : (c == 10) = false := by simpa using n3
    have m4 : (c == 38) = false := by simpa using n4
    have m5 : (c == 124) = false := by simpa using n5
    have m6 : (c == 59) = false := by simpa using n6
    have m7 : (c == 60) = false := by simpa using n7
    have m8 : (c == 62) = false := by simpa using n8
    have m9 : (c == 40) = false := by simpa using n9
    have m10 : (c == 41) = false := by simpa using n10
    have m11 : (c == 39) = false := by simpa using n11
    have m12 : (c == 34) = false := by simpa using n12
    have m13 : (c == 92) = false := by simpa using n13
    have m14 : (c == 96) = false := by simpa using n14
    have m15 : (c == 36) = false := by simpa using n15
    clear e n0 n1 n2 n3 n4 n5 n6 n7 n8 n9 n10 n11 n12 n13 n14 n15
    go_enter Try.func121, Try.ntmps121
    go_wp2_with fail
    refine (letter_any c _ h).mono ?_
    rintro e w' ⟨rfl, rfl⟩
    go_wp2
    go_ret
    exact ⟨rfl, rfl⟩
def nmT (i : Nat) (c : Int) : Bool := decide (cls c = 4) || (decide (cls c = 3) && decide (0 < i))
theorem nametest_any (i : Nat) (c : Int) (w : World) (h : 0 ≤ c ∧ c ≤ 255) (hi : i ≤ big) : Calls Try.prog 120 #[.int .i64 (i : Int), .int .u8 c] w fun e w' => e = .returned (.bool (nmT i c)) ∧ w = w' := by
  have HC := Lib.hid (class_any c w h)
  unfold nmT
  obtain ⟨k, hk⟩ : ∃ k, cls c = k := ⟨_, rfl⟩
  rw [hk] at HC ⊢
  clear hk
  by_cases h4 : k = 4
  · have b4 : (k == 4) = true := by simpa using h4
    have H4 := Lib.hid h4
    clear h4
    go_enter Try.func120, Try.ntmps120
    go_wp2_with fail
    refine HC.out.mono ?_
    rintro e w1 ⟨rfl, rfl⟩
    go_wp2
    go_ret
    exact ⟨ret_bool (by simp [H4.out]), rfl⟩
  · have b4 : (k == 4) = false := by simpa using h4
    have H4 := Lib.hid h4
    clear h4
    by_cases h3 : k = 3
    · have b3 : (k == 3) = true := by simpa using h3
      have H3 := Lib.hid h3
      clear h3
      go_enter Try.func120, Try.ntmps120
      go_wp2_with fail
      refine HC.out.mono ?_
      rintro e w1 ⟨rfl, rfl⟩
      go_wp2
      go_ret
      exact ⟨ret_bool (by simp [H3.out, H4.out]), rfl⟩
    · have b3 : (k == 3) = false := by simpa using h3
      have H3 := Lib.hid h3
      clear h3
      go_enter Try.func120, Try.ntmps120
      go_wp2_with fail
      refine HC.out.mono ?_
      rintro e w1 ⟨rfl, rfl⟩
      go_wp2
      go_ret
      exact ⟨ret_bool (by simp [H3.out, H4.out]), rfl⟩
theorem cls_tab (f : Int → Bool) (h : ∀ n : Fin 256, f (n.val : Int) = true) (c : Int) (h0 : 0 ≤ c) (h1 : c ≤ 255) : f c = true := by
  have := h ⟨c.toNat, by omega⟩
  simpa [Int.toNat_of_nonneg h0] using this
def cKind (c : Int) : Int := if 48 ≤ c ∧ c ≤ 57 then 3 else if (97 ≤ c ∧ c ≤ 122) ∨ (65 ≤ c ∧ c ≤ 90) ∨ c = 95 then 4 else if c ∈ [0, 32, 9, 10, 38, 124, 59, 60, 62, 40, 41, 39, 34, 92, 96, 36] then cls c else 8
theorem cls_kind (c : Int) (h0 : 0 ≤ c) (h1 : c ≤ 255) : cls c = cKind c := by
  have := cls_tab (fun c => decide (cls c = cKind c)) (by decide +kernel) c h0 h1
  simpa using this
theorem rclass_any (c : Int) (w : World) (h : 0 ≤ c ∧ c ≤ 255) : Calls Try.prog 133 #[.int .u8 c] w fun e w' => e = .returned (.int .i64 (cls c)) ∧ w = w' := by
  by_cases hs : c ∈ [0, 32, 9, 10, 38, 124, 59, 60, 62, 40, 41, 39, 34, 92, 96, 36, 95]
  · simp only [List.mem_cons, List.not_mem_nil, or_false] at hs
    rcases hs with rfl | rfl | rfl | rfl | rfl | rfl | rfl | rfl | rfl | rfl | rfl | rfl | rfl | rfl | rfl | rfl | rfl
    all_goals
      go_enter Try.func133, Try.ntmps133
      go_wp2
      go_ret
      exact ⟨rfl, rfl⟩
  · rw [cls_kind c h.1 h.2]
    unfold cKind
    simp only [List.mem_cons, List.not_mem_nil, or_false, not_or] at hs
    obtain ⟨n0, n1, n2, n3, n4, n5, n6, n7, n8, n9, n10, n11, n12, n13, n14, n15, n16⟩ := hs
    have m0 : (c == 0) = false := by simpa using n0
    have m1 : (c == 32) = false := by simpa using n1
    have m2 : (c == 9) = false := by simpa using n2
    have m3 : (c == 10) = false := by simpa using n3
    have m4 : (c == 38) = false := by simpa using n4
    have m5 : (c == 124) = false := by simpa using n5
    have m6 : (c == 59) = false := by simpa using n6
    have m7 : (c == 60) = false := by simpa using n7
    have m8 : (c == 62) = false := by simpa using n8
    have m9 : (c == 40) = false := by simpa using n9
    have m10 : (c == 41) = false := by simpa using n10
    have m11 : (c == 39) = false := by simpa using n11
    have m12 : (c == 34) = false := by simpa using n12
    have m13 : (c == 92) = false := by simpa using n13
    have m14 : (c == 96) = false := by simpa using n14
    have m15 : (c == 36) = false := by simpa using n15
    have m16 : (c == 95) = false := by simpa using n16
    have cases : (c < 48) ∨ (48 ≤ c ∧ c ≤ 57) ∨ (57 < c ∧ c < 65) ∨ (65 ≤ c ∧ c ≤ 90) ∨ (90 < c ∧ c < 97) ∨ (97 ≤ c ∧ c ≤ 122) ∨ 122 < c := by omega
    rcases cases with h1 | ⟨h1, h2⟩ | ⟨h1, h2⟩ | ⟨h1, h2⟩ | ⟨h1, h2⟩ | ⟨h1, h2⟩ | h1
    · rw [if_neg (by omega), if_neg (by omega), if_neg (by simp; omega)]
      have g1 : c < 65 := by omega
      have g2 : c < 97 := by omega
      clear n0 n1 n2 n3 n4 n5 n6 n7 n8 n9 n10 n11 n12 n13 n14 n15 n16
      go_enter Try.func133, Try.ntmps133
      go_wp2
      go_ret
      exact ⟨rfl, rfl⟩
    · rw [if_pos (by omega)]
      clear n0 n1 n2 n3 n4 n5 n6 n7 n8 n9 n10 n11 n12 n13 n14 n15 n16
      go_enter Try.func133, Try.ntmps133
      go_wp2
      go_ret
      exact ⟨rfl, rfl⟩
    · rw [if_neg (by omega), if_neg (by omega), if_neg (by simp; omega)]
      have g1 : 48 ≤ c := by omega
      have g2 : c < 97 := by omega
      have g3 : ¬ c ≤ 57 := by omega
      clear n0 n1 n2 n3 n4 n5 n6 n7 n8 n9 n10 n11 n12 n13 n14 n15 n16
      go_enter Try.func133, Try.ntmps133
      go_wp2
      go_ret
      exact ⟨rfl, rfl⟩
    · rw [if_neg (by omega), if_pos (by omega)]
      have g1 : 48 ≤ c := by omega
      have g2 : c < 97 := by omega
      have g3 : ¬ c ≤ 57 := by omega
      clear n0 n1 n2 n3 n4 n5 n6 n7 n8 n9 n10 n11 n12 n13 n14 n15 n16
      go_enter Try.func133, Try.ntmps133
      go_wp2
      go_ret
      exact ⟨rfl, rfl⟩
    · rw [if_neg (by omega), if_neg (by omega), if_neg (by simp; omega)]
      have g1 : 48 ≤ c := by omega
      have g3 : ¬ c ≤ 57 := by omega
      have g4 : 65 ≤ c := by omega
      have g5 : ¬ c ≤ 90 := by omega
      clear n0 n1 n2 n3 n4 n5 n6 n7 n8 n9 n10 n11 n12 n13 n14 n15 n16
      go_enter Try.func133, Try.ntmps133
      go_wp2
      go_ret
      exact ⟨rfl, rfl⟩
    · rw [if_neg (by omega), if_pos (by omega)]
      have g1 : 48 ≤ c := by omega
      have g3 : ¬ c ≤ 57 := by omega
      have g4 : 65 ≤ c := by omega
      have g5 : ¬ c ≤ 90 := by omega
      clear n0 n1 n2 n3 n4 n5 n6 n7 n8 n9 n10 n11 n12 n13 n14 n15 n16
      go_enter Try.func133, Try.ntmps133
      go_wp2
      go_ret
      exact ⟨rfl, rfl⟩
    · rw [if_neg (by omega), if_neg (by omega), if_neg (by simp; omega)]
      have g1 : 48 ≤ c := by omega
      have g3 : ¬ c ≤ 57 := by omega
      have g4 : 65 ≤ c := by omega
      have g5 : ¬ c ≤ 90 := by omega
      have g6 : 97 ≤ c := by omega
      have g7 : ¬ c ≤ 122 := by omega
      clear n0 n1 n2 n3 n4 n5 n6 n7 n8 n9 n10 n11 n12 n13 n14 n15 n16
      go_enter Try.func133, Try.ntmps133
      go_wp2
      go_ret
      exact ⟨rfl, rfl⟩
end Go.Proofs.Ythddfkemagpiaaa

/-
  What is proved: what the printed summaries of the document's leaf functions answer, in terms of the right-predicates. Conditions: those of each theorem.
-/
import Derived.Test.YtbmapjgajecgfaaJ8
import Derived.Test.YtbmapjgajecgfaaPWordmRightx1
import Derived.Test.YtbmapjgajecgfaaPWordmRightx2
import Derived.Test.YtbmapjgajecgfaaPWordmRightx3
import Derived.Test.YtbmapjgajecgfaaPWordmRightx5
set_option linter.unusedVariables false
set_option linter.unusedSimpArgs false
namespace Go.Proofs.Ytbmapjgajecgfaa
open Go.RowKit Go.Proofs.YtbmapjgajecgfaaW.PrintWords Go.Proofs.YtbmapjgajecgfaaW.PrintLast Go.Proofs.YtbmapjgajecgfaaW.PrintMore
open PWordmRight
theorem tn (c d : UInt8) : ((c.toNat : Int) = (d.toNat : Int)) ↔ c = d := by
  rw [← UInt8.toNat_inj]; exact Int.ofNat_inj
theorem bt_get {s : ByteArray} {i : Nat} {c : UInt8} {r : List UInt8} (h : s.data.toList.drop i = c :: r) : bt s (i : Int) = (c.toNat : Int) ∧ i < s.size ∧ s.data.toList.drop (i + 1) = r := by
  have h1 : s.data.toList[i]? = some c := by
    have := congrArg List.head? h
    simpa [List.head?_drop] using this
  obtain ⟨h2, h3⟩ := List.getElem?_eq_some_iff.1 h1
  have h4 : i < s.size := by simpa using h2
  refine ⟨?_, h4, ?_⟩
  · have := bt_at s (i : Int) (by simpa using h4)
    rw [← this]
    have e : s[((i : Int)).toNat]'(by simpa using h4) = c := by
      rw [← h3]; rfl
    rw [e]
  · rw [← List.drop_drop, h]; rfl
theorem drop_size {s : ByteArray} {i n : Nat} (h : i + (n + 1) = s.size) : ∃ c r, s.data.toList.drop i = c :: r := by
  rcases hd : s.data.toList.drop i with _ | ⟨c, r⟩
  · have := List.drop_eq_nil_iff.1 hd
    have e : s.data.toList.length = s.size := by simp
    omega
  · exact ⟨c, r, rfl⟩
theorem drop_fin {s : ByteArray} {i : Nat} (h : i = s.size) : s.data.toList.drop i = [] := by
  rw [List.drop_eq_nil_iff]
  have e : s.data.toList.length = s.size := by simp
  omega
theorem class_f (c : UInt8) {k : Nat} (hk : 6 ≤ k) : conchref01_Class.f k (c.toNat : Int) = some (cls c.toNat) :=
  at_rounds (conchref01_Class.mono _) hk (byte_all (P := fun c => conchref01_Class.f 6 (c.toNat : Int) = some (cls c.toNat)) (by decide +kernel) c)
theorem special_f (c : UInt8) : conchref24_special.f (c.toNat : Int) = some (specB c) :=
  byte_all (P := fun c => conchref24_special.f (c.toNat : Int) = some (specB c)) (by decide +kernel) c
theorem Special_f (c : UInt8) : conchref01_Special.f (c.toNat : Int) = some (spc c.toNat) :=
  byte_all (P := fun c => conchref01_Special.f (c.toNat : Int) = some (spc c.toNat)) (by decide +kernel) c
theorem dollar_f (c : UInt8) {k : Nat} (hk : 6 ≤ k) : conchref24_dollar.f k (c.toNat : Int) = some (dolOK c) :=
  at_rounds (conchref24_dollar.mono _) hk (byte_all (P := fun c => conchref24_dollar.f 6 (c.toNat : Int) = some (dolOK c)) (by decide +kernel) c)
theorem wr_succ {i : Nat} (h : i < 1000000) : wrap64 ((i : Int) + 1) = ((i + 1 : Nat) : Int) := by unfold wrap64; omega
theorem clear_l0 (tx : ByteArray) (hz : tx.size ≤ 100000) : ∀ (n i k : Nat), i + n = tx.size → 10 + n ≤ k → clearB (tx.data.toList.drop i) = true → conchref24_clear.l0 k tx 39 (i : Int) = some true
  | 0, i, k, hi, hk, h => by
    obtain ⟨k, rfl⟩ : ∃ j, k = j + 1 := ⟨k - 1, by omega⟩
    rw [conchref24_clear.l0, if_neg (by omega)]
  | n + 1, i, k, hi, hk, h => by
    obtain ⟨k, rfl⟩ : ∃ j, k = j + 1 := ⟨k - 1, by omega⟩
    obtain ⟨c, r, hd⟩ := drop_size hi
    obtain ⟨hb, hlt, hr⟩ := bt_get hd
    rw [hd] at h
    simp only [clearB, List.all_cons, Bool.and_eq_true, decide_eq_true_eq] at h
    have e0 : ¬ (c.toNat : Int) = 0 := fun e => h.1.1 ((tn c 0).1 e)
    have e39 : ¬ (c.toNat : Int) = 39 := fun e => h.1.2 ((tn c 39).1 e)
    rw [conchref24_clear.l0, if_pos (by omega), if_pos (by omega), hb, if_neg e0, if_neg e39, wr_succ (by omega)]
    exact clear_l0 tx hz n (i + 1) k (by omega) (by omega) (by rw [hr]; exact h.2)
theorem arith_l0 (tx : ByteArray) (hz : tx.size ≤ 100000) : ∀ (n i k : Nat) (m : Int), i + n = tx.size → 10 + 2 * n ≤ k → 0 ≤ m → m ≤ i → arithB (tx.data.toList.drop i) m = true → conchref24_arith.l0 k tx m (i : Int) = some true
  | 0, i, k, m, hi, hk, h0, h1, h => by
    obtain ⟨k, rfl⟩ : ∃ j, k = j + 1 := ⟨k - 1, by omega⟩
    rw [drop_fin (by omega)] at h
    rw [conchref24_arith.l0, if_neg (by omega)]
    simp only [arithB, decide_eq_true_eq] at h
    rw [h]; rfl
  | n + 1, i, k, m, hi, hk, h0, h1, h => by
    obtain ⟨k, rfl⟩ : ∃ j, k = j + 1 + 1 := ⟨k - 2, by omega⟩
    obtain ⟨c, r, hd⟩ := drop_size hi
    obtain ⟨hb, hlt, hr⟩ := bt_get hd
    rw [hd] at h
    simp only [arithB, Bool.and_eq_true, decide_eq_true_eq] at h
    have e0 : ¬ (c.toNat : Int) = 0 := fun e => h.1 ((tn c 0).1 e)
    have e40 : (c.toNat : Int) = 40 ↔ c = 40 := tn c 40
    have e41 : (c.toNat : Int) = 41 ↔ c = 41 := tn c 41
    have h2 := h.2
    rw [conchref24_arith.l0, if_pos (by omega), if_pos (by omega), hb, if_neg e0]
    by_cases c40 : c = 40
    · rw [if_pos c40] at h2
      have w1 : wrap64 (m + 1) = m + 1 := by unfold wrap64; omega
      rw [if_pos (e40.2 c40), w1, conchref24_arith.j1, if_pos (by omega), if_pos (by omega), hb, if_neg (by rw [e41, c40]; decide), if_neg (by omega), wr_succ (by omega)]
      exact arith_l0 tx hz n (i + 1) k (m + 1) (by omega) (by omega) (by omega) (by omega) (by rw [hr]; exact h2)
    · rw [if_neg c40] at h2
      rw [if_neg (fun e => c40 (e40.1 e)), conchref24_arith.j1, if_pos (by omega), if_pos (by omega), hb]
      by_cases c41 : c = 41
      · rw [if_pos c41] at h2
        simp only [Bool.and_eq_true, decide_eq_true_eq] at h2
        have w1 : wrap64 (m - 1) = m - 1 := by unfold wrap64; omega
        rw [if_pos (e41.2 c41), w1, if_neg (by omega), wr_succ (by omega)]
        exact arith_l0 tx hz n (i + 1) k (m - 1) (by omega) (by omega) (by omega) (by omega) (by rw [hr]; exact h2.2)
      · rw [if_neg c41] at h2
        rw [if_neg (fun e => c41 (e41.1 e)), if_neg (by omega), wr_succ (by omega)]
        exact arith_l0 tx hz n (i + 1) k m (by omega) (by omega) (by omega) (by omega) (by rw [hr]; exact h2)
theorem digits_l0 (tx : ByteArray) (hz : tx.size ≤ 100000) : ∀ (n i k : Nat), i + n = tx.size → 10 + n ≤ k → ∃ b, conchref01_Digits.l0 k tx (i : Int) = some b ∧ ((tx.data.toList.drop i).all (fun d => decide (cls d.toNat = 3)) = true → b = decide ((tx.size : Int) > 0))
  | 0, i, k, hi, hk => by
    obtain ⟨k, rfl⟩ : ∃ j, k = j + 1 := ⟨k - 1, by omega⟩
    rw [conchref01_Digits.l0, if_neg (by omega)]
    exact ⟨_, rfl, fun _ => rfl⟩
  | n + 1, i, k, hi, hk => by
    obtain ⟨k, rfl⟩ : ∃ j, k = j + 1 := ⟨k - 1, by omega⟩
    obtain ⟨c, r, hd⟩ := drop_size hi
    obtain ⟨hb, hlt, hr⟩ := bt_get hd
    rw [conchref01_Digits.l0, if_pos (by omega), if_pos (by omega), hb, class_f c (by omega), Option.bind_some, wr_succ (by omega)]
    by_cases c3 : cls c.toNat = 3
    · rw [if_pos c3]
      obtain ⟨b, h1, h2⟩ := digits_l0 tx hz n (i + 1) k (by omega) (by omega)
      refine ⟨b, h1, fun h => h2 ?_⟩
      rw [hd, List.all_cons, Bool.and_eq_true] at h
      rw [hr]; exact h.2
    · rw [if_neg c3]
      refine ⟨_, rfl, fun h => ?_⟩
      rw [hd, List.all_cons, Bool.and_eq_true] at h
      exact absurd (by simpa using h.1) c3
theorem name_l0 (tx : ByteArray) (hz : tx.size ≤ 100000) : ∀ (n i k : Nat), i + n = tx.size → 10 + n ≤ k → ∃ b, conchref01_Name.l0 k tx (i : Int) = some b ∧ ((i = 0 → ∀ c r, tx.data.toList.drop i = c :: r → cls c.toNat = 4) → (tx.data.toList.drop i).all (fun d => decide (cls d.toNat = 4 ∨ cls d.toNat = 3)) = true → b = decide ((tx.size : Int) > 0))
  | 0, i, k, hi, hk => by
    obtain ⟨k, rfl⟩ : ∃ j, k = j + 1 := ⟨k - 1, by omega⟩
    rw [conchref01_Name.l0, if_neg (by omega)]
    exact ⟨_, rfl, fun _ _ => rfl⟩
  | n + 1, i, k, hi, hk => by
    obtain ⟨k, rfl⟩ : ∃ j, k = j + 1 := ⟨k - 1, by omega⟩
    obtain ⟨c, r, hd⟩ := drop_size hi
    obtain ⟨hb, hlt, hr⟩ := bt_get hd
    rw [conchref01_Name.l0, if_pos (by omega), if_pos (by omega), hb, class_f c (by omega), Option.bind_some, wr_succ (by omega)]
    obtain ⟨b, h1, h2⟩ := name_l0 tx hz n (i + 1) k (by omega) (by omega)
    have h3 : (tx.data.toList.drop i).all (fun d => decide (cls d.toNat = 4 ∨ cls d.toNat = 3)) = true → b = decide ((tx.size : Int) > 0) := fun h => h2 (fun e => by omega) (by
      rw [hd, List.all_cons, Bool.and_eq_true] at h
      rw [hr]; exact h.2)
    by_cases c4 : cls c.toNat = 4
    · rw [if_pos c4]
      exact ⟨b, h1, fun _ => h3⟩
    · rw [if_neg c4]
      by_cases c3 : cls c.toNat = 3
      · rw [if_pos c3]
        by_cases hi0 : i = 0
        · rw [if_pos (by omega)]
          exact ⟨_, rfl, fun h => absurd (h hi0 c r hd) c4⟩
        · rw [if_neg (by omega)]
          exact ⟨b, h1, fun _ => h3⟩
      · rw [if_neg c3]
        refine ⟨_, rfl, fun _ h => ?_⟩
        rw [hd, List.all_cons, Bool.and_eq_true] at h
        rcases (by simpa using h.1 : cls c.toNat = 4 ∨ cls c.toNat = 3) with e | e
        · exact absurd e c4
        · exact absurd e c3
end Go.Proofs.Ytbmapjgajecgfaa

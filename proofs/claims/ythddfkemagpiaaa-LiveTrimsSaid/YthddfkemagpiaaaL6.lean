/-
  What is proved: what Name and plain answer, in the program and in the document. Conditions: those of each theorem.
-/
import Derived.Test.YthddfkemagpiaaaL5
set_option linter.unusedVariables false
set_option linter.unusedSimpArgs false
namespace Go.Proofs.Ythddfkemagpiaaa
open Go.RowKit
def byt (s : ByteArray) (i : Nat) : Int := if h : i < s.size then ((s[i]'h).toNat : Int) else 0
theorem byt_at {s : ByteArray} {i : Nat} (h : i < s.size) : ((s[i]'h).toNat : Int) = byt s i := by simp [byt, h]
theorem byt_range (s : ByteArray) (i : Nat) : 0 ≤ byt s i ∧ byt s i ≤ 255 := by
  unfold byt
  split
  · rename_i h
    have := (s[i]'h).toNat_lt
    omega
  · omega
def allB (s : ByteArray) (t : Nat → Int → Bool) : Bool := decide (∀ i, i < s.size → t i (byt s i) = true)
theorem allB_no {s : ByteArray} {t : Nat → Int → Bool} {i : Nat} (h : i < s.size) (ht : t i (byt s i) = false) : allB s t = false := by
  unfold allB; rw [decide_eq_false_iff_not]; intro h2; rw [h2 i h] at ht; cases ht
theorem allB_yes {s : ByteArray} {t : Nat → Int → Bool} (h : ∀ i, i < s.size → t i (byt s i) = true) : allB s t = true := by
  unfold allB; rw [decide_eq_true_eq]; exact h
def asc (_ : Nat) (c : Int) : Bool := decide (c < 128)
theorem next_no {s : ByteArray} {t : Nat → Int → Bool} {k : Nat} (h : ∀ j, j < k → t j (byt s j) = true) (h1 : t k (byt s k) = true) : ∀ j, j < k + 1 → t j (byt s j) = true := fun j hj => by
  by_cases e : j = k
  · rw [e]; exact h1
  · exact h j (by omega)
theorem ascii_any (w : World) (s : ByteArray) (hs : s.size ≤ 100000) : Calls Try.prog 118 #[.string s] w fun e w' => e = .returned (.bool (allB s asc)) ∧ w = w' := by
  go_enter Try.func118, Try.ntmps118
  go_wp2
  go_loop [6] (fun i => ∃ k : Nat, i = .int .i64 (k : Int) ∧ k ≤ s.size ∧ Hid (∀ j, j < k → asc j (byt s j) = true)) (fun i => s.size - (intOf i).toNat)
  case atStart => exact ⟨0, rfl, by omega, Lib.hid (fun j h => by omega)⟩
  case round =>
    obtain ⟨k, rfl, hkl, hno⟩ := hrel
    by_cases hlt : k < s.size
    · have hx := byt_at hlt
      obtain ⟨z, hz⟩ : ∃ z, byt s k = z := ⟨_, rfl⟩
      rw [hz] at hx
      have HZ := Lib.hid hz
      clear hz
      by_cases h : 128 ≤ z
      · have HE : Hid (allB s asc = false) := Lib.hid (allB_no hlt (by rw [HZ.out]; unfold asc; simpa using h))
        go_wp2
        go_ret
        exact ⟨ret_bool HE.out.symm, rfl⟩
      · go_wp2
        go_round
        case rel => exact ⟨k + 1, by go_num, by omega, Lib.hid (next_no hno.out (by rw [HZ.out]; unfold asc; simpa using h))⟩
        case measure => simp [intOf]; omega
    · have HE : Hid (allB s asc = true) := Lib.hid (allB_yes (fun j hj => hno.out j (by omega)))
      go_wp2
      go_ret
      exact ⟨ret_bool HE.out.symm, rfl⟩
def nameB (s : ByteArray) : Bool := decide (s.size ≠ 0) && allB s nmT
theorem emp {s : ByteArray} : (!s.toList.isEmpty) = decide (s.size ≠ 0) := by
  by_cases h : s.size = 0
  · rw [str_nil h]; simp [h]
  · rw [str_cons h]; simp [h]
set_option maxRecDepth 100000 in
theorem each_any (w : World) (s : ByteArray) (hs : s.size ≤ 100000) (ha : allB s asc = true) : Calls Try.prog 119 #[.string s, .func (.func 120) #[] #[]] w (RetB1 w (nameB s)) := by
  have hasc : ∀ k (h : k < s.size), (s[k]'h).toNat < 128 := fun k h => by
    have := (of_decide_eq_true ha) k h
    unfold asc byt at this
    simp only [h, dif_pos] at this
    have := of_decide_eq_true this
    omega
  have HA := Lib.hid hasc
  clear ha hasc
  go_enter Try.func119, Try.ntmps119
  go_wp2
  go_loopw [5] (fun i wr => ∃ k : Nat, wr = w.iter s k ∧ k ≤ s.size ∧ Hid (∀ j, j < k → nmT j (byt s j) = true)) (fun _ wr => s.size - wr.iterPos w.heap.size)
  case atStart => exact ⟨0, rfl, by omega, Lib.hid (fun j h => by omega)⟩
  case round =>
    obtain ⟨k, rfl, hkl, hno⟩ := hrel
    by_cases hlt : k < s.size
    · have hnx : ∀ ty, (Instr.next (.pointer (some ⟨w.heap.size, 0, none⟩)) true ty).run Try.prog (w.iter s k) = _ := fun ty => run_next_ascii w s k ty hlt (HA.out k hlt)
      have hx := byt_at hlt
      obtain ⟨z, hz⟩ : ∃ z, byt s k = z := ⟨_, rfl⟩
      rw [hz] at hx
      have HZ := Lib.hid hz
      have HT := Lib.hid (fun w => nametest_any k z w (by rw [← hz]; exact byt_range s k) (by unfold big; omega))
      clear hz
      obtain ⟨b, hb⟩ : ∃ b, nmT k z = b := ⟨_, rfl⟩
      rw [hb] at HT
      have HB := Lib.hid hb
      clear hb
      go_wp2_with fail
      refine (HT.out _).mono ?_
      rintro e w1 ⟨rfl, rfl⟩
      cases b
      · have HE : Hid (nameB s = false) := Lib.hid (by unfold nameB; rw [allB_no (t := nmT) hlt (by rw [HZ.out]; exact HB.out), Bool.and_false])
        go_wp2
        go_ret
        exact ⟨ret_bool HE.out.symm, Kept.alloc _ _ _⟩
      · go_wp2
        go_roundw
        case rel => exact ⟨k + 1, rfl, by omega, Lib.hid (next_no hno.out (by rw [HZ.out]; exact HB.out))⟩
        case measure => simp; omega
    · have hnx : ∀ ty, (Instr.next (.pointer (some ⟨w.heap.size, 0, none⟩)) true ty).run Try.prog (w.iter s k) = _ := fun ty => run_next_end w s k ty hlt
      have HE : Hid (nameB s = decide (s.size ≠ 0)) := Lib.hid (by unfold nameB; rw [allB_yes (fun j hj => hno.out j (by omega)), Bool.and_true])
      go_wp2
      go_ret
      refine ⟨ret_bool ?_, Kept.alloc _ _ _⟩
      rw [HE.out]
      exact emp
theorem name_hi {s : ByteArray} (h : allB s asc = false) : nameB s = false := by
  have h1 := of_decide_eq_false h
  have : ∃ i, i < s.size ∧ asc i (byt s i) = false := by
    apply Classical.byContradiction
    intro hn
    apply h1
    intro i hi
    cases e : asc i (byt s i) with
    | true => rfl
    | false => exact absurd ⟨i, hi, e⟩ hn
  obtain ⟨i, hi, e⟩ := this
  unfold nameB
  rw [allB_no (t := nmT) hi ?_, Bool.and_false]
  have hr := byt_range s i
  have hb : 128 ≤ byt s i := by
    have := of_decide_eq_false e
    omega
  have := cls_tab (fun c => decide (c < 128) || (decide (cls c ≠ 4) && decide (cls c ≠ 3))) (by decide +kernel) (byt s i) hr.1 hr.2
  unfold nmT
  simp at this
  have h2 := this.resolve_left (by omega)
  simp [h2.1, h2.2]
theorem name_any (w : World) (s : ByteArray) (hs : s.size ≤ 100000) : Calls Try.prog 103 #[.string s] w (RetB1 w (nameB s)) := by
  have HA := Lib.hid (ascii_any w s hs)
  by_cases ha : allB s asc = true
  · have HE := Lib.hid (each_any w s hs ha)
    rw [ha] at HA
    clear ha
    go_enter Try.func103, Try.ntmps103
    go_wp2_with fail
    refine HA.out.mono ?_
    rintro e w1 ⟨rfl, rfl⟩
    go_wp2_with fail
    refine HE.out.mono ?_
    rintro e w1 ⟨rfl, hk⟩
    go_wp2
    go_ret
    exact ⟨rfl, hk⟩
  · have hf : allB s asc = false := by simpa using ha
    rw [name_hi hf]
    rw [hf] at HA
    clear ha hf
    go_enter Try.func103, Try.ntmps103
    go_wp2_with fail
    refine HA.out.mono ?_
    rintro e w1 ⟨rfl, rfl⟩
    go_wp2
    go_ret
    exact ⟨rfl, Kept.refl _ _⟩
theorem rname_any (w : World) (s : ByteArray) (hs : s.size ≤ 100000) : Calls Try.prog 128 #[.string s] w fun e w' => e = .returned (.bool (nameB s)) ∧ w = w' := by
  go_enter Try.func128, Try.ntmps128
  go_wp2
  go_loop [3] (fun i => ∃ k : Nat, i = .int .i64 (k : Int) ∧ k ≤ s.size ∧ Hid (∀ j, j < k → nmT j (byt s j) = true)) (fun i => s.size - (intOf i).toNat)
  case atStart => exact ⟨0, rfl, by omega, Lib.hid (fun j h => by omega)⟩
  case round =>
    obtain ⟨k, rfl, hkl, hno⟩ := hrel
    by_cases hlt : k < s.size
    · have hx := byt_at hlt
      obtain ⟨z, hz⟩ : ∃ z, byt s k = z := ⟨_, rfl⟩
      rw [hz] at hx
      have HZ := Lib.hid hz
      have HC := Lib.hid (rclass_any z w (by rw [← hz]; exact byt_range s k))
      clear hz
      obtain ⟨y, hy⟩ : ∃ y, cls z = y := ⟨_, rfl⟩
      rw [hy] at HC
      have HY := Lib.hid hy
      clear hy
      by_cases h4 : y = 4
      · have b4 : (y != 4) = false := by simpa using h4
        have H4 := Lib.hid h4
        clear h4
        go_wp2_with fail
        refine HC.out.mono ?_
        rintro e w1 ⟨rfl, rfl⟩
        go_wp2
        go_round
        case rel => exact ⟨k + 1, by go_num, by omega, Lib.hid (next_no hno.out (by rw [HZ.out]; unfold nmT; rw [HY.out]; simp [H4.out]))⟩
        case measure => simp [intOf]; omega
      · have b4 : (y != 4) = true := by simpa using h4
        have H4 := Lib.hid h4
        clear h4
        by_cases h3 : y = 3 ∧ 0 < k
        · have b3 : (y != 3) = false := by simpa using h3.1
          have k0 : ((k : Int) == 0) = false := by rw [beq_eq_false_iff_ne]; omega
          have H3 := Lib.hid h3
          clear h3
          go_wp2_with fail
          refine HC.out.mono ?_
          rintro e w1 ⟨rfl, rfl⟩
          go_wp2
          go_round
          case rel => exact ⟨k + 1, by go_num, by omega, Lib.hid (next_no hno.out (by rw [HZ.out]; unfold nmT; rw [HY.out]; simp [H3.out.1, H3.out.2]))⟩
          case measure => simp [intOf]; omega
        · have HE : Hid (nameB s = false) := Lib.hid (by
            unfold nameB
            rw [allB_no (t := nmT) hlt (by
              rw [HZ.out]
              unfold nmT
              rw [HY.out]
              have h4' := H4.out
              by_cases h3' : y = 3
              · have : ¬ 0 < k := fun h => h3 ⟨h3', h⟩
                simp [h3', this]
              · simp [h3', h4']), Bool.and_false])
          by_cases h3' : y = 3
          · have b3 : (y != 3) = false := by simpa using h3'
            have k0 : ((k : Int) == 0) = true := by have : ¬ 0 < k := fun h => h3 ⟨h3', h⟩; simp; omega
            clear h3 h3'
            go_wp2_with fail
            refine HC.out.mono ?_
            rintro e w1 ⟨rfl, rfl⟩
            go_wp2
            go_ret
            exact ⟨ret_bool HE.out.symm, rfl⟩
          · have b3 : (y != 3) = true := by simpa using h3'
            clear h3 h3'
            go_wp2_with fail
            refine HC.out.mono ?_
            rintro e w1 ⟨rfl, rfl⟩
            go_wp2
            go_ret
            exact ⟨ret_bool HE.out.symm, rfl⟩
    · have HE : Hid (nameB s = decide (0 < s.size)) := Lib.hid (by unfold nameB; rw [allB_yes (fun j hj => hno.out j (by omega)), Bool.and_true]; rw [decide_eq_decide]; omega)
      go_wp2
      go_ret
      exact ⟨ret_bool HE.out.symm, rfl⟩
def plainB (s : ByteArray) : Bool := nameB s && decide (s.size ≤ 24)
theorem plain_any (w : World) (s : ByteArray) (hs : s.size ≤ 100000) : Calls Try.prog 61 #[.string s] w (RetB1 w (plainB s)) := by
  have HN := Lib.hid (name_any w s hs)
  unfold plainB
  by_cases h : s.size ≤ 24
  · go_enter Try.func61, Try.ntmps61
    go_wp2_with fail
    refine HN.out.mono ?_
    rintro e w1 ⟨rfl, hk⟩
    go_wp2
    go_ret
    exact ⟨ret_bool (by simp [h]), hk⟩
  · go_enter Try.func61, Try.ntmps61
    go_wp2
    go_ret
    exact ⟨ret_bool (by simp [h]), Kept.refl _ _⟩
theorem rplain_any (w : World) (s : ByteArray) (hs : s.size ≤ 100000) : Calls Try.prog 110 #[.string s] w fun e w' => e = .returned (.bool (plainB s)) ∧ w = w' := by
  have HN := Lib.hid (rname_any w s hs)
  unfold plainB
  obtain ⟨b, hb⟩ : ∃ b, nameB s = b := ⟨_, rfl⟩
  rw [hb] at HN ⊢
  clear hb
  cases b
  · go_enter Try.func110, Try.ntmps110
    go_wp2_with fail
    refine HN.out.mono ?_
    rintro e w1 ⟨rfl, rfl⟩
    go_wp2
    go_ret
    exact ⟨ret_bool (by simp), rfl⟩
  · by_cases h : s.size ≤ 24
    all_goals
      go_enter Try.func110, Try.ntmps110
      go_wp2_with fail
      refine HN.out.mono ?_
      rintro e w1 ⟨rfl, rfl⟩
      go_wp2
      go_ret
      exact ⟨ret_bool (by simp; omega), rfl⟩
end Go.Proofs.Ythddfkemagpiaaa

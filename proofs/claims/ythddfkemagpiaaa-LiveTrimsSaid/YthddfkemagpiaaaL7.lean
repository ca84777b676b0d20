/-
  What is proved: what Quoted answers, in the program and in the document. Conditions: those of each theorem.
-/
import Derived.Test.YthddfkemagpiaaaL6
set_option linter.unusedVariables false
set_option linter.unusedSimpArgs false
namespace Go.Proofs.Ythddfkemagpiaaa
open Go.RowKit
def insT (c : Int) : Bool := decide (33 ≤ c ∧ c ≤ 126 ∧ c ≠ 39)
theorem inside_any (c : Int) (w : World) : Calls Try.prog 123 #[.int .u8 c] w fun e w' => e = .returned (.bool (insT c)) ∧ w = w' := by
  unfold insT
  by_cases h : 32 < c
  · by_cases h2 : c ≤ 126
    · by_cases h3 : c = 39
      · subst h3
        go_enter Try.func123, Try.ntmps123
        go_wp2
        go_ret
        exact ⟨rfl, rfl⟩
      · have b : (c != 39) = true := by simpa using h3
        have H3 := Lib.hid h3
        clear h3
        go_enter Try.func123, Try.ntmps123
        go_wp2
        go_ret
        exact ⟨ret_bool (by have := H3.out; simp; omega), rfl⟩
    · go_enter Try.func123, Try.ntmps123
      go_wp2
      go_ret
      exact ⟨ret_bool (by simp; omega), rfl⟩
  · go_enter Try.func123, Try.ntmps123
    go_wp2
    go_ret
    exact ⟨ret_bool (by simp; omega), rfl⟩
theorem rinside_any (c : Int) (w : World) : Calls Try.prog 134 #[.int .u8 c] w fun e w' => e = .returned (.bool (insT c)) ∧ w = w' := by
  unfold insT
  by_cases h : 33 ≤ c
  · by_cases h2 : c ≤ 126
    · by_cases h3 : c = 39
      · subst h3
        go_enter Try.func134, Try.ntmps134
        go_wp2
        go_ret
        exact ⟨rfl, rfl⟩
      · have b : (c != 39) = true := by simpa using h3
        have H3 := Lib.hid h3
        clear h3
        go_enter Try.func134, Try.ntmps134
        go_wp2
        go_ret
        exact ⟨ret_bool (by have := H3.out; simp; omega), rfl⟩
    · go_enter Try.func134, Try.ntmps134
      go_wp2
      go_ret
      exact ⟨ret_bool (by simp; omega), rfl⟩
  · go_enter Try.func134, Try.ntmps134
    go_wp2
    go_ret
    exact ⟨ret_bool (by simp; omega), rfl⟩
structure IsSp (s : ByteArray) (n : Nat) : Prop where
  pos : 1 ≤ n
  le : n ≤ s.size
  ins : ∀ j, 1 ≤ j → j < n → insT (byt s j) = true
  stop : n < s.size → insT (byt s n) = false
theorem IsSp.uniq {s : ByteArray} {n m : Nat} (h : IsSp s n) (k : IsSp s m) : n = m := by
  rcases Nat.lt_trichotomy n m with h1 | h1 | h1
  · have := k.ins n h.pos h1
    rw [h.stop (by have := k.le; omega)] at this; cases this
  · exact h1
  · have := h.ins m k.pos h1
    rw [k.stop (by have := h.le; omega)] at this; cases this
def okSp (s : ByteArray) (n : Nat) : Prop := n < s.size ∧ byt s n = 39 ∧ n ≠ 1 ∧ n < 24
open Classical in
noncomputable def quotB (s : ByteArray) : Bool := decide (s.size ≠ 0 ∧ byt s 0 = 39 ∧ ∃ n, IsSp s n ∧ okSp s n ∧ n + 1 = s.size)
theorem ins_succ {s : ByteArray} {k : Nat} (h : ∀ j, 1 ≤ j → j < k + 1 → insT (byt s j) = true) (h1 : insT (byt s (k + 1)) = true) : ∀ j, 1 ≤ j → j < k + 1 + 1 → insT (byt s j) = true := fun j h0 hj => by
  by_cases e : j = k + 1
  · rw [e]; exact h1
  · exact h j h0 (by omega)
theorem span_any (w : World) (s : ByteArray) (hs : s.size ≤ 100000) (h0 : s.size ≠ 0) : Calls Try.prog 122 #[.string s, .int .i64 1, .func (.func 123) #[] #[]] w fun e w' => (∃ k : Nat, e = .returned (.int .i64 (k : Int)) ∧ Hid (IsSp s (k + 1))) ∧ w = w' := by
  go_enter Try.func122, Try.ntmps122
  go_wp2
  go_loop [7] (fun i => ∃ k : Nat, i = .int .i64 (k : Int) ∧ k + 1 ≤ s.size ∧ Hid (∀ j, 1 ≤ j → j < k + 1 → insT (byt s j) = true)) (fun i => s.size - (intOf i).toNat)
  case atStart => exact ⟨0, rfl, by omega, Lib.hid (fun j h h1 => by omega)⟩
  case round =>
    obtain ⟨k, rfl, hkl, hno⟩ := hrel
    by_cases hlt : k + 1 < s.size
    · have hx := byt_at hlt
      have e1 : (1 : Int) + (k : Int) = ((k + 1 : Nat) : Int) := by omega
      obtain ⟨z, hz⟩ : ∃ z, byt s (k + 1) = z := ⟨_, rfl⟩
      rw [hz] at hx
      have HZ := Lib.hid hz
      clear hz
      have HC := Lib.hid (inside_any z w)
      obtain ⟨b, hb⟩ : ∃ b, insT z = b := ⟨_, rfl⟩
      rw [hb] at HC
      have HB := Lib.hid hb
      clear hb
      cases b
      · go_wp2_with fail
        refine HC.out.mono ?_
        rintro e w1 ⟨rfl, rfl⟩
        go_wp2
        go_ret
        exact ⟨⟨k, rfl, Lib.hid ⟨by omega, hkl, hno.out, fun _ => by rw [HZ.out]; exact HB.out⟩⟩, rfl⟩
      · go_wp2_with fail
        refine HC.out.mono ?_
        rintro e w1 ⟨rfl, rfl⟩
        go_wp2
        go_round
        case rel => exact ⟨k + 1, by go_num, by omega, Lib.hid (ins_succ hno.out (by rw [HZ.out]; exact HB.out))⟩
        case measure => simp [intOf]; omega
    · go_wp2
      go_ret
      exact ⟨⟨k, rfl, Lib.hid ⟨by omega, hkl, hno.out, fun h => absurd h hlt⟩⟩, rfl⟩
theorem fault_any (w : World) (c n : Int) (hc : c ≠ 0) : Calls Try.prog 124 #[.int .i64 c, .int .i64 n] w fun e w' => (∃ p, e = .returned (.iface 132 (.pointer (some p)))) ∧ Kept nob w w' := by
  have b : (c == 0) = false := by simpa using hc
  go_enter Try.func124, Try.ntmps124
  go_wp2
  go_ret
  exact ⟨⟨_, rfl⟩, Kept.alloc _ _ _⟩
def Quo (s : ByteArray) (w : World) (e : Ending) (w' : World) : Prop :=
  Kept nob w w' ∧ ∃ n : Nat, Hid (IsSp s n) ∧ ((Hid (okSp s n) ∧ e = .returned (.tuple #[.int .i64 ((n : Int) + 1), Value.nilIface])) ∨ (Hid (¬ okSp s n) ∧ ∃ p, e = .returned (.tuple #[.int .i64 0, .iface 132 (.pointer (some p))])))
set_option maxRecDepth 100000 in
set_option maxHeartbeats 1000000 in
theorem quoted_any (w : World) (s : ByteArray) (hs : s.size ≤ 100000) (h0 : s.size ≠ 0) : Calls Try.prog 104 #[.string s, .int .i64 0] w (Quo s w) := by
  have HS := Lib.hid (span_any w s hs h0)
  go_enter Try.func104, Try.ntmps104
  go_wp2_with fail
  refine HS.out.mono ?_
  rintro e w1 ⟨⟨k, rfl, hk⟩, rfl⟩
  have hle := hk.out.le
  have e1 : (1 : Int) + (k : Int) = ((k + 1 : Nat) : Int) := by omega
  have F4 := Lib.hid (fun w n => fault_any w 4 n (by decide))
  have F2 := Lib.hid (fun w n => fault_any w 2 n (by decide))
  have F5 := Lib.hid (fun w n => fault_any w 5 n (by decide))
  by_cases h1 : k + 1 < s.size
  · have hx := byt_at h1
    obtain ⟨z, hz⟩ : ∃ z, byt s (k + 1) = z := ⟨_, rfl⟩
    rw [hz] at hx
    have HZ := Lib.hid hz
    clear hz
    by_cases h2 : z = 39
    · have b2 : (z != 39) = false := by simpa using h2
      have H2 := Lib.hid h2
      clear h2
      by_cases h3 : k = 0
      · subst h3
        go_wp2_with fail
        refine (F2.out _ _).mono ?_
        rintro e w1 ⟨⟨p, rfl⟩, hkk⟩
        go_wp2
        go_ret2
        exact ⟨hkk, 1, hk, .inr ⟨Lib.hid (fun h => h.2.2.1 rfl), p, rfl⟩⟩
      · by_cases h4 : k + 1 < 24
        · go_wp2
          go_ret2
          exact ⟨Kept.refl _ _, k + 1, hk, .inl ⟨Lib.hid ⟨h1, by rw [HZ.out]; exact H2.out, by omega, h4⟩, rfl⟩⟩
        · go_wp2_with fail
          refine (F5.out _ _).mono ?_
          rintro e w1 ⟨⟨p, rfl⟩, hkk⟩
          go_wp2
          go_ret2
          exact ⟨hkk, k + 1, hk, .inr ⟨Lib.hid (fun h => h4 h.2.2.2), p, rfl⟩⟩
    · have b2 : (z != 39) = true := by simpa using h2
      have H2 := Lib.hid h2
      clear h2
      go_wp2_with fail
      refine (F2.out _ _).mono ?_
      rintro e w1 ⟨⟨p, rfl⟩, hkk⟩
      go_wp2
      go_ret2
      exact ⟨hkk, k + 1, hk, .inr ⟨Lib.hid (fun h => H2.out (by rw [← HZ.out]; exact h.2.1)), p, rfl⟩⟩
  · go_wp2_with fail
    refine (F4.out _ _).mono ?_
    rintro e w1 ⟨⟨p, rfl⟩, hkk⟩
    go_wp2
    go_ret2
    exact ⟨hkk, k + 1, hk, .inr ⟨Lib.hid (fun h => h1 h.1), p, rfl⟩⟩
theorem quot_yes {s : ByteArray} {n : Nat} (h0 : s.size ≠ 0) (h1 : byt s 0 = 39) (hn : IsSp s n) (hk : okSp s n) : quotB s = decide (n + 1 = s.size) := by
  unfold quotB
  rw [Bool.eq_iff_iff]
  simp only [decide_eq_true_eq]
  constructor
  · rintro ⟨_, _, m, hm, _, h⟩
    rw [hn.uniq hm]; exact h
  · intro h
    exact ⟨h0, h1, n, hn, hk, h⟩
theorem quot_no {s : ByteArray} {n : Nat} (hn : IsSp s n) (hk : ¬ okSp s n) : quotB s = false := by
  unfold quotB
  rw [decide_eq_false_iff_not]
  rintro ⟨_, _, m, hm, h, _⟩
  rw [hn.uniq hm] at hk
  exact hk h
theorem quot_empty {s : ByteArray} (h : s.size = 0) : quotB s = false := by
  unfold quotB
  rw [decide_eq_false_iff_not]
  rintro ⟨h0, _⟩
  exact h0 h
theorem quot_first {s : ByteArray} (h : byt s 0 ≠ 39) : quotB s = false := by
  unfold quotB
  rw [decide_eq_false_iff_not]
  rintro ⟨_, h0, _⟩
  exact h h0
set_option maxRecDepth 100000 in
set_option maxHeartbeats 1000000 in
theorem Quoted_any (w : World) (s : ByteArray) (hs : s.size ≤ 100000) : Calls Try.prog 62 #[.string s] w (RetB1 w (quotB s)) := by
  by_cases h0 : s.size = 0
  · rw [quot_empty h0]
    have b0 : s.toList = [] := str_nil h0
    go_enter Try.func62, Try.ntmps62
    go_wp2
    go_ret
    exact ⟨rfl, Kept.refl _ _⟩
  · have HQ := Lib.hid (quoted_any w s hs h0)
    have b0 := str_cons h0
    have hlt : 0 < s.size := by omega
    have hx := byt_at hlt
    obtain ⟨z, hz⟩ : ∃ z, byt s 0 = z := ⟨_, rfl⟩
    rw [hz] at hx
    have HZ := Lib.hid hz
    clear hz
    by_cases h1 : z = 39
    · have b1 : (z != 39) = false := by simpa using h1
      have H1 := Lib.hid h1
      clear h1
      go_enter Try.func62, Try.ntmps62
      go_wp2_with fail
      refine HQ.out.mono ?_
      rintro e w1 ⟨hk, n, hn, ⟨ho, rfl⟩ | ⟨ho, p, rfl⟩⟩
      · have HE : Hid (quotB s = ((n : Int) + 1 == (s.size : Int))) := Lib.hid (by
          rw [quot_yes h0 (by rw [HZ.out]; exact H1.out) hn.out ho.out, Bool.eq_iff_iff]
          simp
          omega)
        go_wp2
        go_ret
        exact ⟨ret_bool HE.out.symm, hk⟩
      · have HE : Hid (quotB s = false) := Lib.hid (quot_no hn.out ho.out)
        go_wp2
        go_ret
        exact ⟨ret_bool HE.out.symm, hk⟩
    · have b1 : (z != 39) = true := by simpa using h1
      rw [quot_first (by rw [HZ.out]; exact h1)]
      clear h1
      go_enter Try.func62, Try.ntmps62
      go_wp2
      go_ret
      exact ⟨rfl, Kept.refl _ _⟩
end Go.Proofs.Ythddfkemagpiaaa

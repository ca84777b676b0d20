/-
  What is proved: what the document's Quoted answers. Conditions: those of each theorem.
-/
import Derived.Test.YthddfkemagpiaaaL7
set_option linter.unusedVariables false
set_option linter.unusedSimpArgs false
namespace Go.Proofs.Ythddfkemagpiaaa
open Go.RowKit
theorem results_tmp_cell {fn : Func} {p u : Tmp} {ty : TypeId} (h : fn.results = #[.tmp u, .cell p ty]) (tmps : Array Value) (P : Program) (w : World) :
    (results fn tmps).run P w =
      ((asAddr (tmps.getD p undef)).run P w).andThen fun a w₁ => ((loadVar ty a).run P w₁).andThen fun v w₂ => .ok (.tuple #[tmps.getD u undef, v]) w₂ := by
  simp only [results, h]
  simp [Sem.run_bind, Result.andThen]
def RQuo (s : ByteArray) (w : World) (e : Ending) (w' : World) : Prop :=
  Kept nob w w' ∧ ∃ n : Nat, Hid (IsSp s n) ∧ ((Hid (okSp s n) ∧ e = .returned (.tuple #[.int .i64 ((n : Int) + 1), .agg #[.int .i64 0, .int .i64 0]])) ∨ (Hid (¬ okSp s n) ∧ ∃ c a : Int, (c == 0) = false ∧ e = .returned (.tuple #[.int .i64 0, .agg #[.int .i64 c, .int .i64 a]])))
set_option maxRecDepth 100000 in
set_option maxHeartbeats 1000000 in
theorem rquoted_any (w : World) (s : ByteArray) (hs : s.size ≤ 100000) (h0 : s.size ≠ 0) : Calls Try.prog 129 #[.string s, .int .i64 0] w (RQuo s w) := by
  go_enter Try.func129, Try.ntmps129
  go_wp2
  go_loop [6] (fun i => ∃ k : Nat, i = .int .i64 ((k : Int) + 1) ∧ k + 1 ≤ s.size ∧ Hid (∀ j, 1 ≤ j → j < k + 1 → insT (byt s j) = true)) (fun i => s.size - (intOf i).toNat)
  case atStart => exact ⟨0, rfl, by omega, Lib.hid (fun j h h1 => by omega)⟩
  case round =>
    obtain ⟨k, rfl, hkl, hno⟩ := hrel
    by_cases hlt : k + 1 < s.size
    · have hx := byt_at hlt
      obtain ⟨z, hz⟩ : ∃ z, byt s (k + 1) = z := ⟨_, rfl⟩
      rw [hz] at hx
      have HZ := Lib.hid hz
      clear hz
      have HC := Lib.hid (fun w => rinside_any z w)
      obtain ⟨b, hb⟩ : ∃ b, insT z = b := ⟨_, rfl⟩
      rw [hb] at HC
      have HB := Lib.hid hb
      clear hb
      cases b
      · have HSP : Hid (IsSp s (k + 1)) := Lib.hid ⟨by omega, hkl, hno.out, fun _ => by rw [HZ.out]; exact HB.out⟩
        by_cases h2 : z = 39
        · have b2 : (z != 39) = false := by simpa using h2
          have H2 := Lib.hid h2
          clear h2
          by_cases h3 : k = 0
          · subst h3
            go_wp2_with fail
            refine (HC.out _).mono ?_
            rintro e w1 ⟨rfl, rfl⟩
            go_wp2
            (try simp only [Exit.inBlock, Exit.then])
            refine bodyPost_ret (v := .tuple #[.int .i64 0, .agg #[.int .i64 2, .int .i64 1]]) (by rw [results_tmp_cell rfl]; go_simp) rfl ?_
            exact ⟨Kept.alloc _ _ _, 1, HSP, .inr ⟨Lib.hid (fun h => h.2.2.1 rfl), 2, 1, rfl, rfl⟩⟩
          · by_cases h4 : k + 1 < 24
            · go_wp2_with fail
              refine (HC.out _).mono ?_
              rintro e w1 ⟨rfl, rfl⟩
              go_wp2
              (try simp only [Exit.inBlock, Exit.then])
              refine bodyPost_ret (v := .tuple #[.int .i64 ((k : Int) + 1 + 1), .agg #[.int .i64 0, .int .i64 0]]) (by rw [results_tmp_cell rfl]; go_simp) rfl ?_
              exact ⟨Kept.alloc _ _ _, k + 1, HSP, .inl ⟨Lib.hid ⟨hlt, by rw [HZ.out]; exact H2.out, by omega, h4⟩, rfl⟩⟩
            · go_wp2_with fail
              refine (HC.out _).mono ?_
              rintro e w1 ⟨rfl, rfl⟩
              go_wp2
              (try simp only [Exit.inBlock, Exit.then])
              refine bodyPost_ret (v := .tuple #[.int .i64 0, .agg #[.int .i64 5, .int .i64 0]]) (by rw [results_tmp_cell rfl]; go_simp) rfl ?_
              exact ⟨Kept.alloc _ _ _, k + 1, HSP, .inr ⟨Lib.hid (fun h => h4 h.2.2.2), 5, 0, rfl, rfl⟩⟩
        · have b2 : (z != 39) = true := by simpa using h2
          have H2 := Lib.hid h2
          clear h2
          go_wp2_with fail
          refine (HC.out _).mono ?_
          rintro e w1 ⟨rfl, rfl⟩
          go_wp2
          (try simp only [Exit.inBlock, Exit.then])
          refine bodyPost_ret (v := .tuple #[.int .i64 0, .agg #[.int .i64 2, .int .i64 ((k : Int) + 1)]]) (by rw [results_tmp_cell rfl]; go_simp) rfl ?_
          exact ⟨Kept.alloc _ _ _, k + 1, HSP, .inr ⟨Lib.hid (fun h => H2.out (by rw [← HZ.out]; exact h.2.1)), 2, _, rfl, rfl⟩⟩
      · go_wp2_with fail
        refine (HC.out _).mono ?_
        rintro e w1 ⟨rfl, rfl⟩
        go_wp2
        go_round
        case rel => exact ⟨k + 1, by go_num, by omega, Lib.hid (ins_succ hno.out (by rw [HZ.out]; exact HB.out))⟩
        case measure => simp [intOf]; omega
    · have HSP : Hid (IsSp s (k + 1)) := Lib.hid ⟨by omega, hkl, hno.out, fun h => absurd h hlt⟩
      go_wp2
      (try simp only [Exit.inBlock, Exit.then])
      refine bodyPost_ret (v := .tuple #[.int .i64 0, .agg #[.int .i64 4, .int .i64 (s.size : Int)]]) (by rw [results_tmp_cell rfl]; go_simp) rfl ?_
      exact ⟨Kept.alloc _ _ _, k + 1, HSP, .inr ⟨Lib.hid (fun h => hlt h.1), 4, _, rfl, rfl⟩⟩
set_option maxRecDepth 100000 in
set_option maxHeartbeats 1000000 in
theorem rQuoted_any (w : World) (s : ByteArray) (hs : s.size ≤ 100000) : Calls Try.prog 111 #[.string s] w (RetB1 w (quotB s)) := by
  by_cases h0 : s.size = 0
  · rw [quot_empty h0]
    have b0 : s.toList = [] := str_nil h0
    go_enter Try.func111, Try.ntmps111
    go_wp2
    go_ret
    exact ⟨rfl, Kept.refl _ _⟩
  · have HQ := Lib.hid (rquoted_any w s hs h0)
    have b0 := str_cons h0
    have hlt : 0 < s.size := by omega
    have hx := byt_at hlt
    obtain ⟨z, hz⟩ : ∃ z, byt s 0 = z := ⟨_, rfl⟩
    rw [hz] at hx
    have HZ := Lib.hid hz
    clear hz
    by_cases h1 : z = 39
    · have b1 : (z != 39) = false := by simpa using h1
      have H1 := Lib.hid h1
      clear h1
      go_enter Try.func111, Try.ntmps111
      go_wp2_with fail
      refine HQ.out.mono ?_
      rintro e w1 ⟨hk, n, hn, ⟨ho, rfl⟩ | ⟨ho, c, a, hc, rfl⟩⟩
      · have HE : Hid (quotB s = ((n : Int) + 1 == (s.size : Int))) := Lib.hid (by
          rw [quot_yes h0 (by rw [HZ.out]; exact H1.out) hn.out ho.out, Bool.eq_iff_iff]
          simp
          omega)
        go_wp2
        go_ret
        exact ⟨ret_bool HE.out.symm, hk.trans (Kept.alloc _ _ _) (fun _ _ h => h)⟩
      · have HE : Hid (quotB s = false) := Lib.hid (quot_no hn.out ho.out)
        go_wp2
        go_ret
        exact ⟨ret_bool HE.out.symm, hk.trans (Kept.alloc _ _ _) (fun _ _ h => h)⟩
    · have b1 : (z != 39) = true := by simpa using h1
      rw [quot_first (by rw [HZ.out]; exact h1)]
      clear h1
      go_enter Try.func111, Try.ntmps111
      go_wp2
      go_ret
      exact ⟨rfl, Kept.refl _ _⟩
end Go.Proofs.Ythddfkemagpiaaa

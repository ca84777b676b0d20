/-
  What is proved: what has, place, Ints, SameRule, Same answer. Conditions: the arguments can be read.
-/
import Derived.Test.YthddfkemagpiaaaL2
set_option linter.unusedVariables false
set_option linter.unusedSimpArgs false
namespace Go.Proofs.Ythddfkemagpiaaa
open Go.RowKit
theorem iv_at {w : World} {a : Option Addr} {xs : List Int} (hx : Rd w a (iv xs)) {k : Nat} (hk : k < xs.length) : ∃ b o, a = some ⟨b, o, none⟩ ∧ w.cell? ⟨b, o + k, none⟩ = some (.int .i64 (xs.getD k 0)) := by
  rcases hx with h | ⟨b, o, rfl, hc⟩
  · have := iv_len xs; rw [h] at this; simp at this; omega
  · exact ⟨b, o, rfl, by rw [← iv_get xs k hk, ← hc k (by rw [iv_len]; exact hk)]⟩
theorem notin_succ {xs : List Int} {k : Nat} {s : Int} (h : ∀ j, j < k → xs.getD j 0 ≠ s) (h1 : xs.getD k 0 ≠ s) : ∀ j, j < k + 1 → xs.getD j 0 ≠ s := fun j hj => by
  by_cases e : j = k
  · rw [e]; exact h1
  · exact h j (by omega)
theorem mem_at {xs : List Int} {k : Nat} (hk : k < xs.length) : xs.getD k 0 ∈ xs := by
  simp [List.getD, hk]
theorem notin_all {xs : List Int} {s : Int} (h : ∀ j, j < xs.length → xs.getD j 0 ≠ s) : ¬ s ∈ xs := fun hm => by
  obtain ⟨i, hi, e⟩ := List.mem_iff_getElem.1 hm
  exact h i hi (by simp [List.getD, hi, e])
theorem has_ok (a : Option Addr) (c : Nat) (xs : List Int) (s : Int) (w : World) (hx : Rd w a (iv xs)) (hl : xs.length ≤ big) :
    Calls Try.prog 47 #[.slice a xs.length c, .int .i64 s] w fun e w' => e = .returned (.bool (decide (s ∈ xs))) ∧ w = w' := by
  unfold big at hl
  go_enter Try.func47, Try.ntmps47
  go_wp2
  go_loop [5] (fun i => ∃ k : Nat, i = .int .i64 (k : Int) ∧ k ≤ xs.length ∧ Hid (∀ j, j < k → xs.getD j 0 ≠ s)) (fun i => xs.length - (intOf i).toNat)
  case atStart => exact ⟨0, rfl, by omega, fun j h => by omega⟩
  case round =>
    obtain ⟨k, rfl, hkl, hno⟩ := hrel
    by_cases hlt : k < xs.length
    · obtain ⟨b1, o1, rfl, d1⟩ := iv_at hx hlt
      obtain ⟨x, hx1⟩ : ∃ x, x = xs.getD k 0 := ⟨_, rfl⟩
      have HX := Lib.hid hx1
      rw [← hx1] at d1
      clear hx hx1
      by_cases hxy : x = s
      · subst hxy
        have HE : Hid (decide (x ∈ xs) = true) := Lib.hid (by rw [HX.out]; simpa using mem_at hlt)
        go_wp2
        go_ret
        exact ⟨ret_bool HE.out.symm, rfl⟩
      · have HXY := Lib.hid hxy
        go_wp2
        go_round
        case rel => exact ⟨k + 1, by go_num, by omega, notin_succ hno.out (by rw [← HX.out]; exact HXY.out)⟩
        case measure => simp [intOf]; omega
    · have HE : Hid (decide (s ∈ xs) = false) := Lib.hid (by simpa using notin_all (s := s) (fun j hj => hno.out j (by omega)))
      go_wp2
      go_ret
      exact ⟨ret_bool HE.out.symm, rfl⟩
/-- A symbol's place in a list, from 1 on. -/
def plcI (xs : List Int) (s : Int) : Int := if s ∈ xs then (xs.idxOf s : Int) + 1 else 0
theorem plcI_at {xs : List Int} {k : Nat} {s : Int} (hk : k < xs.length) (h : xs.getD k 0 = s) (hn : ∀ j, j < k → xs.getD j 0 ≠ s) : plcI xs s = (k : Int) + 1 := by
  unfold plcI
  have hm : s ∈ xs := by rw [← h]; exact mem_at hk
  rw [if_pos hm]
  have h2 : xs.idxOf s = k := by
    have hlt : xs.idxOf s < xs.length := List.idxOf_lt_length_iff.2 hm
    have hg : xs.getD (xs.idxOf s) 0 = s := by simp [List.getD, hlt]
    rcases Nat.lt_trichotomy (xs.idxOf s) k with h3 | h3 | h3
    · exact absurd hg (hn _ h3)
    · exact h3
    · have := List.not_of_lt_findIdx (p := (· == s)) (show k < xs.findIdx (· == s) from h3)
      simp [List.getD, hk] at h
      simp [h] at this
  rw [h2]
theorem place_ok (a : Option Addr) (c : Nat) (xs : List Int) (s : Int) (w : World) (hx : Rd w a (iv xs)) (hl : xs.length ≤ big) :
    Calls Try.prog 96 #[.slice a xs.length c, .int .i64 s] w fun e w' => e = .returned (.int .i64 (plcI xs s)) ∧ w = w' := by
  unfold big at hl
  go_enter Try.func96, Try.ntmps96
  go_wp2
  go_loop [5] (fun i => ∃ k : Nat, i = .int .i64 (k : Int) ∧ k ≤ xs.length ∧ Hid (∀ j, j < k → xs.getD j 0 ≠ s)) (fun i => xs.length - (intOf i).toNat)
  case atStart => exact ⟨0, rfl, by omega, fun j h => by omega⟩
  case round =>
    obtain ⟨k, rfl, hkl, hno⟩ := hrel
    by_cases hlt : k < xs.length
    · obtain ⟨b1, o1, rfl, d1⟩ := iv_at hx hlt
      obtain ⟨x, hx1⟩ : ∃ x, x = xs.getD k 0 := ⟨_, rfl⟩
      have HX := Lib.hid hx1
      rw [← hx1] at d1
      clear hx hx1
      by_cases hxy : x = s
      · subst hxy
        have HE : Hid (plcI xs x = (k : Int) + 1) := Lib.hid (plcI_at hlt HX.out.symm hno.out)
        go_wp2
        go_ret
        exact ⟨ret_int HE.out.symm, rfl⟩
      · have HXY := Lib.hid hxy
        go_wp2
        go_round
        case rel => exact ⟨k + 1, by go_num, by omega, notin_succ hno.out (by rw [← HX.out]; exact HXY.out)⟩
        case measure => simp [intOf]; omega
    · have HE : Hid (plcI xs s = 0) := Lib.hid (by unfold plcI; rw [if_neg (notin_all (s := s) (fun j hj => hno.out j (by omega)))])
      go_wp2
      go_ret
      exact ⟨ret_int HE.out.symm, rfl⟩
set_option maxHeartbeats 1000000 in
theorem ints98_any (a1 a2 : Option Addr) (c1 c2 : Nat) (xs ys : List Int) (w : World) (hx : Rd w a1 (iv xs)) (hy : Rd w a2 (iv ys)) (hlx : xs.length ≤ 9223372036854775807) (hly : ys.length ≤ 9223372036854775807) :
    Calls Try.prog 98 #[.slice a1 xs.length c1, .slice a2 ys.length c2] w fun e w' => e = .returned (.bool (eqi xs ys)) ∧ Kept nob w w' := by
  by_cases hl : xs.length = ys.length
  · have hlx0 := hl
    have HLL := Lib.hid hl
    rw [← hl] at hly ⊢
    clear hl hlx0
    go_enter Try.func98, Try.ntmps98
    go_wp2
    go_loopw [5] (fun i wr => ∃ k q : Nat, i = .int .i64 (k : Int) ∧ k ≤ xs.length ∧ wr = w.drewN q ∧ Hid (∀ j, j < k → xs.getD j 0 = ys.getD j 0)) (fun i _ => xs.length - (intOf i).toNat)
    case atStart => exact ⟨0, 0, rfl, by omega, rfl, fun j h => by omega⟩
    case round =>
      obtain ⟨k, q, rfl, hkl, rfl, hno⟩ := hrel
      by_cases hlt : k < xs.length
      · rcases hx with h | ⟨b1, o1, rfl, hc1⟩
        · have := iv_len xs; rw [h] at this; simp at this; omega
        rcases hy with h | ⟨b2, o2, rfl, hc2⟩
        · have := iv_len ys; rw [h] at this; have := HLL.out; simp at *; omega
        have hlt2 : k < ys.length := by rw [← HLL.out]; exact hlt
        have d1 : w.cell? ⟨b1, o1 + k, none⟩ = some (.int .i64 (xs.getD k 0)) := by
          rw [← iv_get xs k hlt, ← hc1 k (by rw [iv_len]; exact hlt)]
        have d2 : w.cell? ⟨b2, o2 + k, none⟩ = some (.int .i64 (ys.getD k 0)) := by
          rw [← iv_get ys k hlt2, ← hc2 k (by rw [iv_len]; exact hlt2)]
        obtain ⟨x, hx⟩ : ∃ x, x = xs.getD k 0 := ⟨_, rfl⟩
        obtain ⟨y, hy⟩ : ∃ y, y = ys.getD k 0 := ⟨_, rfl⟩
        rw [← hx] at d1
        rw [← hy] at d2
        have HX := Lib.hid hx
        have HY := Lib.hid hy
        clear hx hy hc1 hc2
        by_cases hxy : x = y
        · subst hxy
          go_wp2
          go_quiet (fail)
          go_wp2
          go_roundw
          case rel =>
            refine ⟨k + 1, q + nq, by go_num, by omega, rfl, fun j hj => ?_⟩
            by_cases e : j = k
            · rw [e, ← HX.out, ← HY.out]
            · exact hno.out j (by omega)
          case measure => simp [intOf]; omega
        · have hb : (x != y) = true := by simpa using hxy
          have HE := Lib.hid (eqi_at (xs := xs) (ys := ys) k (by rw [← HX.out, ← HY.out]; exact hxy))
          go_wp2
          go_quiet (fail)
          go_wp2
          go_ret
          exact ⟨ret_bool HE.out.symm, by rw [World.drewN_drewN]; exact Kept.drewN _ _ _⟩
      · have HE := Lib.hid (eqi_all HLL.out (fun j hj => hno.out j (by omega)))
        go_wp2
        go_ret
        exact ⟨ret_bool HE.out.symm, Kept.drewN _ _ _⟩
  · have HE := Lib.hid (eqi_len hl)
    have hb : ((xs.length : Int) != ys.length) = true := by simp only [bne_iff_ne, ne_eq]; omega
    clear hl
    go_enter Try.func98, Try.ntmps98
    go_wp2
    go_ret
    exact ⟨ret_bool HE.out.symm, Kept.refl _ _⟩


def ruleB (r q : Rl) : Bool := decide (r = q)
theorem ruleB_eq (r q : Rl) : ruleB r q = (decide (r.1 = q.1) && eqi r.2 q.2) := by
  unfold ruleB eqi
  rw [Bool.eq_iff_iff]
  simp [Prod.ext_iff]
set_option maxRecDepth 100000 in
theorem samerule_any (w : World) (l1 l2 : Int) (a1 a2 : Option Addr) (c1 c2 : Nat) (xs ys : List Int) (hx : Rd w a1 (iv xs)) (hy : Rd w a2 (iv ys)) (hlx : xs.length ≤ big) (hly : ys.length ≤ big) :
    Calls Try.prog 67 #[.agg #[.int .i64 l1, .slice a1 xs.length c1], .agg #[.int .i64 l2, .slice a2 ys.length c2]] w fun e w' => e = .returned (.bool (ruleB (l1, xs) (l2, ys))) ∧ Kept nob w w' := by
  unfold big at hlx hly
  rw [ruleB_eq]
  have HX := Lib.hid hx
  have HY := Lib.hid hy
  clear hx hy
  by_cases h : l1 = l2
  · subst h
    have HE := Lib.hid (fun w' (hk : Kept nob w w') => equal_any a1 a2 c1 c2 xs ys w' (HX.out.nob hk) (HY.out.nob hk) (by omega) (by omega))
    go_enter Try.func67, Try.ntmps67
    go_wp2_with fail
    refine (HE.out _ ((Kept.alloc _ _ _).trans (Kept.alloc _ _ _) (fun _ _ h => h))).mono ?_
    rintro e w1 ⟨rfl, hk⟩
    go_wp2
    go_ret
    exact ⟨ret_bool (by simp), ((Kept.alloc _ _ _).trans (Kept.alloc _ _ _) (fun _ _ h => h)).trans hk (fun _ _ h => h)⟩
  · have hb : (l1 == l2) = false := by simpa using h
    have HH := Lib.hid h
    clear h
    go_enter Try.func67, Try.ntmps67
    go_wp2
    go_ret
    exact ⟨ret_bool (by simp [HH.out]), (Kept.alloc _ _ _).trans (Kept.alloc _ _ _) (fun _ _ h => h)⟩
set_option maxRecDepth 100000 in
theorem rsamerule_any (w : World) (l1 l2 : Int) (a1 a2 : Option Addr) (c1 c2 : Nat) (xs ys : List Int) (hx : Rd w a1 (iv xs)) (hy : Rd w a2 (iv ys)) (hlx : xs.length ≤ big) (hly : ys.length ≤ big) :
    Calls Try.prog 56 #[.agg #[.int .i64 l1, .slice a1 xs.length c1], .agg #[.int .i64 l2, .slice a2 ys.length c2]] w fun e w' => e = .returned (.bool (ruleB (l1, xs) (l2, ys))) ∧ Kept nob w w' := by
  unfold big at hlx hly
  rw [ruleB_eq]
  have HX := Lib.hid hx
  have HY := Lib.hid hy
  clear hx hy
  by_cases h : l1 = l2
  · subst h
    have HE := Lib.hid (fun w' (hk : Kept nob w w') => ints98_any a1 a2 c1 c2 xs ys w' (HX.out.nob hk) (HY.out.nob hk) (by omega) (by omega))
    go_enter Try.func56, Try.ntmps56
    go_wp2_with fail
    refine (HE.out _ ((Kept.alloc _ _ _).trans (Kept.alloc _ _ _) (fun _ _ h => h))).mono ?_
    rintro e w1 ⟨rfl, hk⟩
    go_wp2
    go_ret
    exact ⟨ret_bool (by simp), ((Kept.alloc _ _ _).trans (Kept.alloc _ _ _) (fun _ _ h => h)).trans hk (fun _ _ h => h)⟩
  · have hb : (l1 == l2) = false := by simpa using h
    have HH := Lib.hid h
    clear h
    go_enter Try.func56, Try.ntmps56
    go_wp2
    go_ret
    exact ⟨ret_bool (by simp [HH.out]), (Kept.alloc _ _ _).trans (Kept.alloc _ _ _) (fun _ _ h => h)⟩
theorem same16_any (a1 a2 : Option Addr) (c1 c2 : Nat) (xs ys : List Int) (w : World) (hx : Rd w a1 (iv xs)) (hy : Rd w a2 (iv ys)) (hlx : xs.length ≤ big) (hly : ys.length ≤ big) :
    Calls Try.prog 16 #[.slice a1 xs.length c1, .slice a2 ys.length c2] w fun e w' => e = .returned (.bool (eqi xs ys)) ∧ Kept nob w w' := by
  unfold big at hlx hly
  have HE := Lib.hid (ints_any a1 a2 c1 c2 xs ys w hx hy (by omega) (by omega))
  clear hx hy
  go_enter Try.func16, Try.ntmps16
  go_wp2_with fail
  refine HE.out.mono ?_
  rintro e w1 ⟨rfl, hk⟩
  go_wp2
  go_ret
  exact ⟨rfl, hk⟩
end Go.Proofs.Ythddfkemagpiaaa

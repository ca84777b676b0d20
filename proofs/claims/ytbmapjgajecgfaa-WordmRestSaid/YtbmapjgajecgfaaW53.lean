/-
  What is proved: how long Rest is, and in which states a byte that is taken leaves a machine. Conditions: those of each theorem.
-/
import Derived.Test.YtbmapjgajecgfaaW52
set_option linter.unusedVariables false
set_option linter.unusedSimpArgs false
namespace Go.Proofs.Ytbmapjgajecgfaa
open Go.RowKit
structure St.sml (n : Nat) (s : St) : Prop where
  lo : s.lo.length ≤ n
  dp : s.dp ≤ n
  cu : s.kd = 11 → s.cu = 37 ∨ s.cu = 35
def SmlR (n : Nat) (r : Int × St) : Prop := r.2.sml n ∧ (r.1 = 0 → r.2.kd ≤ 14)
theorem sml_of {n : Nat} {s : St} (h : s.sml n) (v : Int) (k : Nat) (t : St) (h1 : t.lo.length ≤ s.lo.length + 2) (h2 : t.dp ≤ s.dp + 1) (hk : t.kd = k) (h3 : k ≠ 11) (h4 : v = 0 → k ≤ 14) : SmlR (n + 2) (v, t) :=
  ⟨⟨by have := h.lo; show t.lo.length ≤ _; omega, by have := h.dp; show t.dp ≤ _; omega, fun e => absurd (hk.symm.trans e) h3⟩, fun e => by show t.kd ≤ 14; rw [hk]; exact h4 e⟩
theorem text_sml {n : Nat} {s t : St} (h : s.sml n) (h1 : t.lo.length ≤ s.lo.length + 1) (h2 : t.dp = s.dp) (hk : t.kd = 0) (c : UInt8) : SmlR (n + 2) (stText t c) := by
  have hp : ∀ (v : Int) (k : Nat) (x : St), x.lo.length ≤ t.lo.length + 1 → x.dp = t.dp → x.kd = k → k ≠ 11 → (v = 0 → k ≤ 14) → SmlR (n + 2) (v, x) := fun v k x a b e d f => sml_of h v k x (by omega) (by omega) e d f
  unfold stText
  split
  · exact hp 3 17 _ (by show t.lo.length ≤ _; omega) rfl rfl (by omega) (by omega)
  split
  · exact hp 1 16 _ (by show t.lo.length ≤ _; omega) rfl rfl (by omega) (by omega)
  split
  · exact hp 0 0 _ (by show t.lo.dropLast.length ≤ _; simp; omega) rfl rfl (by omega) (by omega)
  split
  · exact hp 0 1 _ (by show t.lo.length ≤ _; omega) rfl rfl (by omega) (by omega)
  split
  · exact hp 0 12 _ (by show t.lo.length ≤ _; omega) rfl rfl (by omega) (by omega)
  split
  · exact hp 0 0 _ (by show (t.lo ++ [t.tp]).length ≤ _; simp) rfl rfl (by omega) (by omega)
  split
  · exact hp 0 2 _ (by show t.lo.length ≤ _; omega) rfl rfl (by omega) (by omega)
  · exact hp 0 0 _ (by show t.lo.length ≤ _; omega) rfl hk (by omega) (by omega)
theorem behind_sml {n : Nat} {s t : St} (h : s.sml n) (h1 : t.lo = s.lo) (h2 : t.dp = s.dp) (c : UInt8) : SmlR (n + 2) (stBehind t c) := by
  have hp : ∀ (v : Int) (k : Nat) (x : St), x.lo.length ≤ t.lo.length + 1 → x.dp = t.dp → x.kd = k → k ≠ 11 → (v = 0 → k ≤ 14) → SmlR (n + 2) (v, x) := fun v k x a b e d f => sml_of h v k x (by rw [h1] at a; omega) (by omega) e d f
  unfold stBehind
  split
  · exact hp 0 0 _ (by show t.lo.length ≤ _; omega) rfl rfl (by omega) (by omega)
  split
  · exact hp 3 17 _ (by show t.lo.length ≤ _; omega) rfl rfl (by omega) (by omega)
  split
  · exact hp 0 10 _ (by show t.lo.length ≤ _; omega) rfl rfl (by omega) (by omega)
  split
  · rename_i hc
    refine ⟨⟨by have := h.lo; show t.lo.length ≤ _; rw [h1]; omega, by have := h.dp; show t.dp ≤ _; omega, fun _ => ?_⟩, fun _ => by show 11 ≤ 14; omega⟩
    rcases hc with rfl | rfl
    · exact .inl rfl
    · exact .inr rfl
  split
  · exact hp 0 0 _ (by show (t.lo ++ [t.tp]).length ≤ _; simp) rfl rfl (by omega) (by omega)
  · exact hp 3 17 _ (by show t.lo.length ≤ _; omega) rfl rfl (by omega) (by omega)
theorem parameter_sml {n : Nat} {s t : St} (h : s.sml n) (h1 : t.lo = s.lo) (h2 : t.dp = s.dp) (c : UInt8) : SmlR (n + 2) (stParameter t c) := by
  have hp : ∀ (v : Int) (k : Nat) (x : St), x.lo.length ≤ t.lo.length + 1 → x.dp = t.dp → x.kd = k → k ≠ 11 → (v = 0 → k ≤ 14) → SmlR (n + 2) (v, x) := fun v k x a b e d f => sml_of h v k x (by rw [h1] at a; omega) (by omega) e d f
  unfold stParameter
  simp only
  split
  · exact hp 0 7 _ (by show t.lo.length ≤ _; omega) rfl rfl (by omega) (by omega)
  split
  · exact hp 0 8 _ (by show t.lo.length ≤ _; omega) rfl rfl (by omega) (by omega)
  split
  · exact hp 0 9 _ (by show t.lo.length ≤ _; omega) rfl rfl (by omega) (by omega)
  · exact hp 3 17 _ (by show t.lo.length ≤ _; omega) rfl rfl (by omega) (by omega)
theorem next_sml {n : Nat} {s : St} (h : s.sml n) (c : UInt8) : SmlR (n + 2) (stNext s c) := by
  have hp : ∀ (v : Int) (k : Nat) (x : St), x.lo.length ≤ s.lo.length + 1 → x.dp ≤ s.dp + 1 → x.kd = k → k ≠ 11 → (v = 0 → k ≤ 14) → SmlR (n + 2) (v, x) := fun v k x a b e d f => sml_of h v k x (by omega) (by omega) e d f
  have hl : s.lo.length ≤ s.lo.length + 1 := by omega
  have hd : s.dp ≤ s.dp + 1 := by omega
  have hpu : (s.lo ++ [s.tp]).length ≤ s.lo.length + 1 := by simp
  have hname : (s.kd = 7 ∨ s.kd = 8) → SmlR (n + 2) (stName s c) := fun hk => by
    unfold stName
    split
    · exact hp 0 s.kd _ hl hd rfl (by omega) (by omega)
    · exact behind_sml (t := s.turn 9) h rfl rfl c
  unfold stNext
  split
  · exact text_sml h hl rfl (by assumption) c
  · unfold stEscaped
    split
    · exact hp 3 17 _ hl hd rfl (by omega) (by omega)
    split
    · exact hp 0 0 _ hl hd rfl (by omega) (by omega)
    · exact hp 0 0 _ hl hd rfl (by omega) (by omega)
  · unfold stDollar
    split
    · exact hp 0 5 _ hl hd rfl (by omega) (by omega)
    split
    · exact hp 0 3 _ hl hd rfl (by omega) (by omega)
    split
    · exact hp 0 4 _ hl hd rfl (by omega) (by omega)
    split
    · exact hp 0 0 _ hl hd rfl (by omega) (by omega)
    · exact text_sml (t := (s.lit [36]).turn 0) h hl rfl rfl c
  · unfold stOpened
    split
    · rename_i hk _
      refine ⟨⟨by have := h.lo; show s.lo.length ≤ _; omega, by show (0 : Int) ≤ _; omega, fun e => absurd e (by show ¬ (13 = 11); omega)⟩, fun _ => by show 13 ≤ 14; omega⟩
    · exact hp 2 15 _ hl hd rfl (by omega) (by omega)
  · unfold stBare
    split
    · rename_i hk _
      exact hp 0 s.kd _ hl hd rfl (by omega) (by omega)
    · exact text_sml (t := (s.add _).turn 0) h hl rfl rfl c
  · unfold stHead
    split
    · exact hp 0 6 _ hl hd rfl (by omega) (by omega)
    · exact parameter_sml (t := {s with ln := false}) h rfl rfl c
  · unfold stHash
    split
    · exact hp 0 0 _ hl hd rfl (by omega) (by omega)
    · exact parameter_sml h rfl rfl c
  · exact hname (.inl (by assumption))
  · exact hname (.inr (by assumption))
  · exact behind_sml h rfl rfl c
  · unfold stColon
    split
    · exact hp 0 0 _ hpu hd rfl (by omega) (by omega)
    · exact hp 3 17 _ hl hd rfl (by omega) (by omega)
  · unfold stDouble
    split
    · exact hp 0 0 _ hpu hd rfl (by omega) (by omega)
    · exact text_sml (t := s.push 2 _ _) h hpu rfl rfl c
  · unfold stSingle
    split
    · exact hp 3 17 _ hl hd rfl (by omega) (by omega)
    split
    · exact hp 0 0 _ hl hd rfl (by omega) (by omega)
    · rename_i hk _ _
      exact hp 0 s.kd _ hl hd rfl (by omega) (by omega)
  · unfold stArith
    split
    · exact hp 3 17 _ hl hd rfl (by omega) (by omega)
    split
    · exact hp 0 14 _ hl hd rfl (by omega) (by omega)
    · rename_i hk _ _
      refine hp 0 s.kd _ hl ?_ rfl (by omega) (by omega)
      show (if c = 41 then s.dp - 1 else if c = 40 then s.dp + 1 else s.dp) ≤ _
      split
      · omega
      · split <;> omega
  · unfold stArithEnd
    split
    · exact hp 0 0 _ hl hd rfl (by omega) (by omega)
    · exact hp 3 17 _ hl hd rfl (by omega) (by omega)
  · exact ⟨⟨by have := h.lo; show s.lo.length ≤ _; omega, by have := h.dp; show s.dp ≤ _; omega, h.cu⟩, fun e => absurd e (by show ¬ ((1 : Int) = 0); omega)⟩
  · exact ⟨⟨by have := h.lo; show s.lo.length ≤ _; omega, by have := h.dp; show s.dp ≤ _; omega, h.cu⟩, fun e => absurd e (by show ¬ ((3 : Int) = 0); omega)⟩
theorem feed_sml {n : Nat} {s : St} (h : s.sml n) (c : UInt8) : SmlR (n + 2) (stFeed s c) := by
  have hn := next_sml h c
  unfold stFeed
  split
  · rename_i h0
    exact ⟨⟨hn.1.lo, hn.1.dp, hn.1.cu⟩, fun _ => hn.2 h0⟩
  · exact hn
theorem run_sml (l : List UInt8) : ∀ (s : St) (i n : Nat), s.sml n → s.kd ≤ 14 → (run s l i).2.2 = 0 → (run s l i).1.sml (n + 2 * l.length) ∧ (run s l i).1.kd ≤ 14 := by
  induction l with
  | nil => intro s i n h hk _; exact ⟨h, hk⟩
  | cons c r ih =>
    intro s i n h hk h0
    have hf := feed_sml h c
    rw [run_cons] at h0 ⊢
    split at h0
    · rename_i hz
      rw [if_pos hz]
      obtain ⟨a, b⟩ := ih _ _ _ hf.1 (hf.2 hz) h0
      exact ⟨⟨by have := a.lo; simp only [List.length_cons]; omega, by have := a.dp; simp only [List.length_cons]; omega, a.cu⟩, b⟩
    · rename_i hz
      exact absurd h0 hz
theorem rest_len {n : Nat} {s : St} (h : s.sml n) : (stRest s).length ≤ 2 * n + 4 := by
  have hm : (stMissing s).length ≤ n + 4 := by
    have := h.dp
    unfold stMissing
    split <;> simp <;> omega
  unfold stRest
  split
  · simp
  · have hl := h.lo
    simp [St.all]
    omega
end Go.Proofs.Ytbmapjgajecgfaa

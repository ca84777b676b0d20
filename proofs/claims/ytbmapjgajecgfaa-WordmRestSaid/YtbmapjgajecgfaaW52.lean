/-
  What is proved: what Rest gives ends a machine's word, in every state; how long it is. Conditions: those of each theorem.
-/
import Derived.Test.YtbmapjgajecgfaaW51
set_option linter.unusedVariables false
set_option linter.unusedSimpArgs false
namespace Go.Proofs.Ytbmapjgajecgfaa
open Go.RowKit
def EndsAt (s : St) (L : List UInt8) (i : Nat) : Prop := ∃ x, run s (L ++ [32]) i = (x, i + L.length, 1) ∧ x.kd = 16
/-- One byte of what is missing. -/
theorem EndsAt.cons {s t : St} {c : UInt8} {L : List UInt8} {i : Nat} (h : stFeed s c = (0, t)) (h2 : EndsAt t L (i + 1)) : EndsAt s (c :: L) i := by
  obtain ⟨x, h3, h4⟩ := h2
  refine ⟨x, ?_, h4⟩
  rw [List.cons_append, run_goes h, h3]
  simp only [List.length_cons]
  congr 2
  omega
/-- A state in which a text goes on. -/
theorem ends_text {s t : St} (hk : t.kd = 0) (hw : t.whs = s.whs) (hwf : t.wf) (i : Nat) : EndsAt t (ends s.whs) i := by
  obtain ⟨x, h1, h2⟩ := close_text _ t i rfl hk hwf
  rw [hw] at h1
  exact ⟨x, h1, h2⟩
theorem step_text {s t : St} {c : UInt8} (h : stNext s c = (0, t)) (hk : t.kd = 0) (hw : t.whs = s.whs) (hwf : t.wf) (i : Nat) : EndsAt s (c :: ends s.whs) i :=
  EndsAt.cons (feed_of h) (ends_text (s := s) (t := {t with pl := t.pl ++ [c]}) hk hw hwf _)
theorem feed_add {s : St} {c : UInt8} {p : Prt} (h : stNext s c = (0, (s.add p).turn 0)) (hwf : s.wf) (i : Nat) : EndsAt s (c :: ends s.whs) i :=
  step_text h rfl (whs_add s p) (add_wf hwf p) i
theorem cls_q : cls (34 : UInt8).toNat = 6 ∧ cls (125 : UInt8).toNat = 8 ∧ cls (32 : UInt8).toNat = 1 := by decide
theorem spc_q : spc (34 : UInt8).toNat = false ∧ spc (125 : UInt8).toNat = false ∧ spc (32 : UInt8).toNat = false := by decide
theorem dollar_as {s : St} (hk : s.kd = 2) : ∀ c, c = 34 ∨ c = 125 ∨ c = 32 → stNext s c = stNext ((s.lit [36]).turn 0) c := by
  intro c hc
  have e : stNext s c = stDollar s c := by unfold stNext; rw [hk]; rfl
  have e2 : stNext ((s.lit [36]).turn 0) c = stText ((s.lit [36]).turn 0) c := rfl
  rw [e, e2]
  unfold stDollar
  rcases hc with rfl | rfl | rfl
  · rw [if_neg (by decide), if_neg (by decide), if_neg (by decide), if_neg (by decide)]
  · rw [if_neg (by decide), if_neg (by decide), if_neg (by decide), if_neg (by decide)]
  · rw [if_neg (by decide), if_neg (by decide), if_neg (by decide), if_neg (by decide)]
theorem bare_as {s : St} (hk : s.kd = 4) : ∀ c, c = 34 ∨ c = 125 ∨ c = 32 → stNext s c = stNext ((s.add (.mk 5 ⟨s.bu.toArray⟩ ⟨#[]⟩ [] 0)).turn 0) c := by
  intro c hc
  have e : stNext s c = stBare s c := by unfold stNext; rw [hk]; rfl
  have e2 : stNext ((s.add (.mk 5 ⟨s.bu.toArray⟩ ⟨#[]⟩ [] 0)).turn 0) c = stText ((s.add (.mk 5 ⟨s.bu.toArray⟩ ⟨#[]⟩ [] 0)).turn 0) c := rfl
  rw [e, e2]
  unfold stBare
  rcases hc with rfl | rfl | rfl
  · rw [if_neg (by decide)]
  · rw [if_neg (by decide)]
  · rw [if_neg (by decide)]
theorem behind_end {s : St} (hwf : s.wf) (i : Nat) (h : ∀ c, stNext s c = stBehind s c) : EndsAt s (125 :: ends s.whs) i := by
  refine feed_add (p := .mk 5 ⟨s.bu.toArray⟩ (if s.ln = true then ⟨#[108, 101, 110]⟩ else ⟨#[]⟩) [] 0) ?_ hwf i
  rw [h]
  unfold stBehind
  rw [if_pos rfl]
theorem name_end {s : St} (hwf : s.wf) (hk : s.kd = 7 ∨ s.kd = 8) (i : Nat) : EndsAt s (125 :: ends s.whs) i := by
  have e : stNext s 125 = (0, ((s.turn 9).add (.mk 5 ⟨s.bu.toArray⟩ (if s.ln = true then ⟨#[108, 101, 110]⟩ else ⟨#[]⟩) [] 0)).turn 0) := by
    have e1 : stNext s 125 = stName s 125 := by unfold stNext; rcases hk with h | h <;> rw [h] <;> rfl
    rw [e1]
    unfold stName
    rw [if_neg (by rw [cls_q.2.1]; omega)]
    unfold stBehind
    rw [if_pos rfl]
    rfl
  exact step_text e rfl (whs_add (s.turn 9) _) (add_wf (s := s.turn 9) hwf _) _
/-- What is missing of arithmetic. -/
theorem arith_end (n : Nat) : ∀ (s : St) (i : Nat), s.kd = 13 → s.dp = (n : Int) → s.wf → EndsAt s (List.replicate n 41 ++ ([41, 41] ++ ends s.whs)) i := by
  induction n with
  | zero =>
    intro s i hk hd hwf
    have e1 : stNext s 41 = (0, s.turn 14) := by
      have : stNext s 41 = stArith s 41 := by unfold stNext; rw [hk]; rfl
      rw [this]
      unfold stArith
      rw [if_neg (by decide), if_pos ⟨rfl, hd⟩]
    refine EndsAt.cons (feed_of e1) ?_
    exact feed_add (s := {s.turn 14 with pl := (s.turn 14).pl ++ [41]}) (p := .mk 7 ⟨s.bu.toArray⟩ ⟨#[]⟩ [] 0) rfl hwf _
  | succ n ih =>
    intro s i hk hd hwf
    have e1 : stNext s 41 = (0, {s with bu := s.bu ++ [41], dp := (n : Int)}) := by
      have : stNext s 41 = stArith s 41 := by unfold stNext; rw [hk]; rfl
      rw [this]
      unfold stArith
      rw [if_neg (by decide), if_neg (by rw [hd]; omega), if_pos rfl, hd]
      congr 2
      omega
    exact EndsAt.cons (feed_of e1) (ih {s with bu := s.bu ++ [41], dp := (n : Int), pl := s.pl ++ [41]} (i + 1) hk rfl hwf)
theorem rest_ends {s : St} (hwf : s.wf) (hk : s.kd ≤ 14) (hd : 0 ≤ s.dp) (hcu : s.kd = 11 → s.cu = 37 ∨ s.cu = 35) (i : Nat) : EndsAt s (stRest s) i := by
  have hr : stRest s = stMissing s ++ ends s.whs := by
    unfold stRest
    rw [if_neg (by omega), ends_eq]
  rw [hr]
  obtain ⟨k, hk'⟩ : ∃ k, s.kd = k := ⟨_, rfl⟩
  unfold stMissing
  rw [hk'] at hk hcu ⊢
  have key : k = 0 ∨ k = 1 ∨ k = 2 ∨ k = 3 ∨ k = 4 ∨ k = 5 ∨ k = 6 ∨ k = 7 ∨ k = 8 ∨ k = 9 ∨ k = 10 ∨ k = 11 ∨ k = 12 ∨ k = 13 ∨ k = 14 := by omega
  rcases key with rfl | rfl | rfl | rfl | rfl | rfl | rfl | rfl | rfl | rfl | rfl | rfl | rfl | rfl | rfl
  · exact ends_text hk' rfl hwf i
  · have e : stNext s 120 = stEscaped s 120 := by unfold stNext; rw [hk']; rfl
    unfold stEscaped at e
    rw [if_neg (by decide)] at e
    split at e
    · exact step_text e rfl (whs_lit s _) (lit_wf hwf _) _
    · exact step_text e rfl (whs_add {s with tk := s.tk ++ [120]} _) (add_wf (s := {s with tk := s.tk ++ [120]}) hwf _) _
  · exact close_as (dollar_as hk') (whs_lit s _) rfl (lit_wf hwf _) i
  · obtain ⟨x, hx, _⟩ := ari_run hk' i
    obtain ⟨lo, tp, kd, tk, pl, ex, qu, bu, dp, ln, cu⟩ := s
    obtain rfl : kd = 3 := hk'
    have f1 : stFeed (⟨lo, tp, 3, tk, pl, ex, qu, bu, dp, ln, cu⟩ : St) 40 = (0, ⟨lo, tp, 13, tk, pl ++ [40], ex, qu, [], 0, ln, cu⟩) := rfl
    have f2 : stFeed (⟨lo, tp, 13, tk, pl ++ [40], ex, qu, [], 0, ln, cu⟩ : St) 48 = (0, ⟨lo, tp, 13, tk, pl ++ [40] ++ [48], ex, qu, [48], 0, ln, cu⟩) := rfl
    exact EndsAt.cons f1 (EndsAt.cons f2 (arith_end 0 (⟨lo, tp, 13, tk, pl ++ [40] ++ [48], ex, qu, [48], 0, ln, cu⟩ : St) _ rfl rfl hwf))
  · exact close_as (bare_as hk') (whs_add s _) rfl (add_wf hwf _) i
  · have e : stNext s 120 = (0, ({s with ln := false, bu := [120]} : St).turn 7) := by
      have : stNext s 120 = stHead s 120 := by unfold stNext; rw [hk']; rfl
      rw [this]
      unfold stHead
      rw [if_neg (by decide)]
      unfold stParameter
      simp only
      rw [if_pos (by decide)]
    exact EndsAt.cons (feed_of e) (name_end (s := {({s with ln := false, bu := [120]} : St).turn 7 with pl := s.pl ++ [120]}) hwf (.inl rfl) _)
  · have e : stNext s 125 = (0, (s.add (.mk 5 ⟨#[35]⟩ ⟨#[]⟩ [] 0)).turn 0) := by
      have : stNext s 125 = stHash s 125 := by unfold stNext; rw [hk']; rfl
      rw [this]
      unfold stHash
      rw [if_pos rfl]
    exact feed_add e hwf i
  · exact name_end hwf (.inl hk') i
  · exact name_end hwf (.inr hk') i
  · exact behind_end hwf i (fun c => by unfold stNext; rw [hk']; rfl)
  · have e : stNext s 45 = (0, s.push 2 ⟨s.bu.toArray⟩ ⟨#[58, 45]⟩) := by
      have : stNext s 45 = stColon s 45 := by unfold stNext; rw [hk']; rfl
      rw [this]
      unfold stColon
      rw [if_pos (by decide)]
    refine EndsAt.cons (feed_of e) ?_
    have hp : EndsAt {s.push 2 ⟨s.bu.toArray⟩ ⟨#[58, 45]⟩ with pl := s.pl ++ [45]} (ends (s.push 2 ⟨s.bu.toArray⟩ ⟨#[58, 45]⟩).whs) (i + 1) := ends_text (s := s.push 2 ⟨s.bu.toArray⟩ ⟨#[58, 45]⟩) (t := {s.push 2 ⟨s.bu.toArray⟩ ⟨#[58, 45]⟩ with pl := s.pl ++ [45]}) rfl rfl (push_wf hwf (.inr rfl) _ _) _
    rw [whs_push] at hp
    have : ends (s.whs ++ [2]) = 125 :: ends s.whs := by
      have hne : s.whs ≠ [] := by rw [whs_eq]; simp
      obtain ⟨a, b, hab⟩ := List.exists_cons_of_ne_nil hne
      unfold ends
      rw [hab]
      simp [whEnd]
    rw [this] at hp
    exact hp
  · have e : stNext s 125 = (0, (s.push 2 ⟨s.bu.toArray⟩ ⟨#[s.cu.toNat.toUInt8]⟩).pop) := by
      have : stNext s 125 = stDouble s 125 := by unfold stNext; rw [hk']; rfl
      rw [this]
      unfold stDouble
      rw [if_neg (by rcases hcu rfl with h | h <;> rw [h] <;> decide)]
      exact text_end (s := s.push 2 ⟨s.bu.toArray⟩ ⟨#[s.cu.toNat.toUInt8]⟩) (by show s.lo ++ [s.tp] ≠ []; simp) (push_wf hwf (.inr rfl) _ _)
    refine EndsAt.cons (feed_of e) ?_
    have hw2 : (s.push 2 ⟨s.bu.toArray⟩ ⟨#[s.cu.toNat.toUInt8]⟩).pop.whs = s.whs := by
      have h1 := whs_pop (s := s.push 2 ⟨s.bu.toArray⟩ ⟨#[s.cu.toNat.toUInt8]⟩) (by show s.lo ++ [s.tp] ≠ []; simp)
      rw [whs_push] at h1
      exact (List.append_inj_left' h1 rfl).symm
    have hwf2 : (s.push 2 ⟨s.bu.toArray⟩ ⟨#[s.cu.toNat.toUInt8]⟩).pop.wf := by
      refine add_wf (s := {s.push 2 ⟨s.bu.toArray⟩ ⟨#[s.cu.toNat.toUInt8]⟩ with lo := (s.lo ++ [s.tp]).dropLast, tp := (s.lo ++ [s.tp]).getLastD _}) ?_ _
      obtain ⟨l, r, h1, h2, h3⟩ := hwf
      refine ⟨l, r, ?_, h2, h3⟩
      rw [← h1]
      show (s.lo ++ [s.tp]).dropLast ++ [(s.lo ++ [s.tp]).getLastD _] = s.lo ++ [s.tp]
      simp
    exact ends_text (s := s) (t := {(s.push 2 ⟨s.bu.toArray⟩ ⟨#[s.cu.toNat.toUInt8]⟩).pop with pl := s.pl ++ [125]}) rfl hw2 hwf2 _
  · have e : stNext s 39 = (0, (s.add (.mk 3 ⟨s.bu.toArray⟩ ⟨#[]⟩ [] 0)).turn 0) := by
      have : stNext s 39 = stSingle s 39 := by unfold stNext; rw [hk']; rfl
      rw [this]
      unfold stSingle
      rw [if_neg (by decide), if_pos rfl]
    exact feed_add e hwf i
  · have := arith_end s.dp.toNat s i hk' (by omega) hwf
    show EndsAt s ((List.replicate s.dp.toNat 41 ++ [41, 41]) ++ ends s.whs) i
    rw [List.append_assoc]
    exact this
  · have e : stNext s 41 = (0, (s.add (.mk 7 ⟨s.bu.toArray⟩ ⟨#[]⟩ [] 0)).turn 0) := by
      have : stNext s 41 = stArithEnd s 41 := by unfold stNext; rw [hk']; rfl
      rw [this]
      unfold stArithEnd
      rw [if_pos rfl]
    exact feed_add e hwf i
end Go.Proofs.Ytbmapjgajecgfaa

/-
  What is proved: two machines that differ in their parts alone do the same with every byte; which commands a machine's parts hold, and that no byte changes them; what a machine's levels fulfil, so that its word is right: one step of a text; each byte that a machine takes keeps what makes its word right: text. Conditions: those of each theorem.
-/
import Derived.Test.YtbmapjgajecgfaaJ5
set_option linter.unusedVariables false
set_option linter.unusedSimpArgs false
namespace Go.Proofs.Ytbmapjgajecgfaa
open Go.RowKit
def Lvl.shape (l : Lvl) : Int × List UInt8 × ByteArray × ByteArray × Nat := (l.wh, l.li, l.nm, l.op, l.ps.length)
structure Sim (ub ud : Prop) (s t : St) : Prop where
  lo : s.lo.map Lvl.shape = t.lo.map Lvl.shape
  tp : s.tp.shape = t.tp.shape
  ln : s.ln = t.ln
  cu : s.cu = t.cu
  bu : ub → s.bu = t.bu
  dp : ud → s.dp = t.dp
def usesBu (k : Nat) : Prop := k = 4 ∨ k = 7 ∨ k = 8 ∨ k = 9 ∨ k = 10 ∨ k = 11 ∨ k = 12 ∨ k = 13 ∨ k = 14
def usesDp (k : Nat) : Prop := k = 13
def SimR (r q : Int × St) : Prop := r.1 = q.1 ∧ r.2.kd = q.2.kd ∧ Sim (usesBu r.2.kd) (usesDp r.2.kd) r.2 q.2
theorem Sim.wh {ub ud : Prop} {s t : St} (h : Sim ub ud s t) : s.tp.wh = t.tp.wh := congrArg (fun x => x.1) h.tp
theorem Sim.weak {ub ud ub' ud' : Prop} {s t : St} (h : Sim ub ud s t) (h1 : ub' → ub) (h2 : ud' → ud) : Sim ub' ud' s t := ⟨h.lo, h.tp, h.ln, h.cu, fun x => h.bu (h1 x), fun x => h.dp (h2 x)⟩
theorem Sim.turn {ub ud : Prop} {s t : St} (h : Sim ub ud s t) (v : Int) (k : Nat) (h1 : usesBu k → ub) (h2 : usesDp k → ud) : SimR (v, s.turn k) (v, t.turn k) :=
  ⟨rfl, rfl, h.lo, h.tp, h.ln, h.cu, fun x => h.bu (h1 x), fun x => h.dp (h2 x)⟩
theorem shape_flush {l m : Lvl} (h : l.shape = m.shape) : l.flush.shape = m.flush.shape := by
  unfold Lvl.shape at h
  simp only [Prod.mk.injEq] at h
  obtain ⟨h1, h2, h3, h4, h5⟩ := h
  unfold Lvl.flush
  rw [← h2]
  split
  · simp [Lvl.shape, h1, h2, h3, h4, h5]
  · simp [Lvl.shape, h1, h2, h3, h4, h5]
theorem Sim.flush {ub ud : Prop} {s t : St} (h : Sim ub ud s t) (k : Nat) (v : Int) (h1 : usesBu k → ub) (h2 : usesDp k → ud) : SimR (v, {s with tp := s.tp.flush, kd := k}) (v, {t with tp := t.tp.flush, kd := k}) :=
  ⟨rfl, rfl, h.lo, shape_flush h.tp, h.ln, h.cu, fun x => h.bu (h1 x), fun x => h.dp (h2 x)⟩
theorem Sim.add {ub ud : Prop} {s t : St} (h : Sim ub ud s t) (p q : Prt) : Sim ub ud (s.add p) (t.add q) := by
  refine ⟨h.lo, ?_, h.ln, h.cu, h.bu, h.dp⟩
  have := shape_flush h.tp
  unfold Lvl.shape at this
  simp only [Prod.mk.injEq] at this
  obtain ⟨h1, h2, h3, h4, h5⟩ := this
  simp [St.add, Lvl.shape, h1, h2, h3, h4, h5]
theorem Sim.lit {ub ud : Prop} {s t : St} (h : Sim ub ud s t) (bs : List UInt8) : Sim ub ud (s.lit bs) (t.lit bs) := by
  refine ⟨h.lo, ?_, h.ln, h.cu, h.bu, h.dp⟩
  have := h.tp
  unfold Lvl.shape at this
  simp only [Prod.mk.injEq] at this
  obtain ⟨h1, h2, h3, h4, h5⟩ := this
  simp [St.lit, Lvl.shape, h1, h2, h3, h4, h5]
theorem Sim.push {ub ud : Prop} {s t : St} (h : Sim ub ud s t) (wh : Int) (nm op : ByteArray) : Sim ub ud (s.push wh nm op) (t.push wh nm op) :=
  ⟨by show (s.lo ++ [s.tp]).map _ = (t.lo ++ [t.tp]).map _; rw [List.map_append, List.map_append, h.lo]; simp [h.tp], rfl, h.ln, h.cu, h.bu, h.dp⟩
theorem Sim.len {ub ud : Prop} {s t : St} (h : Sim ub ud s t) : s.lo.length = t.lo.length := by
  have := congrArg List.length h.lo
  simpa using this
theorem Sim.pop {ub ud : Prop} {s t : St} (h : Sim ub ud s t) : SimR (0, s.pop) (0, t.pop) := by
  have h0 : Sim ub ud ({s with lo := s.lo.dropLast, tp := s.lo.getLastD s.tp} : St) ({t with lo := t.lo.dropLast, tp := t.lo.getLastD t.tp} : St) := by
    refine ⟨?_, ?_, h.ln, h.cu, h.bu, h.dp⟩
    · show s.lo.dropLast.map _ = t.lo.dropLast.map _
      rw [List.map_dropLast, List.map_dropLast, h.lo]
    · show (s.lo.getLastD s.tp).shape = (t.lo.getLastD t.tp).shape
      have e : ∀ (l : List Lvl) (d : Lvl), (l.getLastD d).shape = (l.map Lvl.shape).getLastD d.shape := fun l d => by
        rw [List.getLastD_eq_getLast?, List.getLastD_eq_getLast?, List.getLast?_map]
        cases l.getLast? <;> rfl
      rw [e, e, h.lo, h.tp]
  exact (h0.add s.tp.flush.part t.tp.flush.part).turn 0 0 (fun x => by unfold usesBu at x; omega) (fun x => by unfold usesDp at x; omega)
theorem text_sim {ub ud : Prop} {s t : St} (h : Sim ub ud s t) (hk : s.kd = 0) (hk' : t.kd = 0) (c : UInt8) : SimR (stText s c) (stText t c) := by
  have nb : ∀ (k : Nat), ¬ usesBu k → usesBu k → ub := fun k a b => (a b).elim
  have nd : ∀ (k : Nat), ¬ usesDp k → usesDp k → ud := fun k a b => (a b).elim
  unfold stText
  rw [← h.wh]
  by_cases h1 : c = 0 ∨ c = 96
  · rw [if_pos h1, if_pos h1]; exact h.turn 3 17 (nb _ (by unfold usesBu; omega)) (nd _ (by unfold usesDp; omega))
  rw [if_neg h1, if_neg h1]
  by_cases h2 : s.tp.wh = 0 ∧ (cls c.toNat = 1 ∨ cls c.toNat = 2 ∨ cls c.toNat = 5)
  · rw [if_pos h2, if_pos h2]; exact h.flush 16 1 (nb _ (by unfold usesBu; omega)) (nd _ (by unfold usesDp; omega))
  rw [if_neg h2, if_neg h2]
  by_cases h3 : (s.tp.wh = 1 ∧ c = 34) ∨ (s.tp.wh = 2 ∧ c = 125)
  · rw [if_pos h3, if_pos h3]; exact h.pop
  rw [if_neg h3, if_neg h3]
  by_cases h4 : c = 92
  · rw [if_pos h4, if_pos h4]; exact ⟨rfl, rfl, h.lo, h.tp, h.ln, h.cu, fun x => by have : usesBu 1 := x; unfold usesBu at this; omega, fun x => by have : usesDp 1 := x; unfold usesDp at this; omega⟩
  rw [if_neg h4, if_neg h4]
  by_cases h5 : c = 39 ∧ s.tp.wh ≠ 1
  · rw [if_pos h5, if_pos h5]; exact ⟨rfl, rfl, h.lo, h.tp, h.ln, h.cu, fun _ => rfl, fun x => by have : usesDp 12 := x; unfold usesDp at this; omega⟩
  rw [if_neg h5, if_neg h5]
  by_cases h6 : c = 34
  · rw [if_pos h6, if_pos h6]
    have hq : Sim ub ud ({s with qu := true} : St) ({t with qu := true} : St) := ⟨h.lo, h.tp, h.ln, h.cu, h.bu, h.dp⟩
    have := hq.push 1 ⟨#[]⟩ ⟨#[]⟩
    exact ⟨rfl, rfl, this.weak (nb 0 (by unfold usesBu; omega)) (nd 0 (by unfold usesDp; omega))⟩
  rw [if_neg h6, if_neg h6]
  by_cases h7 : c = 36
  · rw [if_pos h7, if_pos h7]; exact h.turn 0 2 (nb _ (by unfold usesBu; omega)) (nd _ (by unfold usesDp; omega))
  rw [if_neg h7, if_neg h7]
  refine ⟨rfl, hk.trans hk'.symm, (h.lit [c]).weak ?_ ?_⟩
  · show usesBu s.kd → ub
    rw [hk]; exact nb 0 (by unfold usesBu; omega)
  · show usesDp s.kd → ud
    rw [hk]; exact nd 0 (by unfold usesDp; omega)
theorem behind_sim {ud : Prop} {s t : St} (h : Sim True ud s t) (c : UInt8) : SimR (stBehind s c) (stBehind t c) := by
  have hb := h.bu trivial
  have nd : ∀ (k : Nat), ¬ usesDp k → usesDp k → ud := fun k a b => (a b).elim
  unfold stBehind
  rw [← h.ln]
  by_cases h1 : c = 125
  · rw [if_pos h1, if_pos h1]; exact (h.add _ _).turn 0 0 (fun _ => trivial) (nd _ (by unfold usesDp; omega))
  rw [if_neg h1, if_neg h1]
  by_cases h2 : s.ln = true
  · rw [if_pos h2, if_pos h2]; exact h.turn 3 17 (fun _ => trivial) (nd _ (by unfold usesDp; omega))
  rw [if_neg h2, if_neg h2]
  by_cases h3 : c = 58
  · rw [if_pos h3, if_pos h3]; exact h.turn 0 10 (fun _ => trivial) (nd _ (by unfold usesDp; omega))
  rw [if_neg h3, if_neg h3]
  by_cases h4 : c = 37 ∨ c = 35
  · rw [if_pos h4, if_pos h4]; exact ⟨rfl, rfl, h.lo, h.tp, rfl, rfl, fun _ => hb, fun x => by have : usesDp 11 := x; unfold usesDp at this; omega⟩
  rw [if_neg h4, if_neg h4]
  by_cases h5 : one1 c.toNat = true
  · rw [if_pos h5, if_pos h5, ← hb]
    exact ⟨rfl, rfl, (h.push 2 ⟨s.bu.toArray⟩ ⟨#[c]⟩).weak (fun _ => trivial) (nd 0 (by unfold usesDp; omega))⟩
  rw [if_neg h5, if_neg h5]
  exact h.turn 3 17 (fun _ => trivial) (nd _ (by unfold usesDp; omega))
theorem parameter_sim {ub ud : Prop} {s t : St} (h : Sim ub ud s t) (c : UInt8) : SimR (stParameter s c) (stParameter t c) := by
  have h' : Sim True ud ({s with bu := [c]} : St) ({t with bu := [c]} : St) := ⟨h.lo, h.tp, h.ln, h.cu, fun _ => rfl, h.dp⟩
  have nd : ∀ (k : Nat), ¬ usesDp k → usesDp k → ud := fun k a b => (a b).elim
  unfold stParameter
  simp only
  by_cases h1 : cls c.toNat = 4
  · rw [if_pos h1, if_pos h1]; exact h'.turn 0 7 (fun _ => trivial) (nd _ (by unfold usesDp; omega))
  rw [if_neg h1, if_neg h1]
  by_cases h2 : cls c.toNat = 3
  · rw [if_pos h2, if_pos h2]; exact h'.turn 0 8 (fun _ => trivial) (nd _ (by unfold usesDp; omega))
  rw [if_neg h2, if_neg h2]
  by_cases h3 : spc c.toNat = true
  · rw [if_pos h3, if_pos h3]; exact h'.turn 0 9 (fun _ => trivial) (nd _ (by unfold usesDp; omega))
  rw [if_neg h3, if_neg h3]
  exact h'.turn 3 17 (fun _ => trivial) (nd _ (by unfold usesDp; omega))
theorem next_sim {s t : St} (hk : s.kd = t.kd) (h : Sim (usesBu s.kd) (usesDp s.kd) s t) (c : UInt8) : SimR (stNext s c) (stNext t c) := by
  have nb : ∀ (k : Nat) {ub : Prop}, ¬ usesBu k → usesBu k → ub := fun k _ a b => (a b).elim
  have nd : ∀ (k : Nat) {ud : Prop}, ¬ usesDp k → usesDp k → ud := fun k _ a b => (a b).elim
  obtain ⟨k, hks⟩ : ∃ k, s.kd = k := ⟨_, rfl⟩
  have hkt : t.kd = k := by rw [← hk, hks]
  have hname : (k = 7 ∨ k = 8) → SimR (stName s c) (stName t c) := fun h78 => by
    have hT : Sim True (usesDp s.kd) s t := h.weak (fun _ => by rw [hks]; unfold usesBu; omega) (fun x => x)
    unfold stName
    rw [hks, hkt]
    by_cases h1 : cls c.toNat = 3 ∨ (cls c.toNat = 4 ∧ k = 7)
    · rw [if_pos h1, if_pos h1]
      exact ⟨rfl, rfl, h.lo, h.tp, h.ln, h.cu, fun x => by show s.bu ++ [c] = t.bu ++ [c]; rw [hT.bu trivial], fun x => h.dp (by rw [hks]; exact x)⟩
    · rw [if_neg h1, if_neg h1]
      have : Sim True (usesDp s.kd) (s.turn 9) (t.turn 9) := ⟨h.lo, h.tp, h.ln, h.cu, fun _ => hT.bu trivial, h.dp⟩
      exact behind_sim this c
  unfold stNext
  rw [hks, hkt]
  split
  · exact text_sim h hks hkt c
  · unfold stEscaped
    rw [← h.wh]
    by_cases h1 : c = 0 ∨ c = 10
    · rw [if_pos h1, if_pos h1]; exact h.turn 3 17 (nb _ (by unfold usesBu; omega)) (nd _ (by unfold usesDp; omega))
    rw [if_neg h1, if_neg h1]
    by_cases h2 : s.tp.wh = 1 ∧ esc4 c.toNat = true
    · rw [if_pos h2, if_pos h2]; exact (h.lit _).turn 0 0 (nb _ (by unfold usesBu; omega)) (nd _ (by unfold usesDp; omega))
    rw [if_neg h2, if_neg h2]
    have h' : Sim (usesBu s.kd) (usesDp s.kd) ({s with tk := s.tk ++ [c]} : St) ({t with tk := t.tk ++ [c]} : St) := ⟨h.lo, h.tp, h.ln, h.cu, h.bu, h.dp⟩
    exact (h'.add _ _).turn 0 0 (nb _ (by unfold usesBu; omega)) (nd _ (by unfold usesDp; omega))
  · unfold stDollar
    have h' : Sim (usesBu s.kd) (usesDp s.kd) ({s with ex := true} : St) ({t with ex := true} : St) := ⟨h.lo, h.tp, h.ln, h.cu, h.bu, h.dp⟩
    by_cases h1 : c = 123
    · rw [if_pos h1, if_pos h1]; exact h'.turn 0 5 (nb _ (by unfold usesBu; omega)) (nd _ (by unfold usesDp; omega))
    rw [if_neg h1, if_neg h1]
    by_cases h2 : c = 40
    · rw [if_pos h2, if_pos h2]; exact h'.turn 0 3 (nb _ (by unfold usesBu; omega)) (nd _ (by unfold usesDp; omega))
    rw [if_neg h2, if_neg h2]
    by_cases h3 : cls c.toNat = 4
    · rw [if_pos h3, if_pos h3]; exact ⟨rfl, rfl, h.lo, h.tp, h.ln, h.cu, fun _ => rfl, fun x => by have : usesDp 4 := x; unfold usesDp at this; omega⟩
    rw [if_neg h3, if_neg h3]
    by_cases h4 : cls c.toNat = 3 ∨ spc c.toNat = true
    · rw [if_pos h4, if_pos h4]; exact (h'.add _ _).turn 0 0 (nb _ (by unfold usesBu; omega)) (nd _ (by unfold usesDp; omega))
    rw [if_neg h4, if_neg h4]
    have h5 := h.lit [36]
    exact text_sim (s := (s.lit [36]).turn 0) (t := (t.lit [36]).turn 0) ⟨h5.lo, h5.tp, h5.ln, h5.cu, h5.bu, h5.dp⟩ rfl rfl c
  · unfold stOpened
    by_cases h1 : c = 40
    · rw [if_pos h1, if_pos h1]; exact ⟨rfl, rfl, h.lo, h.tp, h.ln, h.cu, fun _ => rfl, fun _ => rfl⟩
    rw [if_neg h1, if_neg h1]
    exact h.turn 2 15 (nb _ (by unfold usesBu; omega)) (nd _ (by unfold usesDp; omega))
  · have hT : Sim True (usesDp s.kd) s t := h.weak (fun _ => by rw [hks]; unfold usesBu; omega) (fun x => x)
    unfold stBare
    by_cases h1 : cls c.toNat = 4 ∨ cls c.toNat = 3
    · rw [if_pos h1, if_pos h1]
      exact ⟨rfl, hk, h.lo, h.tp, h.ln, h.cu, fun x => by show s.bu ++ [c] = t.bu ++ [c]; rw [hT.bu trivial], h.dp⟩
    rw [if_neg h1, if_neg h1]
    have h5 := hT.add (.mk 5 ⟨s.bu.toArray⟩ ⟨#[]⟩ [] 0) (.mk 5 ⟨t.bu.toArray⟩ ⟨#[]⟩ [] 0)
    exact text_sim (s := (s.add _).turn 0) (t := (t.add _).turn 0) ⟨h5.lo, h5.tp, h5.ln, h5.cu, h5.bu, h5.dp⟩ rfl rfl c
  · unfold stHead
    by_cases h1 : c = 35
    · rw [if_pos h1, if_pos h1]; exact ⟨rfl, rfl, h.lo, h.tp, rfl, h.cu, fun x => by have : usesBu 6 := x; unfold usesBu at this; omega, fun x => by have : usesDp 6 := x; unfold usesDp at this; omega⟩
    rw [if_neg h1, if_neg h1]
    have h' : Sim (usesBu s.kd) (usesDp s.kd) ({s with ln := false} : St) ({t with ln := false} : St) := ⟨h.lo, h.tp, rfl, h.cu, h.bu, h.dp⟩
    exact parameter_sim h' c
  · unfold stHash
    by_cases h1 : c = 125
    · rw [if_pos h1, if_pos h1]; exact (h.add _ _).turn 0 0 (nb _ (by unfold usesBu; omega)) (nd _ (by unfold usesDp; omega))
    rw [if_neg h1, if_neg h1]
    exact parameter_sim h c
  · exact hname (.inl rfl)
  · exact hname (.inr rfl)
  · have hT : Sim True (usesDp s.kd) s t := h.weak (fun _ => by rw [hks]; unfold usesBu; omega) (fun x => x)
    exact behind_sim hT c
  · have hT : Sim True (usesDp s.kd) s t := h.weak (fun _ => by rw [hks]; unfold usesBu; omega) (fun x => x)
    unfold stColon
    by_cases h1 : one1 c.toNat = true
    · rw [if_pos h1, if_pos h1, ← hT.bu trivial]
      exact ⟨rfl, rfl, (hT.push 2 ⟨s.bu.toArray⟩ ⟨#[58, c]⟩).weak (fun _ => trivial) (nd 0 (by unfold usesDp; omega))⟩
    rw [if_neg h1, if_neg h1]
    exact h.turn 3 17 (nb _ (by unfold usesBu; omega)) (nd _ (by unfold usesDp; omega))
  · have hT : Sim True (usesDp s.kd) s t := h.weak (fun _ => by rw [hks]; unfold usesBu; omega) (fun x => x)
    unfold stDouble
    rw [← h.cu, ← hT.bu trivial]
    by_cases h1 : (c.toNat : Int) = s.cu
    · rw [if_pos h1, if_pos h1]
      exact ⟨rfl, rfl, (hT.push 2 ⟨s.bu.toArray⟩ ⟨#[c, c]⟩).weak (fun _ => trivial) (nd 0 (by unfold usesDp; omega))⟩
    rw [if_neg h1, if_neg h1]
    exact text_sim (hT.push 2 _ _) rfl rfl c
  · have hT : Sim True (usesDp s.kd) s t := h.weak (fun _ => by rw [hks]; unfold usesBu; omega) (fun x => x)
    unfold stSingle
    by_cases h1 : c = 0
    · rw [if_pos h1, if_pos h1]; exact h.turn 3 17 (nb _ (by unfold usesBu; omega)) (nd _ (by unfold usesDp; omega))
    rw [if_neg h1, if_neg h1]
    by_cases h2 : c = 39
    · rw [if_pos h2, if_pos h2]; exact (h.add _ _).turn 0 0 (nb _ (by unfold usesBu; omega)) (nd _ (by unfold usesDp; omega))
    rw [if_neg h2, if_neg h2]
    exact ⟨rfl, hk, h.lo, h.tp, h.ln, h.cu, fun x => by show s.bu ++ [c] = t.bu ++ [c]; rw [hT.bu trivial], h.dp⟩
  · have hT : Sim True True s t := h.weak (fun _ => by rw [hks]; unfold usesBu; omega) (fun x => by rw [hks]; rfl)
    unfold stArith
    rw [← hT.dp trivial]
    by_cases h1 : c = 0
    · rw [if_pos h1, if_pos h1]; exact h.turn 3 17 (nb _ (by unfold usesBu; omega)) (nd _ (by unfold usesDp; omega))
    rw [if_neg h1, if_neg h1]
    by_cases h2 : c = 41 ∧ s.dp = 0
    · rw [if_pos h2, if_pos h2]; exact hT.turn 0 14 (fun _ => trivial) (fun _ => trivial)
    rw [if_neg h2, if_neg h2]
    exact ⟨rfl, hk, h.lo, h.tp, h.ln, h.cu, fun x => by show s.bu ++ [c] = t.bu ++ [c]; rw [hT.bu trivial], fun _ => rfl⟩
  · have hT : Sim True (usesDp s.kd) s t := h.weak (fun _ => by rw [hks]; unfold usesBu; omega) (fun x => x)
    unfold stArithEnd
    by_cases h1 : c = 41
    · rw [if_pos h1, if_pos h1]; exact (h.add _ _).turn 0 0 (nb _ (by unfold usesBu; omega)) (nd _ (by unfold usesDp; omega))
    rw [if_neg h1, if_neg h1]
    exact h.turn 3 17 (nb _ (by unfold usesBu; omega)) (nd _ (by unfold usesDp; omega))
  · exact ⟨rfl, hk, h⟩
  · exact ⟨rfl, hk, h⟩
def SimK (s t : St) : Prop := s.kd = t.kd ∧ Sim (usesBu s.kd) (usesDp s.kd) s t
theorem feed_sim {s t : St} (h : SimK s t) (c : UInt8) : (stFeed s c).1 = (stFeed t c).1 ∧ SimK (stFeed s c).2 (stFeed t c).2 := by
  obtain ⟨h1, h2, h3⟩ := next_sim h.1 h.2 c
  unfold stFeed
  rw [← h1]
  split
  · exact ⟨rfl, h2, h3.lo, h3.tp, h3.ln, h3.cu, h3.bu, h3.dp⟩
  · exact ⟨h1, h2, h3⟩
theorem rest_sim {s t : St} (h : SimK s t) : stRest s = stRest t := by
  obtain ⟨h1, h2⟩ := h
  have hw : s.all.map Lvl.wh = t.all.map Lvl.wh := by
    have e : ∀ l : List Lvl, l.map Lvl.wh = (l.map Lvl.shape).map (fun x => x.1) := fun l => by rw [List.map_map]; rfl
    unfold St.all
    rw [List.map_append, List.map_append, e s.lo, e t.lo, h2.lo]
    simp [h2.wh]
  have hend : s.all.tail.reverse.map lvEnd = t.all.tail.reverse.map lvEnd := by
    have e : ∀ l : List Lvl, l.map lvEnd = (l.map Lvl.wh).map (fun w => if w = 1 then 34 else 125) := fun l => by rw [List.map_map]; rfl
    have hw' : s.all.tail.reverse.map Lvl.wh = t.all.tail.reverse.map Lvl.wh := by rw [List.map_reverse, List.map_reverse, List.map_tail, List.map_tail, hw]
    rw [e s.all.tail.reverse, e t.all.tail.reverse, hw']
  have hm : stMissing s = stMissing t := by
    unfold stMissing
    rw [← h1]
    split <;> try rfl
    rename_i hk
    rw [h2.dp (by rw [hk]; rfl)]
  unfold stRest
  rw [← h1, hend, hm]
theorem raw_sim {s t : St} (h : SimK s t) : stRaw s = stRaw t := by unfold stRaw; rw [h.1]
end Go.Proofs.Ytbmapjgajecgfaa
set_option linter.unusedVariables false
set_option linter.unusedSimpArgs false
namespace Go.Proofs.Ytbmapjgajecgfaa
open Go.RowKit
mutual
/-- How many commands each part of commands holds. -/
def Prt.cmds : Prt → List Nat
  | .mk k _ _ kids cm => (if k = 6 then [cm] else []) ++ cmdsOf kids
def cmdsOf : List Prt → List Nat
  | [] => []
  | p :: r => p.cmds ++ cmdsOf r
end
theorem cmdsOf_app (a b : List Prt) : cmdsOf (a ++ b) = cmdsOf a ++ cmdsOf b := by
  induction a with
  | nil => simp [cmdsOf]
  | cons p r ih => simp only [List.cons_append, cmdsOf, ih, List.append_assoc]
theorem cmdsOf_one (p : Prt) : cmdsOf [p] = p.cmds := by simp [cmdsOf]
theorem flush_cms (l : Lvl) : cmdsOf l.flush.ps = cmdsOf l.ps := by
  unfold Lvl.flush
  split
  · rfl
  · show cmdsOf (l.ps ++ _) = _
    rw [cmdsOf_app, cmdsOf_one]
    simp [Prt.cmds, cmdsOf]
def St.cms (s : St) : List Nat := (s.all.flatMap fun l => cmdsOf l.ps)
theorem cms_eq (s : St) : s.cms = (s.lo.flatMap fun l => cmdsOf l.ps) ++ cmdsOf s.tp.ps := by simp [St.cms, St.all]
theorem cms_tp {s t : St} (h1 : t.lo = s.lo) (h2 : cmdsOf t.tp.ps = cmdsOf s.tp.ps) : t.cms = s.cms := by rw [cms_eq, cms_eq, h1, h2]
theorem add_cms (s : St) (p : Prt) : (s.add p).cms = s.cms ++ p.cmds := by
  rw [cms_eq, cms_eq]
  show (s.lo.flatMap _) ++ cmdsOf (s.tp.flush.ps ++ [p]) = _
  rw [cmdsOf_app, flush_cms, cmdsOf_one, List.append_assoc]
theorem add_none (s : St) {p : Prt} (h : p.cmds = []) : (s.add p).cms = s.cms := by rw [add_cms, h, List.append_nil]
theorem turn_add (s : St) {p : Prt} (h : p.cmds = []) : ((s.add p).turn 0).cms = s.cms := add_none s h
theorem lit_cms (s : St) (bs : List UInt8) : (s.lit bs).cms = s.cms := cms_tp rfl rfl
theorem push_cms (s : St) (wh : Int) (nm op : ByteArray) : (s.push wh nm op).cms = s.cms := by
  rw [cms_eq, cms_eq]
  show ((s.lo ++ [s.tp]).flatMap _) ++ cmdsOf [] = _
  simp [cmdsOf]
theorem part_cms (l : Lvl) : l.part.cmds = cmdsOf l.ps := by
  unfold Lvl.part
  split <;> simp [Prt.cmds]
theorem pop_cms {s : St} (hne : s.lo ≠ []) : s.pop.cms = s.cms := by
  have hd : s.lo.dropLast ++ [s.lo.getLastD s.tp] = s.lo := by
    rw [List.getLastD_eq_getLast?, List.getLast?_eq_some_getLast hne]
    exact List.dropLast_concat_getLast hne
  have e : s.pop.cms = (({s with lo := s.lo.dropLast, tp := s.lo.getLastD s.tp} : St).add s.tp.flush.part).cms := rfl
  rw [e, add_cms, part_cms, flush_cms]
  rw [cms_eq, cms_eq]
  congr 1
  show (s.lo.dropLast.flatMap _) ++ cmdsOf (s.lo.getLastD s.tp).ps = _
  have := congrArg (fun l : List Lvl => l.flatMap fun l => cmdsOf l.ps) hd
  simpa using this
theorem c0 (k : Int) (hk : k ≠ 6) (tx op : ByteArray) (cm : Nat) : (Prt.mk k tx op [] cm).cmds = [] := by simp [Prt.cmds, cmdsOf, hk]
theorem text_cms {s : St} (h : s.wf) (c : UInt8) : (stText s c).2.cms = s.cms := by
  unfold stText
  split
  · rfl
  split
  · exact cms_tp rfl (flush_cms _)
  split
  · rename_i hx
    exact pop_cms (wf_ne h (by rcases hx with h | h <;> simp [h.1]))
  split
  · rfl
  split
  · rfl
  split
  · exact push_cms _ _ _ _
  split
  · rfl
  · exact lit_cms _ _
theorem behind_cms (s : St) (c : UInt8) : (stBehind s c).2.cms = s.cms := by
  unfold stBehind
  split
  · exact turn_add s (c0 5 (by decide) _ _ _)
  split
  · rfl
  split
  · rfl
  split
  · rfl
  split
  · exact push_cms _ _ _ _
  · rfl
theorem parameter_cms (s : St) (c : UInt8) : (stParameter s c).2.cms = s.cms := by
  unfold stParameter
  simp only
  split
  · rfl
  split
  · rfl
  split
  · rfl
  · rfl
theorem name_cms (s : St) (c : UInt8) : (stName s c).2.cms = s.cms := by
  unfold stName
  split
  · rfl
  · exact behind_cms (s.turn 9) c
theorem next_cms {s : St} (h : s.wf) (c : UInt8) : (stNext s c).2.cms = s.cms := by
  unfold stNext
  split
  · exact text_cms h c
  · unfold stEscaped
    split
    · rfl
    split
    · exact (lit_cms s [92, c] :)
    · exact turn_add {s with tk := s.tk ++ [c]} (c0 2 (by decide) _ _ _)
  · unfold stDollar
    split
    · rfl
    split
    · rfl
    split
    · rfl
    split
    · exact turn_add {s with ex := true} (c0 5 (by decide) _ _ _)
    · exact (text_cms (s := (s.lit [36]).turn 0) (lit_wf h [36]) c).trans (lit_cms s [36])
  · unfold stOpened
    split <;> rfl
  · unfold stBare
    split
    · rfl
    · have := text_cms (s := (s.add (.mk 5 ⟨s.bu.toArray⟩ ⟨#[]⟩ [] 0)).turn 0) (add_wf h _) c
      exact this.trans (turn_add s (c0 5 (by decide) _ _ _))
  · unfold stHead
    split
    · rfl
    · exact parameter_cms {s with ln := false} c
  · unfold stHash
    split
    · exact turn_add s (c0 5 (by decide) _ _ _)
    · exact parameter_cms s c
  · exact name_cms s c
  · exact name_cms s c
  · exact behind_cms s c
  · unfold stColon
    split
    · exact push_cms _ _ _ _
    · rfl
  · unfold stDouble
    split
    · exact push_cms _ _ _ _
    · have := text_cms (s := s.push 2 ⟨s.bu.toArray⟩ ⟨#[s.cu.toNat.toUInt8]⟩) (push_wf h (.inr rfl) _ _) c
      exact this.trans (push_cms _ _ _ _)
  · unfold stSingle
    split
    · rfl
    split
    · exact turn_add s (c0 3 (by decide) _ _ _)
    · rfl
  · unfold stArith
    split
    · rfl
    split
    · rfl
    · rfl
  · unfold stArithEnd
    split
    · exact turn_add s (c0 7 (by decide) _ _ _)
    · rfl
  · rfl
  · rfl
theorem feed_cms {s : St} (h : s.wf) (c : UInt8) : (stFeed s c).2.cms = s.cms := by
  unfold stFeed
  split
  · exact next_cms h c
  · exact next_cms h c
/-- A machine that is over has one level. -/
def St.fin (s : St) : Prop := s.kd = 16 → s.lo = []
theorem text_fin {s : St} (h : s.wf) (hk : s.kd = 0) (c : UInt8) : (stText s c).2.fin := by
  intro h16
  unfold stText at h16 ⊢
  split at h16
  · exact absurd h16 (by show ¬ (17 = 16); omega)
  rename_i h1
  rw [if_neg h1]
  split at h16
  · rename_i h2
    rw [if_pos h2]
    obtain ⟨l, r, e1, e2, e3⟩ := h
    by_cases hn : s.lo = []
    · exact hn
    · obtain ⟨x, t, hlo⟩ := List.exists_cons_of_ne_nil hn
      have : s.tp ∈ r := by
        unfold St.all at e1
        rw [hlo] at e1
        simp at e1
        rw [← e1.2]; simp
      have := e3 _ this
      rw [h2.1] at this
      omega
  rename_i h2
  rw [if_neg h2]
  split at h16
  · exact absurd h16 (by show ¬ (0 = 16); omega)
  rename_i h3
  rw [if_neg h3]
  split at h16
  · exact absurd h16 (by show ¬ (1 = 16); omega)
  rename_i h4
  rw [if_neg h4]
  split at h16
  · exact absurd h16 (by show ¬ (12 = 16); omega)
  rename_i h5
  rw [if_neg h5]
  split at h16
  · exact absurd h16 (by show ¬ (0 = 16); omega)
  rename_i h6
  rw [if_neg h6]
  split at h16
  · exact absurd h16 (by show ¬ (2 = 16); omega)
  · exact absurd h16 (by show ¬ (s.kd = 16); omega)
theorem fin_of {s : St} (k : Nat) (h : s.kd = k) (hk : k ≠ 16) : s.fin := fun e => absurd (h.symm.trans e) hk
theorem behind_fin (s : St) (c : UInt8) : (stBehind s c).2.fin := by
  unfold stBehind
  split
  · exact fin_of 0 rfl (by decide)
  split
  · exact fin_of 17 rfl (by decide)
  split
  · exact fin_of 10 rfl (by decide)
  split
  · exact fin_of 11 rfl (by decide)
  split
  · exact fin_of 0 rfl (by decide)
  · exact fin_of 17 rfl (by decide)
theorem parameter_fin (s : St) (c : UInt8) : (stParameter s c).2.fin := by
  unfold stParameter
  simp only
  split
  · exact fin_of 7 rfl (by decide)
  split
  · exact fin_of 8 rfl (by decide)
  split
  · exact fin_of 9 rfl (by decide)
  · exact fin_of 17 rfl (by decide)
theorem name_fin {s : St} (hk : s.kd = 7 ∨ s.kd = 8) (c : UInt8) : (stName s c).2.fin := by
  unfold stName
  split
  · exact fin_of s.kd rfl (by omega)
  · exact behind_fin (s.turn 9) c
theorem next_fin {s : St} (h : s.wf) (hf : s.fin) (c : UInt8) : (stNext s c).2.fin := by
  unfold stNext
  split
  · exact text_fin h (by assumption) c
  · unfold stEscaped
    split
    · exact fin_of 17 rfl (by decide)
    split
    · exact fin_of 0 rfl (by decide)
    · exact fin_of 0 rfl (by decide)
  · unfold stDollar
    split
    · exact fin_of 5 rfl (by decide)
    split
    · exact fin_of 3 rfl (by decide)
    split
    · exact fin_of 4 rfl (by decide)
    split
    · exact fin_of 0 rfl (by decide)
    · exact text_fin (s := (s.lit [36]).turn 0) (lit_wf h [36]) rfl c
  · unfold stOpened
    split
    · exact fin_of 13 rfl (by decide)
    · exact fin_of 15 rfl (by decide)
  · unfold stBare
    split
    · rename_i hk _
      exact fin_of s.kd rfl (by omega)
    · exact text_fin (s := (s.add _).turn 0) (add_wf h _) rfl c
  · unfold stHead
    split
    · exact fin_of 6 rfl (by decide)
    · exact parameter_fin {s with ln := false} c
  · unfold stHash
    split
    · exact fin_of 0 rfl (by decide)
    · exact parameter_fin s c
  · exact name_fin (.inl (by assumption)) c
  · exact name_fin (.inr (by assumption)) c
  · exact behind_fin s c
  · unfold stColon
    split
    · exact fin_of 0 rfl (by decide)
    · exact fin_of 17 rfl (by decide)
  · unfold stDouble
    split
    · exact fin_of 0 rfl (by decide)
    · exact text_fin (push_wf h (.inr rfl) _ _) rfl c
  · unfold stSingle
    split
    · exact fin_of 17 rfl (by decide)
    split
    · exact fin_of 0 rfl (by decide)
    · rename_i hk _ _
      exact fin_of s.kd rfl (by omega)
  · unfold stArith
    split
    · exact fin_of 17 rfl (by decide)
    split
    · exact fin_of 14 rfl (by decide)
    · rename_i hk _ _
      exact fin_of s.kd rfl (by omega)
  · unfold stArithEnd
    split
    · exact fin_of 0 rfl (by decide)
    · exact fin_of 17 rfl (by decide)
  · exact hf
  · exact hf
theorem feed_fin {s : St} (h : s.wf) (hf : s.fin) (c : UInt8) : (stFeed s c).2.fin := by
  unfold stFeed
  split
  · exact next_fin h hf c
  · exact next_fin h hf c
theorem init_fin : St.init.fin := fun _ => rfl
theorem init_cms : St.init.cms = [] := by simp [cms_eq, St.init, cmdsOf]
/-- Over: its parts are all that there is. -/
theorem fin_cms {s : St} (hf : s.fin) (hk : s.kd = 16) : cmdsOf s.bot.ps = s.cms := by
  rw [cms_eq, hf hk]
  unfold St.bot
  rw [hf hk]
  rfl
end Go.Proofs.Ytbmapjgajecgfaa
set_option linter.unusedVariables false
set_option linter.unusedSimpArgs false
namespace Go.Proofs.Ytbmapjgajecgfaa
open Go.RowKit
theorem byte_all {P : UInt8 → Prop} [∀ c, Decidable (P c)] (h : ∀ n, n < 256 → P n.toUInt8) (c : UInt8) : P c := by
  have := h c.toNat c.toNat_lt
  have e : c.toNat.toUInt8 = c := UInt8.toNat_inj.1 (by simp)
  rwa [e] at this
def Lvl.bad (l : Lvl) : Option UInt8 := if l.wh = 0 then some 35 else if l.wh = 2 ∧ l.op = ⟨#[37]⟩ then some 37 else if l.wh = 2 ∧ l.op = ⟨#[35]⟩ then some 35 else none
def FstOK (x : UInt8) (l : Lvl) : Prop := (l.ps = [] → l.li.head? ≠ some x) ∧ (l.ps ≠ [] → firstB x l.ps = true)
structure LvOK (l : Lvl) : Prop where
  ps : okL l.wh l.ps = true
  last : ∀ q, l.ps.getLast? = some q → q.k ≠ 1
  li : litB l.wh l.li = true
  fst : ∀ x, l.bad = some x → FstOK x l
  par : l.wh = 2 → parB l.nm.data.toList = true ∧ l.nm ≠ ⟨#[35]⟩ ∧ l.op ∈ opsL
theorem okL_snoc {pl : Int} {p : Prt} (hp : okP pl p = true) : ∀ (l : List Prt), okL pl l = true → (∀ q, l.getLast? = some q → adjB q [p] = true) → okL pl (l ++ [p]) = true
  | [], _, _ => by simp only [List.nil_append, okL, hp, adjB]; rfl
  | [q], h, ha => by
    simp only [okL, Bool.and_eq_true] at h
    show (okP pl q && adjB q [p] && okL pl [p]) = true
    rw [h.1.1, ha q rfl]
    simp [okL, hp, adjB]
  | q :: r :: t, h, ha => by
    simp only [okL, Bool.and_eq_true] at h
    have h2 : okL pl (r :: t) = true := by simp only [okL, Bool.and_eq_true]; exact h.2
    have h3 := okL_snoc hp (r :: t) h2 (fun x hx => ha x (by simpa using hx))
    show (okP pl q && adjB q (r :: (t ++ [p])) && okL pl (r :: t ++ [p])) = true
    rw [h.1.1, h3]
    have : adjB q (r :: (t ++ [p])) = adjB q (r :: t) := rfl
    rw [this, h.1.2]
    rfl
theorem firstB_app {x : UInt8} {l : List Prt} (h : l ≠ []) (r : List Prt) : firstB x (l ++ r) = firstB x l := by
  cases l with
  | nil => exact absurd rfl h
  | cons p t => rfl
/-- A literal part of a level. -/
theorem lit_ok {l : Lvl} (h : LvOK l) (hne : l.li ≠ []) : okP l.wh (.mk 1 ⟨l.li.toArray⟩ ⟨#[]⟩ [] 0) = true := by
  have : (⟨l.li.toArray⟩ : ByteArray).data.toList = l.li := by simp
  simp [okP, h.li, hne]
structure FlOK (l : Lvl) : Prop where
  ps : okL l.wh l.flush.ps = true
  last : ∀ q, l.flush.ps.getLast? = some q → q.k = 1 → q.tx = l.li
  fst : ∀ x, l.bad = some x → firstB x l.flush.ps = true
theorem flush_ok {l : Lvl} (h : LvOK l) : FlOK l := by
  by_cases hli : l.li = []
  · have e : l.flush = l := by unfold Lvl.flush; rw [if_pos hli]
    refine ⟨by rw [e]; exact h.ps, fun q hq hk => ?_, fun x hx => ?_⟩
    · rw [e] at hq; exact absurd hk (h.last q hq)
    · rw [e]
      by_cases hp : l.ps = []
      · rw [hp]; rfl
      · exact (h.fst x hx).2 hp
  · have e : l.flush.ps = l.ps ++ [.mk 1 ⟨l.li.toArray⟩ ⟨#[]⟩ [] 0] := by unfold Lvl.flush; rw [if_neg hli]
    refine ⟨?_, fun q hq hk => ?_, fun x hx => ?_⟩
    · rw [e]
      refine okL_snoc (lit_ok h hli) _ h.ps (fun q hq => ?_)
      have := h.last q hq
      simp [adjB, this]
    · rw [e] at hq
      simp at hq
      rw [← hq]
      simp [Prt.tx]
    · rw [e]
      by_cases hp : l.ps = []
      · rw [hp]
        have := (h.fst x hx).1 hp
        simp [firstB, Prt.tx, Prt.k, this]
      · rw [firstB_app hp]
        exact (h.fst x hx).2 hp
/-- A part more, that is no literal. -/
def Lvl.addP (l : Lvl) (p : Prt) : Lvl := {l.flush with ps := l.flush.ps ++ [p]}
theorem flush_li (l : Lvl) : l.flush.li = [] := by
  unfold Lvl.flush
  split
  · assumption
  · rfl
theorem flush_nm (l : Lvl) : l.flush.nm = l.nm ∧ l.flush.op = l.op := by unfold Lvl.flush; split <;> exact ⟨rfl, rfl⟩
theorem addP_bad (l : Lvl) (p : Prt) : (l.addP p).bad = l.bad := by
  unfold Lvl.bad
  have h1 : (l.addP p).wh = l.wh := flush_wh l
  have h2 : (l.addP p).op = l.op := (flush_nm l).2
  rw [h1, h2]
theorem addP_ok {l : Lvl} (h : LvOK l) {p : Prt} (hp : okP l.wh p = true) (hk : p.k ≠ 1) (hd : endsDol l.li = true → p.k ≠ 5 ∧ p.k ≠ 6 ∧ p.k ≠ 7) : LvOK (l.addP p) := by
  have hf := flush_ok h
  have hw : (l.addP p).wh = l.wh := flush_wh l
  refine ⟨?_, fun q hq => ?_, ?_, fun x hx => ⟨fun e => ?_, fun _ => ?_⟩, fun h2 => ?_⟩
  · rw [hw]
    refine okL_snoc hp _ hf.ps (fun q hq => ?_)
    by_cases hq1 : q.k = 1
    · have := hf.last q hq hq1
      unfold adjB
      simp only [Bool.or_eq_true, Bool.and_eq_true, decide_eq_true_eq]
      right
      refine ⟨hk, ?_⟩
      rw [this]
      by_cases he : endsDol l.li = true
      · right; exact hd he
      · left; simpa using he
    · simp [adjB, hq1]
  · have : (l.addP p).ps = l.flush.ps ++ [p] := rfl
    rw [this] at hq
    simp at hq
    rw [← hq]; exact hk
  · have : (l.addP p).li = [] := flush_li l
    rw [this]; rfl
  · have : l.flush.ps ++ [p] = [] := e
    simp at this
  · rw [addP_bad] at hx
    show firstB x (l.flush.ps ++ [p]) = true
    by_cases hp0 : l.flush.ps = []
    · rw [hp0]; simp [firstB, hk]
    · rw [firstB_app hp0]; exact hf.fst x hx
  · rw [hw] at h2
    have := h.par h2
    have hn := flush_nm l
    show parB l.flush.nm.data.toList = true ∧ l.flush.nm ≠ _ ∧ l.flush.op ∈ opsL
    rw [hn.1, hn.2]
    exact this
/-- A literal byte more. -/
theorem lit1_ok {l : Lvl} (h : LvOK l) {c : UInt8} (hc : byteOK l.wh c = true) (h92 : l.wh = 1 → c ≠ 92) (hd : endsDol l.li = true → dolOK c = true) (hf : ∀ x, l.bad = some x → l.ps = [] → l.li = [] → c ≠ x) : LvOK {l with li := l.li ++ [c]} := by
  refine ⟨h.ps, h.last, litB_snoc hc h92 _ h.li hd, fun x hx => ⟨fun hp => ?_, fun hp => (h.fst x hx).2 hp⟩, h.par⟩
  show (l.li ++ [c]).head? ≠ some x
  by_cases hl : l.li = []
  · rw [hl]
    simp
    exact hf x hx hp hl
  · have := (h.fst x hx).1 hp
    obtain ⟨a, b, e⟩ := List.exists_cons_of_ne_nil hl
    rw [e] at this ⊢
    exact this
theorem esc_spec (c : UInt8) : esc4 c.toNat = !specB c := byte_all (P := fun c => esc4 c.toNat = !specB c) (by decide +kernel) c
theorem dol_92 : dolOK 92 = true := by decide
theorem lit2_ok {l : Lvl} (h : LvOK l) (hw : l.wh = 1) {c : UInt8} (hc : esc4 c.toNat = true) (h0 : c ≠ 0) (h10 : c ≠ 10) : LvOK {l with li := l.li ++ [92, c]} ∧ endsDol (l.li ++ [92, c]) = false := by
  have hs : specB c = false := by rw [esc_spec] at hc; simpa using hc
  have h36 : c ≠ 36 := by intro e; rw [e] at hs; exact absurd hs (by decide)
  have hpair : ∀ (t : List UInt8), litB 1 t = true → litB 1 (t ++ [92, c]) = true := by
    have hb : byteOK 1 c = true := byte_all (P := fun c => c ≠ 0 → specB c = false → byteOK 1 c = true) (by decide +kernel) c h0 hs
    have hn : nextOK 1 c [] = true := byte_all (P := fun c => specB c = false → nextOK 1 c [] = true) (by decide +kernel) c hs
    intro t
    induction t with
    | nil =>
      intro _
      have hb2 : byteOK 1 92 = true := by decide
      have hn2 : nextOK 1 92 [c] = true := by simp [nextOK, hs, h10]
      simp only [List.nil_append, litB, hb2, hn2, hb, hn]
      rfl
    | cons d r ih =>
      intro ht
      simp only [litB, Bool.and_eq_true] at ht
      have h3 := ih ht.2
      show (byteOK 1 d && nextOK 1 d (r ++ [92, c]) && litB 1 (r ++ [92, c])) = true
      rw [ht.1.1, h3]
      have : nextOK 1 d (r ++ [92, c]) = true := by
        have hn3 := ht.1.2
        cases r with
        | nil =>
          unfold nextOK at hn3 ⊢
          simp only [Bool.and_eq_true, Bool.or_eq_true, decide_eq_true_eq] at hn3 ⊢
          refine ⟨.inr dol_92, ?_⟩
          rcases hn3.2 with (h | h) | h
          · exact .inl (.inl h)
          · exact .inl (.inr h)
          · cases h
        | cons e r => exact hn3
      rw [this]
      rfl
  refine ⟨⟨h.ps, h.last, by show litB l.wh _ = true; rw [hw]; exact hpair _ (by rw [← hw]; exact h.li), fun x hx => ?_, fun e => absurd (hw.symm.trans e) (by decide)⟩, by simp [endsDol, h36]⟩
  have : l.bad = none := by unfold Lvl.bad; rw [hw]; simp
  exact absurd ((this.symm.trans hx)) (by simp)
end Go.Proofs.Ytbmapjgajecgfaa
set_option linter.unusedVariables false
set_option linter.unusedSimpArgs false
namespace Go.Proofs.Ytbmapjgajecgfaa
open Go.RowKit
/-- What a level asks of the one that is opened in it. -/
def Nx (l m : Lvl) : Prop := (endsDol l.li = true → m.wh = 1) ∧ (m.wh = 1 → l.wh ≠ 1)
def Chn : List Lvl → Prop
  | [] => True
  | l :: r => (match r with | [] => True | m :: _ => Nx l m) ∧ Chn r
structure Lvs (s : St) : Prop where
  lv : ∀ l ∈ s.all, LvOK l
  chain : Chn s.all
  wf : s.wf
theorem Chn.last {l : List Lvl} {a b : Lvl} (h : Chn (l ++ [a])) (hn : Nx a b) : Chn (l ++ [a, b]) := by
  induction l with
  | nil => exact ⟨hn, trivial, trivial⟩
  | cons x t ih =>
    obtain ⟨h1, h2⟩ := h
    refine ⟨?_, ih h2⟩
    cases t with
    | nil => exact h1
    | cons y t => exact h1
theorem Chn.swap {l : List Lvl} {a b : Lvl} (h : Chn (l ++ [a])) (hw : b.wh = a.wh) : Chn (l ++ [b]) := by
  induction l with
  | nil => exact ⟨trivial, trivial⟩
  | cons x t ih =>
    obtain ⟨h1, h2⟩ := h
    refine ⟨?_, ih h2⟩
    cases t with
    | nil => exact ⟨fun e => by rw [hw]; exact h1.1 e, fun e => h1.2 (hw.symm.trans e)⟩
    | cons y t => exact h1
theorem Chn.init {l : List Lvl} {a : Lvl} (h : Chn (l ++ [a])) : Chn l := by
  induction l with
  | nil => trivial
  | cons x t ih =>
    obtain ⟨h1, h2⟩ := h
    refine ⟨?_, ih h2⟩
    cases t with
    | nil => trivial
    | cons y t => exact h1
theorem Chn.nx {l : List Lvl} {a b : Lvl} (h : Chn (l ++ [a, b])) : Nx a b := by
  induction l with
  | nil => exact h.1
  | cons x t ih => exact ih h.2
theorem Lvs.tp {s : St} (h : Lvs s) : LvOK s.tp := h.lv s.tp (by simp [St.all])
/-- The last level is another one of the same kind. -/
theorem Lvs.set {s t : St} (h : Lvs s) (hlo : t.lo = s.lo) (hw : t.tp.wh = s.tp.wh) (ht : LvOK t.tp) : Lvs t := by
  refine ⟨fun l hl => ?_, ?_, wf_tp h.wf hlo hw⟩
  · have : l ∈ t.lo ∨ l = t.tp := by simpa [St.all] using hl
    rcases this with h3 | rfl
    · rw [hlo] at h3; exact h.lv l (by simp [St.all, h3])
    · exact ht
  · have hc : Chn (s.lo ++ [s.tp]) := h.chain
    show Chn (t.lo ++ [t.tp])
    rw [hlo]
    exact hc.swap hw
theorem Lvs.same {s t : St} (h : Lvs s) (hlo : t.lo = s.lo) (ht : t.tp = s.tp) : Lvs t := h.set hlo (by rw [ht]) (by rw [ht]; exact h.tp)
theorem new_ok (wh : Int) (nm op : ByteArray) (h : wh = 2 → parB nm.data.toList = true ∧ nm ≠ ⟨#[35]⟩ ∧ op ∈ opsL) : LvOK ⟨wh, [], [], nm, op⟩ :=
  ⟨rfl, fun q hq => (by cases hq), rfl, fun x _ => ⟨fun _ => by simp, fun e => absurd rfl e⟩, h⟩
theorem Lvs.push {s : St} (h : Lvs s) (wh : Int) (nm op : ByteArray) (hw : wh = 1 ∨ wh = 2) (hn : Nx s.tp ⟨wh, [], [], nm, op⟩) (hm : wh = 2 → parB nm.data.toList = true ∧ nm ≠ ⟨#[35]⟩ ∧ op ∈ opsL) : Lvs (s.push wh nm op) := by
  refine ⟨fun l hl => ?_, ?_, push_wf h.wf hw _ _⟩
  · have : l ∈ (s.lo ++ [s.tp]) ++ [(⟨wh, [], [], nm, op⟩ : Lvl)] := hl
    rcases List.mem_append.1 this with h3 | h3
    · exact h.lv l h3
    · obtain rfl : l = _ := by simpa using h3
      exact new_ok wh nm op hm
  · have hc : Chn (s.lo ++ [s.tp]) := h.chain
    show Chn ((s.lo ++ [s.tp]) ++ [_])
    rw [List.append_assoc]
    exact hc.last hn
theorem len_ops : ∀ o ∈ opsL, o ≠ ⟨#[]⟩ ∧ o ≠ lenOp := by decide +kernel
theorem Lvs.pop {s : St} (h : Lvs s) (hne : s.lo ≠ []) (hw : s.tp.wh = 1 ∨ s.tp.wh = 2) : Lvs s.pop ∧ s.pop.tp.li = [] ∧ s.pop.tp.ps ≠ [] := by
  obtain ⟨lo', t', hlo⟩ : ∃ lo' t', s.lo = lo' ++ [t'] := ⟨s.lo.dropLast, s.lo.getLast hne, (List.dropLast_concat_getLast hne).symm⟩
  have hc : Chn (lo' ++ [t', s.tp]) := by
    have := h.chain
    unfold St.all at this
    rw [hlo, List.append_assoc] at this
    exact this
  have hnx := hc.nx
  have hf := flush_ok h.tp
  have ht' : LvOK t' := h.lv t' (by simp [St.all, hlo])
  have hdl : s.lo.dropLast = lo' := by rw [hlo]; simp
  have hgl : s.lo.getLastD s.tp = t' := by rw [hlo]; simp
  have hpart : okP t'.wh s.tp.flush.part = true ∧ s.tp.flush.part.k ≠ 1 ∧ (endsDol t'.li = true → s.tp.flush.part.k ≠ 5 ∧ s.tp.flush.part.k ≠ 6 ∧ s.tp.flush.part.k ≠ 7) := by
    have hfw := flush_wh s.tp
    have hps := hf.ps
    rcases hw with h1 | h2
    · have e : s.tp.flush.part = .mk 4 ⟨#[]⟩ ⟨#[]⟩ s.tp.flush.ps 0 := by unfold Lvl.part; rw [if_neg (by rw [hfw, h1]; omega)]
      rw [h1] at hps
      rw [e]
      refine ⟨?_, by simp [Prt.k], fun _ => by simp [Prt.k]⟩
      simp [okP, hnx.2 h1, hps]
    · have e : s.tp.flush.part = .mk 5 s.tp.flush.nm s.tp.flush.op s.tp.flush.ps 0 := by unfold Lvl.part; rw [if_pos (by rw [hfw, h2])]
      rw [h2] at hps
      have hn := flush_nm s.tp
      obtain ⟨p1, p2, p3⟩ := h.tp.par h2
      rw [e, hn.1, hn.2]
      refine ⟨?_, by simp [Prt.k], fun he => absurd (hnx.1 he) (by omega)⟩
      have hop := len_ops _ p3
      have hany : opsL.any (fun o => decide (s.tp.op = o)) = true := List.any_eq_true.2 ⟨_, p3, by simp⟩
      have f37 : s.tp.op = ⟨#[37]⟩ → firstB 37 s.tp.flush.ps = true := fun e => hf.fst 37 (by unfold Lvl.bad; rw [if_neg (by omega), if_pos ⟨h2, e⟩])
      have f35 : s.tp.op = ⟨#[35]⟩ → firstB 35 s.tp.flush.ps = true := fun e => hf.fst 35 (by unfold Lvl.bad; rw [if_neg (by omega), if_neg (by rw [e]; simp), if_pos ⟨h2, e⟩])
      have g37 : (decide (s.tp.op ≠ ⟨#[37]⟩) || firstB 37 s.tp.flush.ps) = true := by
        by_cases e : s.tp.op = ⟨#[37]⟩
        · rw [f37 e]; simp
        · simp [e]
      have g35 : (decide (s.tp.op ≠ ⟨#[35]⟩) || firstB 35 s.tp.flush.ps) = true := by
        by_cases e : s.tp.op = ⟨#[35]⟩
        · rw [f35 e]; simp
        · simp [e]
      simp only [okP]
      rw [if_neg (by omega), if_neg (by omega), if_neg (by omega), if_neg (by omega), if_pos trivial, if_neg (fun h => h.elim hop.1 hop.2)]
      rw [p1, hany, hps, g37, g35]
      simp [p2]
  have hnew : LvOK (t'.addP s.tp.flush.part) := addP_ok ht' hpart.1 hpart.2.1 hpart.2.2
  have e1 : s.pop.lo = lo' := hdl
  have e2 : s.pop.tp = t'.addP s.tp.flush.part := by
    show ({(s.lo.getLastD s.tp).flush with ps := (s.lo.getLastD s.tp).flush.ps ++ [s.tp.flush.part]} : Lvl) = _
    rw [hgl]; rfl
  have hwp : s.pop.wf := by
    obtain ⟨l, r, h1, h2, h3⟩ := h.wf
    have h0 : ({s with lo := s.lo.dropLast, tp := s.lo.getLastD s.tp} : St).wf := by
      obtain ⟨x, t, hs⟩ := List.exists_cons_of_ne_nil hne
      have hd : s.lo.dropLast ++ [s.lo.getLastD s.tp] = s.lo := by rw [hdl, hgl, hlo]
      unfold St.all at h1
      rw [hs] at h1
      simp at h1
      have e : ({s with lo := s.lo.dropLast, tp := s.lo.getLastD s.tp} : St).all = s.lo := hd
      exact ⟨l, t, e.trans (hs.trans (by rw [h1.1])), h2, fun y hy => h3 y (by rw [← h1.2]; simp [hy])⟩
    exact add_wf h0 _
  refine ⟨⟨fun l hl => ?_, ?_, hwp⟩, ?_, ?_⟩
  · have : l ∈ s.pop.lo ∨ l = s.pop.tp := by simpa [St.all] using hl
    rw [e1, e2] at this
    rcases this with h3 | rfl
    · exact h.lv l (by simp [St.all, hlo, h3])
    · exact hnew
  · show Chn (s.pop.lo ++ [s.pop.tp])
    rw [e1, e2]
    have hc2 : Chn (lo' ++ [t']) := by
      have : lo' ++ [t', s.tp] = (lo' ++ [t']) ++ [s.tp] := by simp
      rw [this] at hc
      exact hc.init
    exact hc2.swap (flush_wh t')
  · rw [e2]; exact flush_li t'
  · rw [e2]; show t'.flush.ps ++ [_] ≠ []; simp
/-- What a machine fulfils that takes bytes. -/
structure Inv (s : St) : Prop where
  lvs : Lvs s
  dol : endsDol s.tp.li = true → s.kd = 1 ∨ s.kd = 12
  nf : s.kd = 0 → s.tp.bad ≠ none → ¬ (s.tp.ps = [] ∧ s.tp.li = [])
  k4 : s.kd = 4 → nameB s.bu = true
  k6 : s.kd = 6 → s.ln = true
  k7 : s.kd = 7 → nameB s.bu = true
  k8 : s.kd = 8 → digB s.bu = true
  k9 : s.kd = 9 → parB s.bu = true ∧ (s.ln = false → s.bu ≠ [35])
  k10 : s.kd = 10 → parB s.bu = true ∧ s.bu ≠ [35]
  k11 : s.kd = 11 → parB s.bu = true ∧ s.bu ≠ [35] ∧ (s.cu = 37 ∨ s.cu = 35)
  k12 : s.kd = 12 → clearB s.bu = true ∧ s.tp.wh ≠ 1
  k13 : s.kd = 13 → 0 ≤ s.dp ∧ ∀ r, arithB (s.bu ++ r) 0 = arithB r s.dp
  k14 : s.kd = 14 → arithB s.bu 0 = true
/-- The word that has ended. -/
def FinP (s : St) : Prop := s.lo = [] ∧ okL 0 s.tp.ps = true ∧ firstB 35 s.tp.ps = true ∧ s.tp.ps ≠ []
def Post (r : Int × St) : Prop := (r.1 = 0 → Inv r.2) ∧ (r.1 = 1 → FinP r.2)
/-- An inner state, but for its own conditions. -/
theorem inv_of {s : St} (h : Lvs s) (k : Nat) (hk : s.kd = k) (hd : endsDol s.tp.li = true → k = 1 ∨ k = 12) (h0 : k = 0 → s.tp.bad ≠ none → ¬ (s.tp.ps = [] ∧ s.tp.li = []))
    (h4 : k = 4 → nameB s.bu = true) (h6 : k = 6 → s.ln = true) (h7 : k = 7 → nameB s.bu = true) (h8 : k = 8 → digB s.bu = true) (h9 : k = 9 → parB s.bu = true ∧ (s.ln = false → s.bu ≠ [35])) (h10 : k = 10 → parB s.bu = true ∧ s.bu ≠ [35])
    (h11 : k = 11 → parB s.bu = true ∧ s.bu ≠ [35] ∧ (s.cu = 37 ∨ s.cu = 35)) (h12 : k = 12 → clearB s.bu = true ∧ s.tp.wh ≠ 1) (h13 : k = 13 → 0 ≤ s.dp ∧ ∀ r, arithB (s.bu ++ r) 0 = arithB r s.dp) (h14 : k = 14 → arithB s.bu 0 = true) : Inv s := by
  subst hk
  exact ⟨h, hd, h0, h4, h6, h7, h8, h9, h10, h11, h12, h13, h14⟩
/-- A state in which a text goes on. -/
theorem inv_0 {s : St} (h : Lvs s) (hk : s.kd = 0) (hd : endsDol s.tp.li = false) (h0 : s.tp.bad ≠ none → ¬ (s.tp.ps = [] ∧ s.tp.li = [])) : Inv s :=
  inv_of h 0 hk (fun e => absurd (hd.symm.trans e) (by simp)) (fun _ => h0) (fun e => by omega) (fun e => by omega) (fun e => by omega) (fun e => by omega) (fun e => by omega) (fun e => by omega) (fun e => by omega) (fun e => by omega) (fun e => by omega) (fun e => by omega)
theorem spc36 : dolOK 36 = false := by decide
theorem text_post {t : St} (h : Lvs t) (hk : t.kd = 0) (c : UInt8) (hd : endsDol t.tp.li = true → dolOK c = true) (hf : ∀ x, t.tp.bad = some x → t.tp.ps = [] → t.tp.li = [] → c ≠ x ∧ (stText t c).1 ≠ 1) : Post (stText t c) := by
  have hlv := h.tp
  have hne : (t.tp.wh = 1 ∨ t.tp.wh = 2) → t.lo ≠ [] := wf_ne h.wf
  unfold stText at hf ⊢
  by_cases h1 : c = 0 ∨ c = 96
  · rw [if_pos h1]; exact ⟨fun e => (by simp at e), fun e => (by simp at e)⟩
  rw [if_neg h1] at hf ⊢
  by_cases h2 : t.tp.wh = 0 ∧ (cls c.toNat = 1 ∨ cls c.toNat = 2 ∨ cls c.toNat = 5)
  · rw [if_pos h2] at hf ⊢
    have hlo : t.lo = [] := by
      obtain ⟨l, r, e1, e2, e3⟩ := h.wf
      by_cases hn : t.lo = []
      · exact hn
      · obtain ⟨x, u, hlo⟩ := List.exists_cons_of_ne_nil hn
        have : t.tp ∈ r := by
          unfold St.all at e1
          rw [hlo] at e1
          simp at e1
          rw [← e1.2]; simp
        have := e3 _ this
        omega
    have hfl := flush_ok hlv
    have hbad : t.tp.bad = some 35 := by unfold Lvl.bad; rw [if_pos h2.1]
    refine ⟨fun e => (by simp at e), fun _ => ⟨hlo, by rw [← h2.1]; exact hfl.ps, hfl.fst 35 hbad, fun e => ?_⟩⟩
    have e' : t.tp.flush.ps = [] := e
    unfold Lvl.flush at e'
    split at e'
    · rename_i hli
      exact (hf 35 hbad e' hli).2 rfl
    · simp at e'
  rw [if_neg h2] at hf ⊢
  by_cases h3 : (t.tp.wh = 1 ∧ c = 34) ∨ (t.tp.wh = 2 ∧ c = 125)
  · rw [if_pos h3]
    have hw : t.tp.wh = 1 ∨ t.tp.wh = 2 := h3.elim (fun h => .inl h.1) (fun h => .inr h.1)
    obtain ⟨a, b, d⟩ := h.pop (hne hw) hw
    exact ⟨fun _ => inv_0 a rfl (by rw [b]; rfl) (fun _ e => d e.1), fun e => (by simp at e)⟩
  rw [if_neg h3] at hf ⊢
  by_cases h4 : c = 92
  · rw [if_pos h4]
    exact ⟨fun _ => inv_of (h.same rfl rfl) 1 rfl (fun _ => .inl rfl) (fun e => by omega) (fun e => by omega) (fun e => by omega) (fun e => by omega) (fun e => by omega) (fun e => by omega) (fun e => by omega) (fun e => by omega) (fun e => by omega) (fun e => by omega) (fun e => by omega), fun e => (by simp at e)⟩
  rw [if_neg h4] at hf ⊢
  by_cases h5 : c = 39 ∧ t.tp.wh ≠ 1
  · rw [if_pos h5]
    exact ⟨fun _ => inv_of (h.same rfl rfl) 12 rfl (fun _ => .inr rfl) (fun e => by omega) (fun e => by omega) (fun e => by omega) (fun e => by omega) (fun e => by omega) (fun e => by omega) (fun e => by omega) (fun e => by omega) (fun _ => ⟨rfl, h5.2⟩) (fun e => by omega) (fun e => by omega), fun e => (by simp at e)⟩
  rw [if_neg h5] at hf ⊢
  by_cases h6 : c = 34
  · rw [if_pos h6]
    have hw1 : t.tp.wh ≠ 1 := fun e => h3 (.inl ⟨e, h6⟩)
    refine ⟨fun _ => inv_0 (Lvs.push (s := {t with qu := true}) (h.same rfl rfl) 1 ⟨#[]⟩ ⟨#[]⟩ (.inl rfl) ⟨fun _ => rfl, fun _ => hw1⟩ (fun e => absurd e (by decide))) rfl rfl (fun hb => absurd ?_ hb), fun e => (by simp at e)⟩
    rfl
  rw [if_neg h6] at hf ⊢
  by_cases h7 : c = 36
  · rw [if_pos h7]
    have hdf : endsDol t.tp.li = false := by
      by_cases e : endsDol t.tp.li = true
      · have := hd e
        rw [h7, spc36] at this
        cases this
      · simpa using e
    exact ⟨fun _ => inv_of (h.same rfl rfl) 2 rfl (fun e => absurd (hdf.symm.trans e) (by simp)) (fun e => by omega) (fun e => by omega) (fun e => by omega) (fun e => by omega) (fun e => by omega) (fun e => by omega) (fun e => by omega) (fun e => by omega) (fun e => by omega) (fun e => by omega) (fun e => by omega), fun e => (by simp at e)⟩
  rw [if_neg h7] at hf ⊢
  have hw012 : t.tp.wh = 0 ∨ t.tp.wh = 1 ∨ t.tp.wh = 2 := by
    obtain ⟨l, r, e1, e2, e3⟩ := h.wf
    have : t.tp ∈ l :: r := by rw [← e1]; simp [St.all]
    rcases List.mem_cons.1 this with e | e
    · left; rw [e]; exact e2
    · right; exact e3 _ e
  have hbyte : byteOK t.tp.wh c = true := by
    rcases hw012 with e | e | e
    · rw [e]
      exact byte_all (P := fun c => (c = 0 ∨ c = 96 ∨ cls c.toNat = 1 ∨ cls c.toNat = 2 ∨ cls c.toNat = 5 ∨ c = 92 ∨ c = 39 ∨ c = 34) ∨ byteOK 0 c = true) (by decide +kernel) c |>.resolve_left (fun x => by
        rcases x with x | x | x | x | x | x | x | x
        · exact h1 (.inl x)
        · exact h1 (.inr x)
        · exact h2 ⟨e, .inl x⟩
        · exact h2 ⟨e, .inr (.inl x)⟩
        · exact h2 ⟨e, .inr (.inr x)⟩
        · exact h4 x
        · exact h5 ⟨x, by omega⟩
        · exact h6 x)
    · rw [e]
      exact byte_all (P := fun c => ¬ (c = 0 ∨ c = 96) → c ≠ 34 → byteOK 1 c = true) (by decide +kernel) c h1 h6
    · rw [e]
      exact byte_all (P := fun c => (c = 0 ∨ c = 96 ∨ c = 92 ∨ c = 39 ∨ c = 34 ∨ c = 125) ∨ byteOK 2 c = true) (by decide +kernel) c |>.resolve_left (fun x => by
        rcases x with x | x | x | x | x | x
        · exact h1 (.inl x)
        · exact h1 (.inr x)
        · exact h4 x
        · exact h5 ⟨x, by omega⟩
        · exact h6 x
        · exact h3 (.inr ⟨e, x⟩))
  have hnew := lit1_ok hlv hbyte (fun _ => h4) hd (fun x hx a b => (hf x hx a b).1)
  refine ⟨fun _ => inv_0 (h.set rfl rfl hnew) hk ?_ (fun _ e => ?_), fun e => (by simp at e)⟩
  · show endsDol (t.tp.li ++ [c]) = false
    simp [endsDol, h7]
  · have : t.tp.li ++ [c] = [] := e.2
    simp at this
end Go.Proofs.Ytbmapjgajecgfaa

/-
  What is proved: two machines that differ in their parts alone do the same with every byte. Conditions: those of each theorem.
-/
import Derived.Test.YtbmapjgajecgfaaW43
set_option linter.unusedVariables false
set_option linter.unusedSimpArgs false
namespace Go.Proofs.Ytbmapjgajecgfaa
open Go.RowKit
def Lvl.shape (l : Lvl) : Int × List UInt8 × ByteArray × ByteArray × Nat := (l.wh, l.li, l.nm, l.op, l.ps.length)
structure Sim (ub ud : Prop) (s t : St) : Prop where
  lo : s.lo.map Lvl.shape = t.lo.map Lvl.shape
  tp : s.tp.shape = t.tp.shape
  ln : s.ln = t.ln
  cu : s.cu = t.cu
  bu : ub → s.bu = t.bu
  dp : ud → s.dp = t.dp
def usesBu (k : Nat) : Prop := k = 4 ∨ k = 7 ∨ k = 8 ∨ k = 9 ∨ k = 10 ∨ k = 11 ∨ k = 12 ∨ k = 13 ∨ k = 14
def usesDp (k : Nat) : Prop := k = 13
def SimR (r q : Int × St) : Prop := r.1 = q.1 ∧ r.2.kd = q.2.kd ∧ Sim (usesBu r.2.kd) (usesDp r.2.kd) r.2 q.2
theorem Sim.wh {ub ud : Prop} {s t : St} (h : Sim ub ud s t) : s.tp.wh = t.tp.wh := congrArg (fun x => x.1) h.tp
theorem Sim.weak {ub ud ub' ud' : Prop} {s t : St} (h : Sim ub ud s t) (h1 : ub' → ub) (h2 : ud' → ud) : Sim ub' ud' s t := ⟨h.lo, h.tp, h.ln, h.cu, fun x => h.bu (h1 x), fun x => h.dp (h2 x)⟩
theorem Sim.turn {ub ud : Prop} {s t : St} (h : Sim ub ud s t) (v : Int) (k : Nat) (h1 : usesBu k → ub) (h2 : usesDp k → ud) : SimR (v, s.turn k) (v, t.turn k) :=
  ⟨rfl, rfl, h.lo, h.tp, h.ln, h.cu, fun x => h.bu (h1 x), fun x => h.dp (h2 x)⟩
theorem shape_flush {l m : Lvl} (h : l.shape = m.shape) : l.flush.shape = m.flush.shape := by
  unfold Lvl.shape at h
  simp only [Prod.mk.injEq] at h
  obtain ⟨h1, h2, h3, h4, h5⟩ := h
  unfold Lvl.flush
  rw [← h2]
  split
  · simp [Lvl.shape, h1, h2, h3, h4, h5]
  · simp [Lvl.shape, h1, h2, h3, h4, h5]
theorem Sim.flush {ub ud : Prop} {s t : St} (h : Sim ub ud s t) (k : Nat) (v : Int) (h1 : usesBu k → ub) (h2 : usesDp k → ud) : SimR (v, {s with tp := s.tp.flush, kd := k}) (v, {t with tp := t.tp.flush, kd := k}) :=
  ⟨rfl, rfl, h.lo, shape_flush h.tp, h.ln, h.cu, fun x => h.bu (h1 x), fun x => h.dp (h2 x)⟩
theorem Sim.add {ub ud : Prop} {s t : St} (h : Sim ub ud s t) (p q : Prt) : Sim ub ud (s.add p) (t.add q) := by
  refine ⟨h.lo, ?_, h.ln, h.cu, h.bu, h.dp⟩
  have := shape_flush h.tp
  unfold Lvl.shape at this
  simp only [Prod.mk.injEq] at this
  obtain ⟨h1, h2, h3, h4, h5⟩ := this
  simp [St.add, Lvl.shape, h1, h2, h3, h4, h5]
theorem Sim.lit {ub ud : Prop} {s t : St} (h : Sim ub ud s t) (bs : List UInt8) : Sim ub ud (s.lit bs) (t.lit bs) := by
  refine ⟨h.lo, ?_, h.ln, h.cu, h.bu, h.dp⟩
  have := h.tp
  unfold Lvl.shape at this
  simp only [Prod.mk.injEq] at this
  obtain ⟨h1, h2, h3, h4, h5⟩ := this
  simp [St.lit, Lvl.shape, h1, h2, h3, h4, h5]
theorem Sim.push {ub ud : Prop} {s t : St} (h : Sim ub ud s t) (wh : Int) (nm op : ByteArray) : Sim ub ud (s.push wh nm op) (t.push wh nm op) :=
  ⟨by show (s.lo ++ [s.tp]).map _ = (t.lo ++ [t.tp]).map _; rw [List.map_append, List.map_append, h.lo]; simp [h.tp], rfl, h.ln, h.cu, h.bu, h.dp⟩
theorem Sim.len {ub ud : Prop} {s t : St} (h : Sim ub ud s t) : s.lo.length = t.lo.length := by
  have := congrArg List.length h.lo
  simpa using this
theorem Sim.pop {ub ud : Prop} {s t : St} (h : Sim ub ud s t) : SimR (0, s.pop) (0, t.pop) := by
  have h0 : Sim ub ud ({s with lo := s.lo.dropLast, tp := s.lo.getLastD s.tp} : St) ({t with lo := t.lo.dropLast, tp := t.lo.getLastD t.tp} : St) := by
    refine ⟨?_, ?_, h.ln, h.cu, h.bu, h.dp⟩
    · show s.lo.dropLast.map _ = t.lo.dropLast.map _
      rw [List.map_dropLast, List.map_dropLast, h.lo]
    · show (s.lo.getLastD s.tp).shape = (t.lo.getLastD t.tp).shape
      have e : ∀ (l : List Lvl) (d : Lvl), (l.getLastD d).shape = (l.map Lvl.shape).getLastD d.shape := fun l d => by
        rw [List.getLastD_eq_getLast?, List.getLastD_eq_getLast?, List.getLast?_map]
        cases l.getLast? <;> rfl
      rw [e, e, h.lo, h.tp]
  exact (h0.add s.tp.flush.part t.tp.flush.part).turn 0 0 (fun x => by unfold usesBu at x; omega) (fun x => by unfold usesDp at x; omega)
theorem text_sim {ub ud : Prop} {s t : St} (h : Sim ub ud s t) (hk : s.kd = 0) (hk' : t.kd = 0) (c : UInt8) : SimR (stText s c) (stText t c) := by
  have nb : ∀ (k : Nat), ¬ usesBu k → usesBu k → ub := fun k a b => (a b).elim
  have nd : ∀ (k : Nat), ¬ usesDp k → usesDp k → ud := fun k a b => (a b).elim
  unfold stText
  rw [← h.wh]
  by_cases h1 : c = 0 ∨ c = 96
  · rw [if_pos h1, if_pos h1]; exact h.turn 3 17 (nb _ (by unfold usesBu; omega)) (nd _ (by unfold usesDp; omega))
  rw [if_neg h1, if_neg h1]
  by_cases h2 : s.tp.wh = 0 ∧ (cls c.toNat = 1 ∨ cls c.toNat = 2 ∨ cls c.toNat = 5)
  · rw [if_pos h2, if_pos h2]; exact h.flush 16 1 (nb _ (by unfold usesBu; omega)) (nd _ (by unfold usesDp; omega))
  rw [if_neg h2, if_neg h2]
  by_cases h3 : (s.tp.wh = 1 ∧ c = 34) ∨ (s.tp.wh = 2 ∧ c = 125)
  · rw [if_pos h3, if_pos h3]; exact h.pop
  rw [if_neg h3, if_neg h3]
  by_cases h4 : c = 92
  · rw [if_pos h4, if_pos h4]; exact ⟨rfl, rfl, h.lo, h.tp, h.ln, h.cu, fun x => by have : usesBu 1 := x; unfold usesBu at this; omega, fun x => by have : usesDp 1 := x; unfold usesDp at this; omega⟩
  rw [if_neg h4, if_neg h4]
  by_cases h5 : c = 39 ∧ s.tp.wh ≠ 1
  · rw [if_pos h5, if_pos h5]; exact ⟨rfl, rfl, h.lo, h.tp, h.ln, h.cu, fun _ => rfl, fun x => by have : usesDp 12 := x; unfold usesDp at this; omega⟩
  rw [if_neg h5, if_neg h5]
  by_cases h6 : c = 34
  · rw [if_pos h6, if_pos h6]
    have hq : Sim ub ud ({s with qu := true} : St) ({t with qu := true} : St) := ⟨h.lo, h.tp, h.ln, h.cu, h.bu, h.dp⟩
    have := hq.push 1 ⟨#[]⟩ ⟨#[]⟩
    exact ⟨rfl, rfl, this.weak (nb 0 (by unfold usesBu; omega)) (nd 0 (by unfold usesDp; omega))⟩
  rw [if_neg h6, if_neg h6]
  by_cases h7 : c = 36
  · rw [if_pos h7, if_pos h7]; exact h.turn 0 2 (nb _ (by unfold usesBu; omega)) (nd _ (by unfold usesDp; omega))
  rw [if_neg h7, if_neg h7]
  refine ⟨rfl, hk.trans hk'.symm, (h.lit [c]).weak ?_ ?_⟩
  · show usesBu s.kd → ub
    rw [hk]; exact nb 0 (by unfold usesBu; omega)
  · show usesDp s.kd → ud
    rw [hk]; exact nd 0 (by unfold usesDp; omega)
theorem behind_sim {ud : Prop} {s t : St} (h : Sim True ud s t) (c : UInt8) : SimR (stBehind s c) (stBehind t c) := by
  have hb := h.bu trivial
  have nd : ∀ (k : Nat), ¬ usesDp k → usesDp k → ud := fun k a b => (a b).elim
  unfold stBehind
  rw [← h.ln]
  by_cases h1 : c = 125
  · rw [if_pos h1, if_pos h1]; exact (h.add _ _).turn 0 0 (fun _ => trivial) (nd _ (by unfold usesDp; omega))
  rw [if_neg h1, if_neg h1]
  by_cases h2 : s.ln = true
  · rw [if_pos h2, if_pos h2]; exact h.turn 3 17 (fun _ => trivial) (nd _ (by unfold usesDp; omega))
  rw [if_neg h2, if_neg h2]
  by_cases h3 : c = 58
  · rw [if_pos h3, if_pos h3]; exact h.turn 0 10 (fun _ => trivial) (nd _ (by unfold usesDp; omega))
  rw [if_neg h3, if_neg h3]
  by_cases h4 : c = 37 ∨ c = 35
  · rw [if_pos h4, if_pos h4]; exact ⟨rfl, rfl, h.lo, h.tp, rfl, rfl, fun _ => hb, fun x => by have : usesDp 11 := x; unfold usesDp at this; omega⟩
  rw [if_neg h4, if_neg h4]
  by_cases h5 : one1 c.toNat = true
  · rw [if_pos h5, if_pos h5, ← hb]
    exact ⟨rfl, rfl, (h.push 2 ⟨s.bu.toArray⟩ ⟨#[c]⟩).weak (fun _ => trivial) (nd 0 (by unfold usesDp; omega))⟩
  rw [if_neg h5, if_neg h5]
  exact h.turn 3 17 (fun _ => trivial) (nd _ (by unfold usesDp; omega))
theorem parameter_sim {ub ud : Prop} {s t : St} (h : Sim ub ud s t) (c : UInt8) : SimR (stParameter s c) (stParameter t c) := by
  have h' : Sim True ud ({s with bu := [c]} : St) ({t with bu := [c]} : St) := ⟨h.lo, h.tp, h.ln, h.cu, fun _ => rfl, h.dp⟩
  have nd : ∀ (k : Nat), ¬ usesDp k → usesDp k → ud := fun k a b => (a b).elim
  unfold stParameter
  simp only
  by_cases h1 : cls c.toNat = 4
  · rw [if_pos h1, if_pos h1]; exact h'.turn 0 7 (fun _ => trivial) (nd _ (by unfold usesDp; omega))
  rw [if_neg h1, if_neg h1]
  by_cases h2 : cls c.toNat = 3
  · rw [if_pos h2, if_pos h2]; exact h'.turn 0 8 (fun _ => trivial) (nd _ (by unfold usesDp; omega))
  rw [if_neg h2, if_neg h2]
  by_cases h3 : spc c.toNat = true
  · rw [if_pos h3, if_pos h3]; exact h'.turn 0 9 (fun _ => trivial) (nd _ (by unfold usesDp; omega))
  rw [if_neg h3, if_neg h3]
  exact h'.turn 3 17 (fun _ => trivial) (nd _ (by unfold usesDp; omega))
theorem next_sim {s t : St} (hk : s.kd = t.kd) (h : Sim (usesBu s.kd) (usesDp s.kd) s t) (c : UInt8) : SimR (stNext s c) (stNext t c) := by
  have nb : ∀ (k : Nat) {ub : Prop}, ¬ usesBu k → usesBu k → ub := fun k _ a b => (a b).elim
  have nd : ∀ (k : Nat) {ud : Prop}, ¬ usesDp k → usesDp k → ud := fun k _ a b => (a b).elim
  obtain ⟨k, hks⟩ : ∃ k, s.kd = k := ⟨_, rfl⟩
  have hkt : t.kd = k := by rw [← hk, hks]
  have hname : (k = 7 ∨ k = 8) → SimR (stName s c) (stName t c) := fun h78 => by
    have hT : Sim True (usesDp s.kd) s t := h.weak (fun _ => by rw [hks]; unfold usesBu; omega) (fun x => x)
    unfold stName
    rw [hks, hkt]
    by_cases h1 : cls c.toNat = 3 ∨ (cls c.toNat = 4 ∧ k = 7)
    · rw [if_pos h1, if_pos h1]
      exact ⟨rfl, rfl, h.lo, h.tp, h.ln, h.cu, fun x => by show s.bu ++ [c] = t.bu ++ [c]; rw [hT.bu trivial], fun x => h.dp (by rw [hks]; exact x)⟩
    · rw [if_neg h1, if_neg h1]
      have : Sim True (usesDp s.kd) (s.turn 9) (t.turn 9) := ⟨h.lo, h.tp, h.ln, h.cu, fun _ => hT.bu trivial, h.dp⟩
      exact behind_sim this c
  unfold stNext
  rw [hks, hkt]
  split
  · exact text_sim h hks hkt c
  · unfold stEscaped
    rw [← h.wh]
    by_cases h1 : c = 0 ∨ c = 10
    · rw [if_pos h1, if_pos h1]; exact h.turn 3 17 (nb _ (by unfold usesBu; omega)) (nd _ (by unfold usesDp; omega))
    rw [if_neg h1, if_neg h1]
    by_cases h2 : s.tp.wh = 1 ∧ esc4 c.toNat = true
    · rw [if_pos h2, if_pos h2]; exact (h.lit _).turn 0 0 (nb _ (by unfold usesBu; omega)) (nd _ (by unfold usesDp; omega))
    rw [if_neg h2, if_neg h2]
    have h' : Sim (usesBu s.kd) (usesDp s.kd) ({s with tk := s.tk ++ [c]} : St) ({t with tk := t.tk ++ [c]} : St) := ⟨h.lo, h.tp, h.ln, h.cu, h.bu, h.dp⟩
    exact (h'.add _ _).turn 0 0 (nb _ (by unfold usesBu; omega)) (nd _ (by unfold usesDp; omega))
  · unfold stDollar
    have h' : Sim (usesBu s.kd) (usesDp s.kd) ({s with ex := true} : St) ({t with ex := true} : St) := ⟨h.lo, h.tp, h.ln, h.cu, h.bu, h.dp⟩
    by_cases h1 : c = 123
    · rw [if_pos h1, if_pos h1]; exact h'.turn 0 5 (nb _ (by unfold usesBu; omega)) (nd _ (by unfold usesDp; omega))
    rw [if_neg h1, if_neg h1]
    by_cases h2 : c = 40
    · rw [if_pos h2, if_pos h2]; exact h'.turn 0 3 (nb _ (by unfold usesBu; omega)) (nd _ (by unfold usesDp; omega))
    rw [if_neg h2, if_neg h2]
    by_cases h3 : cls c.toNat = 4
    · rw [if_pos h3, if_pos h3]; exact ⟨rfl, rfl, h.lo, h.tp, h.ln, h.cu, fun _ => rfl, fun x => by have : usesDp 4 := x; unfold usesDp at this; omega⟩
    rw [if_neg h3, if_neg h3]
    by_cases h4 : cls c.toNat = 3 ∨ spc c.toNat = true
    · rw [if_pos h4, if_pos h4]; exact (h'.add _ _).turn 0 0 (nb _ (by unfold usesBu; omega)) (nd _ (by unfold usesDp; omega))
    rw [if_neg h4, if_neg h4]
    have h5 := h.lit [36]
    exact text_sim (s := (s.lit [36]).turn 0) (t := (t.lit [36]).turn 0) ⟨h5.lo, h5.tp, h5.ln, h5.cu, h5.bu, h5.dp⟩ rfl rfl c
  · unfold stOpened
    by_cases h1 : c = 40
    · rw [if_pos h1, if_pos h1]; exact ⟨rfl, rfl, h.lo, h.tp, h.ln, h.cu, fun _ => rfl, fun _ => rfl⟩
    rw [if_neg h1, if_neg h1]
    exact h.turn 2 15 (nb _ (by unfold usesBu; omega)) (nd _ (by unfold usesDp; omega))
  · have hT : Sim True (usesDp s.kd) s t := h.weak (fun _ => by rw [hks]; unfold usesBu; omega) (fun x => x)
    unfold stBare
    by_cases h1 : cls c.toNat = 4 ∨ cls c.toNat = 3
    · rw [if_pos h1, if_pos h1]
      exact ⟨rfl, hk, h.lo, h.tp, h.ln, h.cu, fun x => by show s.bu ++ [c] = t.bu ++ [c]; rw [hT.bu trivial], h.dp⟩
    rw [if_neg h1, if_neg h1]
    have h5 := hT.add (.mk 5 ⟨s.bu.toArray⟩ ⟨#[]⟩ [] 0) (.mk 5 ⟨t.bu.toArray⟩ ⟨#[]⟩ [] 0)
    exact text_sim (s := (s.add _).turn 0) (t := (t.add _).turn 0) ⟨h5.lo, h5.tp, h5.ln, h5.cu, h5.bu, h5.dp⟩ rfl rfl c
  · unfold stHead
    by_cases h1 : c = 35
    · rw [if_pos h1, if_pos h1]; exact ⟨rfl, rfl, h.lo, h.tp, rfl, h.cu, fun x => by have : usesBu 6 := x; unfold usesBu at this; omega, fun x => by have : usesDp 6 := x; unfold usesDp at this; omega⟩
    rw [if_neg h1, if_neg h1]
    have h' : Sim (usesBu s.kd) (usesDp s.kd) ({s with ln := false} : St) ({t with ln := false} : St) := ⟨h.lo, h.tp, rfl, h.cu, h.bu, h.dp⟩
    exact parameter_sim h' c
  · unfold stHash
    by_cases h1 : c = 125
    · rw [if_pos h1, if_pos h1]; exact (h.add _ _).turn 0 0 (nb _ (by unfold usesBu; omega)) (nd _ (by unfold usesDp; omega))
    rw [if_neg h1, if_neg h1]
    exact parameter_sim h c
  · exact hname (.inl rfl)
  · exact hname (.inr rfl)
  · have hT : Sim True (usesDp s.kd) s t := h.weak (fun _ => by rw [hks]; unfold usesBu; omega) (fun x => x)
    exact behind_sim hT c
  · have hT : Sim True (usesDp s.kd) s t := h.weak (fun _ => by rw [hks]; unfold usesBu; omega) (fun x => x)
    unfold stColon
    by_cases h1 : one1 c.toNat = true
    · rw [if_pos h1, if_pos h1, ← hT.bu trivial]
      exact ⟨rfl, rfl, (hT.push 2 ⟨s.bu.toArray⟩ ⟨#[58, c]⟩).weak (fun _ => trivial) (nd 0 (by unfold usesDp; omega))⟩
    rw [if_neg h1, if_neg h1]
    exact h.turn 3 17 (nb _ (by unfold usesBu; omega)) (nd _ (by unfold usesDp; omega))
  · have hT : Sim True (usesDp s.kd) s t := h.weak (fun _ => by rw [hks]; unfold usesBu; omega) (fun x => x)
    unfold stDouble
    rw [← h.cu, ← hT.bu trivial]
    by_cases h1 : (c.toNat : Int) = s.cu
    · rw [if_pos h1, if_pos h1]
      exact ⟨rfl, rfl, (hT.push 2 ⟨s.bu.toArray⟩ ⟨#[c, c]⟩).weak (fun _ => trivial) (nd 0 (by unfold usesDp; omega))⟩
    rw [if_neg h1, if_neg h1]
    exact text_sim (hT.push 2 _ _) rfl rfl c
  · have hT : Sim True (usesDp s.kd) s t := h.weak (fun _ => by rw [hks]; unfold usesBu; omega) (fun x => x)
    unfold stSingle
    by_cases h1 : c = 0
    · rw [if_pos h1, if_pos h1]; exact h.turn 3 17 (nb _ (by unfold usesBu; omega)) (nd _ (by unfold usesDp; omega))
    rw [if_neg h1, if_neg h1]
    by_cases h2 : c = 39
    · rw [if_pos h2, if_pos h2]; exact (h.add _ _).turn 0 0 (nb _ (by unfold usesBu; omega)) (nd _ (by unfold usesDp; omega))
    rw [if_neg h2, if_neg h2]
    exact ⟨rfl, hk, h.lo, h.tp, h.ln, h.cu, fun x => by show s.bu ++ [c] = t.bu ++ [c]; rw [hT.bu trivial], h.dp⟩
  · have hT : Sim True True s t := h.weak (fun _ => by rw [hks]; unfold usesBu; omega) (fun x => by rw [hks]; rfl)
    unfold stArith
    rw [← hT.dp trivial]
    by_cases h1 : c = 0
    · rw [if_pos h1, if_pos h1]; exact h.turn 3 17 (nb _ (by unfold usesBu; omega)) (nd _ (by unfold usesDp; omega))
    rw [if_neg h1, if_neg h1]
    by_cases h2 : c = 41 ∧ s.dp = 0
    · rw [if_pos h2, if_pos h2]; exact hT.turn 0 14 (fun _ => trivial) (fun _ => trivial)
    rw [if_neg h2, if_neg h2]
    exact ⟨rfl, hk, h.lo, h.tp, h.ln, h.cu, fun x => by show s.bu ++ [c] = t.bu ++ [c]; rw [hT.bu trivial], fun _ => rfl⟩
  · have hT : Sim True (usesDp s.kd) s t := h.weak (fun _ => by rw [hks]; unfold usesBu; omega) (fun x => x)
    unfold stArithEnd
    by_cases h1 : c = 41
    · rw [if_pos h1, if_pos h1]; exact (h.add _ _).turn 0 0 (nb _ (by unfold usesBu; omega)) (nd _ (by unfold usesDp; omega))
    rw [if_neg h1, if_neg h1]
    exact h.turn 3 17 (nb _ (by unfold usesBu; omega)) (nd _ (by unfold usesDp; omega))
  · exact ⟨rfl, hk, h⟩
  · exact ⟨rfl, hk, h⟩
def SimK (s t : St) : Prop := s.kd = t.kd ∧ Sim (usesBu s.kd) (usesDp s.kd) s t
theorem feed_sim {s t : St} (h : SimK s t) (c : UInt8) : (stFeed s c).1 = (stFeed t c).1 ∧ SimK (stFeed s c).2 (stFeed t c).2 := by
  obtain ⟨h1, h2, h3⟩ := next_sim h.1 h.2 c
  unfold stFeed
  rw [← h1]
  split
  · exact ⟨rfl, h2, h3.lo, h3.tp, h3.ln, h3.cu, h3.bu, h3.dp⟩
  · exact ⟨h1, h2, h3⟩
theorem rest_sim {s t : St} (h : SimK s t) : stRest s = stRest t := by
  obtain ⟨h1, h2⟩ := h
  have hw : s.all.map Lvl.wh = t.all.map Lvl.wh := by
    have e : ∀ l : List Lvl, l.map Lvl.wh = (l.map Lvl.shape).map (fun x => x.1) := fun l => by rw [List.map_map]; rfl
    unfold St.all
    rw [List.map_append, List.map_append, e s.lo, e t.lo, h2.lo]
    simp [h2.wh]
  have hend : s.all.tail.reverse.map lvEnd = t.all.tail.reverse.map lvEnd := by
    have e : ∀ l : List Lvl, l.map lvEnd = (l.map Lvl.wh).map (fun w => if w = 1 then 34 else 125) := fun l => by rw [List.map_map]; rfl
    have hw' : s.all.tail.reverse.map Lvl.wh = t.all.tail.reverse.map Lvl.wh := by rw [List.map_reverse, List.map_reverse, List.map_tail, List.map_tail, hw]
    rw [e s.all.tail.reverse, e t.all.tail.reverse, hw']
  have hm : stMissing s = stMissing t := by
    unfold stMissing
    rw [← h1]
    split <;> try rfl
    rename_i hk
    rw [h2.dp (by rw [hk]; rfl)]
  unfold stRest
  rw [← h1, hend, hm]
theorem raw_sim {s t : St} (h : SimK s t) : stRaw s = stRaw t := by unfold stRaw; rw [h.1]
end Go.Proofs.Ytbmapjgajecgfaa

/-
  What is proved: lemma: the end of flush. Conditions: those of each theorem.
-/
import Derived.Test.YtbmapjgajecgfaaW5
set_option linter.unusedVariables false
set_option linter.unusedSimpArgs false
namespace Go.Proofs.Ytbmapjgajecgfaa
open Go.RowKit
theorem flush_end {B : Nat} {w wc : World} {b : Nat} {C : Nat → Prop} {S : Sn} {g cap n : Nat} {v : Value} (hl : S.lvv = .slice (some ⟨g, 0, none⟩) (S.lo.length + 1) cap) (hn : S.lo.length = n) (h0 : S.tp.li ≠ []) (hB : B ≤ wc.heap.size)
    (hS : Stp B w C (S.dat b) wc C ({S with tp := {S.tp with ps := S.tp.ps ++ [Prt.mk 1 ⟨S.tp.li.toArray⟩ ⟨#[]⟩ [] 0], pv := v}}.dat b)) :
    Stp B w C (S.dat b) (wc.setCell ⟨g, n * 5 + 2, none⟩ (.slice none 0 0)) C ({S with tp := S.tp.flushed v}.dat b) := by
  subst hn
  have s2 := Stp.setRow hS.1 (t := .lv) (e := 55) (size := 5) (g := g) (n := S.lo.length + 1) (cap := cap) (by show Dat.row 55 5 S.lvv (S.lo.length + 1) _ = _; rw [hl]) (S.lo.length * 5 + 2) (.slice none 0 0)
  have s3 := Stp.one s2.1 (.li S.lo.length) (.row 5 1 (.slice none 0 0) 0 []) (Kept.refl _ _) (World.ownsRow_nil _ _ _ _) (fun k hk => by cases hk) (by have := s2.2.1.size; omega)
  have s := (hS.trans s2).trans s3
  refine Eq.mp (congrArg (fun D => Stp B w C (S.dat b) _ C D) ?_) s
  rw [show S.tp.flushed v = {S.tp with ps := S.tp.ps ++ [Prt.mk 1 ⟨S.tp.li.toArray⟩ ⟨#[]⟩ [] 0], pv := v, li := [], tv := .slice none 0 0} by unfold LvM.flushed; rw [if_neg h0]]
  refine dat_eq (S := {S with tp := {S.tp with ps := S.tp.ps ++ [Prt.mk 1 ⟨S.tp.li.toArray⟩ ⟨#[]⟩ [] 0], pv := v}}) rfl ?_ ?_ ?_ ?_ ?_ ?_ ?_ (fun i hi => ?_) (fun i hi => ?_)
  · rw [upd_ne (by simp), upd_ne (by simp)]; rfl
  · rw [upd_ne (by simp), upd_at]
    refine Eq.trans ?_ (congrArg (fun v => Dat.row 55 5 v (S.lo.length + 1) _) hl.symm)
    exact congrArg (Dat.row 55 5 _ _) ((flat_set ({S with tp := {S.tp with ps := S.tp.ps ++ [Prt.mk 1 ⟨S.tp.li.toArray⟩ ⟨#[]⟩ [] 0], pv := v}}) 2 _).trans (all_flat ({S with tp := {S.tp with ps := S.tp.ps ++ [Prt.mk 1 ⟨S.tp.li.toArray⟩ ⟨#[]⟩ [] 0], pv := v, li := [], tv := .slice none 0 0}})).symm)
  · rw [upd_ne (by simp), upd_ne (by simp)]; rfl
  · rw [upd_ne (by simp), upd_ne (by simp)]; rfl
  · rw [upd_ne (by simp), upd_ne (by simp)]; rfl
  · rw [upd_ne (by simp), upd_ne (by simp)]
    exact dat_ps _ b
  · rw [upd_at]; rfl
  · rw [upd_ne (by simp), upd_ne (by simp)]
  · rw [upd_ne (by simpa using hi), upd_ne (by simp)]
end Go.Proofs.Ytbmapjgajecgfaa

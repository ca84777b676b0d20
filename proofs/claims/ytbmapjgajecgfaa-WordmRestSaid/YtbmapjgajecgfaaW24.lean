/-
  What is proved: lemmas for text. Conditions: those of each theorem.
-/
import Derived.Test.YtbmapjgajecgfaaW23
set_option linter.unusedVariables false
set_option linter.unusedSimpArgs false
namespace Go.Proofs.Ytbmapjgajecgfaa
open Go.RowKit
def stText (s : St) (c : UInt8) : Int × St :=
  if c = 0 ∨ c = 96 then (3, s.turn 17)
  else if s.tp.wh = 0 ∧ (cls c.toNat = 1 ∨ cls c.toNat = 2 ∨ cls c.toNat = 5) then (1, {s with tp := s.tp.flush, kd := 16})
  else if (s.tp.wh = 1 ∧ c = 34) ∨ (s.tp.wh = 2 ∧ c = 125) then (0, s.pop)
  else if c = 92 then (0, {s with qu := true, kd := 1})
  else if c = 39 ∧ s.tp.wh ≠ 1 then (0, {s with qu := true, bu := [], kd := 12})
  else if c = 34 then (0, ({s with qu := true} : St).push 1 ⟨#[]⟩ ⟨#[]⟩)
  else if c = 36 then (0, s.turn 2)
  else (0, s.lit [c])
theorem u8_eq {c : UInt8} {k : Nat} (hk : k < 256) (h : c = k.toUInt8) : ((c.toNat : Int) == (k : Int)) = true := by
  subst h
  simp
  omega
/-- The levels of a machine: the first one is the word's own, no other. -/
def Sn.wf (S : Sn) : Prop := (S.lo = [] ∧ S.tp.wh = 0) ∨ (S.lo ≠ [] ∧ (S.tp.wh = 1 ∨ S.tp.wh = 2))
theorem qu_step {B : Nat} {w : World} {b : Nat} {C : Nat → Prop} {S : Sn} (h : Fam B w C (S.dat b)) : Stp B w C (S.dat b) (w.setCell ⟨b, 6, none⟩ (.bool true)) C (({S with qu := true} : Sn).dat b) :=
  fset (S' := {S with qu := true}) h 6 (.bool true) rfl (by funext t; cases t <;> rfl)
theorem Flushed.abs {S : Sn} {v : Value} : ({S with tp := S.tp.flushed v} : Sn).abs = {S.abs with tp := S.abs.tp.flush} := by
  show (⟨_, _, _, _, _, _, _, _, _, _, _⟩ : St) = ⟨_, _, _, _, _, _, _, _, _, _, _⟩
  rw [St.mk.injEq]
  exact ⟨rfl, LvM.flushed_abs _ _, rfl, rfl, rfl, rfl, rfl, rfl, rfl, rfl, rfl⟩
structure TF (B : Nat) (w : World) (b : Nat) (C : Nat → Prop) (S : Sn) (g n : Nat) : Prop where
  top : topA S = some ⟨g, n * 5, none⟩
  c0 : ∀ q, (w.drewN q).cell? ⟨g, n * 5, none⟩ = some (.int .i64 S.tp.wh)
theorem tf_at {B : Nat} {w : World} {b : Nat} {C : Nat → Prop} {S : Sn} (h : Fam B w C (S.dat b)) : ∃ g n, TF B w b C S g n := by
  obtain ⟨g, cap, cur, hl, hB, hg, hn, hm, hcs, htk⟩ := lv_at h
  have o0 : w.ownsRow B 55 5 (.slice (some ⟨g, 0, none⟩) (S.lo.length + 1) cap) (S.lo.length + 1) (S.all.flatMap LvM.cells) := by
    have := h.comp .lv
    simp only [Sn.dat, Comp, hl] at this
    exact this
  refine ⟨g, S.lo.length, by rw [topA, hl], fun q => ?_⟩
  have : w.cell? ⟨g, S.lo.length * 5 + 0, none⟩ = some (.int .i64 S.tp.wh) := by rw [own_cell o0 (by omega), flat_at]; rfl
  exact this
end Go.Proofs.Ytbmapjgajecgfaa

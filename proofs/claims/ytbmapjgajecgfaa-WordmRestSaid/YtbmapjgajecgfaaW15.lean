/-
  What is proved: lemmas: bytes of a machine as a string. Conditions: those of each theorem.
-/
import Derived.Test.YtbmapjgajecgfaaW14
import Derived.Laws.IdiomStrings
import Derived.Lib.BufferRead
set_option linter.unusedVariables false
set_option linter.unusedSimpArgs false
namespace Go.Proofs.Ytbmapjgajecgfaa
open Go.RowKit
theorem conv_own {w : World} {B : Nat} {v : Value} {L : List UInt8} (h : w.ownsRow B 5 1 v L.length (bv L)) : (Go.convert 51 9 v).run Try.prog w = Result.ok (Value.string ⟨L.toArray⟩) w := by
  rcases h.2 with ⟨e1, e2⟩ | ⟨g, cap, cur, e1, _⟩
  · obtain rfl : L = [] := List.eq_nil_of_length_eq_zero e2
    rw [e1]
    exact Lib.run_convert_nil_bytes w 51 9 5 0 Try.underlying51 Try.underlying5 Try.underlying9
  · rw [e1] at h ⊢
    refine run_convert_bytes_back w 51 9 5 ⟨g, 0, none⟩ cap L Try.underlying51 Try.underlying5 Try.underlying9 (fun j hj => ?_)
    have : (⟨g, 0, none⟩ : Addr).add j = ⟨g, j, none⟩ := by unfold Addr.add; split <;> simp_all
    rw [this, own_cell h (by omega)]
    simp [bv, hj]
theorem added_abs (S : Sn) (p : Prt) (v1 v2 : Value) : ({S with tp := {S.tp.flushed v1 with ps := (S.tp.flushed v1).ps ++ [p], pv := v2}} : Sn).abs = S.abs.add p := by
  have e1 : (S.tp.flushed v1).abs = S.tp.abs.flush := LvM.flushed_abs _ _
  unfold St.add
  show (⟨_, _, _, _, _, _, _, _, _, _, _⟩ : St) = ⟨_, _, _, _, _, _, _, _, _, _, _⟩
  rw [St.mk.injEq]
  refine ⟨rfl, ?_, rfl, rfl, rfl, rfl, rfl, rfl, rfl, rfl, rfl⟩
  show _ = ({S.tp.abs.flush with ps := S.tp.abs.flush.ps ++ [p]} : Lvl)
  rw [← e1]
  rfl
end Go.Proofs.Ytbmapjgajecgfaa

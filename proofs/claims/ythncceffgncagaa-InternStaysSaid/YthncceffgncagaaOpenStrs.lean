/-
  What is proved: what an argument that is a slice of strings reads as in memory. Condition: it can be read.
-/
import Derived.Test.YthncceffgncagaaOpen
import Derived.Test.YthncceffgncagaaIntern
import Derived.SliceStrings
set_option linter.unusedVariables false
set_option linter.unusedSimpArgs false
namespace Go.Proofs.Ythncceffgncagaa
open Go.RowKit
open Go.RowKit Go.ChangeShapes Go.WideShapes Go.ChangeAt
theorem ba_empty : (ByteArray.empty : ByteArray) = ⟨#[]⟩ := rfl
theorem open_rd_strs {H : Type} {enc : TypeId × Value → H} {P : Program} {W : World} {base : Nat} {r : Reach} {b0 : Nat} {t e : TypeId} {v : Value} {d : DataW H} {p : List MemPlace} (ht : P.underlying t = some (.slice e)) (he : P.underlying e = some .string) (hc : P.cellsOf e = 1)
    (hv : Value.okWide P W r b0 t v) (h : DataW.Trod enc P W base (fun _ => true) true t v d p) :
    ∃ a cap xs, v = .slice a (xs : List ByteArray).length cap ∧ Rd W a (sv xs) ∧ xs.length ≤ 9223372036854775807 ∧ ∀ j, j < xs.length → (xs.getD j ⟨#[]⟩).size ≤ 9223372036854775807 := by
  obtain ⟨a0, len, cap, rfl⟩ := okWide_slice ht hv
  obtain ⟨fuel, hf⟩ := h
  rcases open_strings ht he hc hf with ⟨hcs, hx⟩ | ⟨a, len', cap', ss, hcs, _, hl, hm, hz, hx, hcell, hwz⟩
  · simp [Value.cells] at hcs
    obtain ⟨rfl, rfl, rfl⟩ := hcs
    exact ⟨none, 0, [], rfl, .inl rfl, by simp, by simp⟩
  · simp [Value.cells] at hcs
    obtain ⟨rfl, rfl, rfl⟩ := hcs
    simp at hz
    unfold maxLen at hm
    have hgt : ∀ i, i < len → i < ss.length → (ss.take len).getD i ⟨#[]⟩ = ss.getD i ⟨#[]⟩ := fun i h1 h2 => by
      simp [List.getD, List.getElem?_take, h1]
    refine ⟨some a, cap, ss.take len, by simp [hz, hl], Rd.of_add fun i hi => ?_, by simp; omega, fun j hj => ?_⟩
    · rw [sv_len] at hi
      have hi' : i < len ∧ i < ss.length := by simp at hi; omega
      rw [hcell i hi'.2, sv_get _ _ hi, hgt i hi'.1 hi'.2, ba_empty]
    · have hi' : j < len ∧ j < ss.length := by simp at hj; omega
      rw [hgt j hi'.1 hi'.2]
      have := hwz (ss.getD j ⟨#[]⟩) (by simp [List.getD, hi'.2])
      unfold maxLen at this
      omega

end Go.Proofs.Ythncceffgncagaa

/-
  What is proved: what an argument that is a slice of ints reads as in memory. Conditions: it can be read.
-/
import Derived.Test.YthncceffgncagaaLift
import Derived.Test.YthncceffgncagaaBits
set_option linter.unusedVariables false
set_option linter.unusedSimpArgs false
namespace Go.Proofs.Ythncceffgncagaa
open Go.RowKit
open Go.RowKit Go.ChangeShapes Go.WideShapes Go.ChangeAt

theorem cells_int : Try.prog.cellsOf 3 = 1 := by kernel_rfl
theorem cells_str : Try.prog.cellsOf 9 = 1 := by kernel_rfl
theorem Rd.of_add {w : World} {a : Addr} {vs : List Value} (h : ∀ i, i < vs.length → w.cell? (a.add i) = vs[i]?) : Rd w (some a) vs := by
  by_cases hv : vs = []
  · exact .inl hv
  · have h0 := h 0 (List.length_pos_iff.2 hv)
    have ha : a.add 0 = a := by simp [Addr.add]
    rw [ha, List.getElem?_eq_getElem (List.length_pos_iff.2 hv)] at h0
    obtain ⟨b, o, s⟩ := a
    have hs : s = none := by
      cases s with
      | none => rfl
      | some x =>
        simp only [World.cell?] at h0
        split at h0 <;> simp at h0
    subst hs
    refine .inr ⟨b, o, rfl, fun j hj => ?_⟩
    rw [← h j hj]
    congr 1
    unfold Addr.add
    split
    · rename_i e; subst e; rfl
    · rfl

theorem open_rd_ints {H : Type} {enc : TypeId × Value → H} {P : Program} {W : World} {base : Nat} {r : Reach} {b0 : Nat} {t e : TypeId} {v : Value} {d : DataW H} {p : List MemPlace} (ht : P.underlying t = some (.slice e)) (he : P.underlying e = some (.int .i64)) (hc : P.cellsOf e = 1)
    (hv : Value.okWide P W r b0 t v) (h : DataW.Trod enc P W base (fun _ => true) true t v d p) : ∃ a cap xs, v = .slice a (xs : List Int).length cap ∧ Rd W a (iv xs) ∧ xs.length ≤ 9223372036854775807 := by
  obtain ⟨a0, len, cap, rfl⟩ := okWide_slice ht hv
  obtain ⟨fuel, hf⟩ := h
  rcases open_ints ht he hc hf with ⟨hcs, hx⟩ | ⟨a, len', cap', zs, hcs, _, hl, hm, hz, hx, hcell, hwz⟩
  · simp [Value.cells] at hcs
    obtain ⟨rfl, rfl, rfl⟩ := hcs
    exact ⟨none, 0, [], rfl, .inl rfl, by simp⟩
  · simp [Value.cells] at hcs
    obtain ⟨rfl, rfl, rfl⟩ := hcs
    simp at hz
    unfold maxLen at hm
    refine ⟨some a, cap, zs.take len, by simp [hz, hl], Rd.of_add fun i hi => ?_, by simp; omega⟩
    rw [iv_len] at hi
    have hi' : i < len ∧ i < zs.length := by simp at hi; omega
    rw [hcell i hi'.2, iv_get _ _ hi]
    simp [List.getD, List.getElem?_take, hi'.1]

end Go.Proofs.Ythncceffgncagaa

/-
  What is proved: what the argument of BitsDoes that is a list of pairs reads as in memory. Conditions: it can be read.
-/
import Derived.Test.YthncceffgncagaaOpen
import Derived.Test.YthncceffgncagaaBitsDoesW
import Derived.Deep.SlicePairs
set_option linter.unusedVariables false
set_option linter.unusedSimpArgs false
namespace Go.Proofs.Ythncceffgncagaa
open Go.RowKit
open Go.RowKit Go.ChangeShapes Go.WideShapes Go.ChangeAt Go.Deep

theorem open_rd_ops {H : Type} {enc : TypeId × Value → H} {W : World} {base : Nat} {r : Reach} {b0 : Nat} {v : Value} {d : DataW H} {p : List MemPlace}
    (hv : Value.okWide Try.prog W r b0 50 v) (h : DataW.Trod enc Try.prog W base (fun _ => true) true 50 v d p) : ∃ a cap xs, v = .slice a (xs : List (Int × Int)).length cap ∧ Rd2 W a xs ∧ xs.length ≤ 9223372036854775807 ∧ ∀ j, j < xs.length → (xs.getD j (0, 0)).2 ≤ 9223372036854775807 := by
  obtain ⟨a0, len, cap, rfl⟩ := okWide_slice Try.underlying50 hv
  obtain ⟨fuel, hf⟩ := h
  rcases open_slice_pairs Try.underlying50 Try.underlying55 (by kernel_rfl) rfl rfl (by kernel_rfl) (by kernel_rfl) hf with ⟨hcs, hx⟩ | ⟨a, len', cap', m, n, V0, V1, D0, D1, P0, P1, hcs, _, hl, hm, hmm, hx, hcell⟩
  · simp [Value.cells] at hcs
    obtain ⟨rfl, rfl, rfl⟩ := hcs
    exact ⟨none, 0, [], rfl, .inl rfl, by simp, by simp⟩
  · simp [Value.cells] at hcs
    obtain ⟨rfl, rfl, rfl⟩ := hcs
    simp at hmm
    unfold maxLen at hm
    have key : ∀ i, i < len → ∃ q : Int × Int, W.cell? (a.add (i * 2)) = some (.int .i64 q.1) ∧ W.cell? (a.add (i * 2 + 1)) = some (.int .i64 q.2) ∧ q.2 ≤ 9223372036854775807 := by
      intro i hi
      obtain ⟨h1, h2, h3, h4⟩ := hcell i (by omega)
      obtain ⟨x, e1, e2, w1⟩ := DataW.trod_int Try.underlying3 h3
      obtain ⟨y, e3, e4, w2⟩ := DataW.trod_int Try.underlying3 h4
      simp at e1 e3
      refine ⟨(x, y), by rw [h1, e1], by rw [h2, e3], ?_⟩
      simp [Lit.wf, IntKind.min, IntKind.max, IntKind.signed, IntKind.bits] at w2
      omega
    classical
    let q : Nat → Int × Int := fun i => if h : i < len then Classical.choose (key i h) else (0, 0)
    have hq : ∀ i, i < len → W.cell? (a.add (i * 2)) = some (.int .i64 (q i).1) ∧ W.cell? (a.add (i * 2 + 1)) = some (.int .i64 (q i).2) ∧ (q i).2 ≤ 9223372036854775807 := by
      intro i hi
      have : q i = Classical.choose (key i hi) := by simp [q, hi]
      rw [this]
      exact Classical.choose_spec (key i hi)
    have hget : ∀ j, j < len → ((List.range len).map q).getD j (0, 0) = q j := by
      intro j hj
      simp [List.getD, hj]
    refine ⟨some a, cap, (List.range len).map q, by simp, ?_, by simp; omega, ?_⟩
    · by_cases h0 : len = 0
      · left; simp [h0]
      · right
        obtain ⟨b, o, s⟩ := a
        have hs : s = none := by
          have := (hq 0 (by omega)).1
          cases s with
          | none => rfl
          | some x =>
            simp [Addr.add, World.cell?] at this
            split at this <;> simp at this
        subst hs
        refine ⟨b, o, rfl, fun j hj => ?_⟩
        have hj' : j < len := by simpa using hj
        rw [hget j hj']
        obtain ⟨h1, h2, _⟩ := hq j hj'
        have ea : (⟨b, o, none⟩ : Addr).add (j * 2) = ⟨b, o + j * 2, none⟩ := by unfold Addr.add; split <;> simp_all
        have eb : (⟨b, o, none⟩ : Addr).add (j * 2 + 1) = ⟨b, o + j * 2 + 1, none⟩ := by unfold Addr.add; simp; omega
        rw [ea] at h1
        rw [eb] at h2
        exact ⟨h1, h2⟩
    · intro j hj
      have hj' : j < len := by simpa using hj
      rw [hget j hj']
      exact (hq j hj').2.2

end Go.Proofs.Ythncceffgncagaa

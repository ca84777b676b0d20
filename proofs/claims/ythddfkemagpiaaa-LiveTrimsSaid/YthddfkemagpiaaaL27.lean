/-
  What is proved: the law package's own grammar comes to what awake asks; what awake answers. No condition.
-/
import Derived.Test.YthddfkemagpiaaaL26
set_option linter.unusedVariables false
set_option linter.unusedSimpArgs false
namespace Go.Proofs.Ythddfkemagpiaaa
open Go.RowKit
def gA : Gm := ⟨[⟨#[65]⟩], [⟨#[115]⟩, ⟨#[116]⟩], [(2, [1]), (3, [3])], 2⟩
theorem plainA : ∀ s, s ∈ ([⟨#[65]⟩, ⟨#[115]⟩, ⟨#[116]⟩] : List ByteArray) → plainB s = true := by
  intro s hs
  simp only [List.mem_cons, List.not_mem_nil, or_false] at hs
  rcases hs with rfl | rfl | rfl <;> decide +kernel
theorem okA : checkP gA = 0 := by
  rw [checkP_wf]
  refine ⟨by decide, by decide, by decide, by decide, ?_, ?_, by decide +kernel, ⟨by decide, fun r hr => ?_⟩, by decide, by decide⟩
  · show ([⟨#[65]⟩] : List ByteArray).all formT = true
    simp only [List.all_cons, List.all_nil, formT, plainA ⟨#[65]⟩ (by simp), Bool.true_or, Bool.and_true]
  · show ([⟨#[115]⟩, ⟨#[116]⟩] : List ByteArray).all plainB = true
    simp only [List.all_cons, List.all_nil, plainA ⟨#[115]⟩ (by simp), plainA ⟨#[116]⟩ (by simp), Bool.and_true]
  · simp only [gA, List.mem_cons, List.not_mem_nil, or_false] at hr
    rcases hr with rfl | rfl <;> decide
theorem prdA {x : Int} : Prd gA x ↔ x = 2 := by
  constructor
  · intro h
    induction h with
    | mk r hr h ih =>
      simp only [gA, List.mem_cons, List.not_mem_nil, or_false] at hr
      rcases hr with rfl | rfl
      · rfl
      · have := ih 3 (by simp) (by decide)
        omega
  · rintro rfl
    exact Prd.mk (2, [1]) (by simp [gA]) (fun x hx hn => by simp at hx; subst hx; exact absurd hn (by decide))
theorem rchA_of {g : Gm} (hst : g.st = 2) (hR : ∀ r, r ∈ g.R → r = (2, [1]) ∨ r = (3, [3])) (h2 : (2, [1]) ∈ g.R) {x : Int} : Rch g x ↔ x = 2 ∨ x = 1 := by
  constructor
  · intro h
    induction h with
    | st => exact .inl hst
    | step r hr _ x hx ih =>
      rcases hR r hr with rfl | rfl
      · simp at hx; exact .inr hx
      · simp at ih
  · rintro (rfl | rfl)
    · have := Rch.st (g := g); rw [hst] at this; exact this
    · exact Rch.step (2, [1]) h2 (by have := Rch.st (g := g); rw [hst] at this; exact this) 1 (by simp)
theorem rchA {x : Int} : Rch gA x ↔ x = 2 ∨ x = 1 := rchA_of rfl (fun r hr => by simpa [gA] using hr) (by simp [gA])
theorem prodFA : prodF gA = fun i => decide (i = 2) := by
  funext i
  rw [Bool.eq_iff_iff, prodF_iff, prdA]
  simp
  omega
theorem rchFA : rchF gA = fun i => decide (i = 2) || decide (i = 1) := by
  funext i
  rw [Bool.eq_iff_iff, rchF_iff, rchA]
  simp
  omega
theorem prodLA : (prodL gA).length = 1 := by
  unfold prodL
  rw [if_pos okA, prodFA]
  decide
theorem rchLA : (rchL gA).length = 2 := by
  unfold rchL
  rw [if_pos okA, rchFA]
  decide
theorem ckA {e s : Int} (h : CkIs gA e s) : e = 11 ∧ s = 3 := by
  refine h.uniq ?_
  right
  refine ⟨okA, .inr ⟨rfl, by decide, by decide, ?_, fun x h1 h2 => ?_⟩⟩
  · unfold deadB; rw [rchFA]; decide
  · unfold deadB; rw [rchFA, prodFA]
    have : x = 1 ∨ x = 2 := by omega
    rcases this with rfl | rfl <;> decide
theorem trimHA : trimH gA = ⟨gA.T, gA.N, [(2, [1])], 2⟩ := by
  unfold trimH fineRs
  rw [prodFA]
  rfl
theorem trimA : ∃ G, trimR gA = (G, true) ∧ G.N.length = 1 ∧ G.R.length = 1 := by
  have h1 : hf (rm gA) (prodF gA) gA.st = true := by rw [prodFA]; decide
  have h2 : rchF (trimH gA) = fun i => decide (i = 2) || decide (i = 1) := by
    funext i
    rw [Bool.eq_iff_iff, rchF_iff, trimHA, rchA_of rfl (fun r hr => by simp at hr; exact .inl hr) (by simp)]
    simp
    omega
  refine ⟨onlyG (trimH gA) (rchF (trimH gA)), by unfold trimR; rw [if_pos okA, if_pos h1], ?_, ?_⟩
  · rw [h2, trimHA]; unfold onlyG nnames; simp only [List.length_map]; decide
  · rw [h2, trimHA]; unfold onlyG newR; simp only [List.length_map]; decide
end Go.Proofs.Ythddfkemagpiaaa

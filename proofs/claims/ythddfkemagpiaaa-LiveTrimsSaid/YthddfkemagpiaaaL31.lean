/-
  What is proved: the plain law of LiveTrims: what is left of a grammar is one that may be, and all of it is of use. No condition beyond those stated.
-/
import Derived.Test.YthddfkemagpiaaaL30
set_option linter.unusedVariables false
set_option linter.unusedSimpArgs false
set_option linter.unusedSectionVars false
namespace Go.Proofs.Ythddfkemagpiaaa
open Go.RowKit
theorem nodup_len : ∀ (m a : Nat) (l : List Nat), l.Nodup → (∀ x, x ∈ l → a ≤ x ∧ x < a + m) → l.length ≤ m
  | 0, a, l, _, h => by
    cases l with
    | nil => simp
    | cons x l => have := h x (by simp); omega
  | m + 1, a, l, hn, h => by
    have h1 := nodup_len m a (l.erase (a + m)) (hn.erase _) (fun x hx => by
      have h2 := (hn.mem_erase_iff).1 hx
      have h3 := h x h2.2
      omega)
    rw [List.length_erase] at h1
    split at h1 <;> omega
theorem map_nodup {α β : Type} {l : List α} {f : α → β} (h : l.Nodup) (hi : ∀ x y, x ∈ l → y ∈ l → f x = f y → x = y) : (l.map f).Nodup := by
  unfold List.Nodup
  rw [List.pairwise_map]
  exact List.Pairwise.imp_of_mem (fun {a b} ha hb hab e => hab (hi a b ha hb e)) h
theorem map_inj_on {α β : Type} {f : α → β} : ∀ {l m : List α}, (∀ x y, x ∈ l → y ∈ m → f x = f y → x = y) → l.map f = m.map f → l = m
  | [], [], _, _ => rfl
  | [], y :: m, _, h => by simp at h
  | x :: l, [], _, h => by simp at h
  | x :: l, y :: m, hi, h => by
    simp only [List.map_cons, List.cons.injEq] at h
    rw [hi x y (by simp) (by simp) h.1, map_inj_on (fun a b ha hb => hi a b (by simp [ha]) (by simp [hb])) h.2]
theorem Prd.trim {g : Gm} (hk : Kn g) {x : Int} (h : Prd g x) : Prd (trimH g) x := by
  induction h with
  | mk r hr h ih =>
    refine Prd.mk r (List.mem_filter.2 ⟨hr, ?_⟩) (fun x hx hn => ih x hx hn)
    unfold fineB
    rw [List.all_eq_true]
    intro x hx
    cases hn : g.non x with
    | false => rfl
    | true => simp; exact (hf_prod hk).2 (h x hx hn)
theorem rch_trim_prd {g : Gm} (hk : Kn g) (hst : Prd g g.st) {x : Int} (h : Rch (trimH g) x) : g.non x = true → Prd g x := by
  cases h with
  | st => exact fun _ => hst
  | step r hr _ _ hx =>
    intro hn
    have h1 := (List.mem_filter.1 hr).2
    unfold fineB at h1
    have h2 := List.all_eq_true.1 h1 x hx
    rw [hn] at h2
    simp at h2
    exact (hf_prod hk).1 h2
/-- The terms that are left, and the others. -/
noncomputable def lA (H : Gm) : List Nat := (List.range (H.T.length + 1)).filter (rchF H)
noncomputable def lB (H : Gm) : List Nat := ((List.range H.N.length).map (fun i => H.T.length + 1 + i)).filter (rchF H)
theorem lst_split (H : Gm) : lst (rm H) (rchF H) = lA H ++ lB H := by
  unfold lst rm lA lB
  rw [show H.T.length + H.N.length + 1 = (H.T.length + 1) + H.N.length by omega, List.range_add, List.filter_append]
theorem lA_in {H : Gm} (hk : Kn H) {x : Nat} (h : x ∈ lA H) : Rch H (x : Int) ∧ 1 ≤ x ∧ x ≤ H.T.length := by
  obtain ⟨h1, h2⟩ := List.mem_filter.1 h
  have h3 := rchF_iff.1 h2
  have h4 := h3.ge hk
  have := List.mem_range.1 h1
  exact ⟨h3, by omega, by omega⟩
theorem lB_in {H : Gm} (hk : Kn H) {x : Nat} (h : x ∈ lB H) : Rch H (x : Int) ∧ H.T.length < x ∧ x ≤ H.T.length + H.N.length := by
  obtain ⟨h1, h2⟩ := List.mem_filter.1 h
  obtain ⟨i, hi, rfl⟩ := List.mem_map.1 h1
  have := List.mem_range.1 hi
  exact ⟨rchF_iff.1 h2, by omega, by omega⟩
theorem lA_filter {H : Gm} (hk : Kn H) : (lst (rm H) (rchF H)).filter (fun (x : Nat) => H.term (x : Int)) = lA H := by
  rw [lst_split, List.filter_append]
  have h1 : (lA H).filter (fun (x : Nat) => H.term (x : Int)) = lA H := List.filter_eq_self.2 (fun a ha => by
    have := lA_in hk ha
    rw [term_nat]; simp; omega)
  have h2 : (lB H).filter (fun (x : Nat) => H.term (x : Int)) = [] := List.filter_eq_nil_iff.2 (fun a ha => by
    have := lB_in hk ha
    rw [term_nat]; simp; omega)
  rw [h1, h2, List.append_nil]
theorem lB_filter {H : Gm} (hk : Kn H) : (lst (rm H) (rchF H)).filter (fun (x : Nat) => !H.term (x : Int)) = lB H := by
  rw [lst_split, List.filter_append]
  have h1 : (lA H).filter (fun (x : Nat) => !H.term (x : Int)) = [] := List.filter_eq_nil_iff.2 (fun a ha => by
    have := lA_in hk ha
    rw [term_nat]; simp; omega)
  have h2 : (lB H).filter (fun (x : Nat) => !H.term (x : Int)) = lB H := List.filter_eq_self.2 (fun a ha => by
    have := lB_in hk ha
    rw [term_nat]; simp; omega)
  rw [h1, h2, List.nil_append]
theorem nameG_c (H : Gm) {x : Nat} (h1 : 1 ≤ x) (h2 : x ≤ H.T.length + H.N.length) : (H.T ++ H.N)[x - 1]? = some (nameG H (x : Int)) := by
  by_cases h : x ≤ H.T.length
  · have h3 := nameG_t (g := H) (i := x - 1) (by omega)
    rw [show x - 1 + 1 = x by omega] at h3
    rw [List.getElem?_append_left (by omega), h3, List.getElem?_eq_getElem]
  · have h3 := nameG_n (g := H) (i := x - 1 - H.T.length) (by omega)
    rw [show H.T.length + (x - 1 - H.T.length) + 1 = x by omega] at h3
    rw [List.getElem?_append_right (by omega), h3, List.getElem?_eq_getElem]
section
variable {H : Gm} (hk : Kn H)
include hk
theorem l_nodup : (lA H ++ lB H).Nodup := by rw [← lst_split]; exact lst_nodup _ _
theorem l_mem {x : Int} (h : Rch H x) : x.toNat ∈ lA H ++ lB H := by
  rw [← lst_split, lst_mem]
  have h1 := h.ge hk
  have h2 := rm_top H
  refine ⟨by omega, rchF_iff.2 ?_⟩
  rw [Int.toNat_of_nonneg (by omega)]
  exact h
theorem l_rch {x : Nat} (h : x ∈ lA H ++ lB H) : Rch H (x : Int) ∧ 1 ≤ x ∧ x ≤ H.T.length + H.N.length := by
  rcases List.mem_append.1 h with h | h
  · have := lA_in hk h; exact ⟨this.1, by omega, by omega⟩
  · have := lB_in hk h; exact ⟨this.1, by omega, by omega⟩
theorem plc_A {x : Nat} (h : x ∈ lA H) : 1 ≤ plcN (lA H ++ lB H) x ∧ plcN (lA H ++ lB H) x ≤ (lA H).length := by
  unfold plcN
  rw [if_pos (List.mem_append_left _ h), List.idxOf_append, if_pos h]
  have := List.idxOf_lt_length_iff.2 h
  omega
theorem plc_B {x : Nat} (h : x ∈ lB H) : ((lA H).length : Int) < plcN (lA H ++ lB H) x ∧ plcN (lA H ++ lB H) x ≤ (lA H).length + (lB H).length := by
  have hn : ¬ x ∈ lA H := fun h' => by
    have h1 := lA_in hk h'
    have h2 := lB_in hk h
    omega
  unfold plcN
  rw [if_pos (List.mem_append_right _ h), List.idxOf_append, if_neg hn]
  have := List.idxOf_lt_length_iff.2 h
  omega
theorem plc_inj {x y : Nat} (hx : x ∈ lA H ++ lB H) (hy : y ∈ lA H ++ lB H) (h : plcN (lA H ++ lB H) x = plcN (lA H ++ lB H) y) : x = y := by
  unfold plcN at h
  rw [if_pos hx, if_pos hy] at h
  have h1 := List.getElem_idxOf (List.idxOf_lt_length_iff.2 hx)
  have h2 := List.getElem_idxOf (List.idxOf_lt_length_iff.2 hy)
  have e : (lA H ++ lB H).idxOf x = (lA H ++ lB H).idxOf y := by omega
  rw [← h1, ← h2]
  congr 1
theorem plc_onto {y : Int} (h1 : 1 ≤ y) (h2 : y ≤ (lA H).length + (lB H).length) : ∃ x, x ∈ lA H ++ lB H ∧ plcN (lA H ++ lB H) x = y := by
  have hl : y.toNat - 1 < (lA H ++ lB H).length := by rw [List.length_append]; omega
  refine ⟨(lA H ++ lB H)[y.toNat - 1], List.getElem_mem hl, ?_⟩
  unfold plcN
  rw [if_pos (List.getElem_mem hl), (l_nodup hk).idxOf_getElem]
  omega
theorem lA_len : (lA H).length ≤ H.T.length := nodup_len _ 1 _ (List.nodup_append.1 (l_nodup hk)).1 (fun x hx => by have := lA_in hk hx; omega)
theorem lB_len : (lB H).length ≤ H.N.length := nodup_len _ (H.T.length + 1) _ (List.nodup_append.1 (l_nodup hk)).2.1 (fun x hx => by have := lB_in hk hx; omega)
end
end Go.Proofs.Ythddfkemagpiaaa

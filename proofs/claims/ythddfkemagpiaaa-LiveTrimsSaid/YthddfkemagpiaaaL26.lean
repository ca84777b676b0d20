/-
  What is proved: the plain law of LiveStays: a grammar, all of which is of use, is trimmed to itself; and what the law package's own small grammar comes to. No condition beyond those stated.
-/
import Derived.Test.YthddfkemagpiaaaL25
set_option linter.unusedVariables false
set_option linter.unusedSimpArgs false
namespace Go.Proofs.Ythddfkemagpiaaa
open Go.RowKit
theorem hf_at {n : Nat} {f : Nat → Bool} {x : Int} (h0 : 0 ≤ x) (h1 : x < n) : hf n f x = f x.toNat := by
  unfold hf inr
  simp [h0, h1]
theorem rchF_iff {g : Gm} {i : Nat} : rchF g i = true ↔ Rch g (i : Int) := by unfold rchF; simp
theorem prodF_iff {g : Gm} {i : Nat} : prodF g i = true ↔ Prd g (i : Int) := by unfold prodF; simp
theorem Rch.ge {g : Gm} (hk : Kn g) {x : Int} (h : Rch g x) : 1 ≤ x ∧ x ≤ g.top := by
  cases h with
  | st => exact non_in hk.st
  | step r hr _ _ hx => exact hk.right hr hx
theorem hf_rch {g : Gm} (hk : Kn g) {x : Int} : hf (rm g) (rchF g) x = true ↔ Rch g x := by
  constructor
  · exact fun h => hf_sound (fun i hi => rchF_iff.1 hi) h
  · intro h
    have h1 := h.ge hk
    have h2 := rm_top g
    rw [hf_at (by omega) (by omega), rchF_iff, Int.toNat_of_nonneg (by omega)]
    exact h
theorem hf_prod {g : Gm} (hk : Kn g) {x : Int} : hf (rm g) (prodF g) x = true ↔ Prd g x := by
  constructor
  · exact fun h => hf_sound (fun i hi => prodF_iff.1 hi) h
  · intro h
    have h1 := non_in (h.non hk)
    have h2 := rm_top g
    rw [hf_at (by omega) (by omega), prodF_iff, Int.toNat_of_nonneg (by omega)]
    exact h
/-- All is of use. -/
def Use (g : Gm) : Prop := ∀ x : Int, 1 ≤ x → x ≤ g.top → Rch g x ∧ (g.non x = true → Prd g x)
theorem use_iff {g : Gm} (hk : Kn g) : Use g ↔ ∀ x : Int, 1 ≤ x → x ≤ g.top → deadB g x = false := by
  unfold Use deadB
  constructor
  · intro h x h1 h2
    obtain ⟨h3, h4⟩ := h x h1 h2
    rw [(hf_rch hk).2 h3]
    cases hn : g.non x with
    | false => simp
    | true => rw [(hf_prod hk).2 (h4 hn)]; simp
  · intro h x h1 h2
    have h3 := h x h1 h2
    simp at h3
    exact ⟨(hf_rch hk).1 h3.1, fun hn => (hf_prod hk).1 (h3.2 hn)⟩
theorem range_succ_filter (n : Nat) (f : Nat → Bool) (h0 : f 0 = false) (h : ∀ i, 1 ≤ i → i ≤ n → f i = true) : lst (n + 1) f = (List.range n).map (· + 1) := by
  unfold lst
  rw [List.range_succ_eq_map, List.filter_cons]
  simp [h0]
  intro a ha
  exact h (a + 1) (by omega) (by omega)
theorem plc_range {n x : Nat} (h1 : 1 ≤ x) (h2 : x ≤ n) : plcN ((List.range n).map (· + 1)) x = (x : Int) := by
  unfold plcN
  have hm : x ∈ (List.range n).map (· + 1) := List.mem_map.2 ⟨x - 1, List.mem_range.2 (by omega), by omega⟩
  rw [if_pos hm]
  have hlt := List.idxOf_lt_length_iff.2 hm
  have hg : ((List.range n).map (· + 1))[((List.range n).map (· + 1)).idxOf x] = x := List.getElem_idxOf hlt
  rw [List.getElem_map, List.getElem_range] at hg
  omega
theorem term_nat (g : Gm) (x : Nat) : g.term (x : Int) = decide (1 ≤ x ∧ x ≤ g.T.length) := by
  unfold Gm.term Gm.nt
  rw [decide_eq_decide]
  omega
theorem non_nat (g : Gm) (x : Nat) : g.non (x : Int) = decide (g.T.length < x ∧ x ≤ g.T.length + g.N.length) := by
  unfold Gm.non Gm.nt Gm.top
  rw [decide_eq_decide]
  omega
theorem nameG_t {g : Gm} {i : Nat} (h : i < g.T.length) : nameG g ((i + 1 : Nat) : Int) = g.T[i] := by
  unfold nameG
  rw [if_neg (by omega), if_pos (by rw [term_nat]; simp; omega)]
  have : (((i + 1 : Nat) : Int) - 1).toNat = i := by omega
  rw [this]
  simp [List.getD, h]
theorem nameG_n {g : Gm} {i : Nat} (h : i < g.N.length) : nameG g ((g.T.length + i + 1 : Nat) : Int) = g.N[i] := by
  unfold nameG
  rw [if_neg (by omega), if_neg (by rw [term_nat]; simp; omega), if_pos (by rw [non_nat]; simp; omega)]
  have : (((g.T.length + i + 1 : Nat) : Int) - 1 - g.nt).toNat = i := by unfold Gm.nt; omega
  rw [this]
  simp [List.getD, h]
theorem tnames_all (g : Gm) : tnames g ((List.range (g.T.length + g.N.length)).map (· + 1)) = g.T := by
  unfold tnames
  rw [List.range_add, List.map_append, List.filter_append]
  have h1 : ((List.range g.T.length).map (· + 1)).filter (fun (x : Nat) => g.term (x : Int)) = (List.range g.T.length).map (· + 1) := by
    rw [List.filter_eq_self]
    intro a ha
    obtain ⟨i, hi, rfl⟩ := List.mem_map.1 ha
    have := List.mem_range.1 hi
    rw [term_nat]
    simp
    omega
  have h2 : (((List.range g.N.length).map (g.T.length + ·)).map (· + 1)).filter (fun (x : Nat) => g.term (x : Int)) = [] := by
    rw [List.filter_eq_nil_iff]
    intro a ha
    simp only [List.mem_map, List.mem_range] at ha
    obtain ⟨_, ⟨i, hi, rfl⟩, rfl⟩ := ha
    rw [term_nat]
    simp
    omega
  rw [h1, h2, List.append_nil, List.map_map]
  apply List.ext_getElem
  · simp
  · intro i h3 h4
    simp
    exact nameG_t h4
theorem nnames_all (g : Gm) : nnames g ((List.range (g.T.length + g.N.length)).map (· + 1)) = g.N := by
  unfold nnames
  rw [List.range_add, List.map_append, List.filter_append]
  have h1 : ((List.range g.T.length).map (· + 1)).filter (fun (x : Nat) => !g.term (x : Int)) = [] := by
    rw [List.filter_eq_nil_iff]
    intro a ha
    obtain ⟨i, hi, rfl⟩ := List.mem_map.1 ha
    have := List.mem_range.1 hi
    rw [term_nat]
    simp
    omega
  have h2 : (((List.range g.N.length).map (g.T.length + ·)).map (· + 1)).filter (fun (x : Nat) => !g.term (x : Int)) = ((List.range g.N.length).map (g.T.length + ·)).map (· + 1) := by
    rw [List.filter_eq_self]
    intro a ha
    simp only [List.mem_map, List.mem_range] at ha
    obtain ⟨_, ⟨i, hi, rfl⟩, rfl⟩ := ha
    rw [term_nat]
    simp
    omega
  rw [h1, h2, List.nil_append, List.map_map, List.map_map]
  apply List.ext_getElem
  · simp
  · intro i h3 h4
    simp
    exact nameG_n h4
theorem map_self {α : Type} {l : List α} {f : α → α} (h : ∀ x, x ∈ l → f x = x) : l.map f = l := by
  induction l with
  | nil => rfl
  | cons a l ih => rw [List.map_cons, h a (by simp), ih (fun x hx => h x (by simp [hx]))]
theorem trim_stays {g : Gm} (hw : checkP g = 0) (hu : Use g) : trimR g = (g, true) := by
  have hk := (checkP_wf.1 hw).kn
  have htop := rm_top g
  have hst : hf (rm g) (prodF g) g.st = true := (hf_prod hk).2 ((hu g.st (non_in hk.st).1 (non_in hk.st).2).2 hk.st)
  have hfine : fineRs g (prodF g) g.R = g.R := by
    unfold fineRs
    rw [List.filter_eq_self]
    intro r hr
    unfold fineB
    rw [List.all_eq_true]
    intro x hx
    cases hn : g.non x with
    | false => rfl
    | true =>
      have h1 := hk.right hr hx
      simp
      exact (hf_prod hk).2 ((hu x h1.1 h1.2).2 hn)
  have hH : trimH g = g := by unfold trimH; rw [hfine]
  unfold trimR
  rw [if_pos hw, if_pos hst, hH]
  have h0 : rchF g 0 = false := by
    cases h : rchF g 0 with
    | false => rfl
    | true => have := (rchF_iff.1 h).ge hk; omega
  have hl : lst (rm g) (rchF g) = (List.range (g.T.length + g.N.length)).map (· + 1) :=
    range_succ_filter _ _ h0 (fun i h1 h2 => rchF_iff.2 (hu i (by omega) (by unfold Gm.top; omega)).1)
  unfold onlyG
  rw [hl, tnames_all, nnames_all]
  have hp : ∀ x : Int, 1 ≤ x → x ≤ g.top → plcN ((List.range (g.T.length + g.N.length)).map (· + 1)) x.toNat = x := fun x h1 h2 => by
    rw [plc_range (by omega) (by unfold Gm.top at h2; omega)]
    omega
  rw [hp g.st (non_in hk.st).1 (non_in hk.st).2]
  have hr : newR (rm g) (rchF g) ((List.range (g.T.length + g.N.length)).map (· + 1)) g.R = g.R := by
    unfold newR
    have h1 : g.R.filter (fun r => hf (rm g) (rchF g) r.1) = g.R := by
      rw [List.filter_eq_self]
      intro r hr
      have := non_in (hk.left hr)
      exact (hf_rch hk).2 (hu r.1 this.1 this.2).1
    rw [h1]
    apply map_self
    intro r hr
    obtain ⟨l, xs⟩ := r
    have := non_in (hk.left hr)
    simp only at this ⊢
    rw [hp l this.1 this.2, map_self (fun x hx => by have := hk.right hr hx; exact hp x this.1 this.2)]
  rw [hr]
end Go.Proofs.Ythddfkemagpiaaa

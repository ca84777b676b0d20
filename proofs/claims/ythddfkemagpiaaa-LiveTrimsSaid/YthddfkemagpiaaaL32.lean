/-
  What is proved: the plain law of LiveTrims, ended: what is left of a grammar may be, and all of it is of use. No condition beyond those stated.
-/
import Derived.Test.YthddfkemagpiaaaL31
set_option linter.unusedVariables false
set_option linter.unusedSimpArgs false
set_option linter.unusedSectionVars false
namespace Go.Proofs.Ythddfkemagpiaaa
open Go.RowKit
/-- What is left, in words. -/
theorem only_eq {H : Gm} (hk : Kn H) : onlyG H (rchF H) = ⟨(lA H).map (fun (x : Nat) => nameG H (x : Int)), (lB H).map (fun (x : Nat) => nameG H (x : Int)), newR (rm H) (rchF H) (lA H ++ lB H) H.R, plcN (lA H ++ lB H) H.st.toNat⟩ := by
  unfold onlyG tnames nnames
  rw [lA_filter hk, lB_filter hk, lst_split]
theorem only_top {H : Gm} (hk : Kn H) : (onlyG H (rchF H)).top = (lA H).length + (lB H).length := by
  rw [only_eq hk]; unfold Gm.top; simp
theorem only_nt {H : Gm} (hk : Kn H) : (onlyG H (rchF H)).nt = (lA H).length := by
  rw [only_eq hk]; unfold Gm.nt; simp
theorem only_non {H : Gm} (hk : Kn H) {x : Nat} (h : x ∈ lA H ++ lB H) : (onlyG H (rchF H)).non (plcN (lA H ++ lB H) x) = H.non (x : Int) := by
  unfold Gm.non
  rw [only_top hk, only_nt hk, decide_eq_decide]
  unfold Gm.nt Gm.top
  rcases List.mem_append.1 h with h1 | h1
  · have h2 := lA_in hk h1
    have h3 := plc_A hk h1
    omega
  · have h2 := lB_in hk h1
    have h3 := plc_B hk h1
    omega
theorem only_sym {H : Gm} (hk : Kn H) {x : Nat} (h : x ∈ lA H ++ lB H) : symB (onlyG H (rchF H)) (plcN (lA H ++ lB H) x) = true := by
  unfold symB Gm.term Gm.non
  rw [only_top hk, only_nt hk]
  simp only [Bool.or_eq_true, decide_eq_true_eq]
  rcases List.mem_append.1 h with h1 | h1
  · have h3 := plc_A hk h1
    omega
  · have h3 := plc_B hk h1
    omega
theorem only_rule {H : Gm} (hk : Kn H) {q : Rl} : q ∈ (onlyG H (rchF H)).R ↔ ∃ r, r ∈ H.R ∧ Rch H r.1 ∧ q = (plcN (lA H ++ lB H) r.1.toNat, r.2.map fun x => plcN (lA H ++ lB H) x.toNat) := by
  rw [only_eq hk]
  unfold newR
  simp only [List.mem_map, List.mem_filter]
  constructor
  · rintro ⟨r, ⟨h1, h2⟩, rfl⟩
    exact ⟨r, h1, (hf_rch hk).1 h2, rfl⟩
  · rintro ⟨r, h1, h2, rfl⟩
    exact ⟨r, ⟨h1, (hf_rch hk).2 h2⟩, rfl⟩
theorem nameG_inj {H : Gm} (hn : (H.T ++ H.N).Nodup) {x y : Nat} (hx : 1 ≤ x ∧ x ≤ H.T.length + H.N.length) (hy : 1 ≤ y ∧ y ≤ H.T.length + H.N.length) (h : nameG H (x : Int) = nameG H (y : Int)) : x = y := by
  have h1 := nameG_c H hx.1 hx.2
  have h2 := nameG_c H hy.1 hy.2
  rw [← h] at h2
  have hl : x - 1 < (H.T ++ H.N).length := by rw [List.length_append]; omega
  have hl2 : y - 1 < (H.T ++ H.N).length := by rw [List.length_append]; omega
  have h3 := (List.getElem?_inj hl hn).1 (h1.trans h2.symm)
  omega
theorem only_rch {H : Gm} (hk : Kn H) {x : Int} (h : Rch H x) : Rch (onlyG H (rchF H)) (plcN (lA H ++ lB H) x.toNat) := by
  induction h with
  | st =>
    have : (onlyG H (rchF H)).st = plcN (lA H ++ lB H) H.st.toNat := by rw [only_eq hk]
    rw [← this]
    exact Rch.st
  | step r hr h x hx ih => exact Rch.step _ ((only_rule hk).2 ⟨r, hr, h, rfl⟩) ih _ (List.mem_map.2 ⟨x, hx, rfl⟩)
theorem only_prd {H : Gm} (hk : Kn H) {x : Int} (h : Prd H x) : Rch H x → Prd (onlyG H (rchF H)) (plcN (lA H ++ lB H) x.toNat) := by
  induction h with
  | mk r hr h ih =>
    intro hc
    refine Prd.mk (plcN (lA H ++ lB H) r.1.toNat, r.2.map fun x => plcN (lA H ++ lB H) x.toNat) ((only_rule hk).2 ⟨r, hr, hc, rfl⟩) (fun y hy hn => ?_)
    obtain ⟨x, hx, rfl⟩ := List.mem_map.1 hy
    have hcx := Rch.step r hr hc x hx
    have h1 := only_non hk (l_mem hk hcx)
    have h2 := hcx.ge hk
    rw [Int.toNat_of_nonneg (by omega)] at h1
    exact ih x hx (h1 ▸ hn) hcx
theorem trims_plain {g : Gm} (hw : WF g) (hst : Prd g g.st) : WF (onlyG (trimH g) (rchF (trimH g))) ∧ Use (onlyG (trimH g) (rchF (trimH g))) := by
  have hk := trimH_kn hw.kn
  have hP : ∀ x : Int, Rch (trimH g) x → g.non x = true → Prd (trimH g) x := fun x h hn => (rch_trim_prd hw.kn hst h hn).trim hw.kn
  obtain ⟨H, hH⟩ : ∃ H, H = trimH g := ⟨_, rfl⟩
  have hT : H.T = g.T := by rw [hH]; rfl
  have hN : H.N = g.N := by rw [hH]; rfl
  have hR : H.R.Sublist g.R := by rw [hH]; exact List.filter_sublist
  have hnon : ∀ x, H.non x = g.non x := fun x => by rw [hH]; rfl
  rw [← hH] at hk hP ⊢
  have h0 := only_eq hk
  have ha := lA_len hk
  have hb := lB_len hk
  have ht := hw.t
  have hn := hw.n
  rw [hT] at ha
  rw [hN] at hb
  have hrl : ∀ r, r ∈ H.R → r ∈ g.R := fun r hr => hR.subset hr
  have hmem : ∀ r, r ∈ H.R → Rch H r.1 → r.1.toNat ∈ lA H ++ lB H ∧ ∀ x, x ∈ r.2 → x.toNat ∈ lA H ++ lB H := fun r hr hc => ⟨l_mem hk hc, fun x hx => l_mem hk (Rch.step r hr hc x hx)⟩
  have hgeR : ∀ x, Rch H x → 1 ≤ x := fun x hx => (hx.ge hk).1
  have hnd : (H.T ++ H.N).Nodup := by rw [hT, hN]; exact hw.nd
  constructor
  · refine ⟨?_, ?_, ?_, ?_, ?_, ?_, ?_, ⟨?_, ?_⟩, ?_, ?_⟩
    · rw [h0]; simp; omega
    · rw [h0]; simp; omega
    · rw [h0]
      unfold newR
      simp only [List.length_map]
      have h1 := List.length_filter_le (fun r : Rl => hf (rm H) (rchF H) r.1) H.R
      have h2 := hR.length_le
      have h3 := hw.r
      omega
    · rw [List.all_eq_true]
      intro q hq
      obtain ⟨r, h1, h2, rfl⟩ := (only_rule hk).1 hq
      have h3 := List.all_eq_true.1 hw.short r (hrl r h1)
      unfold shortB at h3 ⊢
      simpa using h3
    · rw [h0]
      simp only [List.all_map, List.all_eq_true]
      intro x hx
      have h1 := lA_in hk hx
      have h2 := nameG_t (g := H) (i := x - 1) (by omega)
      rw [show x - 1 + 1 = x by omega] at h2
      simp only [Function.comp]
      rw [h2]
      exact List.all_eq_true.1 hw.ft _ (by rw [← hT]; exact List.getElem_mem _)
    · rw [h0]
      simp only [List.all_map, List.all_eq_true]
      intro x hx
      have h1 := lB_in hk hx
      have h2 := nameG_n (g := H) (i := x - 1 - H.T.length) (by omega)
      rw [show H.T.length + (x - 1 - H.T.length) + 1 = x by omega] at h2
      simp only [Function.comp]
      rw [h2]
      exact List.all_eq_true.1 hw.fn _ (by rw [← hN]; exact List.getElem_mem _)
    · rw [h0]
      simp only
      rw [← List.map_append]
      exact map_nodup (l_nodup hk) (fun x y hx hy e => nameG_inj hnd (l_rch hk hx).2 (l_rch hk hy).2 e)
    · have h1 := l_mem hk Rch.st
      have h2 := only_non hk h1
      have h3 : (onlyG H (rchF H)).st = plcN (lA H ++ lB H) H.st.toNat := by rw [h0]
      have h4 := hgeR _ Rch.st
      rw [h3, h2, Int.toNat_of_nonneg (by omega)]
      exact hk.st
    · intro q hq
      obtain ⟨r, h1, h2, rfl⟩ := (only_rule hk).1 hq
      obtain ⟨h3, h4⟩ := hmem r h1 h2
      have h5 := hgeR _ h2
      unfold knownB
      simp only [Bool.and_eq_true, List.all_eq_true]
      refine ⟨?_, fun y hy => ?_⟩
      · rw [only_non hk h3, Int.toNat_of_nonneg (by omega)]
        exact hk.left h1
      · obtain ⟨x, hx, rfl⟩ := List.mem_map.1 hy
        exact only_sym hk (h4 x hx)
    · rw [h0]
      unfold newR
      simp only
      refine map_nodup ((hR.nodup hw.nr).sublist List.filter_sublist) (fun r s hr hs e => ?_)
      obtain ⟨r1, r2⟩ := List.mem_filter.1 hr
      obtain ⟨s1, s2⟩ := List.mem_filter.1 hs
      have r3 := (hf_rch hk).1 r2
      have s3 := (hf_rch hk).1 s2
      obtain ⟨r4, r5⟩ := hmem r r1 r3
      obtain ⟨s4, s5⟩ := hmem s s1 s3
      simp only [Prod.mk.injEq] at e
      have e1 := plc_inj hk r4 s4 e.1
      have h1 := hgeR _ r3
      have h2 := hgeR _ s3
      refine Prod.ext (by omega) (map_inj_on (fun x y hx hy he => ?_) e.2)
      have e2 := plc_inj hk (r5 x hx) (s5 y hy) he
      have h3 := hgeR _ (Rch.step r r1 r3 x hx)
      have h4 := hgeR _ (Rch.step s s1 s3 y hy)
      omega
    · refine noneB_no (fun k hk2 => ?_)
      have hl : (onlyG H (rchF H)).N.length = (lB H).length := by rw [h0]; simp
      rw [hl] at hk2
      rw [only_nt hk]
      obtain ⟨x, hx, he⟩ := plc_onto hk (y := (lA H).length + 1 + (k : Int)) (by omega) (by omega)
      have hc := (l_rch hk hx).1
      have hnx : H.non (x : Int) = true := by
        rw [← only_non hk hx, he]
        unfold Gm.non
        rw [only_nt hk, only_top hk]
        simp
        omega
      have hp := hP _ hc (by rw [← hnon]; exact hnx)
      obtain ⟨r, hr, hr1⟩ : ∃ r, r ∈ H.R ∧ r.1 = (x : Int) := by
        generalize hy : (x : Int) = y at hp
        cases hp with
        | mk r hr _ => exact ⟨r, hr, rfl⟩
      have hq := (only_rule hk).2 ⟨r, hr, hr1 ▸ hc, rfl⟩
      obtain ⟨i, hi, e⟩ := List.mem_iff_getElem.1 hq
      intro hnil
      have : i ∈ ofL (onlyG H (rchF H)).R ((lA H).length + 1 + (k : Int)) := by
        unfold ofL
        rw [lst_mem]
        refine ⟨hi, ?_⟩
        unfold isL
        simp only [List.getD, List.getElem?_eq_getElem hi, Option.getD_some, e, hr1, decide_eq_true_eq]
        rw [Int.toNat_natCast]
        exact he
      rw [hnil] at this
      cases this
  · intro y h1 h2
    rw [only_top hk] at h2
    obtain ⟨x, hx, rfl⟩ := plc_onto hk h1 h2
    obtain ⟨hc, _, _⟩ := l_rch hk hx
    refine ⟨?_, fun hny => ?_⟩
    · have := only_rch hk hc
      rwa [Int.toNat_natCast] at this
    · rw [only_non hk hx, hnon] at hny
      have := only_prd hk (hP _ hc hny) hc
      rwa [Int.toNat_natCast] at this
end Go.Proofs.Ythddfkemagpiaaa

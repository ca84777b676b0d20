/-
  What is proved: what conchlaw09.LiveTrims answers: true. Conditions: those of each theorem.
-/
import Derived.Test.YthddfkemagpiaaaL32
import Derived.Deep.RegionHeld3
set_option linter.unusedVariables false
set_option linter.unusedSimpArgs false
namespace Go.Proofs.Ythddfkemagpiaaa
open Go.RowKit
abbrev zG : Gm := ⟨[], [], [], 0⟩
theorem GA.zero (w : World) : GA w ⟨none, 0, none, 0, none, 0⟩ zG := ⟨.inl rfl, .inl rfl, .inl rfl, Nat.zero_le _, Nat.zero_le _, Nat.zero_le _, Nat.zero_le _⟩
theorem trims_sm {g : Gm} (hs : Sm g) (hw : WF g) (hst : Prd g g.st) : Sm (onlyG (trimH g) (rchF (trimH g))) := by
  have h1 := (trims_plain hw hst).1
  have h0 := only_eq (trimH_kn hw.kn)
  refine ⟨by have := h1.t; have := h1.n; have := h1.r; omega, fun r hr => ?_, fun s hs' => ?_, fun s hs' => ?_⟩
  · have := List.all_eq_true.1 h1.short r hr
    unfold shortB at this
    simp at this
    omega
  · rw [h0] at hs'
    obtain ⟨x, hx, rfl⟩ := List.mem_map.1 hs'
    have h2 := lA_in (trimH_kn hw.kn) hx
    have h3 := nameG_t (g := trimH g) (i := x - 1) (by omega)
    rw [show x - 1 + 1 = x by omega] at h3
    rw [h3]
    exact hs.t _ (List.getElem_mem _)
  · rw [h0] at hs'
    obtain ⟨x, hx, rfl⟩ := List.mem_map.1 hs'
    have h2 := lB_in (trimH_kn hw.kn) hx
    have h3 := nameG_n (g := trimH g) (i := x - 1 - (trimH g).T.length) (by omega)
    rw [show (trimH g).T.length + (x - 1 - (trimH g).T.length) + 1 = x by omega] at h3
    rw [h3]
    exact hs.s _ (List.getElem_mem _)
theorem trim_cases {g : Gm} (hs : Sm g) : trimR g = (zG, false) ∨ ∃ G, trimR g = (G, true) ∧ Sm G ∧ checkP G = 0 ∧ trimR G = (G, true) ∧ (∀ e s, CkIs G e s → e = 0) := by
  by_cases h1 : checkP g = 0
  · by_cases h2 : hf (rm g) (prodF g) g.st = true
    · right
      have hw := checkP_wf.1 h1
      have hst := (hf_prod hw.kn).1 h2
      obtain ⟨h3, h4⟩ := trims_plain hw hst
      have h5 := checkP_wf.2 h3
      refine ⟨_, by unfold trimR; rw [if_pos h1, if_pos h2], trims_sm hs hw hst, h5, trim_stays h5 h4, fun e s he => ?_⟩
      rcases he with ⟨h6, _⟩ | ⟨_, ⟨h6, _⟩ | ⟨_, h6, h7, h8, _⟩⟩
      · exact absurd h5 h6
      · exact h6
      · rw [(use_iff h3.kn).1 h4 s h6 h7] at h8
        cases h8
    · left
      unfold trimR; rw [if_pos h1, if_neg h2]
  · left
    unfold trimR; rw [if_neg h1]
set_option maxRecDepth 100000 in
set_option maxHeartbeats 8000000 in
theorem trims_any (w : World) (p : Gp) (g : Gm) (hA : GA w p g) (hb : Bg g) : Calls Try.prog 4 #[gv p g] w (RetB1 w true) := by
  have HB0 := Lib.hid (GB.new w p g)
  have HA := Lib.hid hA
  have H10 := Lib.hid (fun w1 (hk : Kept nob w w1) => much_any w1 p g (hA.nob hk) hb)
  have H14 := Lib.hid (fun w1 (hk : Kept nob w w1) (hs : Sm g) => Trim_any w1 p g (hA.nob hk) hs)
  clear hA hb
  obtain ⟨ta, tc, na, nc, ra, rc⟩ := p
  unfold gv at H10 H14 ⊢
  simp only at HB0 H10 H14 ⊢
  have HK0 : Hid (Kept nob w (w.alloc (.cells #[.slice ta g.T.length tc, .slice na g.N.length nc, .slice ra g.R.length rc, .int .i64 g.st] 25))) := Lib.hid (Kept.alloc _ _ _)
  obtain ⟨c0, c1, c2, c3⟩ := HB0.out.c
  simp only at c0 c1 c2 c3
  obtain ⟨bx, hbx⟩ : ∃ bx, w.heap.size = bx := ⟨_, rfl⟩
  rw [hbx] at HB0 c0 c1 c2 c3
  obtain ⟨w1, hw1⟩ : ∃ w1, w1 = w.alloc (.cells #[.slice ta g.T.length tc, .slice na g.N.length nc, .slice ra g.R.length rc, .int .i64 g.st] 25) := ⟨_, rfl⟩
  rw [← hw1] at HB0 HK0 c0 c1 c2 c3
  have HW := Lib.hid hw1
  clear hw1
  go_enter Try.func4, Try.ntmps4
  go_wp2_with fail
  rw [← HW.out]
  refine (H10.out _ HK0.out).mono ?_
  rintro e w2 ⟨n, rfl, hn, hk2⟩
  have HN := Lib.hid hn.out
  have HK2 := Lib.hid (HK0.out.trans hk2 (fun _ _ h => h))
  have HB2 := Lib.hid (HB0.out.nob hk2)
  clear hk2 hn c0 c1 c2 c3
  obtain ⟨c0, c1, c2, c3⟩ := HB2.out.c
  simp only at c0 c1 c2 c3
  by_cases h2 : n ≤ 200
  · have hb2 : ¬ ((200 : Int) < (n : Int)) := by omega
    obtain ⟨hs, ht, _⟩ := HN.out h2
    have HS := Lib.hid hs
    clear hs ht h2
    go_wp2_with fail
    refine (H14.out _ HK2.out HS.out).mono ?_
    rintro e w3 ⟨p', he, hga, hk3⟩
    rcases trim_cases HS.out with h | ⟨G, h, hsm, hck, htr, huse⟩
    · rw [h] at he hga
      obtain rfl := he
      obtain ⟨pa, pb, pc, pd, pe, pf⟩ := p'
      unfold gv
      simp only [List.length_nil]
      have hk3' := hk3.trans (Kept.alloc w3 (.cells #[.slice pa 0 pb, .slice pc 0 pd, .slice pe 0 pf, .int .i64 0] 25) nob) (fun _ _ h => h)
      have HG := Lib.hid (hga.out.nob (Kept.alloc w3 (.cells #[.slice pa 0 pb, .slice pc 0 pd, .slice pe 0 pf, .int .i64 0] 25) nob))
      have HBN := Lib.hid (alloc_blk w3 (.cells #[.slice pa 0 pb, .slice pc 0 pd, .slice pe 0 pf, .int .i64 0] 25))
      have HK3 := Lib.hid (HK2.out.trans hk3' (fun _ _ h => h))
      have d0 : (w3.alloc (.cells #[.slice pa 0 pb, .slice pc 0 pd, .slice pe 0 pf, .int .i64 0] 25)).cell? ⟨w3.heap.size, 0, none⟩ = some (.slice pa 0 pb) := by rw [cell_blk HBN.out]; rfl
      have d1 : (w3.alloc (.cells #[.slice pa 0 pb, .slice pc 0 pd, .slice pe 0 pf, .int .i64 0] 25)).cell? ⟨w3.heap.size, 1, none⟩ = some (.slice pc 0 pd) := by rw [cell_blk HBN.out]; rfl
      have d2 : (w3.alloc (.cells #[.slice pa 0 pb, .slice pc 0 pd, .slice pe 0 pf, .int .i64 0] 25)).cell? ⟨w3.heap.size, 2, none⟩ = some (.slice pe 0 pf) := by rw [cell_blk HBN.out]; rfl
      have d3 : (w3.alloc (.cells #[.slice pa 0 pb, .slice pc 0 pd, .slice pe 0 pf, .int .i64 0] 25)).cell? ⟨w3.heap.size, 3, none⟩ = some (.int .i64 0) := by rw [cell_blk HBN.out]; rfl
      have H21 := Lib.hid (fun w1 (hB : GA w1 ⟨pa, pb, pc, pd, pe, pf⟩ zG) => same_any w1 ⟨pa, pb, pc, pd, pe, pf⟩ ⟨none, 0, none, 0, none, 0⟩ zG zG hB (GA.zero w1) (Nat.zero_le _) (Nat.zero_le _))
      unfold gv at H21
      simp only [sameB_refl, List.length_nil] at H21
      clear hk3 hk3' hga h c0 c1 c2 c3
      go_wp2_with fail
      refine (H21.out _ HG.out).mono ?_
      rintro e w4 ⟨rfl, hk4⟩
      have HK4 := Lib.hid (HK3.out.trans hk4 (fun _ _ h => h))
      clear hk4 d0 d1 d2 d3
      go_wp2_with fail
      refine (lawake w4).mono ?_
      rintro e w5 ⟨rfl, hk⟩
      have HK5 := Lib.hid (HK4.out.trans hk (fun _ _ h => h))
      clear hk
      go_wp2
      go_ret
      exact ⟨rfl, HK5.out⟩
    · rw [h] at he hga
      obtain rfl := he
      obtain ⟨pa, pb, pc, pd, pe, pf⟩ := p'
      have HGB := Lib.hid (GB.new w3 ⟨pa, pb, pc, pd, pe, pf⟩ G)
      have HGA := Lib.hid (hga.out.nob (Kept.alloc w3 (.cells #[.slice pa G.T.length pb, .slice pc G.N.length pd, .slice pe G.R.length pf, .int .i64 G.st] 25) nob))
      have hk3' := hk3.trans (Kept.alloc w3 (.cells #[.slice pa G.T.length pb, .slice pc G.N.length pd, .slice pe G.R.length pf, .int .i64 G.st] 25) nob) (fun _ _ h => h)
      have HK3 := Lib.hid (HK2.out.trans hk3' (fun _ _ h => h))
      unfold gv
      simp only
      simp only at HGB
      obtain ⟨d0, d1, d2, d3⟩ := HGB.out.c
      simp only at d0 d1 d2 d3
      have HTR := Lib.hid htr
      have HUS := Lib.hid huse
      have HSM := Lib.hid hsm
      have HR : Hid (G.R.length ≤ 1000) := Lib.hid (by have := hsm.n; omega)
      have Z22 := Lib.hid (fun w1 (hB : GA w1 ⟨pa, pb, pc, pd, pe, pf⟩ G) => check_any w1 ⟨pa, pb, pc, pd, pe, pf⟩ G hB hsm)
      rw [hck] at Z22
      have Z12 := Lib.hid (fun w1 (hB : GA w1 ⟨pa, pb, pc, pd, pe, pf⟩ G) => Check_any w1 ⟨pa, pb, pc, pd, pe, pf⟩ G hB hsm)
      have Z14 := Lib.hid (fun w1 (hB : GA w1 ⟨pa, pb, pc, pd, pe, pf⟩ G) => Trim_any w1 ⟨pa, pb, pc, pd, pe, pf⟩ G hB hsm)
      have Z21 := Lib.hid (fun w1 (q : Gp) (hB : GA w1 ⟨pa, pb, pc, pd, pe, pf⟩ G) (hC : GA w1 q G) => same_any w1 ⟨pa, pb, pc, pd, pe, pf⟩ q G G hB hC HR.out HR.out)
      unfold gv at Z22 Z12 Z14 Z21
      simp only [sameB_refl] at Z22 Z12 Z14 Z21
      clear hk3 hk3' hga h c0 c1 c2 c3 htr huse hsm hck
      go_wp2_with fail
      refine (Z12.out _ HGA.out).mono ?_
      rintro e w4 ⟨c, s, rfl, hck, hk4⟩
      obtain rfl := HUS.out _ _ hck.out
      have HK4 := Lib.hid (HK3.out.trans hk4 (fun _ _ h => h))
      have HGB4 := Lib.hid (HGB.out.nob hk4)
      have HGA4 := Lib.hid (HGA.out.nob hk4)
      clear hk4 hck d0 d1 d2 d3
      obtain ⟨d0, d1, d2, d3⟩ := HGB4.out.c
      simp only at d0 d1 d2 d3
      go_wp2_with fail
      refine (Z14.out _ HGA4.out).mono ?_
      rintro e w5 ⟨q, he, hgq, hk5⟩
      rw [HTR.out] at he hgq
      obtain rfl := he
      obtain ⟨qa, qb, qc, qd, qe, qf⟩ := q
      unfold gv
      simp only
      have HQA := Lib.hid (hgq.out.nob (Kept.alloc w5 (.cells #[.slice qa G.T.length qb, .slice qc G.N.length qd, .slice qe G.R.length qf, .int .i64 G.st] 25) nob))
      have HQB := Lib.hid (GB.new w5 ⟨qa, qb, qc, qd, qe, qf⟩ G)
      simp only at HQB
      have hk5' := hk5.trans (Kept.alloc w5 (.cells #[.slice qa G.T.length qb, .slice qc G.N.length qd, .slice qe G.R.length qf, .int .i64 G.st] 25) nob) (fun _ _ h => h)
      have HK5 := Lib.hid (HK4.out.trans hk5' (fun _ _ h => h))
      have HGB5 := Lib.hid (HGB4.out.nob hk5')
      have HGA5 := Lib.hid (HGA4.out.nob hk5')
      clear hk5 hk5' hgq d0 d1 d2 d3
      obtain ⟨d0, d1, d2, d3⟩ := HGB5.out.c
      simp only at d0 d1 d2 d3
      obtain ⟨e0, e1, e2, e3⟩ := HQB.out.c
      simp only at e0 e1 e2 e3
      go_wp2_with fail
      refine (Z22.out _ HGA5.out).mono ?_
      rintro e w6 ⟨rfl, hk6⟩
      have HK6 := Lib.hid (HK5.out.trans hk6 (fun _ _ h => h))
      have HGA6 := Lib.hid (HGA5.out.nob hk6)
      have HQA6 := Lib.hid (HQA.out.nob hk6)
      have HGB6 := Lib.hid (HGB5.out.nob hk6)
      have HQB6 := Lib.hid (HQB.out.nob hk6)
      clear hk6 d0 d1 d2 d3 e0 e1 e2 e3
      obtain ⟨d0, d1, d2, d3⟩ := HGB6.out.c
      simp only at d0 d1 d2 d3
      obtain ⟨e0, e1, e2, e3⟩ := HQB6.out.c
      simp only at e0 e1 e2 e3
      go_wp2_with fail
      refine (Z21.out _ _ HGA6.out HQA6.out).mono ?_
      rintro e w7 ⟨rfl, hk7⟩
      have HK7 := Lib.hid (HK6.out.trans hk7 (fun _ _ h => h))
      clear hk7 d0 d1 d2 d3 e0 e1 e2 e3
      go_wp2_with fail
      refine (lawake w7).mono ?_
      rintro e w8 ⟨rfl, hk⟩
      have HK8 := Lib.hid (HK7.out.trans hk (fun _ _ h => h))
      clear hk
      go_wp2
      go_ret
      exact ⟨rfl, HK8.out⟩
  · have hb2 : ((200 : Int) < (n : Int)) := by omega
    clear h2
    go_wp2_with fail
    refine (lawake w2).mono ?_
    rintro e w3 ⟨rfl, hk⟩
    have HK3 := Lib.hid (HK2.out.trans hk (fun _ _ h => h))
    clear hk
    go_wp2
    go_ret
    exact ⟨rfl, HK3.out⟩
end Go.Proofs.Ythddfkemagpiaaa

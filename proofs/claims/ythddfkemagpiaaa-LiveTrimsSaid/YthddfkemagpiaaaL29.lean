/-
  What is proved: what conchlaw09.LiveStays answers: true. Conditions: those of each theorem.
-/
import Derived.Test.YthddfkemagpiaaaL28
set_option linter.unusedVariables false
set_option linter.unusedSimpArgs false
namespace Go.Proofs.Ythddfkemagpiaaa
open Go.RowKit
theorem ck_use {g : Gm} {e s : Int} (h : CkIs g e s) (he : e = 0) : checkP g = 0 ∧ Use g := by
  subst he
  rcases h with ⟨h0, h1, _⟩ | ⟨h0, ⟨_, _, h⟩ | ⟨h1, _⟩⟩
  · exact absurd h1.symm h0
  · exact ⟨h0, (use_iff (checkP_wf.1 h0).kn).2 h⟩
  · exact absurd h1 (by decide)
set_option maxRecDepth 100000 in
set_option maxHeartbeats 8000000 in
theorem stays_any (w : World) (p : Gp) (g : Gm) (hA : GA w p g) (hb : Bg g) : Calls Try.prog 5 #[gv p g] w (RetB1 w true) := by
  have HB0 := Lib.hid (GB.new w p g)
  have HA := Lib.hid hA
  have H10 := Lib.hid (fun w1 (hk : Kept nob w w1) => much_any w1 p g (hA.nob hk) hb)
  have H12 := Lib.hid (fun w1 (hk : Kept nob w w1) (hs : Sm g) => Check_any w1 p g (hA.nob hk) hs)
  have H14 := Lib.hid (fun w1 (hk : Kept nob w w1) (hs : Sm g) => Trim_any w1 p g (hA.nob hk) hs)
  have H21 := Lib.hid (fun w1 (hk : Kept nob w w1) (q : Gp) (h : Gm) (hB : GA w1 q h) (hl : g.R.length ≤ 1000) (hl' : h.R.length ≤ 1000) => same_any w1 p q g h (hA.nob hk) hB hl hl')
  clear hA hb
  obtain ⟨ta, tc, na, nc, ra, rc⟩ := p
  unfold gv at H10 H12 H14 H21 ⊢
  simp only at HB0 H10 H12 H14 H21 ⊢
  have HK0 : Hid (Kept nob w (w.alloc (.cells #[.slice ta g.T.length tc, .slice na g.N.length nc, .slice ra g.R.length rc, .int .i64 g.st] 25))) := Lib.hid (Kept.alloc _ _ _)
  obtain ⟨c0, c1, c2, c3⟩ := HB0.out.c
  simp only at c0 c1 c2 c3
  obtain ⟨bx, hbx⟩ : ∃ bx, w.heap.size = bx := ⟨_, rfl⟩
  rw [hbx] at HB0 c0 c1 c2 c3
  obtain ⟨w1, hw1⟩ : ∃ w1, w1 = w.alloc (.cells #[.slice ta g.T.length tc, .slice na g.N.length nc, .slice ra g.R.length rc, .int .i64 g.st] 25) := ⟨_, rfl⟩
  rw [← hw1] at HB0 HK0 c0 c1 c2 c3
  have HW := Lib.hid hw1
  clear hw1
  go_enter Try.func5, Try.ntmps5
  go_wp2_with fail
  rw [← HW.out]
  refine (H10.out _ HK0.out).mono ?_
  rintro e w2 ⟨n, rfl, hn, hk2⟩
  have HN := Lib.hid hn.out
  have HK2 := Lib.hid (HK0.out.trans hk2 (fun _ _ h => h))
  have HB2 := Lib.hid (HB0.out.nob hk2)
  clear hk2 hn c0 c1 c2 c3
  obtain ⟨c0, c1, c2, c3⟩ := HB2.out.c
  simp only at c0 c1 c2 c3
  by_cases h2 : n ≤ 200
  · have hb2 : ¬ ((200 : Int) < (n : Int)) := by omega
    obtain ⟨hs, ht, _⟩ := HN.out h2
    have HS := Lib.hid hs
    have hR : g.R.length ≤ 1000 := by omega
    clear hs ht h2
    go_wp2_with fail
    refine (H12.out _ HK2.out HS.out).mono ?_
    rintro e w3 ⟨c, s, rfl, hck, hk3⟩
    have HCK := Lib.hid hck.out
    have HK3 := Lib.hid (HK2.out.trans hk3 (fun _ _ h => h))
    have HB3 := Lib.hid (HB2.out.nob hk3)
    clear hk3 hck c0 c1 c2 c3
    obtain ⟨c0, c1, c2, c3⟩ := HB3.out.c
    simp only at c0 c1 c2 c3
    by_cases hc : c = 0
    · subst hc
      obtain ⟨hw, hu⟩ := ck_use HCK.out rfl
      have HT := Lib.hid (trim_stays hw hu)
      clear hw hu
      go_wp2_with fail
      refine (H14.out _ HK3.out HS.out).mono ?_
      rintro e w4 ⟨p', he, hga, hk4⟩
      rw [HT.out] at he hga
      obtain rfl := he
      obtain ⟨pa, pb, pc, pd, pe, pf⟩ := p'
      unfold gv
      simp only
      have HG := Lib.hid (hga.out.nob (Kept.alloc w4 (.cells #[.slice pa g.T.length pb, .slice pc g.N.length pd, .slice pe g.R.length pf, .int .i64 g.st] 25) nob))
      have hk4' := hk4.trans (Kept.alloc w4 (.cells #[.slice pa g.T.length pb, .slice pc g.N.length pd, .slice pe g.R.length pf, .int .i64 g.st] 25) nob) (fun _ _ h => h)
      have HBN := Lib.hid (alloc_blk w4 (.cells #[.slice pa g.T.length pb, .slice pc g.N.length pd, .slice pe g.R.length pf, .int .i64 g.st] 25))
      have HB4 := Lib.hid (HB3.out.nob hk4')
      have HK4 := Lib.hid (HK3.out.trans hk4' (fun _ _ h => h))
      clear hk4 hk4' hga c0 c1 c2 c3
      obtain ⟨c0, c1, c2, c3⟩ := HB4.out.c
      have d0 : (w4.alloc (.cells #[.slice pa g.T.length pb, .slice pc g.N.length pd, .slice pe g.R.length pf, .int .i64 g.st] 25)).cell? ⟨w4.heap.size, 0, none⟩ = some (.slice pa g.T.length pb) := by rw [cell_blk HBN.out]; rfl
      have d1 : (w4.alloc (.cells #[.slice pa g.T.length pb, .slice pc g.N.length pd, .slice pe g.R.length pf, .int .i64 g.st] 25)).cell? ⟨w4.heap.size, 1, none⟩ = some (.slice pc g.N.length pd) := by rw [cell_blk HBN.out]; rfl
      have d2 : (w4.alloc (.cells #[.slice pa g.T.length pb, .slice pc g.N.length pd, .slice pe g.R.length pf, .int .i64 g.st] 25)).cell? ⟨w4.heap.size, 2, none⟩ = some (.slice pe g.R.length pf) := by rw [cell_blk HBN.out]; rfl
      have d3 : (w4.alloc (.cells #[.slice pa g.T.length pb, .slice pc g.N.length pd, .slice pe g.R.length pf, .int .i64 g.st] 25)).cell? ⟨w4.heap.size, 3, none⟩ = some (.int .i64 g.st) := by rw [cell_blk HBN.out]; rfl
      simp only at c0 c1 c2 c3
      have HBX := Lib.hid (sameB_refl g)
      have H21' : Hid (∀ w1, Kept nob w w1 → GA w1 ⟨pa, pb, pc, pd, pe, pf⟩ g → _) := Lib.hid (fun w1 hk hB => H21.out w1 hk ⟨pa, pb, pc, pd, pe, pf⟩ g hB hR hR)
      simp only [HBX.out] at H21'
      go_wp2_with fail
      refine (H21'.out _ HK4.out HG.out).mono ?_
      rintro e w5 ⟨rfl, hk5⟩
      have HK5 := Lib.hid (HK4.out.trans hk5 (fun _ _ h => h))
      clear hk5 c0 c1 c2 c3 d0 d1 d2 d3
      go_wp2_with fail
      refine (lawake w5).mono ?_
      rintro e w6 ⟨rfl, hk⟩
      have HK6 := Lib.hid (HK5.out.trans hk (fun _ _ h => h))
      clear hk
      go_wp2
      go_ret
      exact ⟨rfl, HK6.out⟩
    · have hcb : (c != 0) = true := by simp [hc]
      go_wp2_with fail
      refine (lawake w3).mono ?_
      rintro e w4 ⟨rfl, hk⟩
      have HK4 := Lib.hid (HK3.out.trans hk (fun _ _ h => h))
      clear hk
      go_wp2
      go_ret
      exact ⟨rfl, HK4.out⟩
  · have hb2 : ((200 : Int) < (n : Int)) := by omega
    clear h2
    go_wp2_with fail
    refine (lawake w2).mono ?_
    rintro e w3 ⟨rfl, hk⟩
    have HK3 := Lib.hid (HK2.out.trans hk (fun _ _ h => h))
    clear hk
    go_wp2
    go_ret
    exact ⟨rfl, HK3.out⟩
end Go.Proofs.Ythddfkemagpiaaa

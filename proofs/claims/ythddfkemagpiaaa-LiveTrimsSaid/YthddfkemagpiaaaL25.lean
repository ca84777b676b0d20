/-
  What is proved: what conchref06.Same answers. Conditions: those of each theorem.
-/
import Derived.Test.YthddfkemagpiaaaL24
import Derived.Deep.RegionHeld3
set_option linter.unusedVariables false
set_option linter.unusedSimpArgs false
namespace Go.Proofs.Ythddfkemagpiaaa
open Go.RowKit
def sameB (g h : Gm) : Bool := eqs g.T h.T && eqs g.N h.N && decide (g.st = h.st) && decide (g.R = h.R)
theorem sameB_refl (g : Gm) : sameB g g = true := by unfold sameB eqs; simp
theorem rules_ne {g h : List Rl} {k : Nat} {r q : Rl} (hr : g[k]? = some r) (hq : h[k]? = some q) (hn : ruleB r q = false) : decide (g = h) = false := by
  rw [decide_eq_false_iff_not]
  intro e
  subst e
  rw [hr] at hq
  cases hq
  unfold ruleB at hn
  simp at hn
theorem rules_eq {g h : List Rl} (hl : g.length = h.length) (hall : ∀ (j : Nat) (r q : Rl), j < g.length → g[j]? = some r → h[j]? = some q → ruleB r q = true) : decide (g = h) = true := by
  rw [decide_eq_true_eq]
  apply List.ext_getElem hl
  intro i h1 h2
  have := hall i g[i] h[i] h1 (List.getElem?_eq_getElem h1) (List.getElem?_eq_getElem h2)
  exact of_decide_eq_true this
set_option maxRecDepth 100000 in
set_option maxHeartbeats 8000000 in
theorem same_any (w : World) (p q : Gp) (g h : Gm) (hA : GA w p g) (hB : GA w q h) (hlg : g.R.length ≤ 1000) (hlh : h.R.length ≤ 1000) :
    Calls Try.prog 21 #[gv p g, gv q h] w (RetB1 w (sameB g h)) := by
  have b1 := hA.lt; have b2 := hA.ln; have b4 := hB.lt; have b5 := hB.ln
  unfold big at b1 b2 b4 b5
  have HBg := Lib.hid ((GB.new w p g).nob (Kept.alloc _ (.cells #[.slice q.ta h.T.length q.tc, .slice q.na h.N.length q.nc, .slice q.ra h.R.length q.rc, .int .i64 h.st] 25) nob))
  have HBh := Lib.hid (GB.new (w.alloc (.cells #[.slice p.ta g.T.length p.tc, .slice p.na g.N.length p.nc, .slice p.ra g.R.length p.rc, .int .i64 g.st] 25)) q h)
  have HST : Hid (∀ w1, Kept nob w w1 → Calls Try.prog 55 #[.slice p.ta g.T.length p.tc, .slice q.ta h.T.length q.tc] w1 (RetB1 w1 (eqs g.T h.T))) := Lib.hid (fun w1 hk => strsame_any _ _ _ _ g.T h.T w1 (hA.t.nob hk) (hB.t.nob hk) (by omega) (by omega))
  have HSN : Hid (∀ w1, Kept nob w w1 → Calls Try.prog 55 #[.slice p.na g.N.length p.nc, .slice q.na h.N.length q.nc] w1 (RetB1 w1 (eqs g.N h.N))) := Lib.hid (fun w1 hk => strsame_any _ _ _ _ g.N h.N w1 (hA.n.nob hk) (hB.n.nob hk) (by omega) (by omega))
  have HR := Lib.hid hA.r
  have HQ := Lib.hid hB.r
  clear hA hB b1 b2 b4 b5
  obtain ⟨ta, tc, na, nc, ra, rc⟩ := p
  obtain ⟨ta', tc', na', nc', ra', rc'⟩ := q
  unfold gv
  simp only at HBg HBh HST HSN HR HQ ⊢
  have HSB : Hid (sameB g h = (eqs g.T h.T && eqs g.N h.N && decide (g.st = h.st) && decide (g.R = h.R))) := Lib.hid rfl
  obtain ⟨sb, hsb⟩ : ∃ sb, sameB g h = sb := ⟨_, rfl⟩
  rw [hsb] at HSB ⊢
  clear hsb
  obtain ⟨x1, hx1⟩ : ∃ x, eqs g.T h.T = x := ⟨_, rfl⟩
  obtain ⟨x2, hx2⟩ : ∃ x, eqs g.N h.N = x := ⟨_, rfl⟩
  rw [hx1] at HST HSB
  rw [hx2] at HSN HSB
  clear hx1 hx2
  have HK0 : Hid (Kept nob w ((w.alloc (.cells #[.slice ta g.T.length tc, .slice na g.N.length nc, .slice ra g.R.length rc, .int .i64 g.st] 25)).alloc (.cells #[.slice ta' h.T.length tc', .slice na' h.N.length nc', .slice ra' h.R.length rc', .int .i64 h.st] 25))) := Lib.hid ((Kept.alloc _ _ _).trans (Kept.alloc _ _ _) (fun _ _ h => h))
  have hsz : (w.alloc (.cells #[.slice ta g.T.length tc, .slice na g.N.length nc, .slice ra g.R.length rc, .int .i64 g.st] 25)).heap.size = w.heap.size + 1 := by simp
  rw [hsz] at HBh
  clear hsz
  obtain ⟨w1, hw1⟩ : ∃ w1, w1 = ((w.alloc (.cells #[.slice ta g.T.length tc, .slice na g.N.length nc, .slice ra g.R.length rc, .int .i64 g.st] 25)).alloc (.cells #[.slice ta' h.T.length tc', .slice na' h.N.length nc', .slice ra' h.R.length rc', .int .i64 h.st] 25)) := ⟨_, rfl⟩
  rw [← hw1] at HBg HBh HK0
  have HW := Lib.hid hw1
  clear hw1
  obtain ⟨bx, hbx⟩ : ∃ bx, w.heap.size = bx := ⟨_, rfl⟩
  rw [hbx] at HBg HBh
  have HBX := Lib.hid hbx
  clear hbx
  cases x1
  · have HE : Hid (sb = false) := Lib.hid (by rw [HSB.out]; simp)
    go_enter Try.func21, Try.ntmps21
    go_wp2_with fail
    rw [← HW.out]
    refine (HST.out _ HK0.out).mono ?_
    rintro e w2 ⟨rfl, hk⟩
    go_wp2
    go_ret
    exact ⟨ret_bool HE.out.symm, HK0.out.trans hk (fun _ _ h => h)⟩
  · go_enter Try.func21, Try.ntmps21
    go_wp2_with fail
    rw [← HW.out, HBX.out]
    refine (HST.out _ HK0.out).mono ?_
    rintro e w2 ⟨rfl, hk⟩
    have HK2 := Lib.hid (HK0.out.trans hk (fun _ _ h => h))
    have HG2 := Lib.hid (HBg.out.nob hk)
    have HH2 := Lib.hid (HBh.out.nob hk)
    clear hk
    obtain ⟨c0, c1, c2, c3⟩ := HG2.out.c
    obtain ⟨d0, d1, d2, d3⟩ := HH2.out.c
    simp only at c0 c1 c2 c3 d0 d1 d2 d3
    cases x2
    · have HE : Hid (sb = false) := Lib.hid (by rw [HSB.out]; simp)
      go_wp2_with fail
      refine (HSN.out _ HK2.out).mono ?_
      rintro e w3 ⟨rfl, hk⟩
      go_wp2
      go_ret
      exact ⟨ret_bool HE.out.symm, HK2.out.trans hk (fun _ _ h => h)⟩
    · go_wp2_with fail
      refine (HSN.out _ HK2.out).mono ?_
      rintro e w3 ⟨rfl, hk⟩
      have HK3 := Lib.hid (HK2.out.trans hk (fun _ _ h => h))
      have HG3 := Lib.hid (HG2.out.nob hk)
      have HH3 := Lib.hid (HH2.out.nob hk)
      clear hk c0 c1 c2 c3 d0 d1 d2 d3
      obtain ⟨c0, c1, c2, c3⟩ := HG3.out.c
      obtain ⟨d0, d1, d2, d3⟩ := HH3.out.c
      simp only at c0 c1 c2 c3 d0 d1 d2 d3
      by_cases hst : g.st = h.st
      · by_cases hrl : g.R.length = h.R.length
        · have hb1 : (g.st != h.st) = false := by simpa using hst
          have hb2 : ((g.R.length : Int) != (h.R.length : Int)) = false := by simp [hrl]
          have HRL := Lib.hid hrl
          have HSS : Hid (sb = decide (g.R = h.R)) := Lib.hid (by rw [HSB.out]; simp [hst])
          have HNX : Hid (∀ w4, Kept nob w3 w4 → Kept nob w w4) := Lib.hid (fun w4 hk => HK3.out.trans hk (fun _ _ h => h))
          clear hst hrl
          go_wp2
          clear c0 c1 c2 c3 d0 d1 d2 d3 hb1 hb2
          go_loopw [5] (fun i wr => ∃ k : Nat, i = .int .i64 (k : Int) ∧ k ≤ g.R.length ∧ Hid (∀ (j : Nat) (r q : Rl), j < k → g.R[j]? = some r → h.R[j]? = some q → ruleB r q = true) ∧ Hid (Kept nob w3 wr)) (fun i _ => g.R.length - (intOf i).toNat)
          case atStart => exact ⟨0, rfl, by omega, Lib.hid (fun j r q hj => by omega), Lib.hid (Kept.refl _ _)⟩
          case round =>
            obtain ⟨k, rfl, hkl, hno, HK⟩ := hrel
            have c2 := (HG3.out.nob HK.out).c.2.2.1
            have d2 := (HH3.out.nob HK.out).c.2.2.1
            simp only at c2 d2
            by_cases hlt : k < g.R.length
            · have hlt2 : k < h.R.length := by have := HRL.out; omega
              obtain ⟨b1, o1, r1, ra1, rc1, hra1, hr1, _, RA1⟩ := rule_at (HR.out.nob (HNX.out _ HK.out)) hlt
              obtain ⟨b2, o2, r2, ra2, rc2, hra2, hr2, _, RA2⟩ := rule_at (HQ.out.nob (HNX.out _ HK.out)) hlt2
              subst hra1 hra2
              have HS := Lib.hid (fun wx (hk : Kept nob wr wx) => rsamerule_any wx r1.1 r2.1 ra1 ra2 rc1 rc2 r1.2 r2.2 (RA1.rd.nob hk) (RA2.rd.nob hk) RA1.len RA2.len)
              have e0 := RA1.c0
              have e1 := RA1.c1
              have f0 := RA2.c0
              have f1 := RA2.c1
              obtain ⟨l1, xs⟩ := r1
              obtain ⟨l2, ys⟩ := r2
              simp only at HS e0 e1 f0 f1
              have HR1 := Lib.hid hr1
              have HR2 := Lib.hid hr2
              clear RA1 RA2 hr1 hr2
              obtain ⟨c, hc⟩ : ∃ c, ruleB (l1, xs) (l2, ys) = c := ⟨_, rfl⟩
              rw [hc] at HS
              have HC := Lib.hid hc
              clear hc
              go_wp2
              have HKC : Hid (∀ wa wb, (wa.cell? ⟨bx, 2, none⟩ = some (.slice (some ⟨b1, o1, none⟩) g.R.length rc) ∧ wa.cell? ⟨bx + 1, 2, none⟩ = some (.slice (some ⟨b2, o2, none⟩) h.R.length rc') ∧ wa.cell? ⟨b1, o1 + k * 2, none⟩ = some (.int .i64 l1) ∧ wa.cell? ⟨b1, o1 + k * 2 + 1, none⟩ = some (.slice ra1 xs.length rc1) ∧ wa.cell? ⟨b2, o2 + k * 2, none⟩ = some (.int .i64 l2) ∧ wa.cell? ⟨b2, o2 + k * 2 + 1, none⟩ = some (.slice ra2 ys.length rc2) ∧ Kept nob wr wa) → Kept nob wa wb →
                (wb.cell? ⟨bx, 2, none⟩ = some (.slice (some ⟨b1, o1, none⟩) g.R.length rc) ∧ wb.cell? ⟨bx + 1, 2, none⟩ = some (.slice (some ⟨b2, o2, none⟩) h.R.length rc') ∧ wb.cell? ⟨b1, o1 + k * 2, none⟩ = some (.int .i64 l1) ∧ wb.cell? ⟨b1, o1 + k * 2 + 1, none⟩ = some (.slice ra1 xs.length rc1) ∧ wb.cell? ⟨b2, o2 + k * 2, none⟩ = some (.int .i64 l2) ∧ wb.cell? ⟨b2, o2 + k * 2 + 1, none⟩ = some (.slice ra2 ys.length rc2) ∧ Kept nob wr wb)) :=
                Lib.hid (fun wa wb h k => ⟨kcell k h.1, kcell k h.2.1, kcell k h.2.2.1, kcell k h.2.2.2.1, kcell k h.2.2.2.2.1, kcell k h.2.2.2.2.2.1, h.2.2.2.2.2.2.trans k (fun _ _ h => h)⟩)
              go_region_held3 (fun wa => wa.cell? ⟨bx, 2, none⟩ = some (.slice (some ⟨b1, o1, none⟩) g.R.length rc) ∧ wa.cell? ⟨bx + 1, 2, none⟩ = some (.slice (some ⟨b2, o2, none⟩) h.R.length rc') ∧ wa.cell? ⟨b1, o1 + k * 2, none⟩ = some (.int .i64 l1) ∧ wa.cell? ⟨b1, o1 + k * 2 + 1, none⟩ = some (.slice ra1 xs.length rc1) ∧ wa.cell? ⟨b2, o2 + k * 2, none⟩ = some (.int .i64 l2) ∧ wa.cell? ⟨b2, o2 + k * 2 + 1, none⟩ = some (.slice ra2 ys.length rc2) ∧ Kept nob wr wa) (first | exact ⟨c2, d2, e0, e1, f0, f1, Kept.drew _ _⟩ | assumption) (first | (go_at_call 56; refine (HS.out _ (by have h := ‹_ ∧ _›; exact h.2.2.2.2.2.2)).mono ?_; rintro e w5 ⟨rfl, k5⟩; have s5 := HKC.out _ _ (by assumption) k5))
              have HK5 := Lib.hid (HK.out.trans s5.2.2.2.2.2.2 (fun _ _ h => h))
              clear s5 k5 HKC
              cases c
              · have HE : Hid (sb = false) := Lib.hid (by rw [HSS.out]; exact rules_ne HR1.out HR2.out HC.out)
                go_wp2
                go_ret
                exact ⟨ret_bool HE.out.symm, HNX.out _ HK5.out⟩
              · go_wp2
                go_roundw
                case rel =>
                  refine ⟨k + 1, by go_num, by omega, Lib.hid (fun j r q hj hr hq => ?_), HK5⟩
                  by_cases e : j = k
                  · subst e
                    rw [HR1.out] at hr
                    rw [HR2.out] at hq
                    cases hr
                    cases hq
                    exact HC.out
                  · exact hno.out j r q (by omega) hr hq
                case measure => simp [intOf]; omega
            · have HE : Hid (sb = true) := Lib.hid (by rw [HSS.out]; exact rules_eq HRL.out (fun j r q hj => hno.out j r q (by omega)))
              go_wp2
              go_ret
              exact ⟨ret_bool HE.out.symm, HNX.out _ HK.out⟩
        · have hb1 : (g.st != h.st) = false := by simpa using hst
          have hb2 : ((g.R.length : Int) != (h.R.length : Int)) = true := by simp; omega
          have HE : Hid (sb = false) := Lib.hid (by rw [HSB.out]; simp; exact fun _ e => hrl (by rw [e]))
          clear hst
          go_wp2
          go_ret
          exact ⟨ret_bool HE.out.symm, HK3.out⟩
      · have hb1 : (g.st != h.st) = true := by simpa using hst
        have HE : Hid (sb = false) := Lib.hid (by rw [HSB.out]; simp [hst])
        clear hst
        go_wp2
        go_ret
        exact ⟨ret_bool HE.out.symm, HK3.out⟩
end Go.Proofs.Ythddfkemagpiaaa

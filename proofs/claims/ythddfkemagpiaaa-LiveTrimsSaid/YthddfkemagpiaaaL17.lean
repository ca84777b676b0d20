/-
  What is proved: what live.Productive, live.Reached and live.Check answer. Conditions: those of each theorem.
-/
import Derived.Test.YthddfkemagpiaaaL16
import Derived.Deep.RegionHeld3
set_option linter.unusedVariables false
set_option linter.unusedSimpArgs false
namespace Go.Proofs.Ythddfkemagpiaaa
open Go.RowKit
/-- A grammar that may be. -/
structure WF (g : Gm) : Prop where
  t : g.T.length ≤ 120
  n : g.N.length ≤ 120
  r : g.R.length ≤ 300
  short : g.R.all shortB = true
  ft : g.T.all formT = true
  fn : g.N.all plainB = true
  nd : (g.T ++ g.N).Nodup
  kn : Kn g
  nr : g.R.Nodup
  some : noneB g = false
theorem checkP_wf {g : Gm} : checkP g = 0 ↔ WF g := by
  unfold checkP
  constructor
  · intro h
    by_cases h1 : (decide (g.T.length ≤ 120) && decide (g.N.length ≤ 120) && decide (g.R.length ≤ 300) && g.R.all shortB) = true
    · by_cases h2 : (g.T.all formT && g.N.all plainB) = true
      · by_cases h3 : decide ((g.T ++ g.N).Nodup) = true
        · by_cases h4 : (g.non g.st && g.R.all (knownB g)) = true
          · by_cases h5 : decide g.R.Nodup = true
            · by_cases h6 : noneB g = true
              · rw [h1, h2, h3, h4, h5, h6] at h; simp at h
              · simp only [Bool.and_eq_true, decide_eq_true_eq] at h1 h2 h3 h4 h5
                exact ⟨h1.1.1.1, h1.1.1.2, h1.1.2, h1.2, h2.1, h2.2, h3, ⟨h4.1, fun r hr => List.all_eq_true.1 h4.2 r hr⟩, h5, by simpa using h6⟩
            · rw [h1, h2, h3, h4] at h; simp only [Bool.not_eq_true] at h5; rw [h5] at h; simp at h
          · rw [h1, h2, h3] at h; simp only [Bool.not_eq_true] at h4; rw [h4] at h; simp at h
        · rw [h1, h2] at h; simp only [Bool.not_eq_true] at h3; rw [h3] at h; simp at h
      · rw [h1] at h; simp only [Bool.not_eq_true] at h2; rw [h2] at h; simp at h
    · simp only [Bool.not_eq_true] at h1; rw [h1] at h; simp at h
  · intro h
    have h4 : g.R.all (knownB g) = true := List.all_eq_true.2 h.kn.r
    simp [h.t, h.n, h.r, h.short, h.ft, h.fn, h.nd, h.kn.st, h4, h.nr, h.some]
noncomputable def prodL (g : Gm) : List Nat := if checkP g = 0 then lst (rm g) (prodF g) else []
noncomputable def rchL (g : Gm) : List Nat := if checkP g = 0 then lst (rm g) (rchF g) else []
set_option maxRecDepth 100000 in
set_option maxHeartbeats 1000000 in
theorem Productive_any (w : World) (p : Gp) (g : Gm) (hA : GA w p g) (hs : Sm g) : Calls Try.prog 17 #[gv p g] w (RetRow w 3 (ivals (prodL g))) := by
  have HB0 := Lib.hid (GB.new w p g)
  have H22 : Hid (∀ w1, Kept nob w w1 → Calls Try.prog 22 #[gv p g] w1 (RetI w1 (checkP g))) := Lib.hid (fun w1 hk => check_any w1 p g (hA.nob hk) hs)
  have H42 := Lib.hid (fun w1 (hk : Kept nob w w1) (hkn : Kn g) => productive_any w1 p g (hA.nob hk) hs hkn)
  clear hA hs
  obtain ⟨ta, tc, na, nc, ra, rc⟩ := p
  unfold gv at H22 H42 ⊢
  simp only at HB0 H22 H42 ⊢
  have HK0 : Hid (Kept nob w (w.alloc (.cells #[.slice ta g.T.length tc, .slice na g.N.length nc, .slice ra g.R.length rc, .int .i64 g.st] 25))) := Lib.hid (Kept.alloc _ _ _)
  by_cases hc : checkP g = 0
  · have HKN := Lib.hid (checkP_wf.1 hc).kn
    have HE : Hid (prodL g = lst (rm g) (prodF g)) := Lib.hid (by unfold prodL; rw [if_pos hc])
    rw [hc] at H22
    clear hc
    go_enter Try.func17, Try.ntmps17
    go_wp2_with fail
    refine (H22.out _ HK0.out).mono ?_
    rintro e w1 ⟨rfl, hk⟩
    have HK1 := Lib.hid (HK0.out.trans hk (fun _ _ h => h))
    obtain ⟨c0, c1, c2, c3⟩ := (HB0.out.nob hk).c
    simp only at c0 c1 c2 c3
    go_wp2_with fail
    refine (H42.out _ HK1.out HKN.out).mono ?_
    rintro e w2 ⟨b, gg, rfl, hset, hk2, hbg⟩
    have HL := Lib.hid (list_any hset.out)
    go_wp2_with fail
    refine HL.out.mono ?_
    rintro e w3 hret
    have HRET := Lib.hid (RetRow.lift (HK1.out.trans hk2.out (fun _ _ h => h)) hret)
    obtain ⟨a, cap, rfl, _⟩ := hret
    go_wp2
    go_ret
    rw [HE.out]
    exact HRET.out
  · have HE : Hid (prodL g = []) := Lib.hid (by unfold prodL; rw [if_neg hc])
    have hb : (checkP g != 0) = true := by simpa using hc
    clear hc
    go_enter Try.func17, Try.ntmps17
    go_wp2_with fail
    refine (H22.out _ HK0.out).mono ?_
    rintro e w1 ⟨rfl, hk⟩
    have HK1 := Lib.hid (HK0.out.trans hk (fun _ _ h => h))
    go_wp2
    go_ret
    rw [HE.out]
    exact RetRow.mk (n := 0) (World.ownsRow_nil _ _ _ _) HK1.out
set_option maxRecDepth 100000 in
set_option maxHeartbeats 1000000 in
theorem Reached_any (w : World) (p : Gp) (g : Gm) (hA : GA w p g) (hs : Sm g) : Calls Try.prog 19 #[gv p g] w (RetRow w 3 (ivals (rchL g))) := by
  have HB0 := Lib.hid (GB.new w p g)
  have H22 : Hid (∀ w1, Kept nob w w1 → Calls Try.prog 22 #[gv p g] w1 (RetI w1 (checkP g))) := Lib.hid (fun w1 hk => check_any w1 p g (hA.nob hk) hs)
  have H43 := Lib.hid (fun w1 (hk : Kept nob w w1) (hkn : Kn g) => reached_any w1 p g (hA.nob hk) hs hkn)
  clear hA hs
  obtain ⟨ta, tc, na, nc, ra, rc⟩ := p
  unfold gv at H22 H43 ⊢
  simp only at HB0 H22 H43 ⊢
  have HK0 : Hid (Kept nob w (w.alloc (.cells #[.slice ta g.T.length tc, .slice na g.N.length nc, .slice ra g.R.length rc, .int .i64 g.st] 25))) := Lib.hid (Kept.alloc _ _ _)
  by_cases hc : checkP g = 0
  · have HKN := Lib.hid (checkP_wf.1 hc).kn
    have HE : Hid (rchL g = lst (rm g) (rchF g)) := Lib.hid (by unfold rchL; rw [if_pos hc])
    rw [hc] at H22
    clear hc
    go_enter Try.func19, Try.ntmps19
    go_wp2_with fail
    refine (H22.out _ HK0.out).mono ?_
    rintro e w1 ⟨rfl, hk⟩
    have HK1 := Lib.hid (HK0.out.trans hk (fun _ _ h => h))
    obtain ⟨c0, c1, c2, c3⟩ := (HB0.out.nob hk).c
    simp only at c0 c1 c2 c3
    go_wp2_with fail
    refine (H43.out _ HK1.out HKN.out).mono ?_
    rintro e w2 ⟨b, gg, rfl, hset, hk2, hbg⟩
    have HL := Lib.hid (list_any hset.out)
    go_wp2_with fail
    refine HL.out.mono ?_
    rintro e w3 hret
    have HRET := Lib.hid (RetRow.lift (HK1.out.trans hk2.out (fun _ _ h => h)) hret)
    obtain ⟨a, cap, rfl, _⟩ := hret
    go_wp2
    go_ret
    rw [HE.out]
    exact HRET.out
  · have HE : Hid (rchL g = []) := Lib.hid (by unfold rchL; rw [if_neg hc])
    have hb : (checkP g != 0) = true := by simpa using hc
    clear hc
    go_enter Try.func19, Try.ntmps19
    go_wp2_with fail
    refine (H22.out _ HK0.out).mono ?_
    rintro e w1 ⟨rfl, hk⟩
    have HK1 := Lib.hid (HK0.out.trans hk (fun _ _ h => h))
    go_wp2
    go_ret
    rw [HE.out]
    exact RetRow.mk (n := 0) (World.ownsRow_nil _ _ _ _) HK1.out
theorem cells4 {w1 wa wb : World} {bx : Nat} {x0 x1 x2 x3 : Value} (h : wa.cell? ⟨bx, 0, none⟩ = some x0 ∧ wa.cell? ⟨bx, 1, none⟩ = some x1 ∧ wa.cell? ⟨bx, 2, none⟩ = some x2 ∧ wa.cell? ⟨bx, 3, none⟩ = some x3 ∧ Kept nob w1 wa) (k : Kept nob wa wb) :
    wb.cell? ⟨bx, 0, none⟩ = some x0 ∧ wb.cell? ⟨bx, 1, none⟩ = some x1 ∧ wb.cell? ⟨bx, 2, none⟩ = some x2 ∧ wb.cell? ⟨bx, 3, none⟩ = some x3 ∧ Kept nob w1 wb :=
  ⟨kcell k h.1, kcell k h.2.1, kcell k h.2.2.1, kcell k h.2.2.2.1, h.2.2.2.2.trans k (fun _ _ h => h)⟩
/-- Is a symbol of no use? -/
noncomputable def deadB (g : Gm) (s : Int) : Bool := !(hf (rm g) (rchF g) s) || (g.non s && !(hf (rm g) (prodF g) s))
/-- What live.Check answers: an error, and where. -/
def CkIs (g : Gm) (e s : Int) : Prop :=
  (checkP g ≠ 0 ∧ e = checkP g ∧ s = 0) ∨ (checkP g = 0 ∧ ((e = 0 ∧ s = 0 ∧ ∀ x : Int, 1 ≤ x → x ≤ g.top → deadB g x = false) ∨ (e = 11 ∧ 1 ≤ s ∧ s ≤ g.top ∧ deadB g s = true ∧ ∀ x : Int, 1 ≤ x → x < s → deadB g x = false)))
theorem CkIs.uniq {g : Gm} {e s e' s' : Int} (h : CkIs g e s) (h' : CkIs g e' s') : e = e' ∧ s = s' := by
  rcases h with ⟨h0, h1, h2⟩ | ⟨h0, h⟩
  · rcases h' with ⟨h0', h1', h2'⟩ | ⟨h0', h'⟩
    · exact ⟨by rw [h1, h1'], by rw [h2, h2']⟩
    · exact absurd h0' h0
  · rcases h' with ⟨h0', h1', h2'⟩ | ⟨h0', h'⟩
    · exact absurd h0 h0'
    · rcases h with ⟨h1, h2, h3⟩ | ⟨h1, h2, h3, h4, h5⟩
      · rcases h' with ⟨h1', h2', h3'⟩ | ⟨h1', h2', h3', h4', h5'⟩
        · exact ⟨by omega, by omega⟩
        · rw [h3 s' h2' h3'] at h4'; cases h4'
      · rcases h' with ⟨h1', h2', h3'⟩ | ⟨h1', h2', h3', h4', h5'⟩
        · rw [h3' s h2 h3] at h4; cases h4
        · rcases Int.lt_trichotomy s s' with h6 | h6 | h6
          · rw [h5' s h2 h6] at h4; cases h4
          · exact ⟨by omega, h6⟩
          · rw [h5 s' h2' h6] at h4'; cases h4'
def RetCk (g : Gm) (w : World) (e : Ending) (w' : World) : Prop := ∃ c s : Int, e = .returned (.tuple #[.int .i64 c, .int .i64 s]) ∧ Hid (CkIs g c s) ∧ Kept nob w w'
set_option maxRecDepth 100000 in
set_option maxHeartbeats 4000000 in
theorem Check_any (w : World) (p : Gp) (g : Gm) (hA : GA w p g) (hs : Sm g) : Calls Try.prog 12 #[gv p g] w (RetCk g w) := by
  have HB0 := Lib.hid (GB.new w p g)
  have H22 : Hid (∀ w1, Kept nob w w1 → Calls Try.prog 22 #[gv p g] w1 (RetI w1 (checkP g))) := Lib.hid (fun w1 hk => check_any w1 p g (hA.nob hk) hs)
  have H42 := Lib.hid (fun w1 (hk : Kept nob w w1) (hkn : Kn g) => productive_any w1 p g (hA.nob hk) hs hkn)
  have H43 := Lib.hid (fun w1 (hk : Kept nob w w1) (hkn : Kn g) => reached_any w1 p g (hA.nob hk) hs hkn)
  have H44 : Hid (∀ w1, Calls Try.prog 44 #[gv p g] w1 (RetI w1 g.top)) := Lib.hid (fun w1 => top_any w1 p g hs)
  have H46 : Hid (∀ w1 s, Calls Try.prog 46 #[gv p g, .int .i64 s] w1 (RetB1 w1 (g.non s))) := Lib.hid (fun w1 s => non_any w1 p g s hs)
  have htop := hs.top
  clear hA hs
  obtain ⟨ta, tc, na, nc, ra, rc⟩ := p
  unfold gv at H22 H42 H43 H44 H46 ⊢
  simp only at HB0 H22 H42 H43 H44 H46 ⊢
  have HK0 : Hid (Kept nob w (w.alloc (.cells #[.slice ta g.T.length tc, .slice na g.N.length nc, .slice ra g.R.length rc, .int .i64 g.st] 25))) := Lib.hid (Kept.alloc _ _ _)
  by_cases hc : checkP g = 0
  · have HKN := Lib.hid (checkP_wf.1 hc).kn
    have HC0 := Lib.hid hc
    rw [hc] at H22
    clear hc
    go_enter Try.func12, Try.ntmps12
    go_wp2_with fail
    refine (H22.out _ HK0.out).mono ?_
    rintro e w1 ⟨rfl, hk⟩
    have HK1 := Lib.hid (HK0.out.trans hk (fun _ _ h => h))
    have HB1 := Lib.hid (HB0.out.nob hk)
    obtain ⟨c0, c1, c2, c3⟩ := (HB0.out.nob hk).c
    simp only at c0 c1 c2 c3
    clear hk
    go_wp2
    obtain ⟨bx, hbx⟩ : ∃ bx, w.heap.size = bx := ⟨_, rfl⟩
    rw [hbx] at c0 c1 c2 c3 HB1 ⊢
    go_region_held3 (fun wa => wa.cell? ⟨bx, 0, none⟩ = some (.slice ta g.T.length tc) ∧ wa.cell? ⟨bx, 1, none⟩ = some (.slice na g.N.length nc) ∧ wa.cell? ⟨bx, 2, none⟩ = some (.slice ra g.R.length rc) ∧ wa.cell? ⟨bx, 3, none⟩ = some (.int .i64 g.st) ∧ Kept nob w1 wa) (first | exact ⟨c0, c1, c2, c3, Kept.drew _ _⟩ | assumption)
        (first | (go_at_call 42; refine (H42.out _ (HK1.out.trans (by have h := ‹_ ∧ _›; exact h.2.2.2.2) (fun _ _ h => h)) HKN.out).mono ?_; rintro e wp ⟨b1, g1, rfl, hp, hkp, _⟩; have sp := cells4 (by assumption) hkp.out) | (go_at_call 43; refine (H43.out _ (HK1.out.trans (by have h := ‹_ ∧ _›; exact h.2.2.2.2) (fun _ _ h => h)) HKN.out).mono ?_; rintro e wq ⟨b2, g2, rfl, hq, hkq, _⟩; have sq := cells4 (by assumption) hkq.out))
    have HP := Lib.hid (hp.out.kept hkq.out (fun h => h) (fun h => h))
    have HQ := Lib.hid hq.out
    have HK2 := Lib.hid (HK1.out.trans sq.2.2.2.2 (fun _ _ h => h))
    have HB2 := Lib.hid (HB1.out.nob sq.2.2.2.2)
    clear hp hq hkp hkq sp sq c0 c1 c2 c3
    obtain ⟨c0, c1, c2, c3⟩ := HB2.out.c
    simp only at c0 c1 c2 c3
    go_wp2_with fail
    refine (H44.out _).mono ?_
    rintro e w3 ⟨rfl, hk3⟩
    have HK3 := Lib.hid (HK2.out.trans hk3 (fun _ _ h => h))
    have HB3 := Lib.hid (HB2.out.nob hk3)
    have HP3 := Lib.hid (HP.out.kept hk3 (fun h => h) (fun h => h))
    have HQ3 := Lib.hid (HQ.out.kept hk3 (fun h => h) (fun h => h))
    clear hk3 c0 c1 c2 c3
    obtain ⟨tp, htp⟩ : ∃ tp : Nat, g.top = (tp : Int) := ⟨g.top.toNat, by omega⟩
    have HTP := Lib.hid htp
    have htp1 : tp ≤ 1000 := by omega
    rw [htp]
    clear htp htop
    go_wp2
    go_loopw [20] (fun i wr => ∃ k : Nat, i = .int .i64 (k : Int) ∧ k ≤ tp ∧ Hid (∀ x : Int, 1 ≤ x → x ≤ k → deadB g x = false) ∧ Hid (Kept nob w3 wr)) (fun i _ => tp - (intOf i).toNat)
    case atStart => exact ⟨0, rfl, by omega, Lib.hid (fun x h1 h2 => by omega), Lib.hid (Kept.refl _ _)⟩
    case round =>
      obtain ⟨k, rfl, hkl, hno, HK⟩ := hrel
      have HKW := Lib.hid (HK3.out.trans HK.out (fun _ _ h => h))
      by_cases hlt : k < tp
      · have hlti : (k : Int) < (tp : Int) := by omega
        obtain ⟨c0, c1, c2, c3⟩ := (HB3.out.nob HK.out).c
        simp only at c0 c1 c2 c3
        have HH1 : Hid (Calls Try.prog 45 #[.pointer (some ⟨b2, 0, none⟩), .int .i64 ((k : Int) + 1)] wr fun e w' => e = .returned (.bool (hf (rm g) (rchF g) ((k : Int) + 1))) ∧ wr = w') := Lib.hid (has_any (HQ3.out.kept HK.out (fun h => h) (fun h => h)) _)
        have HH2 : Hid (∀ wx, Kept nob wr wx → Calls Try.prog 45 #[.pointer (some ⟨b1, 0, none⟩), .int .i64 ((k : Int) + 1)] wx fun e w' => e = .returned (.bool (hf (rm g) (prodF g) ((k : Int) + 1))) ∧ wx = w') := Lib.hid (fun wx h => has_any ((HP3.out.kept HK.out (fun h => h) (fun h => h)).kept h (fun h => h) (fun h => h)) _)
        have HN1 := Lib.hid (H46.out wr ((k : Int) + 1))
        have HDD : Hid (deadB g ((k : Int) + 1) = (!(hf (rm g) (rchF g) ((k : Int) + 1)) || (g.non ((k : Int) + 1) && !(hf (rm g) (prodF g) ((k : Int) + 1))))) := Lib.hid rfl
        obtain ⟨x1, hx1⟩ : ∃ x, hf (rm g) (rchF g) ((k : Int) + 1) = x := ⟨_, rfl⟩
        obtain ⟨x2, hx2⟩ : ∃ x, hf (rm g) (prodF g) ((k : Int) + 1) = x := ⟨_, rfl⟩
        obtain ⟨x3, hx3⟩ : ∃ x, g.non ((k : Int) + 1) = x := ⟨_, rfl⟩
        rw [hx1] at HH1 HDD
        rw [hx2] at HH2 HDD
        rw [hx3] at HN1 HDD
        clear hx1 hx2 hx3
        have HSAY : Hid (deadB g ((k : Int) + 1) = true → CkIs g 11 ((k : Int) + 1)) := Lib.hid (fun h => .inr ⟨HC0.out, .inr ⟨rfl, by omega, by rw [HTP.out]; omega, h, fun x h1 h2 => hno.out x h1 (by omega)⟩⟩)
        have HGO : Hid (deadB g ((k : Int) + 1) = false → ∀ x : Int, 1 ≤ x → x ≤ ((k + 1 : Nat) : Int) → deadB g x = false) := Lib.hid (fun h x h1 h2 => by
          by_cases e : x = (k : Int) + 1
          · rw [e]; exact h
          · exact hno.out x h1 (by omega))
        cases x1
        · go_wp2_with fail
          refine HH1.out.mono ?_
          rintro e w4 ⟨rfl, rfl⟩
          go_wp2
          go_ret2
          exact ⟨_, _, rfl, Lib.hid (HSAY.out (by rw [HDD.out]; rfl)), HKW.out⟩
        · cases x3
          · go_wp2_with fail
            refine HH1.out.mono ?_
            rintro e w4 ⟨rfl, rfl⟩
            go_wp2_with fail
            refine HN1.out.mono ?_
            rintro e w4 ⟨rfl, hk4⟩
            go_wp2
            go_roundw
            case rel => exact ⟨k + 1, by go_num, by omega, Lib.hid (HGO.out (by rw [HDD.out]; rfl)), Lib.hid (HK.out.trans hk4 (fun _ _ h => h))⟩
            case measure => simp [intOf]; omega
          · cases x2
            · go_wp2_with fail
              refine HH1.out.mono ?_
              rintro e w4 ⟨rfl, rfl⟩
              go_wp2_with fail
              refine HN1.out.mono ?_
              rintro e w4 ⟨rfl, hk4⟩
              go_wp2_with fail
              refine (HH2.out _ hk4).mono ?_
              rintro e w5 ⟨rfl, rfl⟩
              go_wp2
              go_ret2
              exact ⟨_, _, rfl, Lib.hid (HSAY.out (by rw [HDD.out]; rfl)), HKW.out.trans hk4 (fun _ _ h => h)⟩
            · go_wp2_with fail
              refine HH1.out.mono ?_
              rintro e w4 ⟨rfl, rfl⟩
              go_wp2_with fail
              refine HN1.out.mono ?_
              rintro e w4 ⟨rfl, hk4⟩
              go_wp2_with fail
              refine (HH2.out _ hk4).mono ?_
              rintro e w5 ⟨rfl, rfl⟩
              go_wp2
              go_roundw
              case rel => exact ⟨k + 1, by go_num, by omega, Lib.hid (HGO.out (by rw [HDD.out]; rfl)), Lib.hid (HK.out.trans hk4 (fun _ _ h => h))⟩
              case measure => simp [intOf]; omega
      · have hke : k = tp := by omega
        subst hke
        go_wp2
        go_ret2
        exact ⟨_, _, rfl, Lib.hid (.inr ⟨HC0.out, .inl ⟨rfl, rfl, fun x h1 h2 => hno.out x h1 (by rw [HTP.out] at h2; omega)⟩⟩), HKW.out⟩
  · have HE : Hid (CkIs g (checkP g) 0) := Lib.hid (.inl ⟨hc, rfl, rfl⟩)
    have hb : (checkP g != 0) = true := by simpa using hc
    clear hc
    go_enter Try.func12, Try.ntmps12
    go_wp2_with fail
    refine (H22.out _ HK0.out).mono ?_
    rintro e w1 ⟨rfl, hk⟩
    have HK1 := Lib.hid (HK0.out.trans hk (fun _ _ h => h))
    go_wp2
    go_ret2
    exact ⟨_, _, rfl, HE, HK1.out⟩
end Go.Proofs.Ythddfkemagpiaaa

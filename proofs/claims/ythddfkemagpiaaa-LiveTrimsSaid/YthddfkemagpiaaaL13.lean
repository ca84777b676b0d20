/-
  What is proved: what gram.Check answers. Conditions: those of each theorem.
-/
import Derived.Test.YthddfkemagpiaaaL12
set_option linter.unusedVariables false
set_option linter.unusedSimpArgs false
namespace Go.Proofs.Ythddfkemagpiaaa
open Go.RowKit
def noneB (g : Gm) : Bool := (List.range g.N.length).any fun i => (ofL g.R (g.nt + 1 + (i : Int))).isEmpty
/-- May a grammar be? -/
noncomputable def checkP (g : Gm) : Int :=
  if !(decide (g.T.length ≤ 120) && decide (g.N.length ≤ 120) && decide (g.R.length ≤ 300) && g.R.all shortB) then 7
  else if !(g.T.all formT && g.N.all plainB) then 10
  else if !decide ((g.T ++ g.N).Nodup) then 8
  else if !(g.non g.st && g.R.all (knownB g)) then 1
  else if !decide g.R.Nodup then 8
  else if noneB g then 9 else 0
def RetI (w : World) (c : Int) (e : Ending) (w' : World) : Prop := e = .returned (.int .i64 c) ∧ Kept nob w w'
theorem Sm.okR {g : Gm} (h : Sm g) : ∀ r, r ∈ g.R → okR r := fun r hr => h.r r hr
theorem noneB_yes {g : Gm} {k : Nat} (hk : k < g.N.length) (h : ofL g.R (g.nt + 1 + (k : Int)) = []) : noneB g = true := by
  unfold noneB
  rw [List.any_eq_true]
  exact ⟨k, List.mem_range.2 hk, by rw [h]; rfl⟩
theorem noneB_no {g : Gm} (h : ∀ k, k < g.N.length → ofL g.R (g.nt + 1 + (k : Int)) ≠ []) : noneB g = false := by
  unfold noneB
  rw [List.any_eq_false]
  intro k hk
  have := h k (List.mem_range.1 hk)
  simpa using this
set_option maxRecDepth 100000 in
set_option maxHeartbeats 8000000 in
theorem check_any (w : World) (p : Gp) (g : Gm) (hA : GA w p g) (hs : Sm g) : Calls Try.prog 22 #[gv p g] w (RetI w (checkP g)) := by
  have HB0 := Lib.hid (GB.new w p g)
  have HOK := Lib.hid hs.okR
  have HSs := Lib.hid hs
  have HA := Lib.hid hA
  have H58 : Hid (∀ w1, Kept nob w w1 → Calls Try.prog 58 #[.slice p.ra g.R.length p.rc, .func (.func 57) #[] #[]] w1 (RetB1 w1 (g.R.all shortB))) := Lib.hid (fun w1 hk => allR_57 w1 okR shortB _ _ g.R (hA.r.nob hk) hs.okR (by have := hs.n; omega) (test57 w1))
  have H59a : Hid (∀ w1, Kept nob w w1 → Calls Try.prog 59 #[.slice p.ta g.T.length p.tc, .func (.func 60) #[] #[]] w1 (RetB1 w1 (g.T.all formT))) := Lib.hid (fun w1 hk => allS_60 w1 okS formT _ _ g.T (hA.t.nob hk) (fun s h => by have := hs.t s h; unfold okS; omega) (by have := hs.n; omega) (test60 w1))
  have H59b : Hid (∀ w1, Kept nob w w1 → Calls Try.prog 59 #[.slice p.na g.N.length p.nc, .func (.func 61) #[] #[]] w1 (RetB1 w1 (g.N.all plainB))) := Lib.hid (fun w1 hk => allS_61 w1 okS plainB _ _ g.N (hA.n.nob hk) (fun s h => by have := hs.s s h; unfold okS; omega) (by have := hs.n; omega) (test61 w1))
  have H63 : Hid (∀ w1, Kept nob w w1 → Calls Try.prog 63 #[gv p g] w1 (RetB1 w1 (decide ((g.T ++ g.N).Nodup)))) := Lib.hid (fun w1 hk => once_any w1 p g (hA.nob hk) hs)
  have H46 : Hid (∀ w1, Calls Try.prog 46 #[gv p g, .int .i64 g.st] w1 (RetB1 w1 (g.non g.st))) := Lib.hid (fun w1 => non_any w1 p g g.st hs)
  have H64 : Hid (∀ w1 q, Kept nob w w1 → GB w1 q p g → Calls Try.prog 58 #[.slice p.ra g.R.length p.rc, .func (.func 64) #[] #[.pointer (some ⟨q, 0, none⟩)]] w1 (RetB1 w1 (g.R.all (knownB g)))) := Lib.hid (fun w1 q hk hb => allR_64 w1 q okR (knownB g) _ _ g.R (hA.r.nob hk) hs.okR (by have := hs.n; omega) (test64 w1 q p g hb hs))
  have H66 : Hid (∀ w1, Kept nob w w1 → Calls Try.prog 66 #[.slice p.ra g.R.length p.rc, .func (.func 67) #[] #[]] w1 (RetB1 w1 (decide g.R.Nodup))) := Lib.hid (fun w1 hk => unlike_any w1 _ _ g.R (hA.r.nob hk) (by have := hs.n; omega) hA.cr hs.okR)
  have H44 : Hid (∀ w1, Calls Try.prog 44 #[gv p g] w1 (RetI w1 g.top)) := Lib.hid (fun w1 => top_any w1 p g hs)
  have H68 : Hid (∀ w1 s, Kept nob w w1 → Calls Try.prog 68 #[gv p g, .int .i64 s] w1 (RetRow w1 3 (ivals (ofL g.R s)))) := Lib.hid (fun w1 s hk => of_any w1 p g s (hA.nob hk) hs)
  have hn := hs.n
  clear hA hs
  obtain ⟨T, N, R, st⟩ := g
  obtain ⟨ta, tc, na, nc, ra, rc⟩ := p
  unfold gv at H63 H46 H44 H68 ⊢
  have HCP : Hid (checkP ⟨T, N, R, st⟩ = if !(decide (T.length ≤ 120) && decide (N.length ≤ 120) && decide (R.length ≤ 300) && R.all shortB) then 7
    else if !(T.all formT && N.all plainB) then 10
    else if !decide ((T ++ N).Nodup) then 8
    else if !((Gm.mk T N R st).non st && R.all (knownB ⟨T, N, R, st⟩)) then 1
    else if !decide R.Nodup then 8
    else if noneB ⟨T, N, R, st⟩ then 9 else 0) := Lib.hid rfl
  obtain ⟨cp, hcp⟩ : ∃ cp, checkP ⟨T, N, R, st⟩ = cp := ⟨_, rfl⟩
  rw [hcp] at HCP ⊢
  clear hcp
  simp only at H58 H59a H59b H63 H46 H64 H66 H44 H68 HB0 hn ⊢
  have HTOP : Hid ((Gm.mk T N R st).top = (T.length : Int) + (N.length : Int)) := Lib.hid rfl
  have HNT : Hid ((Gm.mk T N R st).nt = (T.length : Int)) := Lib.hid rfl
  rw [HTOP.out] at H44
  obtain ⟨b1, hb1⟩ : ∃ b, R.all shortB = b := ⟨_, rfl⟩
  obtain ⟨b2, hb2⟩ : ∃ b, T.all formT = b := ⟨_, rfl⟩
  obtain ⟨b3, hb3⟩ : ∃ b, N.all plainB = b := ⟨_, rfl⟩
  obtain ⟨b4, hb4⟩ : ∃ b, decide ((T ++ N).Nodup) = b := ⟨_, rfl⟩
  obtain ⟨b5, hb5⟩ : ∃ b, (Gm.mk T N R st).non st = b := ⟨_, rfl⟩
  obtain ⟨b6, hb6⟩ : ∃ b, R.all (knownB ⟨T, N, R, st⟩) = b := ⟨_, rfl⟩
  obtain ⟨b7, hb7⟩ : ∃ b, decide R.Nodup = b := ⟨_, rfl⟩
  rw [hb1] at H58 HCP
  rw [hb2] at H59a HCP
  rw [hb3] at H59b HCP
  rw [hb4] at H63 HCP
  rw [hb5] at H46 HCP
  rw [hb6] at H64 HCP
  rw [hb7] at H66 HCP
  clear hb1 hb2 hb3 hb4 hb5 hb6 hb7
  have HK0 : Hid (Kept nob w (w.alloc (.cells #[.slice ta T.length tc, .slice na N.length nc, .slice ra R.length rc, .int .i64 st] 25))) := Lib.hid (Kept.alloc _ _ _)
  by_cases h1 : T.length ≤ 120
  · by_cases h2 : N.length ≤ 120
    · by_cases h3 : R.length ≤ 300
      · go_enter Try.func22, Try.ntmps22
        go_wp2_with fail
        refine (H58.out _ HK0.out).mono ?_
        rintro e w1 ⟨rfl, hk⟩
        have HK1 := Lib.hid (HK0.out.trans hk (fun _ _ h => h))
        have HB1 := Lib.hid (HB0.out.nob hk)
        obtain ⟨c0, c1, c2, c3⟩ := HB1.out.c
        simp only at c0 c1 c2 c3
        clear hk
        cases b1
        · have HE : Hid (cp = 7) := Lib.hid (by rw [HCP.out]; simp)
          go_wp2
          go_ret
          exact ⟨ret_int HE.out.symm, HK1.out⟩
        · go_wp2_with fail
          refine (H59a.out _ HK1.out).mono ?_
          rintro e w2 ⟨rfl, hk⟩
          have HK2 := Lib.hid (HK1.out.trans hk (fun _ _ h => h))
          have HB2 := Lib.hid (HB1.out.nob hk)
          clear c0 c1 c2 c3
          obtain ⟨c0, c1, c2, c3⟩ := HB2.out.c
          simp only at c0 c1 c2 c3
          clear hk
          cases b2
          · have HE : Hid (cp = 10) := Lib.hid (by rw [HCP.out]; simp [h1, h2, h3])
            go_wp2
            go_ret
            exact ⟨ret_int HE.out.symm, HK2.out⟩
          · go_wp2_with fail
            refine (H59b.out _ HK2.out).mono ?_
            rintro e w3 ⟨rfl, hk⟩
            have HK3 := Lib.hid (HK2.out.trans hk (fun _ _ h => h))
            have HB3 := Lib.hid (HB2.out.nob hk)
            clear c0 c1 c2 c3
            obtain ⟨c0, c1, c2, c3⟩ := HB3.out.c
            simp only at c0 c1 c2 c3
            clear hk
            cases b3
            · have HE : Hid (cp = 10) := Lib.hid (by rw [HCP.out]; simp [h1, h2, h3])
              go_wp2
              go_ret
              exact ⟨ret_int HE.out.symm, HK3.out⟩
            · go_wp2_with fail
              refine (H63.out _ HK3.out).mono ?_
              rintro e w4 ⟨rfl, hk⟩
              have HK4 := Lib.hid (HK3.out.trans hk (fun _ _ h => h))
              have HB4 := Lib.hid (HB3.out.nob hk)
              clear c0 c1 c2 c3
              obtain ⟨c0, c1, c2, c3⟩ := HB4.out.c
              simp only at c0 c1 c2 c3
              clear hk
              cases b4
              · have HE : Hid (cp = 8) := Lib.hid (by rw [HCP.out]; simp [h1, h2, h3])
                go_wp2
                go_ret
                exact ⟨ret_int HE.out.symm, HK4.out⟩
              · go_wp2_with fail
                refine (H46.out _).mono ?_
                rintro e w5 ⟨rfl, hk⟩
                have HK5 := Lib.hid (HK4.out.trans hk (fun _ _ h => h))
                have HB5 := Lib.hid (HB4.out.nob hk)
                clear c0 c1 c2 c3
                obtain ⟨c0, c1, c2, c3⟩ := HB5.out.c
                simp only at c0 c1 c2 c3
                clear hk
                cases b5
                · have HE : Hid (cp = 1) := Lib.hid (by rw [HCP.out]; simp [h1, h2, h3])
                  go_wp2
                  go_ret
                  exact ⟨ret_int HE.out.symm, HK5.out⟩
                · go_wp2_with fail
                  refine (H64.out _ _ HK5.out HB5.out).mono ?_
                  rintro e w6 ⟨rfl, hk⟩
                  have HK6 := Lib.hid (HK5.out.trans hk (fun _ _ h => h))
                  have HB6 := Lib.hid (HB5.out.nob hk)
                  clear c0 c1 c2 c3
                  obtain ⟨c0, c1, c2, c3⟩ := HB6.out.c
                  simp only at c0 c1 c2 c3
                  clear hk
                  cases b6
                  · have HE : Hid (cp = 1) := Lib.hid (by rw [HCP.out]; simp [h1, h2, h3])
                    go_wp2
                    go_ret
                    exact ⟨ret_int HE.out.symm, HK6.out⟩
                  · go_wp2_with fail
                    refine (H66.out _ HK6.out).mono ?_
                    rintro e w7 ⟨rfl, hk⟩
                    have HK7 := Lib.hid (HK6.out.trans hk (fun _ _ h => h))
                    have HB7 := Lib.hid (HB6.out.nob hk)
                    clear c0 c1 c2 c3
                    obtain ⟨c0, c1, c2, c3⟩ := HB7.out.c
                    simp only at c0 c1 c2 c3
                    clear hk
                    cases b7
                    · have HE : Hid (cp = 8) := Lib.hid (by rw [HCP.out]; simp [h1, h2, h3])
                      go_wp2
                      go_ret
                      exact ⟨ret_int HE.out.symm, HK7.out⟩
                    · have HE : Hid (cp = if noneB ⟨T, N, R, st⟩ then 9 else 0) := Lib.hid (by rw [HCP.out]; simp [h1, h2, h3])
                      go_wp2
                      go_loopw [4] (fun i wr => ∃ k : Nat, i = .int .i64 ((T.length : Int) + 1 + (k : Int)) ∧ k ≤ N.length ∧ Hid (∀ j, j < k → ofL R ((T.length : Int) + 1 + (j : Int)) ≠ []) ∧ Hid (Kept nob w wr) ∧ Hid (GB wr w.heap.size ⟨ta, tc, na, nc, ra, rc⟩ ⟨T, N, R, st⟩)) (fun i _ => T.length + N.length + 1 - (intOf i).toNat)
                      case atStart => exact ⟨0, by simp, by omega, Lib.hid (fun j h => by omega), HK7, HB7⟩
                      case round =>
                        obtain ⟨k, rfl, hkl, hno, HK, HB⟩ := hrel
                        clear c0 c1 c2 c3
                        obtain ⟨c0, c1, c2, c3⟩ := HB.out.c
                        simp only at c0 c1 c2 c3
                        by_cases hlt : k < N.length
                        · have hle : (T.length : Int) + 1 + (k : Int) ≤ (T.length : Int) + (N.length : Int) := by omega
                          go_wp2_with fail
                          refine (H44.out _).mono ?_
                          rintro e wa ⟨rfl, hka⟩
                          have HKa := Lib.hid (HK.out.trans hka (fun _ _ h => h))
                          have HBa := Lib.hid (HB.out.nob hka)
                          clear c0 c1 c2 c3 hka
                          obtain ⟨c0, c1, c2, c3⟩ := HBa.out.c
                          simp only at c0 c1 c2 c3
                          go_wp2_with fail
                          refine (H68.out _ _ HKa.out).mono ?_
                          rintro e wb ⟨a1, cap1, rfl, ho1, hkb⟩
                          have HKb := Lib.hid (HKa.out.trans hkb (fun _ _ h => h))
                          have HBb := Lib.hid (HBa.out.nob hkb)
                          rw [ivals_len] at ho1 ⊢
                          clear ho1 hkb
                          obtain ⟨m, hm⟩ : ∃ m, ofL R ((T.length : Int) + 1 + (k : Int)) = m := ⟨_, rfl⟩
                          rw [hm]
                          have HM := Lib.hid hm
                          clear hm
                          by_cases h0 : m.length = 0
                          · have HE9 : Hid (cp = 9) := Lib.hid (by rw [HE.out, noneB_yes (g := ⟨T, N, R, st⟩) (k := k) hlt (by rw [HNT.out, HM.out]; exact List.eq_nil_of_length_eq_zero h0)]; rfl)
                            go_wp2
                            go_ret
                            exact ⟨ret_int HE9.out.symm, HKb.out⟩
                          · have h0' : ((m.length : Int) == 0) = false := by rw [beq_eq_false_iff_ne]; omega
                            go_wp2
                            go_roundw
                            case rel =>
                              refine ⟨k + 1, by go_num, by omega, Lib.hid (fun j hj => ?_), HKb, HBb⟩
                              by_cases e : j = k
                              · rw [e, HM.out]; intro h; rw [h] at h0; exact h0 rfl
                              · exact hno.out j (by omega)
                            case measure => simp [intOf]; omega
                        · have hle : ¬ (T.length : Int) + 1 + (k : Int) ≤ (T.length : Int) + (N.length : Int) := by omega
                          have HE0 : Hid (cp = 0) := Lib.hid (by rw [HE.out, noneB_no (g := ⟨T, N, R, st⟩) (fun j hj => by rw [HNT.out]; exact hno.out j (by have : j < N.length := hj; omega))]; rfl)
                          go_wp2_with fail
                          refine (H44.out _).mono ?_
                          rintro e wa ⟨rfl, hka⟩
                          have HKa := Lib.hid (HK.out.trans hka (fun _ _ h => h))
                          go_wp2
                          go_ret
                          exact ⟨ret_int HE0.out.symm, HKa.out⟩
      · have HE : Hid (cp = 7) := Lib.hid (by rw [HCP.out]; simp [h3])
        go_enter Try.func22, Try.ntmps22
        go_wp2
        go_ret
        exact ⟨ret_int HE.out.symm, HK0.out⟩
    · have HE : Hid (cp = 7) := Lib.hid (by rw [HCP.out]; simp [h2])
      go_enter Try.func22, Try.ntmps22
      go_wp2
      go_ret
      exact ⟨ret_int HE.out.symm, HK0.out⟩
  · have HE : Hid (cp = 7) := Lib.hid (by rw [HCP.out]; simp [h1])
    go_enter Try.func22, Try.ntmps22
    go_wp2
    go_ret
    exact ⟨ret_int HE.out.symm, HK0.out⟩
end Go.Proofs.Ythddfkemagpiaaa

/-
  What is proved: what conchlaw06.Much answers: a grammar of which it is small is small. Conditions: those of each theorem.
-/
import Derived.Test.YthddfkemagpiaaaL23
set_option linter.unusedVariables false
set_option linter.unusedSimpArgs false
namespace Go.Proofs.Ythddfkemagpiaaa
open Go.RowKit
abbrev rb : Nat := 140737488355328
/-- No part is larger than what a row takes. -/
structure Bg (g : Gm) : Prop where
  t : g.T.length ≤ rb
  n : g.N.length ≤ rb
  r : g.R.length ≤ rb
  ts : ∀ s, s ∈ g.T → s.size ≤ rb
  ns : ∀ s, s ∈ g.N → s.size ≤ rb
  rs : ∀ r, r ∈ g.R → r.2.length ≤ rb
/-- A sum that is large enough for each. -/
def Ov {α : Type} (L : List α) (sz : α → Nat) (d k n0 n : Nat) : Prop := n0 ≤ n ∧ n ≤ n0 + k * rb ∧ ∀ j x, j < k → L[j]? = some x → n0 + sz x / d ≤ n
theorem Ov.step {α : Type} {L : List α} {sz : α → Nat} {d k n0 n : Nat} {x : α} (h : Ov L sz d k n0 n) (hx : L[k]? = some x) (hs : sz x ≤ rb) : Ov L sz d (k + 1) n0 (n + sz x / d) := by
  obtain ⟨h1, h2, h3⟩ := h
  have h4 : sz x / d ≤ sz x := Nat.div_le_self _ _
  obtain ⟨q, hq⟩ : ∃ q, sz x / d = q := ⟨_, rfl⟩
  rw [hq] at h4 ⊢
  refine ⟨by omega, ?_, fun j y hj hy => ?_⟩
  · unfold rb at *; rw [Nat.add_mul]; omega
  · by_cases e : j = k
    · subst e
      rw [hx] at hy
      cases hy
      rw [hq]
      omega
    · have := h3 j y (by omega) hy
      obtain ⟨q2, hq2⟩ : ∃ q2, sz y / d = q2 := ⟨_, rfl⟩
      rw [hq2] at this ⊢
      omega
theorem sm_of {g : Gm} {n1 n2 n3 : Nat} (h1 : Ov g.T (fun s => s.size) 20 g.T.length (g.T.length + g.N.length + g.R.length) n1) (h2 : Ov g.N (fun s => s.size) 20 g.N.length n1 n2) (h3 : Ov g.R (fun r => r.2.length) 9 g.R.length n2 n3) (hn : n3 ≤ 200) :
    Sm g ∧ g.T.length + g.N.length + g.R.length ≤ 200 ∧ ∀ r, r ∈ g.R → r.2.length ≤ 1900 := by
  have a1 := h1.1; have a2 := h2.1; have a3 := h3.1
  have hr : ∀ r, r ∈ g.R → r.2.length ≤ 1900 := fun r hr => by
    obtain ⟨i, hi, e⟩ := List.mem_iff_getElem.1 hr
    have := h3.2.2 i r hi (by rw [List.getElem?_eq_getElem hi, e])
    simp only at this
    omega
  refine ⟨⟨by omega, fun r h => by have := hr r h; omega, fun s hs => ?_, fun s hs => ?_⟩, by omega, hr⟩
  · obtain ⟨i, hi, e⟩ := List.mem_iff_getElem.1 hs
    have := h1.2.2 i s hi (by rw [List.getElem?_eq_getElem hi, e])
    simp only at this
    omega
  · obtain ⟨i, hi, e⟩ := List.mem_iff_getElem.1 hs
    have := h2.2.2 i s hi (by rw [List.getElem?_eq_getElem hi, e])
    simp only at this
    omega
theorem Ov.zero {α : Type} (L : List α) (sz : α → Nat) (d n0 : Nat) : Ov L sz d 0 n0 n0 := ⟨Nat.le_refl _, by omega, fun j x hj => by omega⟩
def RetMuch (g : Gm) (w : World) (e : Ending) (w' : World) : Prop := ∃ n : Nat, e = .returned (.int .i64 (n : Int)) ∧ Hid (n ≤ 200 → Sm g ∧ g.T.length + g.N.length + g.R.length ≤ 200 ∧ ∀ r, r ∈ g.R → r.2.length ≤ 1900) ∧ Kept nob w w'
set_option maxRecDepth 100000 in
set_option maxHeartbeats 8000000 in
theorem much_any (w : World) (p : Gp) (g : Gm) (hA : GA w p g) (hb : Bg g) : Calls Try.prog 10 #[gv p g] w (RetMuch g w) := by
  have HB0 := Lib.hid (GB.new w p g)
  have HT := Lib.hid hA.t
  have HN := Lib.hid hA.n
  have HR := Lib.hid hA.r
  have HBG := Lib.hid hb
  have b1 := hb.t
  have b2 := hb.n
  have b3 := hb.r
  unfold rb at b1 b2 b3
  clear hA hb
  obtain ⟨ta, tc, na, nc, ra, rc⟩ := p
  unfold gv
  simp only at HB0 HT HN HR ⊢
  have HK0 : Hid (Kept nob w (w.alloc (.cells #[.slice ta g.T.length tc, .slice na g.N.length nc, .slice ra g.R.length rc, .int .i64 g.st] 25))) := Lib.hid (Kept.alloc _ _ _)
  obtain ⟨c0, c1, c2, c3⟩ := HB0.out.c
  simp only at c0 c1 c2 c3
  obtain ⟨w1, hw1⟩ : ∃ w1, w1 = w.alloc (.cells #[.slice ta g.T.length tc, .slice na g.N.length nc, .slice ra g.R.length rc, .int .i64 g.st] 25) := ⟨_, rfl⟩
  rw [← hw1] at HB0 HK0 c0 c1 c2 c3
  have HW := Lib.hid hw1
  clear hw1
  go_enter Try.func10, Try.ntmps10
  go_wp2
  rw [← HW.out]
  go_loop [3, 4] (fun s i => ∃ k n : Nat, i = .int .i64 (k : Int) ∧ s = .int .i64 (n : Int) ∧ k ≤ g.T.length ∧ k ≤ 200 ∧ Hid (Ov g.T (fun s => s.size) 20 k (g.T.length + g.N.length + g.R.length) n)) (fun _ i => 200 - (intOf i).toNat)
  case atStart => exact ⟨0, g.T.length + g.N.length + g.R.length, rfl, by go_num, by omega, by omega, Lib.hid (Ov.zero _ _ _ _)⟩
  case round =>
    obtain ⟨k, n, rfl, rfl, hk1, hk2, HO⟩ := hrel
    by_cases hlt : k < g.T.length ∧ k < 200
    · obtain ⟨hl1, hl2⟩ := hlt
      obtain ⟨b, o, s, rfl, hs, d⟩ := sv_at (HT.out.nob HK0.out) hl1
      have hz := HBG.out.ts s (List.mem_of_getElem? hs)
      have hov := HO.out.2.1
      unfold rb at hz hov
      have HST := Lib.hid (HO.out.step hs (HBG.out.ts s (List.mem_of_getElem? hs)))
      clear hs
      go_wp2
      go_round
      case rel => exact ⟨k + 1, n + s.size / 20, by go_num, by go_num, by omega, by omega, HST⟩
      case measure => simp [intOf]; omega
    · have HD1 : Hid (g.T.length ≤ k ∨ 200 < g.T.length + g.N.length + g.R.length) := Lib.hid (by omega)
      have hov := HO.out.2.1
      unfold rb at hov
      obtain ⟨n1, hn1⟩ : ∃ n1, n1 = n := ⟨_, rfl⟩
      have HN1 : Hid ((g.T.length = k ∧ Ov g.T (fun s => s.size) 20 g.T.length (g.T.length + g.N.length + g.R.length) n1) ∨ 200 < g.T.length + g.N.length + g.R.length) := Lib.hid (by
        rcases HD1.out with h | h
        · have : g.T.length = k := by omega
          exact .inl ⟨this, by rw [this, hn1]; rw [this] at HO; exact HO.out⟩
        · exact .inr h)
      have hle1 : Hid (g.T.length + g.N.length + g.R.length ≤ n1) := Lib.hid (by rw [hn1]; exact HO.out.1)
      have hub1 : n ≤ 700 * 140737488355328 := by omega
      rcases (by omega : (g.T.length : Int) ≤ (k : Int) ∨ ((k : Int) < (g.T.length : Int) ∧ (200 : Int) ≤ (k : Int))) with h0 | ⟨h0, h0'⟩
      all_goals
        clear HO hlt hov HD1
        go_wp2
        clear h0
        subst hn1
        go_loop [3, 5] (fun s i => ∃ k n : Nat, i = .int .i64 (k : Int) ∧ s = .int .i64 (n : Int) ∧ k ≤ g.N.length ∧ k ≤ 200 ∧ Hid (Ov g.N (fun s => s.size) 20 k n1 n)) (fun _ i => 200 - (intOf i).toNat)
        case atStart => exact ⟨0, n1, rfl, rfl, by omega, by omega, Lib.hid (Ov.zero _ _ _ _)⟩
        case round =>
          obtain ⟨k, n, rfl, rfl, hk1, hk2, HO⟩ := hrel
          by_cases hlt : k < g.N.length ∧ k < 200
          · obtain ⟨hl1, hl2⟩ := hlt
            obtain ⟨b, o, s, rfl, hs, d⟩ := sv_at (HN.out.nob HK0.out) hl1
            have hz := HBG.out.ns s (List.mem_of_getElem? hs)
            have hov := HO.out.2.1
            unfold rb at hz hov
            have HST := Lib.hid (HO.out.step hs (HBG.out.ns s (List.mem_of_getElem? hs)))
            clear hs
            go_wp2
            go_round
            case rel => exact ⟨k + 1, n + s.size / 20, by go_num, by go_num, by omega, by omega, HST⟩
            case measure => simp [intOf]; omega
          · have HN2 : Hid ((g.N.length = k ∧ Ov g.N (fun s => s.size) 20 g.N.length n1 n) ∨ 200 < g.T.length + g.N.length + g.R.length) := Lib.hid (by
              rcases (by omega : g.N.length ≤ k ∨ 200 < g.T.length + g.N.length + g.R.length) with h | h
              · have : g.N.length = k := by omega
                exact .inl ⟨this, by rw [this]; exact HO.out⟩
              · exact .inr h)
            have hov := HO.out.2.1
            have hlo := HO.out.1
            unfold rb at hov
            obtain ⟨n2, hn2⟩ : ∃ n2, n2 = n := ⟨_, rfl⟩
            have hle2 : Hid (g.T.length + g.N.length + g.R.length ≤ n2) := Lib.hid (by have := hle1.out; omega)
            have hub2 : n ≤ 1000 * 140737488355328 := by omega
            rcases (by omega : (g.N.length : Int) ≤ (k : Int) ∨ ((k : Int) < (g.N.length : Int) ∧ (200 : Int) ≤ (k : Int))) with h0 | ⟨h0, h0'⟩
            all_goals
              clear HO hlt hov hlo
              go_wp2
              clear h0
              subst hn2
              go_loop [3, 6] (fun s i => ∃ k n : Nat, i = .int .i64 (k : Int) ∧ s = .int .i64 (n : Int) ∧ k ≤ g.R.length ∧ k ≤ 400 ∧ Hid (Ov g.R (fun r => r.2.length) 9 k n2 n)) (fun _ i => 400 - (intOf i).toNat)
              case atStart => exact ⟨0, n2, rfl, rfl, by omega, by omega, Lib.hid (Ov.zero _ _ _ _)⟩
              case round =>
                obtain ⟨k, n, rfl, rfl, hk1, hk2, HO⟩ := hrel
                by_cases hlt : k < g.R.length ∧ k < 400
                · obtain ⟨hl1, hl2⟩ := hlt
                  obtain ⟨b, o, r, ra', rc', rfl, hr, hgd, RA⟩ := rule_at (HR.out.nob HK0.out) hl1
                  have hz := HBG.out.rs r (List.mem_of_getElem? hr)
                  have hov := HO.out.2.1
                  unfold rb at hz hov
                  have HST := Lib.hid (HO.out.step hr (HBG.out.rs r (List.mem_of_getElem? hr)))
                  have d1 := RA.c1
                  obtain ⟨l, xs⟩ := r
                  simp only at d1 HST hz
                  clear hr hgd RA
                  go_wp2
                  go_round
                  case rel => exact ⟨k + 1, n + xs.length / 9, by go_num, by go_num, by omega, by omega, HST⟩
                  case measure => simp [intOf]; omega
                · have HE : Hid (n ≤ 200 → Sm g ∧ g.T.length + g.N.length + g.R.length ≤ 200 ∧ ∀ r, r ∈ g.R → r.2.length ≤ 1900) := Lib.hid (fun h => by
                    have hlo := HO.out.1
                    rcases HN1.out with ⟨e1, h1⟩ | h1
                    · rcases HN2.out with ⟨e2, h2⟩ | h2
                      · rcases (by omega : g.R.length ≤ k ∨ 400 ≤ g.R.length) with h3 | h3
                        · have e3 : g.R.length = k := by omega
                          exact sm_of h1 h2 (by rw [e3]; exact HO.out) h
                        · have := hle2.out; omega
                      · have := hle2.out; omega
                    · have := hle2.out; omega)
                  rcases (by omega : (g.R.length : Int) ≤ (k : Int) ∨ ((k : Int) < (g.R.length : Int) ∧ (400 : Int) ≤ (k : Int))) with h0 | ⟨h0, h0'⟩
                  all_goals
                    clear HO hlt
                    go_wp2
                    go_ret
                    exact ⟨n, rfl, HE, HK0.out⟩
end Go.Proofs.Ythddfkemagpiaaa

/-
  What is proved: what gram.Name answers. Conditions: those of each theorem.
-/
import Derived.Test.YthddfkemagpiaaaL17
set_option linter.unusedVariables false
set_option linter.unusedSimpArgs false
namespace Go.Proofs.Ythddfkemagpiaaa
open Go.RowKit
def nameG (g : Gm) (s : Int) : ByteArray := if s = 0 then ⟨#[36]⟩ else if g.term s then g.T.getD (s - 1).toNat ⟨#[]⟩ else if g.non s then g.N.getD (s - 1 - g.nt).toNat ⟨#[]⟩ else ⟨#[]⟩
theorem sv_at2 {w : World} {a : Option Addr} {xs : List ByteArray} (hx : Rd w a (sv xs)) {k : Nat} (hk : k < xs.length) : ∃ b o, a = some ⟨b, o, none⟩ ∧ w.cell? ⟨b, o + k, none⟩ = some (.string (xs.getD k ⟨#[]⟩)) := by
  obtain ⟨b, o, s, h1, h2, h3⟩ := sv_at hx hk
  refine ⟨b, o, h1, ?_⟩
  rw [h3]
  simp [List.getD, h2]
set_option maxRecDepth 100000 in
set_option maxHeartbeats 1000000 in
theorem name_of (w : World) (p : Gp) (g : Gm) (s : Int) (hA : GA w p g) (hs : Sm g) : Calls Try.prog 93 #[gv p g, .int .i64 s] w fun e w' => e = .returned (.string (nameG g s)) ∧ Kept nob w w' := by
  have HB0 := Lib.hid (GB.new w p g)
  have H92 : Hid (∀ w1, Calls Try.prog 92 #[gv p g, .int .i64 s] w1 (RetB1 w1 (g.term s))) := Lib.hid (fun w1 => term_any w1 p g s hs)
  have H46 : Hid (∀ w1, Calls Try.prog 46 #[gv p g, .int .i64 s] w1 (RetB1 w1 (g.non s))) := Lib.hid (fun w1 => non_any w1 p g s hs)
  have HT := Lib.hid hA.t
  have HN := Lib.hid hA.n
  have hn := hs.n
  clear hA hs
  obtain ⟨ta, tc, na, nc, ra, rc⟩ := p
  unfold gv at H92 H46 ⊢
  simp only at HB0 HT HN H92 H46 ⊢
  have HK0 : Hid (Kept nob w (w.alloc (.cells #[.slice ta g.T.length tc, .slice na g.N.length nc, .slice ra g.R.length rc, .int .i64 g.st] 25))) := Lib.hid (Kept.alloc _ _ _)
  by_cases h0 : s = 0
  · have HE : Hid (nameG g s = ⟨#[36]⟩) := Lib.hid (by unfold nameG; rw [if_pos h0])
    subst h0
    rw [HE.out]
    go_enter Try.func93, Try.ntmps93
    go_wp2
    go_ret
    exact ⟨rfl, HK0.out⟩
  · have b0 : (s == 0) = false := by simpa using h0
    have H0 := Lib.hid h0
    clear h0
    cases ht : g.term s with
    | true =>
      have HE : Hid (nameG g s = g.T.getD (s - 1).toNat ⟨#[]⟩) := Lib.hid (by unfold nameG; rw [if_neg H0.out, if_pos ht])
      have hr : 1 ≤ s ∧ s ≤ g.nt := by unfold Gm.term at ht; exact of_decide_eq_true ht
      unfold Gm.nt at hr
      obtain ⟨k, hk⟩ : ∃ k : Nat, s = (k : Int) + 1 := ⟨(s - 1).toNat, by omega⟩
      rw [ht] at H92
      subst hk
      have hlt : k < g.T.length := by omega
      have hkk : ((k : Int) + 1 - 1).toNat = k := by omega
      rw [hkk] at HE
      obtain ⟨b, o, rfl, d⟩ := sv_at2 HT.out hlt
      obtain ⟨nm, hnm⟩ : ∃ nm, g.T.getD k ⟨#[]⟩ = nm := ⟨_, rfl⟩
      rw [hnm] at HE d
      rw [HE.out]
      clear ht hkk hr hnm
      go_enter Try.func93, Try.ntmps93
      go_wp2_with fail
      refine (H92.out _).mono ?_
      rintro e w1 ⟨rfl, hk1⟩
      obtain ⟨c0, c1, c2, c3⟩ := (HB0.out.nob hk1).c
      simp only at c0 c1 c2 c3
      have d' := kcell (HK0.out.trans hk1 (fun _ _ h => h)) d
      have hti : (k : Int) < (g.T.length : Int) := by omega
      go_wp2
      go_ret
      exact ⟨rfl, HK0.out.trans hk1 (fun _ _ h => h)⟩
    | false =>
      rw [ht] at H92
      cases hN : g.non s with
      | true =>
        have HE : Hid (nameG g s = g.N.getD (s - 1 - g.nt).toNat ⟨#[]⟩) := Lib.hid (by unfold nameG; rw [if_neg H0.out, if_neg (by simp [ht]), if_pos hN])
        have hr : g.nt < s ∧ s ≤ g.top := by unfold Gm.non at hN; exact of_decide_eq_true hN
        unfold Gm.nt Gm.top at hr
        unfold Gm.nt at HE
        obtain ⟨k, hk⟩ : ∃ k : Nat, s = (k : Int) + 1 + (g.T.length : Int) := ⟨(s - 1 - g.T.length).toNat, by omega⟩
        rw [hN] at H46
        subst hk
        have hlt : k < g.N.length := by omega
        have hkk : ((k : Int) + 1 + (g.T.length : Int) - 1 - (g.T.length : Int)).toNat = k := by omega
        rw [hkk] at HE
        have hkz : ((k : Int) + 1 + (g.T.length : Int) - 1 - (g.T.length : Int)) = (k : Int) := by omega
        obtain ⟨b, o, rfl, d⟩ := sv_at2 HN.out hlt
        obtain ⟨nm, hnm⟩ : ∃ nm, g.N.getD k ⟨#[]⟩ = nm := ⟨_, rfl⟩
        rw [hnm] at HE d
        rw [HE.out]
        clear ht hN hkk hr hnm
        go_enter Try.func93, Try.ntmps93
        go_wp2_with fail
        refine (H92.out _).mono ?_
        rintro e w1 ⟨rfl, hk1⟩
        have HB1 := Lib.hid (HB0.out.nob hk1)
        have HK1 := Lib.hid (HK0.out.trans hk1 (fun _ _ h => h))
        obtain ⟨c0, c1, c2, c3⟩ := HB1.out.c
        simp only at c0 c1 c2 c3
        clear hk1
        go_wp2_with fail
        refine (H46.out _).mono ?_
        rintro e w2 ⟨rfl, hk2⟩
        clear c0 c1 c2 c3
        obtain ⟨c0, c1, c2, c3⟩ := (HB1.out.nob hk2).c
        simp only at c0 c1 c2 c3
        have d' := kcell (HK1.out.trans hk2 (fun _ _ h => h)) d
        have hti : (k : Int) < (g.N.length : Int) := by omega
        go_wp2
        go_ret
        exact ⟨rfl, HK1.out.trans hk2 (fun _ _ h => h)⟩
      | false =>
        have HE : Hid (nameG g s = ⟨#[]⟩) := Lib.hid (by unfold nameG; rw [if_neg H0.out, if_neg (by simp [ht]), if_neg (by simp [hN])])
        rw [hN] at H46
        rw [HE.out]
        clear ht hN
        go_enter Try.func93, Try.ntmps93
        go_wp2_with fail
        refine (H92.out _).mono ?_
        rintro e w1 ⟨rfl, hk1⟩
        have HB1 := Lib.hid (HB0.out.nob hk1)
        have HK1 := Lib.hid (HK0.out.trans hk1 (fun _ _ h => h))
        obtain ⟨c0, c1, c2, c3⟩ := HB1.out.c
        simp only at c0 c1 c2 c3
        clear hk1
        go_wp2_with fail
        refine (H46.out _).mono ?_
        rintro e w2 ⟨rfl, hk2⟩
        go_wp2
        go_ret
        exact ⟨rfl, HK1.out.trans hk2 (fun _ _ h => h)⟩
end Go.Proofs.Ythddfkemagpiaaa

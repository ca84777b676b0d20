/-
  What is proved: what Raw, Deep and Close do. Conditions: those of each theorem.
-/
import Derived.Test.YtbmapjgajecgfaaW35
set_option linter.unusedVariables false
set_option linter.unusedSimpArgs false
namespace Go.Proofs.Ytbmapjgajecgfaa
open Go.RowKit
def stRaw (s : St) : Bool := decide (s.kd = 1 ∨ s.kd = 12 ∨ s.kd = 13 ∨ s.kd = 14)
theorem raw_nil (w : World) : Calls Try.prog 10 #[.pointer none] w fun e w' => e = .returned (.bool false) ∧ w = w' := by
  go_enter Try.func10, Try.ntmps10
  go_wp2
  go_ret
  exact ⟨rfl, rfl⟩
theorem raw_any {B : Nat} {w : World} {b : Nat} {C : Nat → Prop} {S : Sn} (h : Fam B w C (S.dat b)) : Calls Try.prog 10 #[.pointer (some ⟨b, 0, none⟩)] w fun e w' => e = .returned (.bool (stRaw S.abs)) ∧ w = w' := by
  have hb := hd_at h
  have c2 : w.cell? ⟨b, 2, none⟩ = some (.int .i64 (S.kd : Int)) := by rw [cell_blk hb]; rfl
  obtain ⟨k, hk⟩ : ∃ k : Int, (S.kd : Int) = k := ⟨_, rfl⟩
  have e : stRaw S.abs = decide (k = 1 ∨ k = 12 ∨ k = 13 ∨ k = 14) := by
    unfold stRaw
    rw [Bool.eq_iff_iff]
    simp only [decide_eq_true_eq, ← hk]
    show (S.kd = 1 ∨ S.kd = 12 ∨ S.kd = 13 ∨ S.kd = 14) ↔ _
    omega
  rw [e]
  rw [hk] at c2
  clear e hk hb h
  have key : (k == 1) = true ∨ ((k == 1) = false ∧ (k == 12) = true) ∨ ((k == 1) = false ∧ (k == 12) = false ∧ (k == 13) = true) ∨ ((k == 1) = false ∧ (k == 12) = false ∧ (k == 13) = false ∧ (k == 14) = true) ∨ ((k == 1) = false ∧ (k == 12) = false ∧ (k == 13) = false ∧ (k == 14) = false) := by
    simp only [beq_iff_eq, beq_eq_false_iff_ne, ne_eq]
    omega
  rcases key with k1 | ⟨k1, k2⟩ | ⟨k1, k2, k3⟩ | ⟨k1, k2, k3, k4⟩ | ⟨k1, k2, k3, k4⟩
  all_goals
    go_enter Try.func10, Try.ntmps10
    go_wp2
    go_ret
    refine ⟨ret_bool ?_, rfl⟩
    simp_all
theorem deep_nil (w : World) : Calls Try.prog 14 #[.pointer none] w fun e w' => e = .returned (.int .i64 0) ∧ w = w' := by
  go_enter Try.func14, Try.ntmps14
  go_wp2
  go_ret
  exact ⟨rfl, rfl⟩
theorem deep_any {B : Nat} {w : World} {b : Nat} {C : Nat → Prop} {S : Sn} (h : Fam B w C (S.dat b)) : Calls Try.prog 14 #[.pointer (some ⟨b, 0, none⟩)] w fun e w' => e = .returned (.int .i64 (S.abs.lo.length : Int)) ∧ w = w' := by
  obtain ⟨g, cap, cur, hl, hB, hg, hn, hm, hcs, htk⟩ := lv_at h
  have hb := hd_at h
  have c0 : w.cell? ⟨b, 0, none⟩ = some S.lvv := by rw [cell_blk hb]; rfl
  rw [hl] at c0
  have e : S.abs.lo.length = S.lo.length := by simp [Sn.abs]
  rw [e]
  unfold maxLen at hm
  obtain ⟨n, hn'⟩ : ∃ n, S.lo.length = n := ⟨_, rfl⟩
  rw [hn'] at c0 hn ⊢
  have hi : IntKind.i64.wrap ((n : Int) + 1 - 1) = n := by
    rw [show (n : Int) + 1 - 1 = n by omega]; exact IntWalk.i64_in _ (by omega)
  clear h hb hg hl e hn' htk
  go_enter Try.func14, Try.ntmps14
  go_wp2
  go_ret
  refine ⟨ret_int ?_, rfl⟩
  first | rfl | omega | simp
def stClose (s : St) (cm : Nat) : Bool × St := if s.kd = 15 then (true, (s.add (.mk 6 ⟨#[]⟩ ⟨#[]⟩ [] cm)).turn 0) else (false, s)
def RetB (B : Nat) (w0 : World) (b : Nat) (C : Nat → Prop) (S : Sn) (r : Bool × St) (e : Ending) (w' : World) : Prop :=
  ∃ (C' : Nat → Prop) (S' : Sn), e = .returned (.bool r.1) ∧ Stp B w0 C (S.dat b) w' C' (S'.dat b) ∧ S'.abs = r.2
theorem close_nil (v : Value) (w : World) : Calls Try.prog 13 #[.pointer none, v] w fun e w' => e = .returned (.bool false) ∧ w = w' := by
  go_enter Try.func13, Try.ntmps13
  go_wp2
  go_ret
  exact ⟨rfl, rfl⟩
theorem close_any {B : Nat} {w : World} {b : Nat} {C : Nat → Prop} {S : Sn} (h : Fam B w C (S.dat b)) (hok : S.ok) (ca : Option Addr) (cm cc : Nat) :
    Calls Try.prog 13 #[.pointer (some ⟨b, 0, none⟩), .slice ca cm cc] w (RetB B w b C S (stClose S.abs cm)) := by
  have hb := hd_at h
  have c2 : w.cell? ⟨b, 2, none⟩ = some (.int .i64 (S.kd : Int)) := by rw [cell_blk hb]; rfl
  obtain ⟨k, hk⟩ : ∃ k : Int, (S.kd : Int) = k := ⟨_, rfl⟩
  have e : stClose S.abs cm = if k = 15 then (true, (S.abs.add (.mk 6 ⟨#[]⟩ ⟨#[]⟩ [] cm)).turn 0) else (false, S.abs) := by
    unfold stClose
    have : (S.abs.kd = 15) = (k = 15) := propext (by rw [← hk]; show S.kd = 15 ↔ _; omega)
    simp only [this]
  have HE := Lib.hid e
  have H := Lib.hid h
  have HOT := Lib.hid hok.tp
  rw [hk] at c2
  clear e hk hb h hok
  by_cases h15 : k = 15
  · have k15 : (k == 15) = true := by simpa using h15
    have n15 : (k != 15) = false := by simpa using h15
    have HE2 := Lib.hid (HE.out.trans (if_pos h15))
    clear HE h15
    go_enter Try.func13, Try.ntmps13
    go_wp2_with fail
    refine (add_any H.out (by have := HOT.out; omega) (by have := HOT.out; omega) 6 ⟨#[]⟩ ⟨#[]⟩ none 0 0 [] ca cm cc (.inl ⟨none, 0, rfl, rfl⟩)).mono ?_
    rintro e w' ⟨v1, v2, rfl, hs⟩
    have HS := Lib.hid hs
    clear hs
    go_wp2_with fail
    refine (turn_any HS.out.1 0 (by omega)).mono ?_
    rintro e w' ⟨rfl, hs⟩
    go_wp2
    go_ret
    rw [HE2.out]
    exact ⟨C, _, rfl, HS.out.trans hs, congrArg (fun s => St.turn s 0) (added_abs S (.mk 6 ⟨#[]⟩ ⟨#[]⟩ [] cm) v1 v2)⟩
  · have k15 : (k == 15) = false := by simpa using h15
    have n15 : (k != 15) = true := by simpa using h15
    have HE2 := Lib.hid (HE.out.trans (if_neg h15))
    clear HE h15
    go_enter Try.func13, Try.ntmps13
    go_wp2_with fail
    go_ret
    rw [HE2.out]
    exact ⟨C, S, rfl, Stp.refl H.out, rfl⟩
end Go.Proofs.Ytbmapjgajecgfaa

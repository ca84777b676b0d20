/-
  What is proved: what head does. Conditions: those of each theorem.
-/
import Derived.Test.YtbmapjgajecgfaaW20
set_option linter.unusedVariables false
set_option linter.unusedSimpArgs false
namespace Go.Proofs.Ytbmapjgajecgfaa
open Go.RowKit
def stHead (s : St) (c : UInt8) : Int × St := if c = 35 then (0, ({s with ln := true} : St).turn 6) else stParameter {s with ln := false} c
theorem head_any {B : Nat} {w : World} {b : Nat} {C : Nat → Prop} {S : Sn} (h : Fam B w C (S.dat b)) (c : UInt8) :
    Calls Try.prog 39 #[.pointer (some ⟨b, 0, none⟩), .int .u8 (c.toNat : Int)] w (Ret B w b C S (stHead S.abs c)) := by
  have hb := hd_at h
  have c9 : w.cell? ⟨b, 9, none⟩ = some (.bool S.ln) := by rw [cell_blk hb]; rfl
  have f9 := frz_blk hb 9
  have s1 : Stp B w C (S.dat b) (w.setCell ⟨b, 9, none⟩ (.bool false)) C (({S with ln := false} : Sn).dat b) := fset h 9 (.bool false) rfl (by funext t; cases t <;> rfl)
  have hb1 := hd_at s1.1
  have c9' : (w.setCell ⟨b, 9, none⟩ (.bool false)).cell? ⟨b, 9, none⟩ = some (.bool false) := by rw [cell_blk hb1]; rfl
  have f9' := frz_blk hb1 9
  have S1 := Lib.hid s1
  by_cases hc : c = 35
  · have s2 : Stp B w C (S.dat b) ((w.setCell ⟨b, 9, none⟩ (.bool false)).setCell ⟨b, 9, none⟩ (.bool true)) C (({S with ln := true} : Sn).dat b) := s1.trans (fset (S' := {S with ln := true}) s1.1 9 (.bool true) rfl (by funext t; cases t <;> rfl))
    have S2 := Lib.hid s2
    subst hc
    clear s1 s2 hb hb1 h
    go_enter Try.func39, Try.ntmps39
    go_wp2_with fail
    refine (goes_any S2.out.1 6 (by omega)).mono ?_
    rintro e w' ⟨rfl, hs⟩
    go_wp2
    go_ret
    exact ⟨C, _, rfl, S2.out.trans hs, rfl⟩
  · have hcb' : ((c.toNat : Int) == 35) = false := u8_ne (k := 35) (by omega) hc
    have HE : Hid (stHead S.abs c = stParameter {S.abs with ln := false} c) := Lib.hid (by unfold stHead; rw [if_neg hc])
    clear s1 hb hb1 h hc
    rw [HE.out]
    go_enter Try.func39, Try.ntmps39
    go_wp2_with fail
    refine (parameter_any S1.out.1 c).mono ?_
    rintro e w' ⟨C', S', rfl, hs, ha⟩
    go_wp2
    go_ret
    exact ⟨C', S', rfl, S1.out.trans hs, ha⟩
end Go.Proofs.Ytbmapjgajecgfaa

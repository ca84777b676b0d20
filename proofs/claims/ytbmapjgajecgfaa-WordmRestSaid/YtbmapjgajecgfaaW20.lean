/-
  What is proved: what hash does. Conditions: those of each theorem.
-/
import Derived.Test.YtbmapjgajecgfaaW19
set_option linter.unusedVariables false
set_option linter.unusedSimpArgs false
namespace Go.Proofs.Ytbmapjgajecgfaa
open Go.RowKit
theorem Ret.after {B : Nat} {w w1 : World} {b : Nat} {C C1 : Nat → Prop} {S S1 : Sn} {r : Int × St} {e : Ending} {w' : World} (h1 : Stp B w C (S.dat b) w1 C1 (S1.dat b)) (h : Ret B w1 b C1 S1 r e w') : Ret B w b C S r e w' := by
  obtain ⟨C', S', e1, e2, e3⟩ := h
  exact ⟨C', S', e1, h1.trans e2, e3⟩
def stHash (s : St) (c : UInt8) : Int × St := if c = 125 then (0, (s.add (.mk 5 ⟨#[35]⟩ ⟨#[]⟩ [] 0)).turn 0) else stParameter s c
theorem hash_any {B : Nat} {w : World} {b : Nat} {C : Nat → Prop} {S : Sn} (h : Fam B w C (S.dat b)) (hok : S.ok) (c : UInt8) :
    Calls Try.prog 40 #[.pointer (some ⟨b, 0, none⟩), .int .u8 (c.toNat : Int)] w (Ret B w b C S (stHash S.abs c)) := by
  have H := Lib.hid h
  have HO := Lib.hid hok.tp
  clear h hok
  by_cases hc : c = 125
  · subst hc
    go_enter Try.func40, Try.ntmps40
    go_wp2_with fail
    refine (add_any H.out (by have := HO.out; omega) (by have := HO.out; omega) 5 ⟨#[35]⟩ ⟨#[]⟩ none 0 0 [] none 0 0 (.inl ⟨none, 0, rfl, rfl⟩)).mono ?_
    rintro e w' ⟨v1, v2, rfl, hs⟩
    have HS := Lib.hid hs
    clear hs
    go_wp2_with fail
    refine (goes_any HS.out.1 0 (by omega)).mono ?_
    rintro e w' ⟨rfl, hs⟩
    go_wp2
    go_ret
    exact ⟨C, _, rfl, HS.out.trans hs, congrArg (fun s => St.turn s 0) (added_abs S (.mk 5 ⟨#[35]⟩ ⟨#[]⟩ [] 0) v1 v2)⟩
  · have hcb := u8_ne (k := 125) (by omega) hc
    have HE : Hid (stHash S.abs c = stParameter S.abs c) := Lib.hid (by unfold stHash; rw [if_neg hc])
    have hcb' : ((c.toNat : Int) == 125) = false := hcb
    clear hc hcb
    rw [HE.out]
    go_enter Try.func40, Try.ntmps40
    go_wp2_with fail
    refine (parameter_any H.out c).mono ?_
    rintro e w' ⟨C', S', rfl, hs, ha⟩
    go_wp2
    go_ret
    exact ⟨C', S', rfl, hs, ha⟩
end Go.Proofs.Ytbmapjgajecgfaa

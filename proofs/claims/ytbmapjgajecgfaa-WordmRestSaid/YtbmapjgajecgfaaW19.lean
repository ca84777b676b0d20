/-
  What is proved: what parameter does. Conditions: those of each theorem.
-/
import Derived.Test.YtbmapjgajecgfaaW18
set_option linter.unusedVariables false
set_option linter.unusedSimpArgs false
namespace Go.Proofs.Ytbmapjgajecgfaa
open Go.RowKit
def stParameter (s : St) (c : UInt8) : Int × St :=
  let t : St := {s with bu := [c]}
  if cls c.toNat = 4 then (0, t.turn 7) else if cls c.toNat = 3 then (0, t.turn 8) else if spc c.toNat = true then (0, t.turn 9) else (3, t.turn 17)
theorem parameter_any {B : Nat} {w : World} {b : Nat} {C : Nat → Prop} {S : Sn} (h : Fam B w C (S.dat b)) (c : UInt8) :
    Calls Try.prog 68 #[.pointer (some ⟨b, 0, none⟩), .int .u8 (c.toNat : Int)] w (Ret B w b C S (stParameter S.abs c)) := by
  have hb := hd_at h
  have hc255 := c.toNat_lt
  have c7 : (w.alloc (.cells #[.int .u8 (c.toNat : Int)] 5)).cell? ⟨b, 7, none⟩ = some S.buv := by rw [cell_blk (alloc_old hb _)]; rfl
  have f7 : (w.alloc (.cells #[.int .u8 (c.toNat : Int)] 5)).frozen? ⟨b, 7, none⟩ = false := frz_blk (alloc_old hb _) 7
  have S1 := Lib.hid (bu_one h c)
  have HCL := Lib.hid (class_any (c.toNat : Int))
  have HSP := Lib.hid (special_any (c.toNat : Int))
  obtain ⟨k, hk⟩ : ∃ k, cls (c.toNat : Int) = k := ⟨_, rfl⟩
  obtain ⟨p, hp⟩ : ∃ p, spc (c.toNat : Int) = p := ⟨_, rfl⟩
  have HE : Hid (stParameter S.abs c = (let t : St := {S.abs with bu := [c]}; if k = 4 then (0, t.turn 7) else if k = 3 then (0, t.turn 8) else if p = true then (0, t.turn 9) else (3, t.turn 17))) := Lib.hid (by unfold stParameter; rw [hk, hp])
  rw [hk] at HCL
  rw [hp] at HSP
  clear h hb hk hp
  go_enter Try.func68, Try.ntmps68
  go_wp2_with fail
  refine (HCL.out _ (by omega)).mono ?_
  rintro e w' ⟨rfl, rfl⟩
  by_cases h4 : k = 4
  · have HE4 : Hid (stParameter S.abs c = _) := Lib.hid (by rw [HE.out, if_pos h4])
    subst h4
    go_wp2_with fail
    refine (goes_any S1.out.1 7 (by omega)).mono ?_
    rintro e w' ⟨rfl, hs⟩
    go_wp2
    go_ret
    rw [HE4.out]
    exact ⟨C, _, rfl, S1.out.trans hs, rfl⟩
  · by_cases h3 : k = 3
    · have HE4 : Hid (stParameter S.abs c = _) := Lib.hid (by rw [HE.out, if_neg h4, if_pos h3])
      subst h3
      go_wp2_with fail
      refine (goes_any S1.out.1 8 (by omega)).mono ?_
      rintro e w' ⟨rfl, hs⟩
      go_wp2
      go_ret
      rw [HE4.out]
      exact ⟨C, _, rfl, S1.out.trans hs, rfl⟩
    · have k4 : (k == 4) = false := by simpa using h4
      have k3 : (k == 3) = false := by simpa using h3
      have HE4 : Hid (stParameter S.abs c = _) := Lib.hid (by rw [HE.out, if_neg h4, if_neg h3])
      clear h3 h4
      go_wp2_with fail
      refine (HSP.out _).mono ?_
      rintro e w' ⟨rfl, rfl⟩
      cases p with
      | true =>
        go_wp2_with fail
        refine (goes_any S1.out.1 9 (by omega)).mono ?_
        rintro e w' ⟨rfl, hs⟩
        go_wp2
        go_ret
        rw [HE4.out]
        exact ⟨C, _, rfl, S1.out.trans hs, rfl⟩
      | false =>
        go_wp2_with fail
        refine (wrong_any S1.out.1).mono ?_
        rintro e w' ⟨rfl, hs⟩
        go_wp2
        go_ret
        rw [HE4.out]
        exact ⟨C, _, rfl, S1.out.trans hs, rfl⟩
end Go.Proofs.Ytbmapjgajecgfaa

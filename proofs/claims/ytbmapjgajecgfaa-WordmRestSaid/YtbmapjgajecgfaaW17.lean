/-
  What is proved: what operator does. Conditions: those of each theorem.
-/
import Derived.Test.YtbmapjgajecgfaaW16
set_option linter.unusedVariables false
set_option linter.unusedSimpArgs false
namespace Go.Proofs.Ytbmapjgajecgfaa
open Go.RowKit
/-- operator: a level is opened behind a parameter. -/
theorem operator_any {B : Nat} {w : World} {b : Nat} {C : Nat → Prop} {S : Sn} (h : Fam B w C (S.dat b)) (hok : S.ok) (op : ByteArray) :
    Calls Try.prog 70 #[.pointer (some ⟨b, 0, none⟩), .string op] w (Pushed B w b C S 2 ⟨S.bu.toArray⟩ op) := by
  have hb := hd_at h
  have c7 : w.cell? ⟨b, 7, none⟩ = some S.buv := by rw [cell_blk hb]; rfl
  have hcv := conv_own (h.comp .bu : w.ownsRow B 5 1 S.buv S.bu.length (bv S.bu))
  obtain ⟨ba, bc, hbu⟩ := own_slice (h.comp .bu : w.ownsRow B 5 1 S.buv S.bu.length (bv S.bu))
  rw [hbu] at c7 hcv
  have H := Lib.hid h
  have HO := Lib.hid hok
  clear h hb hok hbu
  go_enter Try.func70, Try.ntmps70
  go_wp2_with fail
  refine (push_any H.out (by have := HO.out.1; omega) 2 ⟨S.bu.toArray⟩ op).mono ?_
  rintro e w' ⟨v, rfl, hs⟩
  go_wp2
  go_ret
  exact ⟨v, rfl, hs⟩
end Go.Proofs.Ytbmapjgajecgfaa

/-
  What is proved: what IndexByte, Special and single1 do. Conditions: those of each theorem.
-/
import Derived.Test.YtbmapjgajecgfaaW11
import Derived.Laws.StandIn
import Derived.Lib.Bytealg
set_option linter.unusedVariables false
set_option linter.unusedSimpArgs false
namespace Go.Proofs.Ytbmapjgajecgfaa
open Go.RowKit
theorem run_ixb (s : ByteArray) (c : Int) (w : World) : (callFunc 86 #[.string s, .int .u8 c]).run Try.prog w = .ok (.value (.int .i64 (Lib.indexByte s.data.toList c.toNat.toUInt8))) w := by
  rw [run_callFunc_indexByte Try.func86 (by kernel_rfl) (by kernel_rfl) (by kernel_rfl) (by kernel_rfl), Lib.run_indexByteString]
  rfl
theorem ixb71_any (s : ByteArray) (c : Int) (w : World) : Calls Try.prog 71 #[.string s, .int .u8 c] w fun e w' => e = .returned (.int .i64 (Lib.indexByte s.data.toList c.toNat.toUInt8)) ∧ w = w' := by
  have hr := run_ixb s c
  go_enter Try.func71, Try.ntmps71
  go_wp2
  go_ret
  exact ⟨rfl, rfl⟩
/-- Where a byte stands first in a text. -/
def ixb (s : ByteArray) (c : Int) : Int := Lib.indexByte s.data.toList c.toNat.toUInt8
theorem ixb_any (s : ByteArray) (c : Int) (w : World) : Calls Try.prog 50 #[.string s, .int .u8 c] w fun e w' => e = .returned (.int .i64 (ixb s c)) ∧ w = w' := by
  go_enter Try.func50, Try.ntmps50
  go_wp2_with fail
  refine (ixb71_any s c w).mono ?_
  rintro e w' ⟨rfl, rfl⟩
  go_wp2
  go_ret
  exact ⟨rfl, rfl⟩
def spc (c : Int) : Bool := decide (0 ≤ ixb ⟨#[64, 42, 35, 63, 45, 36, 33]⟩ c)
def one1 (c : Int) : Bool := decide (0 ≤ ixb ⟨#[45, 61, 63, 43]⟩ c)
theorem special_any (c : Int) (w : World) : Calls Try.prog 66 #[.int .u8 c] w fun e w' => e = .returned (.bool (spc c)) ∧ w = w' := by
  obtain ⟨x, hx⟩ : ∃ x, ixb ⟨#[64, 42, 35, 63, 45, 36, 33]⟩ c = x := ⟨_, rfl⟩
  have HX := Lib.hid hx
  clear hx
  go_enter Try.func66, Try.ntmps66
  go_wp2_with fail
  refine (ixb_any _ c w).mono ?_
  rintro e w' ⟨rfl, rfl⟩
  rw [HX.out]
  go_wp2
  go_ret
  exact ⟨ret_bool (by unfold spc; rw [HX.out]), rfl⟩
theorem single1_any (c : Int) (w : World) : Calls Try.prog 69 #[.int .u8 c] w fun e w' => e = .returned (.bool (one1 c)) ∧ w = w' := by
  obtain ⟨x, hx⟩ : ∃ x, ixb ⟨#[45, 61, 63, 43]⟩ c = x := ⟨_, rfl⟩
  have HX := Lib.hid hx
  clear hx
  go_enter Try.func69, Try.ntmps69
  go_wp2_with fail
  refine (ixb_any _ c w).mono ?_
  rintro e w' ⟨rfl, rfl⟩
  rw [HX.out]
  go_wp2
  go_ret
  exact ⟨ret_bool (by unfold one1; rw [HX.out]), rfl⟩
end Go.Proofs.Ytbmapjgajecgfaa

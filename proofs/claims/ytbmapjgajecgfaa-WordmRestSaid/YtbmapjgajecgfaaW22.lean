/-
  What is proved: what colon does. Conditions: those of each theorem.
-/
import Derived.Test.YtbmapjgajecgfaaW21
set_option linter.unusedVariables false
set_option linter.unusedSimpArgs false
namespace Go.Proofs.Ytbmapjgajecgfaa
open Go.RowKit
theorem conv_new {w : World} {q : Nat} (cs : List UInt8) (cap : Nat) (h : w.heap[q]? = some (.cells (bv cs).toArray 5 (0, 0))) : (Go.convert 51 9 (.slice (some ⟨q, 0, none⟩) cs.length cap)).run Try.prog w = Result.ok (Value.string ⟨cs.toArray⟩) w := by
  refine run_convert_bytes_back w 51 9 5 ⟨q, 0, none⟩ cap cs Try.underlying51 Try.underlying5 Try.underlying9 (fun j hj => ?_)
  have : (⟨q, 0, none⟩ : Addr).add j = ⟨q, j, none⟩ := by unfold Addr.add; split <;> simp_all
  rw [this, cell_blk h]
  simp [bv, hj]
def stColon (s : St) (c : UInt8) : Int × St := if one1 c.toNat = true then (0, s.push 2 ⟨s.bu.toArray⟩ ⟨#[58, c]⟩) else (3, s.turn 17)
theorem colon_any {B : Nat} {w : World} {b : Nat} {C : Nat → Prop} {S : Sn} (h : Fam B w C (S.dat b)) (hok : S.ok) (c : UInt8) :
    Calls Try.prog 43 #[.pointer (some ⟨b, 0, none⟩), .int .u8 (c.toNat : Int)] w (Ret B w b C S (stColon S.abs c)) := by
  have HP := Lib.hid (single1_any (c.toNat : Int))
  obtain ⟨p, hp⟩ : ∃ p, one1 (c.toNat : Int) = p := ⟨_, rfl⟩
  have HE : Hid (stColon S.abs c = if p = true then (0, S.abs.push 2 ⟨S.abs.bu.toArray⟩ ⟨#[58, c]⟩) else (3, S.abs.turn 17)) := Lib.hid (by unfold stColon; rw [hp])
  rw [hp] at HP
  have H := Lib.hid h
  have HO := Lib.hid hok
  have S1 := Lib.hid (Stp.nob h (Kept.alloc w (.cells #[.int .u8 58, .int .u8 (c.toNat : Int)] 5) nob))
  have hcv := conv_new [58, c] 2 (alloc_blk w (.cells #[.int .u8 58, .int .u8 (c.toNat : Int)] 5))
  have hcv' : (Go.convert 51 9 (.slice (some ⟨w.heap.size, 0, none⟩) 2 2)).run Try.prog (w.alloc (.cells #[.int .u8 58, .int .u8 (c.toNat : Int)] 5)) = Result.ok (Value.string ⟨#[58, c]⟩) (w.alloc (.cells #[.int .u8 58, .int .u8 (c.toNat : Int)] 5)) := hcv
  clear h hok hp hcv
  go_enter Try.func43, Try.ntmps43
  go_wp2_with fail
  refine (HP.out _).mono ?_
  rintro e w' ⟨rfl, rfl⟩
  cases p with
  | false =>
    go_wp2_with fail
    refine (wrong_any H.out).mono ?_
    rintro e w' ⟨rfl, hs⟩
    go_wp2
    go_ret
    rw [HE.out]
    exact ⟨C, _, rfl, hs, rfl⟩
  | true =>
    go_wp2_with fail
    refine (operator_any S1.out.1 HO.out ⟨#[58, c]⟩).mono ?_
    rintro e w' hs
    obtain ⟨C', S', rfl, e2, e3⟩ := Pushed.ret hs
    go_wp2
    go_ret
    rw [HE.out]
    exact ⟨C', S', rfl, S1.out.trans e2, e3⟩
end Go.Proofs.Ytbmapjgajecgfaa

/-
  What is proved: lemma: a text of one byte. Conditions: those of each theorem.
-/
import Derived.Test.YtbmapjgajecgfaaW17
set_option linter.unusedVariables false
set_option linter.unusedSimpArgs false
namespace Go.Proofs.Ytbmapjgajecgfaa
open Go.RowKit
/-- The machine's text is set to one byte. -/
theorem bu_one {B : Nat} {w : World} {b : Nat} {C : Nat → Prop} {S : Sn} (h : Fam B w C (S.dat b)) (c : UInt8) :
    Stp B w C (S.dat b) ((w.alloc (.cells #[.int .u8 (c.toNat : Int)] 5)).setCell ⟨b, 7, none⟩ (.slice (some ⟨w.heap.size, 0, none⟩) 1 1)) C (({S with bu := [c], buv := .slice (some ⟨w.heap.size, 0, none⟩) 1 1} : Sn).dat b) := by
  have hBw : B ≤ w.heap.size := by have := h.bnd b (.inr ⟨.hd, rfl⟩); omega
  have s1 := Stp.one h .bu (.row 5 1 (.slice (some ⟨w.heap.size, 0, none⟩) 1 1) 1 [.int .u8 (c.toNat : Int)]) (Kept.alloc w (.cells #[.int .u8 (c.toNat : Int)] 5) _)
    ⟨rfl, .inr ⟨w.heap.size, 1, #[.int .u8 (c.toNat : Int)], rfl, hBw, alloc_blk w _, Nat.le_refl _, by unfold maxLen; omega, rfl, rfl⟩⟩ (fun k hk => by
      obtain rfl : w.heap.size = k := by simpa [Dat.blk, Value.ownBlock] using hk
      exact ⟨.inr (Nat.le_refl _), by simp⟩) hBw
  have s2 := Stp.setHead s1.1 (t := .hd) (b := b) (ty := 53) (cs := S.head b (nextv b S.kd)) (by rw [upd_ne (by simp)]; rfl) 7 (.slice (some ⟨w.heap.size, 0, none⟩) 1 1)
  refine Eq.mp (congrArg (fun D => Stp B w C (S.dat b) _ C D) ?_) (s1.trans s2)
  funext t
  cases t <;> simp [upd] <;> rfl
end Go.Proofs.Ytbmapjgajecgfaa

/-
  What is proved: what opened does. Conditions: those of each theorem.
-/
import Derived.Test.YtbmapjgajecgfaaW13
set_option linter.unusedVariables false
set_option linter.unusedSimpArgs false
namespace Go.Proofs.Ytbmapjgajecgfaa
open Go.RowKit
theorem hd_at {B : Nat} {w : World} {b : Nat} {C : Nat → Prop} {S : Sn} (h : Fam B w C (S.dat b)) : w.heap[b]? = some (.cells (S.head b (nextv b S.kd)) 53 (0, 0)) := h.comp .hd
/-- Fields of the machine itself are written. -/
theorem fset {B : Nat} {w : World} {b : Nat} {C : Nat → Prop} {S S' : Sn} (h : Fam B w C (S.dat b)) (j : Nat) (v : Value) (hh : (S.head b (nextv b S.kd)).setIfInBounds j v = S'.head b (nextv b S'.kd)) (hs : upd (S.dat b) .hd (.head b 53 (S'.head b (nextv b S'.kd))) = S'.dat b) :
    Stp B w C (S.dat b) (w.setCell ⟨b, j, none⟩ v) C (S'.dat b) :=
  head_step h (Kept.setCell w ⟨b, j, none⟩ v) (by rw [set_blk (hd_at h), hh]) hs
/-- A list of the machine's is emptied. -/
theorem bu_nil {B : Nat} {w : World} {b : Nat} {C : Nat → Prop} {S : Sn} (h : Fam B w C (S.dat b)) : Stp B w C (S.dat b) (w.setCell ⟨b, 7, none⟩ (.slice none 0 0)) C (({S with bu := [], buv := .slice none 0 0} : Sn).dat b) := by
  have hBw : B ≤ w.heap.size := by have := h.bnd b (.inr ⟨.hd, rfl⟩); omega
  have s1 := Stp.one h .bu (.row 5 1 (.slice none 0 0) 0 []) (Kept.refl _ _) (World.ownsRow_nil _ _ _ _) (fun k hk => by cases hk) hBw
  have s2 := Stp.setHead s1.1 (t := .hd) (b := b) (ty := 53) (cs := S.head b (nextv b S.kd)) (by rw [upd_ne (by simp)]; rfl) 7 (.slice none 0 0)
  refine Eq.mp (congrArg (fun D => Stp B w C (S.dat b) _ C D) ?_) (s1.trans s2)
  funext t
  cases t <;> simp [upd] <;> rfl
def stOpened (s : St) (c : UInt8) : Int × St := if c = 40 then (0, {s with bu := [], dp := 0, kd := 13}) else (2, {s with kd := 15})
theorem opened_any {B : Nat} {w : World} {b : Nat} {C : Nat → Prop} {S : Sn} (h : Fam B w C (S.dat b)) (c : UInt8) :
    Calls Try.prog 37 #[.pointer (some ⟨b, 0, none⟩), .int .u8 (c.toNat : Int)] w (Ret B w b C S (stOpened S.abs c)) := by
  by_cases hc : c = 40
  · subst hc
    have hb := hd_at h
    have c7 : w.cell? ⟨b, 7, none⟩ = some S.buv := by rw [cell_blk hb]; rfl
    have f7 := frz_blk hb 7
    have s1 := bu_nil h
    have hb1 := hd_at s1.1
    have c8 : (w.setCell ⟨b, 7, none⟩ (.slice none 0 0)).cell? ⟨b, 8, none⟩ = some (.int .i64 S.dp) := by rw [cell_blk hb1]; rfl
    have f8 := frz_blk hb1 8
    have s2 := s1.trans (fset (S' := {S with bu := [], buv := .slice none 0 0, dp := 0}) s1.1 8 (.int .i64 0) rfl (by funext t; cases t <;> rfl))
    have S2 := Lib.hid s2
    clear s1 s2 hb hb1 h
    go_enter Try.func37, Try.ntmps37
    go_wp2_with fail
    refine (goes_any S2.out.1 13 (by omega)).mono ?_
    rintro e w' ⟨rfl, hs⟩
    go_wp2
    go_ret
    exact ⟨C, _, rfl, S2.out.trans hs, rfl⟩
  · have hcb : ((c.toNat : Int) == 40) = false := by
      simp only [beq_eq_false_iff_ne, ne_eq]
      intro e
      exact hc (UInt8.toNat_inj.1 (by have : c.toNat = 40 := by omega
                                      rw [this]; rfl))
    have H := Lib.hid h
    have HC := Lib.hid hc
    clear h hc
    go_enter Try.func37, Try.ntmps37
    go_wp2_with fail
    refine (turn_any H.out 15 (by omega)).mono ?_
    rintro e w' ⟨rfl, hs⟩
    go_wp2
    go_ret
    exact ⟨C, _, by simp [stOpened, HC.out], hs, by simp [stOpened, HC.out]; rfl⟩
end Go.Proofs.Ytbmapjgajecgfaa

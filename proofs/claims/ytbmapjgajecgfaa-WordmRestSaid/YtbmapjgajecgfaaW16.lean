/-
  What is proved: what arithEnd does. Conditions: those of each theorem.
-/
import Derived.Test.YtbmapjgajecgfaaW15
set_option linter.unusedVariables false
set_option linter.unusedSimpArgs false
namespace Go.Proofs.Ytbmapjgajecgfaa
open Go.RowKit
theorem u8_ne {c : UInt8} {k : Nat} (hk : k < 256) (h : c ≠ k.toUInt8) : ((c.toNat : Int) == (k : Int)) = false := by
  simp only [beq_eq_false_iff_ne, ne_eq]
  intro e
  refine h (UInt8.toNat_inj.1 ?_)
  have : c.toNat = k := by omega
  rw [this]
  simp; omega
/-- Every list of the machine's is of a length that memory bears. -/
def Sn.ok (S : Sn) : Prop := S.lo.length ≤ 90000 ∧ S.tk.length ≤ 90000 ∧ S.pl.length ≤ 90000 ∧ S.bu.length ≤ 90000 ∧ ∀ l ∈ S.all, l.li.length ≤ 90000 ∧ l.ps.length ≤ 90000
theorem Sn.ok.tp {S : Sn} (h : S.ok) : S.tp.li.length ≤ 90000 ∧ S.tp.ps.length ≤ 90000 := h.2.2.2.2 S.tp (by simp [Sn.all])
def stArithEnd (s : St) (c : UInt8) : Int × St := if c = 41 then (0, (s.add (.mk 7 ⟨s.bu.toArray⟩ ⟨#[]⟩ [] 0)).turn 0) else (3, s.turn 17)
theorem arithEnd_any {B : Nat} {w : World} {b : Nat} {C : Nat → Prop} {S : Sn} (h : Fam B w C (S.dat b)) (hok : S.ok) (c : UInt8) :
    Calls Try.prog 47 #[.pointer (some ⟨b, 0, none⟩), .int .u8 (c.toNat : Int)] w (Ret B w b C S (stArithEnd S.abs c)) := by
  by_cases hc : c = 41
  · subst hc
    have hb := hd_at h
    have c7 : w.cell? ⟨b, 7, none⟩ = some S.buv := by rw [cell_blk hb]; rfl
    have hcv := conv_own (h.comp .bu : w.ownsRow B 5 1 S.buv S.bu.length (bv S.bu))
    have H := Lib.hid h
    have HO := Lib.hid hok.tp
    obtain ⟨ba, bc, hbu⟩ := own_slice (h.comp .bu : w.ownsRow B 5 1 S.buv S.bu.length (bv S.bu))
    rw [hbu] at c7 hcv
    clear h hb hok hbu
    go_enter Try.func47, Try.ntmps47
    go_wp2_with fail
    refine (add_any H.out (by have := HO.out; omega) (by have := HO.out; omega) 7 ⟨S.bu.toArray⟩ ⟨#[]⟩ none 0 0 [] none 0 0 (.inl ⟨none, 0, rfl, rfl⟩)).mono ?_
    rintro e w' ⟨v1, v2, rfl, hs⟩
    have HS := Lib.hid hs
    clear hs
    go_wp2_with fail
    refine (goes_any HS.out.1 0 (by omega)).mono ?_
    rintro e w' ⟨rfl, hs⟩
    go_wp2
    go_ret
    refine ⟨C, _, rfl, HS.out.trans hs, ?_⟩
    exact congrArg (fun s => St.turn s 0) (added_abs S (.mk 7 ⟨S.bu.toArray⟩ ⟨#[]⟩ [] 0) v1 v2)
  · have hcb := u8_ne (k := 41) (by omega) hc
    have hcn : ((c.toNat : Int) != 41) = true := by
      have : ((c.toNat : Int) == 41) = false := hcb
      simp only [bne, this]; rfl
    have H := Lib.hid h
    have HC := Lib.hid hc
    clear h hc hok hcb
    go_enter Try.func47, Try.ntmps47
    go_wp2_with fail
    refine (wrong_any H.out).mono ?_
    rintro e w' ⟨rfl, hs⟩
    go_wp2
    go_ret
    exact ⟨C, _, by simp [stArithEnd, HC.out], hs, by simp [stArithEnd, HC.out]; rfl⟩
end Go.Proofs.Ytbmapjgajecgfaa

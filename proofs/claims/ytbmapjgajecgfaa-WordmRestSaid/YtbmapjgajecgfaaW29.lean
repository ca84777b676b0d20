/-
  What is proved: what again does. Conditions: those of each theorem.
-/
import Derived.Test.YtbmapjgajecgfaaW28
set_option linter.unusedVariables false
set_option linter.unusedSimpArgs false
namespace Go.Proofs.Ytbmapjgajecgfaa
open Go.RowKit
def St.all (s : St) : List Lvl := s.lo ++ [s.tp]
/-- No list of a machine's is longer than so many. -/
def St.lim (n : Nat) (s : St) : Prop := s.lo.length ≤ n ∧ s.tk.length ≤ n ∧ s.pl.length ≤ n ∧ s.bu.length ≤ n ∧ (∀ l ∈ s.all, l.li.length ≤ n ∧ l.ps.length ≤ n) ∧ 0 ≤ s.dp ∧ s.dp ≤ n
/-- The first level is the word's own, no other is. -/
def St.wf (s : St) : Prop := ∃ l r, s.all = l :: r ∧ l.wh = 0 ∧ ∀ x ∈ r, x.wh = 1 ∨ x.wh = 2
theorem abs_all (S : Sn) : S.abs.all = S.all.map LvM.abs := by simp [St.all, Sn.all, Sn.abs]
theorem St.lim.mono {n m : Nat} {s : St} (h : s.lim n) (hm : n ≤ m) : s.lim m := by
  obtain ⟨h1, h2, h3, h4, h5, h6, h7⟩ := h
  exact ⟨by omega, by omega, by omega, by omega, fun l hl => by have := h5 l hl; omega, h6, by omega⟩
theorem ok_of {S : Sn} {n : Nat} (h : S.abs.lim n) (hn : n ≤ 90000) : S.ok := by
  obtain ⟨h1, h2, h3, h4, h5, _⟩ := h.mono hn
  refine ⟨by simpa [Sn.abs] using h1, h2, h3, h4, fun l hl => ?_⟩
  exact h5 l.abs (by rw [abs_all]; exact List.mem_map_of_mem hl)
theorem wf_of {S : Sn} (h : S.abs.wf) : S.wf := by
  obtain ⟨l, r, h1, h2, h3⟩ := h
  rw [abs_all] at h1
  unfold Sn.all at h1
  rcases hlo : S.lo with _ | ⟨x, t⟩
  · rw [hlo] at h1
    simp at h1
    exact .inl ⟨hlo, by rw [← h2, ← h1.1]; rfl⟩
  · rw [hlo] at h1
    simp at h1
    refine .inr ⟨by simp [hlo], ?_⟩
    have := h3 S.tp.abs (by rw [← h1.2]; simp)
    exact this
theorem ex_step {B : Nat} {w : World} {b : Nat} {C : Nat → Prop} {S : Sn} (h : Fam B w C (S.dat b)) : Stp B w C (S.dat b) (w.setCell ⟨b, 5, none⟩ (.bool true)) C (({S with ex := true} : Sn).dat b) :=
  fset (S' := {S with ex := true}) h 5 (.bool true) rfl (by funext t; cases t <;> rfl)
theorem ret_get {B : Nat} {w w' : World} {b : Nat} {C : Nat → Prop} {S : Sn} {r : Int × St} {e : Ending} (h : Ret B w b C S r e w') : ∃ (C' : Nat → Prop) (S' : Sn), e = .returned (.int .i64 r.1) ∧ Stp B w C (S.dat b) w' C' (S'.dat b) ∧ S'.abs = r.2 := h
set_option maxRecDepth 100000 in
theorem again_text {B : Nat} {w : World} {b : Nat} {C : Nat → Prop} {S : Sn} (h : Fam B w C (S.dat b)) (hl : S.abs.lim 90000) (hwf : S.abs.wf) (c : UInt8) :
    Calls Try.prog 67 #[.pointer (some ⟨b, 0, none⟩), .int .i64 0, .int .u8 (c.toNat : Int)] w (Ret B w b C S (stText (S.abs.turn 0) c)) := by
  have H := Lib.hid h
  have HO := Lib.hid (ok_of hl (Nat.le_refl _))
  have HW := Lib.hid (wf_of hwf)
  clear h hl hwf
  go_enter Try.func67, Try.ntmps67
  go_wp2_with fail
  refine (turn_any H.out 0 (by omega)).mono ?_
  rintro e w' ⟨rfl, hs⟩
  have HS := Lib.hid hs
  have hb := hd_at hs.1
  have c1 : w'.cell? ⟨b, 1, none⟩ = some (.func (.func 34) #[.pointer (some ⟨b, 0, none⟩)] #[]) := by rw [cell_blk hb]; rfl
  clear hs hb
  go_wp2_with fail
  refine (text_any HS.out.1 HO.out HW.out c).mono ?_
  rintro e w2 hr
  obtain ⟨C', S', rfl, h2, h3⟩ := ret_get hr
  go_wp2
  go_ret
  exact ⟨C', S', rfl, HS.out.trans h2, h3⟩
set_option maxRecDepth 100000 in
theorem again_behind {B : Nat} {w : World} {b : Nat} {C : Nat → Prop} {S : Sn} (h : Fam B w C (S.dat b)) (hl : S.abs.lim 90000) (c : UInt8) :
    Calls Try.prog 67 #[.pointer (some ⟨b, 0, none⟩), .int .i64 9, .int .u8 (c.toNat : Int)] w (Ret B w b C S (stBehind (S.abs.turn 9) c)) := by
  have H := Lib.hid h
  have HO := Lib.hid (ok_of hl (Nat.le_refl _))
  clear h hl
  go_enter Try.func67, Try.ntmps67
  go_wp2_with fail
  refine (turn_any H.out 9 (by omega)).mono ?_
  rintro e w' ⟨rfl, hs⟩
  have HS := Lib.hid hs
  have hb := hd_at hs.1
  have c1 : w'.cell? ⟨b, 1, none⟩ = some (.func (.func 42) #[.pointer (some ⟨b, 0, none⟩)] #[]) := by rw [cell_blk hb]; rfl
  clear hs hb
  go_wp2_with fail
  refine (behind_any HS.out.1 HO.out c).mono ?_
  rintro e w2 hr
  obtain ⟨C', S', rfl, h2, h3⟩ := ret_get hr
  go_wp2
  go_ret
  exact ⟨C', S', rfl, HS.out.trans h2, h3⟩
end Go.Proofs.Ytbmapjgajecgfaa

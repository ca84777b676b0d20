/-
  What is proved: what double does. Conditions: those of each theorem.
-/
import Derived.Test.YtbmapjgajecgfaaW31
set_option linter.unusedVariables false
set_option linter.unusedSimpArgs false
namespace Go.Proofs.Ytbmapjgajecgfaa
open Go.RowKit
def St.cok (s : St) : Prop := 0 ≤ s.cu ∧ s.cu ≤ 255
def stDouble (s : St) (c : UInt8) : Int × St :=
  if (c.toNat : Int) = s.cu then (0, s.push 2 ⟨s.bu.toArray⟩ ⟨#[c, c]⟩) else stText (s.push 2 ⟨s.bu.toArray⟩ ⟨#[s.cu.toNat.toUInt8]⟩) c
set_option maxRecDepth 100000 in
set_option maxHeartbeats 8000000 in
theorem double_any {B : Nat} {w : World} {b : Nat} {C : Nat → Prop} {S : Sn} (h : Fam B w C (S.dat b)) (hl : S.abs.lim 80000) (hwf : S.abs.wf) (hc : S.abs.cok) (c : UInt8) :
    Calls Try.prog 44 #[.pointer (some ⟨b, 0, none⟩), .int .u8 (c.toNat : Int)] w (Ret B w b C S (stDouble S.abs c)) := by
  have hb := hd_at h
  have c10 : w.cell? ⟨b, 10, none⟩ = some (.int .u8 S.cu) := by rw [cell_blk hb]; rfl
  have H := Lib.hid h
  have HL := Lib.hid hl
  have HW := Lib.hid hwf
  have HO := Lib.hid (ok_of hl (by omega))
  have HC := Lib.hid hc
  have hc255 := c.toNat_lt
  obtain ⟨d, hd⟩ : ∃ d : UInt8, (d.toNat : Int) = S.cu := by
    have hcu : 0 ≤ S.cu ∧ S.cu ≤ 255 := hc
    exact ⟨S.cu.toNat.toUInt8, by simp; omega⟩
  obtain ⟨y, hy⟩ : ∃ y, S.cu = y := ⟨_, rfl⟩
  have hdt : S.abs.cu.toNat.toUInt8 = d := by
    show S.cu.toNat.toUInt8 = d
    rw [← hd]; simp
  have HD : Hid ((d.toNat : Int) = y) := Lib.hid (by rw [hd, hy])
  have hcy : S.abs.cu = y := hy
  have HE : Hid (stDouble S.abs c = (if (c.toNat : Int) = y then (0, S.abs.push 2 ⟨S.abs.bu.toArray⟩ ⟨#[c, c]⟩) else stText (S.abs.push 2 ⟨S.abs.bu.toArray⟩ ⟨#[d]⟩) c)) := Lib.hid (by unfold stDouble; rw [hdt, hcy])
  rw [hy] at c10
  obtain ⟨z, hz⟩ : ∃ z : Int, (c.toNat : Int) = z := ⟨_, rfl⟩
  have hzl : 0 ≤ z := by omega
  have hzh : z ≤ 255 := by omega
  have HZ := Lib.hid hz
  have HT : Hid (∀ {w : World} {S : Sn}, Fam B w C (S.dat b) → S.abs.lim 90000 → S.abs.wf → Calls Try.prog 34 #[.pointer (some ⟨b, 0, none⟩), .int .u8 (c.toNat : Int)] w (Ret B w b C S (stText S.abs c))) := Lib.hid (fun h hl hw => text_any h (ok_of hl (Nat.le_refl _)) (wf_of hw) c)
  rw [hz] at HE HT ⊢
  clear h hl hwf hc hb hc255 hd hy hdt hcy hz
  by_cases hA : z = y
  · have HE2 : Hid (stDouble S.abs c = _) := Lib.hid (HE.out.trans (if_pos hA))
    have zy : (z == y) = true := by simpa using hA
    have S1 := Lib.hid (Stp.nob H.out (Kept.alloc w (.cells #[.int .u8 z, .int .u8 z] 5) nob))
    have hcv := conv_new [c, c] 2 (alloc_blk w (.cells #[.int .u8 (c.toNat : Int), .int .u8 (c.toNat : Int)] 5))
    rw [HZ.out] at hcv
    have hcv' : (Go.convert 51 9 (.slice (some ⟨w.heap.size, 0, none⟩) 2 2)).run Try.prog (w.alloc (.cells #[.int .u8 z, .int .u8 z] 5)) = Result.ok (Value.string ⟨#[c, c]⟩) (w.alloc (.cells #[.int .u8 z, .int .u8 z] 5)) := hcv
    clear hcv HE hA
    go_enter Try.func44, Try.ntmps44
    go_wp2_with fail
    refine (operator_any S1.out.1 HO.out ⟨#[c, c]⟩).mono ?_
    rintro e w' hs
    obtain ⟨C', S', rfl, e2, e3⟩ := Pushed.ret hs
    go_wp2
    go_ret
    rw [HE2.out]
    exact ⟨C', S', rfl, S1.out.trans e2, e3⟩
  · have HE2 := Lib.hid (HE.out.trans (if_neg hA))
    have zy : (z == y) = false := by simpa using hA
    have S1 := Lib.hid (Stp.nob H.out (Kept.alloc w (.cells #[.int .u8 y] 5) nob))
    have hcv := conv_new [d] 1 (alloc_blk w (.cells #[.int .u8 (d.toNat : Int)] 5))
    rw [HD.out] at hcv
    have hcv' : (Go.convert 51 9 (.slice (some ⟨w.heap.size, 0, none⟩) 1 1)).run Try.prog (w.alloc (.cells #[.int .u8 y] 5)) = Result.ok (Value.string ⟨#[d]⟩) (w.alloc (.cells #[.int .u8 y] 5)) := hcv
    clear hcv HE hA
    go_enter Try.func44, Try.ntmps44
    go_wp2_with fail
    refine (operator_any S1.out.1 HO.out ⟨#[d]⟩).mono ?_
    rintro e w' ⟨v, rfl, hs⟩
    have HS := Lib.hid (S1.out.trans hs)
    have hb := hd_at hs.1
    have c1 : w'.cell? ⟨b, 1, none⟩ = some (.func (.func 34) #[.pointer (some ⟨b, 0, none⟩)] #[]) := by rw [cell_blk hb]; rfl
    have ea : ({S with lo := S.lo ++ [S.tp], tp := LvM.new 2 ⟨S.bu.toArray⟩ ⟨#[d]⟩, lvv := v, kd := 0} : Sn).abs = S.abs.push 2 ⟨S.abs.bu.toArray⟩ ⟨#[d]⟩ := by simp [Sn.abs, St.push, LvM.abs, LvM.new]
    have EA := Lib.hid ea
    clear hs hb ea
    go_wp2_with fail
    refine (HT.out HS.out.1 (by rw [EA.out]; exact (push_lim HL.out _ _ _).mono (by omega)) (by rw [EA.out]; exact push_wf HW.out (.inr rfl) _ _)).mono ?_
    rw [EA.out]
    rintro e w2 hr
    obtain ⟨C', S', rfl, h2, h3⟩ := ret_get hr
    go_wp2
    go_ret
    rw [HE2.out]
    exact ⟨C', S', rfl, HS.out.trans h2, h3⟩
def esc4 (c : Int) : Bool := decide (ixb ⟨#[36, 96, 34, 92]⟩ c < 0)
def stEscaped (s : St) (c : UInt8) : Int × St :=
  if c = 0 ∨ c = 10 then (3, s.turn 17) else if s.tp.wh = 1 ∧ esc4 c.toNat = true then (0, (s.lit [92, c]).turn 0)
  else (0, (({s with tk := s.tk ++ [c]} : St).add (.mk 2 ⟨#[c]⟩ ⟨#[]⟩ [] 0)).turn 0)
end Go.Proofs.Ytbmapjgajecgfaa

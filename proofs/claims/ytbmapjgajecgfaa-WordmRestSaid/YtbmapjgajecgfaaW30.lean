/-
  What is proved: what dollar does. Conditions: those of each theorem.
-/
import Derived.Test.YtbmapjgajecgfaaW29
set_option linter.unusedVariables false
set_option linter.unusedSimpArgs false
namespace Go.Proofs.Ytbmapjgajecgfaa
open Go.RowKit
def stDollar (s : St) (c : UInt8) : Int × St :=
  if c = 123 then (0, {s with ex := true, kd := 5}) else if c = 40 then (0, {s with ex := true, kd := 3}) else if cls c.toNat = 4 then (0, {s with ex := true, bu := [c], kd := 4})
  else if cls c.toNat = 3 ∨ spc c.toNat = true then (0, (({s with ex := true} : St).add (.mk 5 ⟨#[c]⟩ ⟨#[]⟩ [] 0)).turn 0) else stText ((s.lit [36]).turn 0) c
theorem lit_lim {s : St} {n : Nat} (h : s.lim n) (c : UInt8) : (s.lit [c]).lim (n + 1) := by
  obtain ⟨h1, h2, h3, h4, h5, h6, h7⟩ := h
  refine ⟨by show s.lo.length ≤ _; omega, by simp [St.lit]; omega, by show s.pl.length ≤ _; omega, by show s.bu.length ≤ _; omega, fun l hl => ?_, h6, by show s.dp ≤ _; omega⟩
  have hx : l ∈ s.lo ∨ l = {s.tp with li := s.tp.li ++ [c]} := by simpa [St.all, St.lit] using hl
  rcases hx with hx | rfl
  · have := h5 l (by simp [St.all, hx]); omega
  · have := h5 s.tp (by simp [St.all])
    exact ⟨by simp; omega, by show s.tp.ps.length ≤ _; omega⟩
theorem lit_wf {s : St} (h : s.wf) (bs : List UInt8) : (s.lit bs).wf := by
  obtain ⟨l, r, h1, h2, h3⟩ := h
  rcases hlo : s.lo with _ | ⟨x, t⟩
  · unfold St.all at h1
    rw [hlo] at h1
    simp at h1
    exact ⟨{s.tp with li := s.tp.li ++ bs}, [], by simp [St.all, St.lit, hlo], by rw [← h2, ← h1.1], fun x hx => by cases hx⟩
  · unfold St.all at h1
    rw [hlo] at h1
    simp at h1
    refine ⟨l, t ++ [{s.tp with li := s.tp.li ++ bs}], by simp [St.all, St.lit, hlo, h1.1], h2, fun y hy => ?_⟩
    have hy' : y ∈ t ∨ y = {s.tp with li := s.tp.li ++ bs} := by simpa using hy
    rcases hy' with hy | rfl
    · exact h3 y (by rw [← h1.2]; simp [hy])
    · exact h3 s.tp (by rw [← h1.2]; simp)
set_option maxRecDepth 100000 in
set_option maxHeartbeats 8000000 in
theorem dollar_any {B : Nat} {w : World} {b : Nat} {C : Nat → Prop} {S : Sn} (h : Fam B w C (S.dat b)) (hl : S.abs.lim 80000) (hwf : S.abs.wf) (c : UInt8) :
    Calls Try.prog 36 #[.pointer (some ⟨b, 0, none⟩), .int .u8 (c.toNat : Int)] w (Ret B w b C S (stDollar S.abs c)) := by
  have hb := hd_at h
  have c5 : w.cell? ⟨b, 5, none⟩ = some (.bool S.ex) := by rw [cell_blk hb]; rfl
  have f5 := frz_blk hb 5
  have H := Lib.hid h
  have HL := Lib.hid hl
  have hok := ok_of hl (by omega)
  have HO := Lib.hid hok
  have HOT := Lib.hid hok.tp
  have HW := Lib.hid hwf
  have hc255 := c.toNat_lt
  have HCL := Lib.hid (class_any (c.toNat : Int))
  have HSP := Lib.hid (special_any (c.toNat : Int))
  have HAG : Hid (∀ {w : World} {S : Sn}, Fam B w C (S.dat b) → S.abs.lim 90000 → S.abs.wf → Calls Try.prog 67 #[.pointer (some ⟨b, 0, none⟩), .int .i64 0, .int .u8 (c.toNat : Int)] w (Ret B w b C S (stText (S.abs.turn 0) c))) := Lib.hid (fun h hl hw => again_text h hl hw c)
  obtain ⟨k, hk⟩ : ∃ k, cls (c.toNat : Int) = k := ⟨_, rfl⟩
  obtain ⟨p, hp⟩ : ∃ p, spc (c.toNat : Int) = p := ⟨_, rfl⟩
  have HE : Hid (stDollar S.abs c = (if c = 123 then (0, {S.abs with ex := true, kd := 5}) else if c = 40 then (0, {S.abs with ex := true, kd := 3}) else if k = 4 then (0, {S.abs with ex := true, bu := [c], kd := 4})
    else if k = 3 ∨ p = true then (0, (({S.abs with ex := true} : St).add (.mk 5 ⟨#[c]⟩ ⟨#[]⟩ [] 0)).turn 0) else stText ((S.abs.lit [36]).turn 0) c)) := Lib.hid (by subst hk; subst hp; rfl)
  rw [hk] at HCL
  rw [hp] at HSP
  obtain ⟨z, hz⟩ : ∃ z : Int, (c.toNat : Int) = z := ⟨_, rfl⟩
  have hzl : 0 ≤ z := by omega
  have hzh : z ≤ 255 := by omega
  have HZ := Lib.hid hz
  rw [hz] at HCL HSP HAG ⊢
  have S1 := Lib.hid (ex_step h)
  have hbl := lt_blk hb
  have HB := Lib.hid hb
  clear h hl hwf hok hz hc255 hk hp hb
  have HBL := Lib.hid hbl
  clear hbl
  by_cases h123 : c = 123
  · have z123 : (z == 123) = true := z_eq HZ.out (k := 123) (by omega) h123
    have HE2 : Hid (stDollar S.abs c = _) := Lib.hid (HE.out.trans (if_pos h123))
    clear HE h123
    go_enter Try.func36, Try.ntmps36
    go_wp2_with fail
    refine (HCL.out _ ⟨hzl, hzh⟩).mono ?_
    rintro e w' ⟨rfl, rfl⟩
    go_wp2_with fail
    refine (goes_any S1.out.1 5 (by omega)).mono ?_
    rintro e w' ⟨rfl, hs⟩
    go_wp2
    go_ret
    rw [HE2.out]
    exact ⟨C, _, rfl, S1.out.trans hs, rfl⟩
  have z123 : (z == 123) = false := z_ne HZ.out (k := 123) (by omega) h123
  have HE1 := Lib.hid (HE.out.trans (if_neg h123))
  clear HE h123
  by_cases h40 : c = 40
  · have z40 : (z == 40) = true := z_eq HZ.out (k := 40) (by omega) h40
    have HE2 : Hid (stDollar S.abs c = _) := Lib.hid (HE1.out.trans (if_pos h40))
    clear HE1 h40
    go_enter Try.func36, Try.ntmps36
    go_wp2_with fail
    refine (HCL.out _ ⟨hzl, hzh⟩).mono ?_
    rintro e w' ⟨rfl, rfl⟩
    go_wp2_with fail
    refine (goes_any S1.out.1 3 (by omega)).mono ?_
    rintro e w' ⟨rfl, hs⟩
    go_wp2
    go_ret
    rw [HE2.out]
    exact ⟨C, _, rfl, S1.out.trans hs, rfl⟩
  have z40 : (z == 40) = false := z_ne HZ.out (k := 40) (by omega) h40
  have HE2 := Lib.hid (HE1.out.trans (if_neg h40))
  clear HE1 h40
  by_cases h4 : k = 4
  · have k4 : (k == 4) = true := by simpa using h4
    have HE3 : Hid (stDollar S.abs c = _) := Lib.hid (HE2.out.trans (if_pos h4))
    clear HE2 h4
    have ha := alloc_old HB.out (.cells #[.int .u8 z] 5)
    have a5 : (w.alloc (.cells #[.int .u8 z] 5)).cell? ⟨b, 5, none⟩ = some (.bool S.ex) := by rw [cell_blk ha]; rfl
    have g5 := frz_blk ha 5
    have hd2 := fun v => set_blk ha 5 v
    have a7 : ∀ v, ((w.alloc (.cells #[.int .u8 z] 5)).setCell ⟨b, 5, none⟩ v).cell? ⟨b, 7, none⟩ = some S.buv := fun v => by rw [cell_blk (hd2 v)]; rfl
    have g7 : ∀ v, ((w.alloc (.cells #[.int .u8 z] 5)).setCell ⟨b, 5, none⟩ v).frozen? ⟨b, 7, none⟩ = false := fun v => frz_blk (hd2 v) 7
    have S2 : Hid (Stp B w C (S.dat b) (((w.alloc (.cells #[.int .u8 z] 5)).setCell ⟨b, 5, none⟩ (.bool true)).setCell ⟨b, 7, none⟩ (.slice (some ⟨w.heap.size, 0, none⟩) 1 1)) C (({S with ex := true, bu := [c], buv := .slice (some ⟨w.heap.size, 0, none⟩) 1 1} : Sn).dat b)) := Lib.hid (by
      rw [World.setCell_alloc_past _ _ _ _ HBL.out, ← HZ.out]
      have h2 := bu_one S1.out.1 c
      simp only [show (w.setCell ⟨b, 5, none⟩ (.bool true)).heap.size = w.heap.size by simp [World.setCell]] at h2
      exact S1.out.trans h2)
    clear ha hd2
    go_enter Try.func36, Try.ntmps36
    go_wp2_with fail
    refine (HCL.out _ ⟨hzl, hzh⟩).mono ?_
    rintro e w' ⟨rfl, rfl⟩
    go_wp2_with fail
    refine (goes_any S2.out.1 4 (by omega)).mono ?_
    rintro e w' ⟨rfl, hs⟩
    go_wp2
    go_ret
    rw [HE3.out]
    exact ⟨C, _, rfl, S2.out.trans hs, rfl⟩
  have k4 : (k == 4) = false := by simpa using h4
  have HE3 := Lib.hid (HE2.out.trans (if_neg h4))
  clear HE2 h4
  have S2 := Lib.hid (S1.out.trans (Stp.nob S1.out.1 (Kept.alloc (w.setCell ⟨b, 5, none⟩ (.bool true)) (.cells #[.int .u8 z] 5) nob)))
  have hcn := conv_new [c] 1 (alloc_blk (w.setCell ⟨b, 5, none⟩ (.bool true)) (.cells #[.int .u8 (c.toNat : Int)] 5))
  simp only [show (w.setCell ⟨b, 5, none⟩ (.bool true)).heap.size = w.heap.size by simp [World.setCell]] at hcn
  rw [HZ.out] at hcn
  have hcn' : (Go.convert 51 9 (.slice (some ⟨w.heap.size, 0, none⟩) 1 1)).run Try.prog ((w.setCell ⟨b, 5, none⟩ (.bool true)).alloc (.cells #[.int .u8 z] 5)) = Result.ok (Value.string ⟨#[c]⟩) ((w.setCell ⟨b, 5, none⟩ (.bool true)).alloc (.cells #[.int .u8 z] 5)) := hcn
  clear hcn
  by_cases h3 : k = 3
  · have k3 : (k == 3) = true := by simpa using h3
    have HE4 : Hid (stDollar S.abs c = _) := Lib.hid (HE3.out.trans (if_pos (.inl h3)))
    clear HE3 h3
    go_enter Try.func36, Try.ntmps36
    go_wp2_with fail
    refine (HCL.out _ ⟨hzl, hzh⟩).mono ?_
    rintro e w' ⟨rfl, rfl⟩
    go_wp2_with fail
    refine (add_any S2.out.1 (by have := HOT.out; show S.tp.li.length ≤ _; omega) (by have := HOT.out; show S.tp.ps.length ≤ _; omega) 5 ⟨#[c]⟩ ⟨#[]⟩ none 0 0 [] none 0 0 (.inl ⟨none, 0, rfl, rfl⟩)).mono ?_
    rintro e w' ⟨v1, v2, rfl, hs⟩
    have HS := Lib.hid (S2.out.trans hs)
    clear hs
    go_wp2_with fail
    refine (goes_any HS.out.1 0 (by omega)).mono ?_
    rintro e w' ⟨rfl, hs⟩
    go_wp2
    go_ret
    rw [HE4.out]
    exact ⟨C, _, rfl, HS.out.trans hs, congrArg (fun s => St.turn s 0) (added_abs {S with ex := true} (.mk 5 ⟨#[c]⟩ ⟨#[]⟩ [] 0) v1 v2)⟩
  have k3 : (k == 3) = false := by simpa using h3
  cases p with
  | true =>
    have HE4 : Hid (stDollar S.abs c = _) := Lib.hid (HE3.out.trans (if_pos (.inr rfl)))
    clear HE3 h3
    go_enter Try.func36, Try.ntmps36
    go_wp2_with fail
    refine (HCL.out _ ⟨hzl, hzh⟩).mono ?_
    rintro e w' ⟨rfl, rfl⟩
    go_wp2_with fail
    refine (HSP.out _).mono ?_
    rintro e w' ⟨rfl, rfl⟩
    go_wp2_with fail
    refine (add_any S2.out.1 (by have := HOT.out; show S.tp.li.length ≤ _; omega) (by have := HOT.out; show S.tp.ps.length ≤ _; omega) 5 ⟨#[c]⟩ ⟨#[]⟩ none 0 0 [] none 0 0 (.inl ⟨none, 0, rfl, rfl⟩)).mono ?_
    rintro e w' ⟨v1, v2, rfl, hs⟩
    have HS := Lib.hid (S2.out.trans hs)
    clear hs
    go_wp2_with fail
    refine (goes_any HS.out.1 0 (by omega)).mono ?_
    rintro e w' ⟨rfl, hs⟩
    go_wp2
    go_ret
    rw [HE4.out]
    exact ⟨C, _, rfl, HS.out.trans hs, congrArg (fun s => St.turn s 0) (added_abs {S with ex := true} (.mk 5 ⟨#[c]⟩ ⟨#[]⟩ [] 0) v1 v2)⟩
  | false =>
    have HE4 : Hid (stDollar S.abs c = stText ((S.abs.lit [36]).turn 0) c) := Lib.hid (HE3.out.trans (if_neg (by simp [h3])))
    clear HE3 h3 hcn'
    have S3 := Lib.hid (Stp.nob H.out (Kept.alloc w (.cells #[.int .u8 36] 5) nob))
    have HA := Lib.hid (alloc_blk w (.cells #[.int .u8 36] 5))
    go_enter Try.func36, Try.ntmps36
    go_wp2_with fail
    refine (HCL.out _ ⟨hzl, hzh⟩).mono ?_
    rintro e w' ⟨rfl, rfl⟩
    go_wp2_with fail
    refine (HSP.out _).mono ?_
    rintro e w' ⟨rfl, rfl⟩
    go_wp2_with fail
    refine (lit_any S3.out.1 [36] w.heap.size 1 (by simp) HA.out (fun hf => by have := H.out.bnd _ hf; omega) (by have := HOT.out; omega) (by have := HO.out.2.1; omega)).mono ?_
    rintro e w3 ⟨v1, v2, rfl, s3⟩
    have S4 := Lib.hid (S3.out.trans s3)
    clear s3
    go_wp2_with fail
    refine (HAG.out S4.out.1 ((lit_lim HL.out 36).mono (by omega)) (lit_wf HW.out [36])).mono ?_
    rintro e w2 hr
    obtain ⟨C', S', rfl, h2, h3⟩ := ret_get hr
    go_wp2
    go_ret
    rw [HE4.out]
    exact ⟨C', S', rfl, S4.out.trans h2, h3⟩
end Go.Proofs.Ytbmapjgajecgfaa

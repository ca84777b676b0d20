/-
  What is proved: what arith does; what again does; what dollar does; what bare and name do; what double does; what escaped does; what Feed does; what New does. Conditions: those of each theorem.
-/
import Derived.Test.YtbmapjgajecgfaaJ3
set_option linter.unusedVariables false
set_option linter.unusedSimpArgs false
namespace Go.Proofs.Ytbmapjgajecgfaa
open Go.RowKit
def stArith (s : St) (c : UInt8) : Int × St :=
  if c = 0 then (3, s.turn 17) else if c = 41 ∧ s.dp = 0 then (0, s.turn 14) else (0, {s with bu := s.bu ++ [c], dp := if c = 41 then s.dp - 1 else if c = 40 then s.dp + 1 else s.dp})
theorem dp_step {B : Nat} {w : World} {b : Nat} {C : Nat → Prop} {S : Sn} (h : Fam B w C (S.dat b)) (d : Int) : Stp B w C (S.dat b) (w.setCell ⟨b, 8, none⟩ (.int .i64 d)) C (({S with dp := d} : Sn).dat b) :=
  fset (S' := {S with dp := d}) h 8 (.int .i64 d) rfl (by funext t; cases t <;> rfl)
set_option maxRecDepth 100000 in
set_option maxHeartbeats 8000000 in
theorem arith_any {B : Nat} {w : World} {b : Nat} {C : Nat → Prop} {S : Sn} (h : Fam B w C (S.dat b)) (hok : S.ok) (hd : 0 ≤ S.dp ∧ S.dp ≤ 90000) (c : UInt8) :
    Calls Try.prog 46 #[.pointer (some ⟨b, 0, none⟩), .int .u8 (c.toNat : Int)] w (Ret B w b C S (stArith S.abs c)) := by
  obtain ⟨ti, hi, hz0, hz1, hz2⟩ := info_parts info_u8
  have hb := hd_at h
  have c8 : w.cell? ⟨b, 8, none⟩ = some (.int .i64 S.dp) := by rw [cell_blk hb]; rfl
  have f8 := frz_blk hb 8
  have H := Lib.hid h
  have hc255 := c.toNat_lt
  have HO := Lib.hid hok
  obtain ⟨z, hz⟩ : ∃ z : Int, (c.toNat : Int) = z := ⟨_, rfl⟩
  have hzl : 0 ≤ z := by omega
  have hzh : z ≤ 255 := by omega
  have HZ := Lib.hid hz
  rw [hz]
  obtain ⟨d, hd'⟩ : ∃ d, S.dp = d := ⟨_, rfl⟩
  rw [hd'] at hd c8
  have HD := Lib.hid hd'
  have hdl := hd.1
  have hdh := hd.2
  clear h hok hz hc255 hb hd' hd
  by_cases h0 : c = 0
  · have z0 : (z == 0) = true := z_eq HZ.out (k := 0) (by omega) h0
    have HE : Hid (stArith S.abs c = (3, S.abs.turn 17)) := Lib.hid (by unfold stArith; rw [if_pos h0])
    clear h0
    go_enter Try.func46, Try.ntmps46
    go_wp2_with fail
    refine (wrong_any H.out).mono ?_
    rintro e w' ⟨rfl, hs⟩
    go_wp2
    go_ret
    rw [HE.out]
    exact ⟨C, _, rfl, hs, rfl⟩
  have z0 : (z == 0) = false := z_ne HZ.out (k := 0) (by omega) h0
  by_cases h41 : c = 41
  · have z41 : (z == 41) = true := z_eq HZ.out (k := 41) (by omega) h41
    by_cases hdz : d = 0
    · have HE : Hid (stArith S.abs c = (0, S.abs.turn 14)) := Lib.hid (by unfold stArith; rw [if_neg h0, if_pos ⟨h41, HD.out.trans hdz⟩])
      have d0 : (d == 0) = true := by simpa using hdz
      clear h0 h41 hdz
      go_enter Try.func46, Try.ntmps46
      go_wp2_with fail
      refine (goes_any H.out 14 (by omega)).mono ?_
      rintro e w' ⟨rfl, hs⟩
      go_wp2
      go_ret
      rw [HE.out]
      exact ⟨C, _, rfl, hs, rfl⟩
    · have HE : Hid (stArith S.abs c = (0, {S.abs with bu := S.abs.bu ++ [c], dp := d - 1})) := Lib.hid (by
        have e : S.abs.dp = d := HD.out
        unfold stArith; rw [if_neg h0, if_neg (fun h => hdz (HD.out.symm.trans h.2)), if_pos h41, e])
      have d0 : (d == 0) = false := by simpa using hdz
      have hd1 : 1 ≤ d := by omega
      clear h0 h41 hdz
      have S1 := Lib.hid (dp_step H.out (d - 1))
      obtain ⟨a, cap, hf⟩ := af_bu S1.out.1 c
      have HF := Lib.hid hf
      have AZ1 := Lib.hid (hf.z HZ.out)
      have cw := AZ1.out.cw
      clear hf
      go_enter Try.func46, Try.ntmps46
      go_wp2_with (at_builtin; refine wpList_append_lies _ rfl _ _ 51 rfl B 5 ti (.int .u8 0) 1 1 Try.underlying51 hi hz0 hz1 hz2 rfl (by decide) _ _ _ rfl AZ1.out.own ⟨w.heap.size, 0, none⟩ 1 1 [.int .u8 z] rfl rfl ?q12 (one_z z) (by omega) ?q13 ?q14 ?q15 _ rfl ?_)
      case q13 => unfold maxLen; have := HO.out.2.2.2.1; show S.bu.length + 1 ≤ _; omega
      case q14 => have := HO.out.2.2.2.1; show S.bu.length ≤ _; omega
      case q15 => have := AZ1.out.hB; simpa [World.setCell] using this
      intro g1 cap1 w2 own2 gr2 ls2 lt2
      have S2 := Lib.hid (S1.out.trans (app_bz HZ.out S1.out.1 HF.out own2 gr2 (by simpa [World.setCell] using ls2) lt2))
      have n2 := (gr2.cell_far ⟨b, 7, none⟩ AZ1.out.lt AZ1.out.ne).trans AZ1.out.c0
      have q2 := (gr2.frozen_far ⟨b, 7, none⟩ AZ1.out.lt AZ1.out.ne).trans AZ1.out.f0
      clear own2 gr2 ls2 lt2
      go_wp2
      go_ret
      rw [HE.out]
      exact ⟨C, _, rfl, S2.out, rfl⟩
  have z41 : (z == 41) = false := z_ne HZ.out (k := 41) (by omega) h41
  by_cases h40 : c = 40
  · have z40 : (z == 40) = true := z_eq HZ.out (k := 40) (by omega) h40
    have HE : Hid (stArith S.abs c = (0, {S.abs with bu := S.abs.bu ++ [c], dp := d + 1})) := Lib.hid (by
      have e : S.abs.dp = d := HD.out
      unfold stArith; rw [if_neg h0, if_neg (fun h => h41 h.1), if_neg h41, if_pos h40, e])
    clear h0 h41 h40
    have S1 := Lib.hid (dp_step H.out (d + 1))
    obtain ⟨a, cap, hf⟩ := af_bu S1.out.1 c
    have HF := Lib.hid hf
    have AZ1 := Lib.hid (hf.z HZ.out)
    have cw := AZ1.out.cw
    clear hf
    go_enter Try.func46, Try.ntmps46
    go_wp2_with (at_builtin; refine wpList_append_lies _ rfl _ _ 51 rfl B 5 ti (.int .u8 0) 1 1 Try.underlying51 hi hz0 hz1 hz2 rfl (by decide) _ _ _ rfl AZ1.out.own ⟨w.heap.size, 0, none⟩ 1 1 [.int .u8 z] rfl rfl ?q22 (one_z z) (by omega) ?q23 ?q24 ?q25 _ rfl ?_)
    case q23 => unfold maxLen; have := HO.out.2.2.2.1; show S.bu.length + 1 ≤ _; omega
    case q24 => have := HO.out.2.2.2.1; show S.bu.length ≤ _; omega
    case q25 => have := AZ1.out.hB; simpa [World.setCell] using this
    intro g1 cap1 w2 own2 gr2 ls2 lt2
    have S2 := Lib.hid (S1.out.trans (app_bz HZ.out S1.out.1 HF.out own2 gr2 (by simpa [World.setCell] using ls2) lt2))
    have n2 := (gr2.cell_far ⟨b, 7, none⟩ AZ1.out.lt AZ1.out.ne).trans AZ1.out.c0
    have q2 := (gr2.frozen_far ⟨b, 7, none⟩ AZ1.out.lt AZ1.out.ne).trans AZ1.out.f0
    clear own2 gr2 ls2 lt2
    go_wp2
    go_ret
    rw [HE.out]
    exact ⟨C, _, rfl, S2.out, rfl⟩
  have z40 : (z == 40) = false := z_ne HZ.out (k := 40) (by omega) h40
  have HE : Hid (stArith S.abs c = (0, {S.abs with bu := S.abs.bu ++ [c]})) := Lib.hid (by
    unfold stArith; rw [if_neg h0, if_neg (fun h => h41 h.1), if_neg h41, if_neg h40])
  clear h0 h41 h40
  obtain ⟨a, cap, hf⟩ := af_bu H.out c
  have HF := Lib.hid hf
  have AZ1 := Lib.hid (hf.z HZ.out)
  have cw := AZ1.out.cw
  clear hf
  go_enter Try.func46, Try.ntmps46
  go_wp2_with (at_builtin; refine wpList_append_lies _ rfl _ _ 51 rfl B 5 ti (.int .u8 0) 1 1 Try.underlying51 hi hz0 hz1 hz2 rfl (by decide) _ _ _ rfl AZ1.out.own ⟨w.heap.size, 0, none⟩ 1 1 [.int .u8 z] rfl rfl ?q32 (one_z z) (by omega) ?q33 ?q34 ?q35 _ rfl ?_)
  case q33 => unfold maxLen; have := HO.out.2.2.2.1; show S.bu.length + 1 ≤ _; omega
  case q34 => have := HO.out.2.2.2.1; show S.bu.length ≤ _; omega
  case q35 => have := AZ1.out.hB; simpa [World.setCell] using this
  intro g1 cap1 w2 own2 gr2 ls2 lt2
  have S2 := Lib.hid ((app_bz HZ.out H.out HF.out own2 gr2 (by simpa [World.setCell] using ls2) lt2))
  have n2 := (gr2.cell_far ⟨b, 7, none⟩ AZ1.out.lt AZ1.out.ne).trans AZ1.out.c0
  have q2 := (gr2.frozen_far ⟨b, 7, none⟩ AZ1.out.lt AZ1.out.ne).trans AZ1.out.f0
  clear own2 gr2 ls2 lt2
  go_wp2
  go_ret
  rw [HE.out]
  exact ⟨C, _, rfl, S2.out, rfl⟩
theorem over_any (c : Int) (w : World) : Calls Try.prog 48 #[.int .u8 c] w fun e w' => e = .returned (.int .i64 1) ∧ w = w' := by
  go_enter Try.func48, Try.ntmps48
  go_wp2
  go_ret
  exact ⟨rfl, rfl⟩
theorem dead_any (c : Int) (w : World) : Calls Try.prog 49 #[.int .u8 c] w fun e w' => e = .returned (.int .i64 3) ∧ w = w' := by
  go_enter Try.func49, Try.ntmps49
  go_wp2
  go_ret
  exact ⟨rfl, rfl⟩
end Go.Proofs.Ytbmapjgajecgfaa
set_option linter.unusedVariables false
set_option linter.unusedSimpArgs false
namespace Go.Proofs.Ytbmapjgajecgfaa
open Go.RowKit
def St.all (s : St) : List Lvl := s.lo ++ [s.tp]
/-- No list of a machine's is longer than so many. -/
def St.lim (n : Nat) (s : St) : Prop := s.lo.length ≤ n ∧ s.tk.length ≤ n ∧ s.pl.length ≤ n ∧ s.bu.length ≤ n ∧ (∀ l ∈ s.all, l.li.length ≤ n ∧ l.ps.length ≤ n) ∧ 0 ≤ s.dp ∧ s.dp ≤ n
/-- The first level is the word's own, no other is. -/
def St.wf (s : St) : Prop := ∃ l r, s.all = l :: r ∧ l.wh = 0 ∧ ∀ x ∈ r, x.wh = 1 ∨ x.wh = 2
theorem abs_all (S : Sn) : S.abs.all = S.all.map LvM.abs := by simp [St.all, Sn.all, Sn.abs]
theorem St.lim.mono {n m : Nat} {s : St} (h : s.lim n) (hm : n ≤ m) : s.lim m := by
  obtain ⟨h1, h2, h3, h4, h5, h6, h7⟩ := h
  exact ⟨by omega, by omega, by omega, by omega, fun l hl => by have := h5 l hl; omega, h6, by omega⟩
theorem ok_of {S : Sn} {n : Nat} (h : S.abs.lim n) (hn : n ≤ 90000) : S.ok := by
  obtain ⟨h1, h2, h3, h4, h5, _⟩ := h.mono hn
  refine ⟨by simpa [Sn.abs] using h1, h2, h3, h4, fun l hl => ?_⟩
  exact h5 l.abs (by rw [abs_all]; exact List.mem_map_of_mem hl)
theorem wf_of {S : Sn} (h : S.abs.wf) : S.wf := by
  obtain ⟨l, r, h1, h2, h3⟩ := h
  rw [abs_all] at h1
  unfold Sn.all at h1
  rcases hlo : S.lo with _ | ⟨x, t⟩
  · rw [hlo] at h1
    simp at h1
    exact .inl ⟨hlo, by rw [← h2, ← h1.1]; rfl⟩
  · rw [hlo] at h1
    simp at h1
    refine .inr ⟨by simp [hlo], ?_⟩
    have := h3 S.tp.abs (by rw [← h1.2]; simp)
    exact this
theorem ex_step {B : Nat} {w : World} {b : Nat} {C : Nat → Prop} {S : Sn} (h : Fam B w C (S.dat b)) : Stp B w C (S.dat b) (w.setCell ⟨b, 5, none⟩ (.bool true)) C (({S with ex := true} : Sn).dat b) :=
  fset (S' := {S with ex := true}) h 5 (.bool true) rfl (by funext t; cases t <;> rfl)
theorem ret_get {B : Nat} {w w' : World} {b : Nat} {C : Nat → Prop} {S : Sn} {r : Int × St} {e : Ending} (h : Ret B w b C S r e w') : ∃ (C' : Nat → Prop) (S' : Sn), e = .returned (.int .i64 r.1) ∧ Stp B w C (S.dat b) w' C' (S'.dat b) ∧ S'.abs = r.2 := h
set_option maxRecDepth 100000 in
theorem again_text {B : Nat} {w : World} {b : Nat} {C : Nat → Prop} {S : Sn} (h : Fam B w C (S.dat b)) (hl : S.abs.lim 90000) (hwf : S.abs.wf) (c : UInt8) :
    Calls Try.prog 67 #[.pointer (some ⟨b, 0, none⟩), .int .i64 0, .int .u8 (c.toNat : Int)] w (Ret B w b C S (stText (S.abs.turn 0) c)) := by
  have H := Lib.hid h
  have HO := Lib.hid (ok_of hl (Nat.le_refl _))
  have HW := Lib.hid (wf_of hwf)
  clear h hl hwf
  go_enter Try.func67, Try.ntmps67
  go_wp2_with fail
  refine (turn_any H.out 0 (by omega)).mono ?_
  rintro e w' ⟨rfl, hs⟩
  have HS := Lib.hid hs
  have hb := hd_at hs.1
  have c1 : w'.cell? ⟨b, 1, none⟩ = some (.func (.func 34) #[.pointer (some ⟨b, 0, none⟩)] #[]) := by rw [cell_blk hb]; rfl
  clear hs hb
  go_wp2_with fail
  refine (text_any HS.out.1 HO.out HW.out c).mono ?_
  rintro e w2 hr
  obtain ⟨C', S', rfl, h2, h3⟩ := ret_get hr
  go_wp2
  go_ret
  exact ⟨C', S', rfl, HS.out.trans h2, h3⟩
set_option maxRecDepth 100000 in
theorem again_behind {B : Nat} {w : World} {b : Nat} {C : Nat → Prop} {S : Sn} (h : Fam B w C (S.dat b)) (hl : S.abs.lim 90000) (c : UInt8) :
    Calls Try.prog 67 #[.pointer (some ⟨b, 0, none⟩), .int .i64 9, .int .u8 (c.toNat : Int)] w (Ret B w b C S (stBehind (S.abs.turn 9) c)) := by
  have H := Lib.hid h
  have HO := Lib.hid (ok_of hl (Nat.le_refl _))
  clear h hl
  go_enter Try.func67, Try.ntmps67
  go_wp2_with fail
  refine (turn_any H.out 9 (by omega)).mono ?_
  rintro e w' ⟨rfl, hs⟩
  have HS := Lib.hid hs
  have hb := hd_at hs.1
  have c1 : w'.cell? ⟨b, 1, none⟩ = some (.func (.func 42) #[.pointer (some ⟨b, 0, none⟩)] #[]) := by rw [cell_blk hb]; rfl
  clear hs hb
  go_wp2_with fail
  refine (behind_any HS.out.1 HO.out c).mono ?_
  rintro e w2 hr
  obtain ⟨C', S', rfl, h2, h3⟩ := ret_get hr
  go_wp2
  go_ret
  exact ⟨C', S', rfl, HS.out.trans h2, h3⟩
end Go.Proofs.Ytbmapjgajecgfaa
set_option linter.unusedVariables false
set_option linter.unusedSimpArgs false
namespace Go.Proofs.Ytbmapjgajecgfaa
open Go.RowKit
def stDollar (s : St) (c : UInt8) : Int × St :=
  if c = 123 then (0, {s with ex := true, kd := 5}) else if c = 40 then (0, {s with ex := true, kd := 3}) else if cls c.toNat = 4 then (0, {s with ex := true, bu := [c], kd := 4})
  else if cls c.toNat = 3 ∨ spc c.toNat = true then (0, (({s with ex := true} : St).add (.mk 5 ⟨#[c]⟩ ⟨#[]⟩ [] 0)).turn 0) else stText ((s.lit [36]).turn 0) c
theorem lit_lim {s : St} {n : Nat} (h : s.lim n) (c : UInt8) : (s.lit [c]).lim (n + 1) := by
  obtain ⟨h1, h2, h3, h4, h5, h6, h7⟩ := h
  refine ⟨by show s.lo.length ≤ _; omega, by simp [St.lit]; omega, by show s.pl.length ≤ _; omega, by show s.bu.length ≤ _; omega, fun l hl => ?_, h6, by show s.dp ≤ _; omega⟩
  have hx : l ∈ s.lo ∨ l = {s.tp with li := s.tp.li ++ [c]} := by simpa [St.all, St.lit] using hl
  rcases hx with hx | rfl
  · have := h5 l (by simp [St.all, hx]); omega
  · have := h5 s.tp (by simp [St.all])
    exact ⟨by simp; omega, by show s.tp.ps.length ≤ _; omega⟩
theorem lit_wf {s : St} (h : s.wf) (bs : List UInt8) : (s.lit bs).wf := by
  obtain ⟨l, r, h1, h2, h3⟩ := h
  rcases hlo : s.lo with _ | ⟨x, t⟩
  · unfold St.all at h1
    rw [hlo] at h1
    simp at h1
    exact ⟨{s.tp with li := s.tp.li ++ bs}, [], by simp [St.all, St.lit, hlo], by rw [← h2, ← h1.1], fun x hx => by cases hx⟩
  · unfold St.all at h1
    rw [hlo] at h1
    simp at h1
    refine ⟨l, t ++ [{s.tp with li := s.tp.li ++ bs}], by simp [St.all, St.lit, hlo, h1.1], h2, fun y hy => ?_⟩
    have hy' : y ∈ t ∨ y = {s.tp with li := s.tp.li ++ bs} := by simpa using hy
    rcases hy' with hy | rfl
    · exact h3 y (by rw [← h1.2]; simp [hy])
    · exact h3 s.tp (by rw [← h1.2]; simp)
set_option maxRecDepth 100000 in
set_option maxHeartbeats 8000000 in
theorem dollar_any {B : Nat} {w : World} {b : Nat} {C : Nat → Prop} {S : Sn} (h : Fam B w C (S.dat b)) (hl : S.abs.lim 80000) (hwf : S.abs.wf) (c : UInt8) :
    Calls Try.prog 36 #[.pointer (some ⟨b, 0, none⟩), .int .u8 (c.toNat : Int)] w (Ret B w b C S (stDollar S.abs c)) := by
  have hb := hd_at h
  have c5 : w.cell? ⟨b, 5, none⟩ = some (.bool S.ex) := by rw [cell_blk hb]; rfl
  have f5 := frz_blk hb 5
  have H := Lib.hid h
  have HL := Lib.hid hl
  have hok := ok_of hl (by omega)
  have HO := Lib.hid hok
  have HOT := Lib.hid hok.tp
  have HW := Lib.hid hwf
  have hc255 := c.toNat_lt
  have HCL := Lib.hid (class_any (c.toNat : Int))
  have HSP := Lib.hid (special_any (c.toNat : Int))
  have HAG : Hid (∀ {w : World} {S : Sn}, Fam B w C (S.dat b) → S.abs.lim 90000 → S.abs.wf → Calls Try.prog 67 #[.pointer (some ⟨b, 0, none⟩), .int .i64 0, .int .u8 (c.toNat : Int)] w (Ret B w b C S (stText (S.abs.turn 0) c))) := Lib.hid (fun h hl hw => again_text h hl hw c)
  obtain ⟨k, hk⟩ : ∃ k, cls (c.toNat : Int) = k := ⟨_, rfl⟩
  obtain ⟨p, hp⟩ : ∃ p, spc (c.toNat : Int) = p := ⟨_, rfl⟩
  have HE : Hid (stDollar S.abs c = (if c = 123 then (0, {S.abs with ex := true, kd := 5}) else if c = 40 then (0, {S.abs with ex := true, kd := 3}) else if k = 4 then (0, {S.abs with ex := true, bu := [c], kd := 4})
    else if k = 3 ∨ p = true then (0, (({S.abs with ex := true} : St).add (.mk 5 ⟨#[c]⟩ ⟨#[]⟩ [] 0)).turn 0) else stText ((S.abs.lit [36]).turn 0) c)) := Lib.hid (by subst hk; subst hp; rfl)
  rw [hk] at HCL
  rw [hp] at HSP
  obtain ⟨z, hz⟩ : ∃ z : Int, (c.toNat : Int) = z := ⟨_, rfl⟩
  have hzl : 0 ≤ z := by omega
  have hzh : z ≤ 255 := by omega
  have HZ := Lib.hid hz
  rw [hz] at HCL HSP HAG ⊢
  have S1 := Lib.hid (ex_step h)
  have hbl := lt_blk hb
  have HB := Lib.hid hb
  clear h hl hwf hok hz hc255 hk hp hb
  have HBL := Lib.hid hbl
  clear hbl
  by_cases h123 : c = 123
  · have z123 : (z == 123) = true := z_eq HZ.out (k := 123) (by omega) h123
    have HE2 : Hid (stDollar S.abs c = _) := Lib.hid (HE.out.trans (if_pos h123))
    clear HE h123
    go_enter Try.func36, Try.ntmps36
    go_wp2_with fail
    refine (HCL.out _ ⟨hzl, hzh⟩).mono ?_
    rintro e w' ⟨rfl, rfl⟩
    go_wp2_with fail
    refine (goes_any S1.out.1 5 (by omega)).mono ?_
    rintro e w' ⟨rfl, hs⟩
    go_wp2
    go_ret
    rw [HE2.out]
    exact ⟨C, _, rfl, S1.out.trans hs, rfl⟩
  have z123 : (z == 123) = false := z_ne HZ.out (k := 123) (by omega) h123
  have HE1 := Lib.hid (HE.out.trans (if_neg h123))
  clear HE h123
  by_cases h40 : c = 40
  · have z40 : (z == 40) = true := z_eq HZ.out (k := 40) (by omega) h40
    have HE2 : Hid (stDollar S.abs c = _) := Lib.hid (HE1.out.trans (if_pos h40))
    clear HE1 h40
    go_enter Try.func36, Try.ntmps36
    go_wp2_with fail
    refine (HCL.out _ ⟨hzl, hzh⟩).mono ?_
    rintro e w' ⟨rfl, rfl⟩
    go_wp2_with fail
    refine (goes_any S1.out.1 3 (by omega)).mono ?_
    rintro e w' ⟨rfl, hs⟩
    go_wp2
    go_ret
    rw [HE2.out]
    exact ⟨C, _, rfl, S1.out.trans hs, rfl⟩
  have z40 : (z == 40) = false := z_ne HZ.out (k := 40) (by omega) h40
  have HE2 := Lib.hid (HE1.out.trans (if_neg h40))
  clear HE1 h40
  by_cases h4 : k = 4
  · have k4 : (k == 4) = true := by simpa using h4
    have HE3 : Hid (stDollar S.abs c = _) := Lib.hid (HE2.out.trans (if_pos h4))
    clear HE2 h4
    have ha := alloc_old HB.out (.cells #[.int .u8 z] 5)
    have a5 : (w.alloc (.cells #[.int .u8 z] 5)).cell? ⟨b, 5, none⟩ = some (.bool S.ex) := by rw [cell_blk ha]; rfl
    have g5 := frz_blk ha 5
    have hd2 := fun v => set_blk ha 5 v
    have a7 : ∀ v, ((w.alloc (.cells #[.int .u8 z] 5)).setCell ⟨b, 5, none⟩ v).cell? ⟨b, 7, none⟩ = some S.buv := fun v => by rw [cell_blk (hd2 v)]; rfl
    have g7 : ∀ v, ((w.alloc (.cells #[.int .u8 z] 5)).setCell ⟨b, 5, none⟩ v).frozen? ⟨b, 7, none⟩ = false := fun v => frz_blk (hd2 v) 7
    have S2 : Hid (Stp B w C (S.dat b) (((w.alloc (.cells #[.int .u8 z] 5)).setCell ⟨b, 5, none⟩ (.bool true)).setCell ⟨b, 7, none⟩ (.slice (some ⟨w.heap.size, 0, none⟩) 1 1)) C (({S with ex := true, bu := [c], buv := .slice (some ⟨w.heap.size, 0, none⟩) 1 1} : Sn).dat b)) := Lib.hid (by
      rw [World.setCell_alloc_past _ _ _ _ HBL.out, ← HZ.out]
      have h2 := bu_one S1.out.1 c
      simp only [show (w.setCell ⟨b, 5, none⟩ (.bool true)).heap.size = w.heap.size by simp [World.setCell]] at h2
      exact S1.out.trans h2)
    clear ha hd2
    go_enter Try.func36, Try.ntmps36
    go_wp2_with fail
    refine (HCL.out _ ⟨hzl, hzh⟩).mono ?_
    rintro e w' ⟨rfl, rfl⟩
    go_wp2_with fail
    refine (goes_any S2.out.1 4 (by omega)).mono ?_
    rintro e w' ⟨rfl, hs⟩
    go_wp2
    go_ret
    rw [HE3.out]
    exact ⟨C, _, rfl, S2.out.trans hs, rfl⟩
  have k4 : (k == 4) = false := by simpa using h4
  have HE3 := Lib.hid (HE2.out.trans (if_neg h4))
  clear HE2 h4
  have S2 := Lib.hid (S1.out.trans (Stp.nob S1.out.1 (Kept.alloc (w.setCell ⟨b, 5, none⟩ (.bool true)) (.cells #[.int .u8 z] 5) nob)))
  have hcn := conv_new [c] 1 (alloc_blk (w.setCell ⟨b, 5, none⟩ (.bool true)) (.cells #[.int .u8 (c.toNat : Int)] 5))
  simp only [show (w.setCell ⟨b, 5, none⟩ (.bool true)).heap.size = w.heap.size by simp [World.setCell]] at hcn
  rw [HZ.out] at hcn
  have hcn' : (Go.convert 51 9 (.slice (some ⟨w.heap.size, 0, none⟩) 1 1)).run Try.prog ((w.setCell ⟨b, 5, none⟩ (.bool true)).alloc (.cells #[.int .u8 z] 5)) = Result.ok (Value.string ⟨#[c]⟩) ((w.setCell ⟨b, 5, none⟩ (.bool true)).alloc (.cells #[.int .u8 z] 5)) := hcn
  clear hcn
  by_cases h3 : k = 3
  · have k3 : (k == 3) = true := by simpa using h3
    have HE4 : Hid (stDollar S.abs c = _) := Lib.hid (HE3.out.trans (if_pos (.inl h3)))
    clear HE3 h3
    go_enter Try.func36, Try.ntmps36
    go_wp2_with fail
    refine (HCL.out _ ⟨hzl, hzh⟩).mono ?_
    rintro e w' ⟨rfl, rfl⟩
    go_wp2_with fail
    refine (add_any S2.out.1 (by have := HOT.out; show S.tp.li.length ≤ _; omega) (by have := HOT.out; show S.tp.ps.length ≤ _; omega) 5 ⟨#[c]⟩ ⟨#[]⟩ none 0 0 [] none 0 0 (.inl ⟨none, 0, rfl, rfl⟩)).mono ?_
    rintro e w' ⟨v1, v2, rfl, hs⟩
    have HS := Lib.hid (S2.out.trans hs)
    clear hs
    go_wp2_with fail
    refine (goes_any HS.out.1 0 (by omega)).mono ?_
    rintro e w' ⟨rfl, hs⟩
    go_wp2
    go_ret
    rw [HE4.out]
    exact ⟨C, _, rfl, HS.out.trans hs, congrArg (fun s => St.turn s 0) (added_abs {S with ex := true} (.mk 5 ⟨#[c]⟩ ⟨#[]⟩ [] 0) v1 v2)⟩
  have k3 : (k == 3) = false := by simpa using h3
  cases p with
  | true =>
    have HE4 : Hid (stDollar S.abs c = _) := Lib.hid (HE3.out.trans (if_pos (.inr rfl)))
    clear HE3 h3
    go_enter Try.func36, Try.ntmps36
    go_wp2_with fail
    refine (HCL.out _ ⟨hzl, hzh⟩).mono ?_
    rintro e w' ⟨rfl, rfl⟩
    go_wp2_with fail
    refine (HSP.out _).mono ?_
    rintro e w' ⟨rfl, rfl⟩
    go_wp2_with fail
    refine (add_any S2.out.1 (by have := HOT.out; show S.tp.li.length ≤ _; omega) (by have := HOT.out; show S.tp.ps.length ≤ _; omega) 5 ⟨#[c]⟩ ⟨#[]⟩ none 0 0 [] none 0 0 (.inl ⟨none, 0, rfl, rfl⟩)).mono ?_
    rintro e w' ⟨v1, v2, rfl, hs⟩
    have HS := Lib.hid (S2.out.trans hs)
    clear hs
    go_wp2_with fail
    refine (goes_any HS.out.1 0 (by omega)).mono ?_
    rintro e w' ⟨rfl, hs⟩
    go_wp2
    go_ret
    rw [HE4.out]
    exact ⟨C, _, rfl, HS.out.trans hs, congrArg (fun s => St.turn s 0) (added_abs {S with ex := true} (.mk 5 ⟨#[c]⟩ ⟨#[]⟩ [] 0) v1 v2)⟩
  | false =>
    have HE4 : Hid (stDollar S.abs c = stText ((S.abs.lit [36]).turn 0) c) := Lib.hid (HE3.out.trans (if_neg (by simp [h3])))
    clear HE3 h3 hcn'
    have S3 := Lib.hid (Stp.nob H.out (Kept.alloc w (.cells #[.int .u8 36] 5) nob))
    have HA := Lib.hid (alloc_blk w (.cells #[.int .u8 36] 5))
    go_enter Try.func36, Try.ntmps36
    go_wp2_with fail
    refine (HCL.out _ ⟨hzl, hzh⟩).mono ?_
    rintro e w' ⟨rfl, rfl⟩
    go_wp2_with fail
    refine (HSP.out _).mono ?_
    rintro e w' ⟨rfl, rfl⟩
    go_wp2_with fail
    refine (lit_any S3.out.1 [36] w.heap.size 1 (by simp) HA.out (fun hf => by have := H.out.bnd _ hf; omega) (by have := HOT.out; omega) (by have := HO.out.2.1; omega)).mono ?_
    rintro e w3 ⟨v1, v2, rfl, s3⟩
    have S4 := Lib.hid (S3.out.trans s3)
    clear s3
    go_wp2_with fail
    refine (HAG.out S4.out.1 ((lit_lim HL.out 36).mono (by omega)) (lit_wf HW.out [36])).mono ?_
    rintro e w2 hr
    obtain ⟨C', S', rfl, h2, h3⟩ := ret_get hr
    go_wp2
    go_ret
    rw [HE4.out]
    exact ⟨C', S', rfl, S4.out.trans h2, h3⟩
end Go.Proofs.Ytbmapjgajecgfaa
set_option linter.unusedVariables false
set_option linter.unusedSimpArgs false
namespace Go.Proofs.Ytbmapjgajecgfaa
open Go.RowKit
theorem add_lim {s : St} {n : Nat} (h : s.lim n) (p : Prt) : (s.add p).lim (n + 2) := by
  obtain ⟨h1, h2, h3, h4, h5, h6, h7⟩ := h
  have hf : s.tp.flush.li.length ≤ n ∧ s.tp.flush.ps.length ≤ n + 1 := by
    have := h5 s.tp (by simp [St.all])
    unfold Lvl.flush
    split
    · omega
    · simp; omega
  refine ⟨by show s.lo.length ≤ _; omega, by show s.tk.length ≤ _; omega, by show s.pl.length ≤ _; omega, by show s.bu.length ≤ _; omega, fun l hl => ?_, h6, by show s.dp ≤ _; omega⟩
  have hx : l ∈ s.lo ∨ l = {s.tp.flush with ps := s.tp.flush.ps ++ [p]} := by simpa [St.all, St.add] using hl
  rcases hx with hx | rfl
  · have := h5 l (by simp [St.all, hx]); omega
  · exact ⟨by show s.tp.flush.li.length ≤ _; omega, by simp; omega⟩
theorem flush_wh (l : Lvl) : l.flush.wh = l.wh := by unfold Lvl.flush; split <;> rfl
/-- The last level is another one with the same kind. -/
theorem wf_tp {s s' : St} (h : s.wf) (hlo : s'.lo = s.lo) (ht : s'.tp.wh = s.tp.wh) : s'.wf := by
  obtain ⟨l, r, h1, h2, h3⟩ := h
  unfold St.wf St.all
  rw [hlo]
  unfold St.all at h1
  rcases hs : s.lo with _ | ⟨x, t⟩
  · rw [hs] at h1
    simp at h1
    exact ⟨s'.tp, [], rfl, by rw [ht, h1.1, h2], fun x hx => by cases hx⟩
  · rw [hs] at h1
    simp at h1
    refine ⟨l, t ++ [s'.tp], by simp [h1.1], h2, fun y hy => ?_⟩
    have hy' : y ∈ t ∨ y = s'.tp := by simpa using hy
    rcases hy' with hy | rfl
    · exact h3 y (by rw [← h1.2]; simp [hy])
    · rw [ht]; exact h3 s.tp (by rw [← h1.2]; simp)
theorem add_wf {s : St} (h : s.wf) (p : Prt) : (s.add p).wf := wf_tp h rfl (flush_wh _)
theorem push_wf {s : St} (h : s.wf) {wh : Int} (hw : wh = 1 ∨ wh = 2) (nm op : ByteArray) : (s.push wh nm op).wf := by
  obtain ⟨l, r, h1, h2, h3⟩ := h
  refine ⟨l, r ++ [⟨wh, [], [], nm, op⟩], ?_, h2, fun y hy => ?_⟩
  · show (s.lo ++ [s.tp]) ++ [_] = _
    rw [show s.lo ++ [s.tp] = l :: r from h1]
    rfl
  · have hy' : y ∈ r ∨ y = ⟨wh, [], [], nm, op⟩ := by simpa using hy
    rcases hy' with hy | rfl
    · exact h3 y hy
    · exact hw
theorem push_lim {s : St} {n : Nat} (h : s.lim n) (wh : Int) (nm op : ByteArray) : (s.push wh nm op).lim (n + 1) := by
  obtain ⟨h1, h2, h3, h4, h5, h6, h7⟩ := h
  refine ⟨by simp [St.push]; omega, by show s.tk.length ≤ _; omega, by show s.pl.length ≤ _; omega, by show s.bu.length ≤ _; omega, fun l hl => ?_, h6, by show s.dp ≤ _; omega⟩
  have hx : l ∈ s.all ∨ l = ⟨wh, [], [], nm, op⟩ := by
    have : l ∈ (s.lo ++ [s.tp]) ++ [⟨wh, [], [], nm, op⟩] := hl
    rcases List.mem_append.1 this with h | h
    · exact .inl h
    · exact .inr (by simpa using h)
  rcases hx with hx | rfl
  · have := h5 l hx; omega
  · exact ⟨by simp, by simp⟩
def stBare (s : St) (c : UInt8) : Int × St :=
  if cls c.toNat = 4 ∨ cls c.toNat = 3 then (0, {s with bu := s.bu ++ [c]}) else stText ((s.add (.mk 5 ⟨s.bu.toArray⟩ ⟨#[]⟩ [] 0)).turn 0) c
set_option maxRecDepth 100000 in
set_option maxHeartbeats 8000000 in
theorem bare_any {B : Nat} {w : World} {b : Nat} {C : Nat → Prop} {S : Sn} (h : Fam B w C (S.dat b)) (hl : S.abs.lim 80000) (hwf : S.abs.wf) (c : UInt8) :
    Calls Try.prog 38 #[.pointer (some ⟨b, 0, none⟩), .int .u8 (c.toNat : Int)] w (Ret B w b C S (stBare S.abs c)) := by
  obtain ⟨ti, hi, hz0, hz1, hz2⟩ := info_parts info_u8
  have hb := hd_at h
  have H := Lib.hid h
  have HL := Lib.hid hl
  have hok := ok_of hl (by omega)
  have HO := Lib.hid hok
  have HOT := Lib.hid hok.tp
  have hc255 := c.toNat_lt
  have HCL := Lib.hid (class_any (c.toNat : Int))
  obtain ⟨k, hk⟩ : ∃ k, cls (c.toNat : Int) = k := ⟨_, rfl⟩
  have HW := Lib.hid hwf
  have HAG : Hid (∀ {w : World} {S : Sn}, Fam B w C (S.dat b) → S.abs.lim 90000 → S.abs.wf → Calls Try.prog 67 #[.pointer (some ⟨b, 0, none⟩), .int .i64 0, .int .u8 (c.toNat : Int)] w (Ret B w b C S (stText (S.abs.turn 0) c))) := Lib.hid (fun h hl hw => again_text h hl hw c)
  have HE : Hid (stBare S.abs c = (if k = 4 ∨ k = 3 then (0, {S.abs with bu := S.abs.bu ++ [c]}) else stText ((S.abs.add (.mk 5 ⟨S.abs.bu.toArray⟩ ⟨#[]⟩ [] 0)).turn 0) c)) := Lib.hid (by subst hk; rfl)
  rw [hk] at HCL
  obtain ⟨z, hz⟩ : ∃ z : Int, (c.toNat : Int) = z := ⟨_, rfl⟩
  have hzl : 0 ≤ z := by omega
  have hzh : z ≤ 255 := by omega
  have HZ := Lib.hid hz
  obtain ⟨a, cap, hf⟩ := af_bu h c
  have HF := Lib.hid hf
  have AZ1 := Lib.hid (hf.z HZ.out)
  have cw := AZ1.out.cw
  rw [hz] at HCL HAG ⊢
  have hcv := conv_own (h.comp .bu : w.ownsRow B 5 1 S.buv S.bu.length (bv S.bu))
  rw [hf.v] at hcv
  clear h hl hwf hok hz hc255 hk hb hf
  by_cases hA : k = 4 ∨ k = 3
  · have HE2 : Hid (stBare S.abs c = _) := Lib.hid (HE.out.trans (if_pos hA))
    have key : (k == 4) = true ∨ ((k == 4) = false ∧ (k == 3) = true) := by
      rcases hA with rfl | rfl <;> simp
    clear HE hA hcv
    rcases key with k4 | ⟨k4, k3⟩
    · go_enter Try.func38, Try.ntmps38
      go_wp2_with fail
      refine (HCL.out _ ⟨hzl, hzh⟩).mono ?_
      rintro e w' ⟨rfl, rfl⟩
      have T3 : Hid (S.bu.length + 1 ≤ maxLen) := Lib.hid (by unfold maxLen; have := HO.out.2.2.2.1; omega)
      have T4 : Hid ((S.bu.length + 1) * 1 ≤ 140737488355328) := Lib.hid (by have := HO.out.2.2.2.1; omega)
      go_wp2_with (at_builtin; refine wpList_append_lies _ rfl _ _ 51 rfl B 5 ti (.int .u8 0) 1 1 Try.underlying51 hi hz0 hz1 hz2 rfl (by decide) _ _ _ rfl AZ1.out.own ⟨w.heap.size, 0, none⟩ 1 1 [.int .u8 z] rfl rfl AZ1.out.new (one_z z) (by omega) T3.out T4.out AZ1.out.hB _ rfl ?_)
      intro g1 cap1 w2 own2 gr2 ls2 lt2
      have S2 := Lib.hid (app_bz HZ.out H.out HF.out own2 gr2 (by simpa [World.setCell] using ls2) lt2)
      have n2 := (gr2.cell_far ⟨b, 7, none⟩ AZ1.out.lt AZ1.out.ne).trans AZ1.out.c0
      have q2 := (gr2.frozen_far ⟨b, 7, none⟩ AZ1.out.lt AZ1.out.ne).trans AZ1.out.f0
      clear own2 gr2 ls2 lt2
      go_wp2
      go_ret
      rw [HE2.out]
      exact ⟨C, _, rfl, S2.out, rfl⟩
    · go_enter Try.func38, Try.ntmps38
      go_wp2_with fail
      refine (HCL.out _ ⟨hzl, hzh⟩).mono ?_
      rintro e w' ⟨rfl, rfl⟩
      have T3 : Hid (S.bu.length + 1 ≤ maxLen) := Lib.hid (by unfold maxLen; have := HO.out.2.2.2.1; omega)
      have T4 : Hid ((S.bu.length + 1) * 1 ≤ 140737488355328) := Lib.hid (by have := HO.out.2.2.2.1; omega)
      go_wp2_with (at_builtin; refine wpList_append_lies _ rfl _ _ 51 rfl B 5 ti (.int .u8 0) 1 1 Try.underlying51 hi hz0 hz1 hz2 rfl (by decide) _ _ _ rfl AZ1.out.own ⟨w.heap.size, 0, none⟩ 1 1 [.int .u8 z] rfl rfl AZ1.out.new (one_z z) (by omega) T3.out T4.out AZ1.out.hB _ rfl ?_)
      intro g1 cap1 w2 own2 gr2 ls2 lt2
      have S2 := Lib.hid (app_bz HZ.out H.out HF.out own2 gr2 (by simpa [World.setCell] using ls2) lt2)
      have n2 := (gr2.cell_far ⟨b, 7, none⟩ AZ1.out.lt AZ1.out.ne).trans AZ1.out.c0
      have q2 := (gr2.frozen_far ⟨b, 7, none⟩ AZ1.out.lt AZ1.out.ne).trans AZ1.out.f0
      clear own2 gr2 ls2 lt2
      go_wp2
      go_ret
      rw [HE2.out]
      exact ⟨C, _, rfl, S2.out, rfl⟩
  have HE2 := Lib.hid (HE.out.trans (if_neg hA))
  have k4 : (k == 4) = false := by simpa using fun e => hA (.inl e)
  have k3 : (k == 3) = false := by simpa using fun e => hA (.inr e)
  clear HE hA
  go_enter Try.func38, Try.ntmps38
  go_wp2_with fail
  refine (HCL.out _ ⟨hzl, hzh⟩).mono ?_
  rintro e w' ⟨rfl, rfl⟩
  go_wp2_with fail
  refine (add_any H.out (by have := HOT.out; omega) (by have := HOT.out; omega) 5 ⟨S.bu.toArray⟩ ⟨#[]⟩ none 0 0 [] none 0 0 (.inl ⟨none, 0, rfl, rfl⟩)).mono ?_
  rintro e w' ⟨v1, v2, rfl, hs⟩
  have HS := Lib.hid hs
  have HA := Lib.hid (added_abs S (.mk 5 ⟨S.bu.toArray⟩ ⟨#[]⟩ [] 0) v1 v2)
  clear hs
  go_wp2_with fail
  refine (HAG.out HS.out.1 (by rw [HA.out]; exact (add_lim HL.out _).mono (by omega)) (by rw [HA.out]; exact add_wf HW.out _)).mono ?_
  rw [HA.out]
  rintro e w2 hr
  obtain ⟨C', S', rfl, h2, h3⟩ := ret_get hr
  go_wp2
  go_ret
  rw [HE2.out]
  exact ⟨C', S', rfl, HS.out.trans h2, h3⟩
def stName (s : St) (c : UInt8) : Int × St :=
  if cls c.toNat = 3 ∨ (cls c.toNat = 4 ∧ s.kd = 7) then (0, {s with bu := s.bu ++ [c]}) else stBehind (s.turn 9) c
set_option maxRecDepth 100000 in
set_option maxHeartbeats 8000000 in
theorem name_any {B : Nat} {w : World} {b : Nat} {C : Nat → Prop} {S : Sn} (h : Fam B w C (S.dat b)) (hl : S.abs.lim 80000) (c : UInt8) :
    Calls Try.prog 41 #[.pointer (some ⟨b, 0, none⟩), .int .u8 (c.toNat : Int)] w (Ret B w b C S (stName S.abs c)) := by
  obtain ⟨ti, hi, hz0, hz1, hz2⟩ := info_parts info_u8
  have hb := hd_at h
  have H := Lib.hid h
  have HL := Lib.hid hl
  have hok := ok_of hl (by omega)
  have HO := Lib.hid hok
  have HOT := Lib.hid hok.tp
  have hc255 := c.toNat_lt
  have HCL := Lib.hid (class_any (c.toNat : Int))
  obtain ⟨k, hk⟩ : ∃ k, cls (c.toNat : Int) = k := ⟨_, rfl⟩
  have c2 : w.cell? ⟨b, 2, none⟩ = some (.int .i64 (S.kd : Int)) := by rw [cell_blk hb]; rfl
  obtain ⟨kd, hkd⟩ : ∃ kd : Int, (S.kd : Int) = kd := ⟨_, rfl⟩
  have hkd' : (S.abs.kd = 7) = (kd = 7) := by
    subst hkd
    exact propext ⟨fun e => by rw [show S.kd = 7 from e]; rfl, fun e => by show S.kd = 7; omega⟩
  rw [hkd] at c2
  have HAG : Hid (∀ {w : World} {S : Sn}, Fam B w C (S.dat b) → S.abs.lim 90000 → Calls Try.prog 67 #[.pointer (some ⟨b, 0, none⟩), .int .i64 9, .int .u8 (c.toNat : Int)] w (Ret B w b C S (stBehind (S.abs.turn 9) c))) := Lib.hid (fun h hl => again_behind h hl c)
  have HE : Hid (stName S.abs c = (if k = 3 ∨ (k = 4 ∧ kd = 7) then (0, {S.abs with bu := S.abs.bu ++ [c]}) else stBehind (S.abs.turn 9) c)) := Lib.hid (by unfold stName; simp only [hk, hkd'])
  rw [hk] at HCL
  obtain ⟨z, hz⟩ : ∃ z : Int, (c.toNat : Int) = z := ⟨_, rfl⟩
  have hzl : 0 ≤ z := by omega
  have hzh : z ≤ 255 := by omega
  have HZ := Lib.hid hz
  obtain ⟨a, cap, hf⟩ := af_bu h c
  have HF := Lib.hid hf
  have AZ1 := Lib.hid (hf.z HZ.out)
  have cw := AZ1.out.cw
  rw [hz] at HCL HAG ⊢
  clear h hl hok hz hc255 hk hb hf hkd hkd'
  by_cases hA : k = 3 ∨ (k = 4 ∧ kd = 7)
  · have HE2 : Hid (stName S.abs c = _) := Lib.hid (HE.out.trans (if_pos hA))
    have key : (k == 3) = true ∨ ((k == 3) = false ∧ (k == 4) = true ∧ (kd == 7) = true) := by
      rcases hA with rfl | ⟨rfl, rfl⟩ <;> simp
    clear HE hA
    rcases key with k3 | ⟨k3, k4, kk⟩
    · go_enter Try.func41, Try.ntmps41
      go_wp2_with fail
      refine (HCL.out _ ⟨hzl, hzh⟩).mono ?_
      rintro e w' ⟨rfl, rfl⟩
      have T3 : Hid (S.bu.length + 1 ≤ maxLen) := Lib.hid (by unfold maxLen; have := HO.out.2.2.2.1; omega)
      have T4 : Hid ((S.bu.length + 1) * 1 ≤ 140737488355328) := Lib.hid (by have := HO.out.2.2.2.1; omega)
      go_wp2_with (at_builtin; refine wpList_append_lies _ rfl _ _ 51 rfl B 5 ti (.int .u8 0) 1 1 Try.underlying51 hi hz0 hz1 hz2 rfl (by decide) _ _ _ rfl AZ1.out.own ⟨w.heap.size, 0, none⟩ 1 1 [.int .u8 z] rfl rfl AZ1.out.new (one_z z) (by omega) T3.out T4.out AZ1.out.hB _ rfl ?_)
      intro g1 cap1 w2 own2 gr2 ls2 lt2
      have S2 := Lib.hid (app_bz HZ.out H.out HF.out own2 gr2 (by simpa [World.setCell] using ls2) lt2)
      have n2 := (gr2.cell_far ⟨b, 7, none⟩ AZ1.out.lt AZ1.out.ne).trans AZ1.out.c0
      have q2 := (gr2.frozen_far ⟨b, 7, none⟩ AZ1.out.lt AZ1.out.ne).trans AZ1.out.f0
      clear own2 gr2 ls2 lt2
      go_wp2
      go_ret
      rw [HE2.out]
      exact ⟨C, _, rfl, S2.out, rfl⟩
    · go_enter Try.func41, Try.ntmps41
      go_wp2_with fail
      refine (HCL.out _ ⟨hzl, hzh⟩).mono ?_
      rintro e w' ⟨rfl, rfl⟩
      have T3 : Hid (S.bu.length + 1 ≤ maxLen) := Lib.hid (by unfold maxLen; have := HO.out.2.2.2.1; omega)
      have T4 : Hid ((S.bu.length + 1) * 1 ≤ 140737488355328) := Lib.hid (by have := HO.out.2.2.2.1; omega)
      go_wp2_with (at_builtin; refine wpList_append_lies _ rfl _ _ 51 rfl B 5 ti (.int .u8 0) 1 1 Try.underlying51 hi hz0 hz1 hz2 rfl (by decide) _ _ _ rfl AZ1.out.own ⟨w.heap.size, 0, none⟩ 1 1 [.int .u8 z] rfl rfl AZ1.out.new (one_z z) (by omega) T3.out T4.out AZ1.out.hB _ rfl ?_)
      intro g1 cap1 w2 own2 gr2 ls2 lt2
      have S2 := Lib.hid (app_bz HZ.out H.out HF.out own2 gr2 (by simpa [World.setCell] using ls2) lt2)
      have n2 := (gr2.cell_far ⟨b, 7, none⟩ AZ1.out.lt AZ1.out.ne).trans AZ1.out.c0
      have q2 := (gr2.frozen_far ⟨b, 7, none⟩ AZ1.out.lt AZ1.out.ne).trans AZ1.out.f0
      clear own2 gr2 ls2 lt2
      go_wp2
      go_ret
      rw [HE2.out]
      exact ⟨C, _, rfl, S2.out, rfl⟩
  have HE2 := Lib.hid (HE.out.trans (if_neg hA))
  have k3 : (k == 3) = false := by simpa using fun e => hA (.inl e)
  have key : (k == 4) = false ∨ ((k == 4) = true ∧ (kd == 7) = false) := by
    by_cases h4 : k = 4
    · exact .inr ⟨by simpa using h4, by simpa using fun e => hA (.inr ⟨h4, e⟩)⟩
    · exact .inl (by simpa using h4)
  clear HE hA
  rcases key with k4 | ⟨k4, kk⟩
  all_goals
    go_enter Try.func41, Try.ntmps41
    go_wp2_with fail
    refine (HCL.out _ ⟨hzl, hzh⟩).mono ?_
    rintro e w' ⟨rfl, rfl⟩
    go_wp2_with fail
    refine (HAG.out H.out (HL.out.mono (by omega))).mono ?_
    rintro e w2 hr
    obtain ⟨C', S', rfl, h2, h3⟩ := ret_get hr
    go_wp2
    go_ret
    rw [HE2.out]
    exact ⟨C', S', rfl, h2, h3⟩
end Go.Proofs.Ytbmapjgajecgfaa
set_option linter.unusedVariables false
set_option linter.unusedSimpArgs false
namespace Go.Proofs.Ytbmapjgajecgfaa
open Go.RowKit
def St.cok (s : St) : Prop := 0 ≤ s.cu ∧ s.cu ≤ 255
def stDouble (s : St) (c : UInt8) : Int × St :=
  if (c.toNat : Int) = s.cu then (0, s.push 2 ⟨s.bu.toArray⟩ ⟨#[c, c]⟩) else stText (s.push 2 ⟨s.bu.toArray⟩ ⟨#[s.cu.toNat.toUInt8]⟩) c
set_option maxRecDepth 100000 in
set_option maxHeartbeats 8000000 in
theorem double_any {B : Nat} {w : World} {b : Nat} {C : Nat → Prop} {S : Sn} (h : Fam B w C (S.dat b)) (hl : S.abs.lim 80000) (hwf : S.abs.wf) (hc : S.abs.cok) (c : UInt8) :
    Calls Try.prog 44 #[.pointer (some ⟨b, 0, none⟩), .int .u8 (c.toNat : Int)] w (Ret B w b C S (stDouble S.abs c)) := by
  have hb := hd_at h
  have c10 : w.cell? ⟨b, 10, none⟩ = some (.int .u8 S.cu) := by rw [cell_blk hb]; rfl
  have H := Lib.hid h
  have HL := Lib.hid hl
  have HW := Lib.hid hwf
  have HO := Lib.hid (ok_of hl (by omega))
  have HC := Lib.hid hc
  have hc255 := c.toNat_lt
  obtain ⟨d, hd⟩ : ∃ d : UInt8, (d.toNat : Int) = S.cu := by
    have hcu : 0 ≤ S.cu ∧ S.cu ≤ 255 := hc
    exact ⟨S.cu.toNat.toUInt8, by simp; omega⟩
  obtain ⟨y, hy⟩ : ∃ y, S.cu = y := ⟨_, rfl⟩
  have hdt : S.abs.cu.toNat.toUInt8 = d := by
    show S.cu.toNat.toUInt8 = d
    rw [← hd]; simp
  have HD : Hid ((d.toNat : Int) = y) := Lib.hid (by rw [hd, hy])
  have hcy : S.abs.cu = y := hy
  have HE : Hid (stDouble S.abs c = (if (c.toNat : Int) = y then (0, S.abs.push 2 ⟨S.abs.bu.toArray⟩ ⟨#[c, c]⟩) else stText (S.abs.push 2 ⟨S.abs.bu.toArray⟩ ⟨#[d]⟩) c)) := Lib.hid (by unfold stDouble; rw [hdt, hcy])
  rw [hy] at c10
  obtain ⟨z, hz⟩ : ∃ z : Int, (c.toNat : Int) = z := ⟨_, rfl⟩
  have hzl : 0 ≤ z := by omega
  have hzh : z ≤ 255 := by omega
  have HZ := Lib.hid hz
  have HT : Hid (∀ {w : World} {S : Sn}, Fam B w C (S.dat b) → S.abs.lim 90000 → S.abs.wf → Calls Try.prog 34 #[.pointer (some ⟨b, 0, none⟩), .int .u8 (c.toNat : Int)] w (Ret B w b C S (stText S.abs c))) := Lib.hid (fun h hl hw => text_any h (ok_of hl (Nat.le_refl _)) (wf_of hw) c)
  rw [hz] at HE HT ⊢
  clear h hl hwf hc hb hc255 hd hy hdt hcy hz
  by_cases hA : z = y
  · have HE2 : Hid (stDouble S.abs c = _) := Lib.hid (HE.out.trans (if_pos hA))
    have zy : (z == y) = true := by simpa using hA
    have S1 := Lib.hid (Stp.nob H.out (Kept.alloc w (.cells #[.int .u8 z, .int .u8 z] 5) nob))
    have hcv := conv_new [c, c] 2 (alloc_blk w (.cells #[.int .u8 (c.toNat : Int), .int .u8 (c.toNat : Int)] 5))
    rw [HZ.out] at hcv
    have hcv' : (Go.convert 51 9 (.slice (some ⟨w.heap.size, 0, none⟩) 2 2)).run Try.prog (w.alloc (.cells #[.int .u8 z, .int .u8 z] 5)) = Result.ok (Value.string ⟨#[c, c]⟩) (w.alloc (.cells #[.int .u8 z, .int .u8 z] 5)) := hcv
    clear hcv HE hA
    go_enter Try.func44, Try.ntmps44
    go_wp2_with fail
    refine (operator_any S1.out.1 HO.out ⟨#[c, c]⟩).mono ?_
    rintro e w' hs
    obtain ⟨C', S', rfl, e2, e3⟩ := Pushed.ret hs
    go_wp2
    go_ret
    rw [HE2.out]
    exact ⟨C', S', rfl, S1.out.trans e2, e3⟩
  · have HE2 := Lib.hid (HE.out.trans (if_neg hA))
    have zy : (z == y) = false := by simpa using hA
    have S1 := Lib.hid (Stp.nob H.out (Kept.alloc w (.cells #[.int .u8 y] 5) nob))
    have hcv := conv_new [d] 1 (alloc_blk w (.cells #[.int .u8 (d.toNat : Int)] 5))
    rw [HD.out] at hcv
    have hcv' : (Go.convert 51 9 (.slice (some ⟨w.heap.size, 0, none⟩) 1 1)).run Try.prog (w.alloc (.cells #[.int .u8 y] 5)) = Result.ok (Value.string ⟨#[d]⟩) (w.alloc (.cells #[.int .u8 y] 5)) := hcv
    clear hcv HE hA
    go_enter Try.func44, Try.ntmps44
    go_wp2_with fail
    refine (operator_any S1.out.1 HO.out ⟨#[d]⟩).mono ?_
    rintro e w' ⟨v, rfl, hs⟩
    have HS := Lib.hid (S1.out.trans hs)
    have hb := hd_at hs.1
    have c1 : w'.cell? ⟨b, 1, none⟩ = some (.func (.func 34) #[.pointer (some ⟨b, 0, none⟩)] #[]) := by rw [cell_blk hb]; rfl
    have ea : ({S with lo := S.lo ++ [S.tp], tp := LvM.new 2 ⟨S.bu.toArray⟩ ⟨#[d]⟩, lvv := v, kd := 0} : Sn).abs = S.abs.push 2 ⟨S.abs.bu.toArray⟩ ⟨#[d]⟩ := by simp [Sn.abs, St.push, LvM.abs, LvM.new]
    have EA := Lib.hid ea
    clear hs hb ea
    go_wp2_with fail
    refine (HT.out HS.out.1 (by rw [EA.out]; exact (push_lim HL.out _ _ _).mono (by omega)) (by rw [EA.out]; exact push_wf HW.out (.inr rfl) _ _)).mono ?_
    rw [EA.out]
    rintro e w2 hr
    obtain ⟨C', S', rfl, h2, h3⟩ := ret_get hr
    go_wp2
    go_ret
    rw [HE2.out]
    exact ⟨C', S', rfl, HS.out.trans h2, h3⟩
def esc4 (c : Int) : Bool := decide (ixb ⟨#[36, 96, 34, 92]⟩ c < 0)
def stEscaped (s : St) (c : UInt8) : Int × St :=
  if c = 0 ∨ c = 10 then (3, s.turn 17) else if s.tp.wh = 1 ∧ esc4 c.toNat = true then (0, (s.lit [92, c]).turn 0)
  else (0, (({s with tk := s.tk ++ [c]} : St).add (.mk 2 ⟨#[c]⟩ ⟨#[]⟩ [] 0)).turn 0)
end Go.Proofs.Ytbmapjgajecgfaa
set_option linter.unusedVariables false
set_option linter.unusedSimpArgs false
namespace Go.Proofs.Ytbmapjgajecgfaa
open Go.RowKit
set_option maxRecDepth 100000 in
set_option maxHeartbeats 8000000 in
theorem escaped_any {B : Nat} {w : World} {b : Nat} {C : Nat → Prop} {S : Sn} (h : Fam B w C (S.dat b)) (hok : S.ok) (hwf : S.wf) (c : UInt8) :
    Calls Try.prog 35 #[.pointer (some ⟨b, 0, none⟩), .int .u8 (c.toNat : Int)] w (Ret B w b C S (stEscaped S.abs c)) := by
  obtain ⟨ti, hi, hz0, hz1, hz2⟩ := info_parts info_u8
  obtain ⟨g, n, tf⟩ := tf_at h
  have c0 := tf.c0
  have H := Lib.hid h
  have HT := Lib.hid (top_any h)
  rw [tf.top] at HT
  have hc255 := c.toNat_lt
  have HO := Lib.hid hok
  have HOT := Lib.hid hok.tp
  have HIX := Lib.hid (ixb_any ⟨#[36, 96, 34, 92]⟩ (c.toNat : Int))
  obtain ⟨x, hx⟩ : ∃ x, ixb ⟨#[36, 96, 34, 92]⟩ (c.toNat : Int) = x := ⟨_, rfl⟩
  obtain ⟨wh, hwh⟩ : ∃ k, S.tp.wh = k := ⟨_, rfl⟩
  have hwh' : S.abs.tp.wh = wh := hwh
  have hes : esc4 (c.toNat : Int) = decide (x < 0) := by unfold esc4; rw [hx]
  have HE : Hid (stEscaped S.abs c = (if c = 0 ∨ c = 10 then (3, S.abs.turn 17) else if wh = 1 ∧ decide (x < 0) = true then (0, (S.abs.lit [92, c]).turn 0)
    else (0, (({S.abs with tk := S.abs.tk ++ [c]} : St).add (.mk 2 ⟨#[c]⟩ ⟨#[]⟩ [] 0)).turn 0))) := Lib.hid (by unfold stEscaped; rw [hes, hwh'])
  rw [hx] at HIX
  rw [hwh] at c0
  have hw3 : wh = 0 ∨ wh = 1 ∨ wh = 2 := by
    rw [← hwh]
    rcases hwf with h | h
    · exact .inl h.2
    · exact .inr h.2
  obtain ⟨z, hz⟩ : ∃ z : Int, (c.toNat : Int) = z := ⟨_, rfl⟩
  have hzl : 0 ≤ z := by omega
  have hzh : z ≤ 255 := by omega
  have HZ := Lib.hid hz
  rw [hz] at HIX ⊢
  clear h hok hwf hx hwh hwh' tf hz hc255 hes
  by_cases hA : c = 0 ∨ c = 10
  · have HE2 := Lib.hid (HE.out.trans (if_pos hA))
    clear HE
    have key : (z == 0) = true ∨ ((z == 0) = false ∧ (z == 10) = true) := by
      by_cases h0 : c = 0
      · exact .inl (z_eq HZ.out (k := 0) (by omega) h0)
      · rcases hA with h | h
        · exact absurd h h0
        · exact .inr ⟨z_ne HZ.out (k := 0) (by omega) h0, z_eq HZ.out (k := 10) (by omega) h⟩
    clear hA
    rcases key with z0 | ⟨z0, z10⟩
    all_goals
      go_enter Try.func35, Try.ntmps35
      go_wp2_with fail
      refine (wrong_any H.out).mono ?_
      rintro e w' ⟨rfl, hs⟩
      go_wp2
      go_ret
      rw [HE2.out]
      exact ⟨C, _, rfl, hs, rfl⟩
  have HE2 := Lib.hid (HE.out.trans (if_neg hA))
  clear HE
  have z0 : (z == 0) = false := z_ne HZ.out (k := 0) (by omega) (fun e => hA (.inl e))
  have z10 : (z == 10) = false := z_ne HZ.out (k := 10) (by omega) (fun e => hA (.inr e))
  clear hA
  by_cases h1 : wh = 1
  · subst h1
    by_cases hxx : x < 0
    · have HE3 : Hid (stEscaped S.abs c = (0, (S.abs.lit [92, c]).turn 0)) := Lib.hid (by rw [HE2.out]; simp [hxx])
      clear HE2
      have hd : decide (x < 0) = true := by simpa using hxx
      go_enter Try.func35, Try.ntmps35
      go_wp2_with fail
      refine HT.out.mono ?_
      rintro e w1 ⟨rfl, q, rfl⟩
      have s1 := Lib.hid (Stp.nob H.out (Kept.drewN w q nob))
      go_wp2_with fail
      refine (HIX.out _).mono ?_
      rintro e w' ⟨rfl, rfl⟩
      go_wp2_with fail
      have S2 := Lib.hid (s1.out.trans (Stp.nob s1.out.1 (Kept.alloc (w.drewN q) (.cells #[.int .u8 92, .int .u8 z] 5) nob)))
      have HA := Lib.hid (alloc_blk (w.drewN q) (.cells #[.int .u8 92, .int .u8 z] 5))
      refine (lit_any S2.out.1 [92, c] w.heap.size 2 (by simp) (Eq.trans HA.out (by rw [← HZ.out]; rfl)) (fun hf => by have := s1.out.1.bnd _ hf; simp at this) (by have := HOT.out; omega) (by have := HO.out.2.1; omega)).mono ?_
      rintro e w3 ⟨v1, v2, rfl, s3⟩
      have S3 := Lib.hid (S2.out.trans s3)
      clear s3
      go_wp2_with fail
      refine (goes_any S3.out.1 0 (by omega)).mono ?_
      rintro e w' ⟨rfl, hs⟩
      go_wp2
      go_ret
      rw [HE3.out]
      exact ⟨C, _, rfl, S3.out.trans hs, rfl⟩
    · have HE3 : Hid (stEscaped S.abs c = (0, (({S.abs with tk := S.abs.tk ++ [c]} : St).add (.mk 2 ⟨#[c]⟩ ⟨#[]⟩ [] 0)).turn 0)) := Lib.hid (by rw [HE2.out]; simp [hxx])
      clear HE2
      have hd : decide (x < 0) = false := by simpa using hxx
      have hx0 : 0 ≤ x := by omega
      go_enter Try.func35, Try.ntmps35
      go_wp2_with fail
      refine HT.out.mono ?_
      rintro e w1 ⟨rfl, q, rfl⟩
      have s1 := Lib.hid (Stp.nob H.out (Kept.drewN w q nob))
      go_wp2_with fail
      refine (HIX.out _).mono ?_
      rintro e w' ⟨rfl, rfl⟩
      obtain ⟨a, cap, hf⟩ := af_tk s1.out.1 c
      have HF := Lib.hid hf
      have AZ1 := Lib.hid (hf.z HZ.out)
      have cw := AZ1.out.cw
      have T3 : Hid (S.tk.length + 1 ≤ maxLen) := Lib.hid (by unfold maxLen; have := HO.out.2.1; omega)
      have T4 : Hid ((S.tk.length + 1) * 1 ≤ 140737488355328) := Lib.hid (by have := HO.out.2.1; omega)
      clear hf
      go_wp2_with (at_builtin; refine wpList_append_lies _ rfl _ _ 51 rfl B 5 ti (.int .u8 0) 1 1 Try.underlying51 hi hz0 hz1 hz2 rfl (by decide) _ _ _ rfl AZ1.out.own ⟨w.heap.size, 0, none⟩ 1 1 [.int .u8 z] rfl rfl AZ1.out.new (one_z z) (by omega) T3.out T4.out AZ1.out.hB _ rfl ?_)
      intro g1 cap1 w2 own2 gr2 ls2 lt2
      have S2 := Lib.hid (s1.out.trans (app_tz HZ.out s1.out.1 HF.out own2 gr2 (by simpa [World.setCell] using ls2) lt2))
      have n2 := (gr2.cell_far ⟨b, 3, none⟩ AZ1.out.lt AZ1.out.ne).trans AZ1.out.c0
      have q2 := (gr2.frozen_far ⟨b, 3, none⟩ AZ1.out.lt AZ1.out.ne).trans AZ1.out.f0
      clear own2 gr2 ls2 lt2
      have S3 := Lib.hid (S2.out.trans (Stp.nob S2.out.1 (Kept.alloc (w2.setCell ⟨b, 3, none⟩ (.slice (some ⟨g1, 0, none⟩) (S.tk.length + 1) cap1)) (.cells #[.int .u8 z] 5) nob)))
      have hcn := conv_new [c] 1 (alloc_blk (w2.setCell ⟨b, 3, none⟩ (.slice (some ⟨g1, 0, none⟩) (S.tk.length + 1) cap1)) (.cells #[.int .u8 (c.toNat : Int)] 5))
      simp only [show (w2.setCell ⟨b, 3, none⟩ (.slice (some ⟨g1, 0, none⟩) (S.tk.length + 1) cap1)).heap.size = w2.heap.size by simp [World.setCell]] at hcn
      rw [HZ.out] at hcn
      have hcn' : (Go.convert 51 9 (.slice (some ⟨w2.heap.size, 0, none⟩) 1 1)).run Try.prog ((w2.setCell ⟨b, 3, none⟩ (.slice (some ⟨g1, 0, none⟩) (S.tk.length + 1) cap1)).alloc (.cells #[.int .u8 z] 5)) = Result.ok (Value.string ⟨#[c]⟩) ((w2.setCell ⟨b, 3, none⟩ (.slice (some ⟨g1, 0, none⟩) (S.tk.length + 1) cap1)).alloc (.cells #[.int .u8 z] 5)) := hcn
      clear hcn
      go_wp2_with fail
      refine (add_any S3.out.1 (by have := HOT.out; show S.tp.li.length ≤ _; omega) (by have := HOT.out; show S.tp.ps.length ≤ _; omega) 2 ⟨#[c]⟩ ⟨#[]⟩ none 0 0 [] none 0 0 (.inl ⟨none, 0, rfl, rfl⟩)).mono ?_
      rintro e w' ⟨v1, v2, rfl, hs⟩
      have HS := Lib.hid (S3.out.trans hs)
      clear hs
      go_wp2_with fail
      refine (goes_any HS.out.1 0 (by omega)).mono ?_
      rintro e w' ⟨rfl, hs⟩
      go_wp2
      go_ret
      rw [HE3.out]
      exact ⟨C, _, rfl, HS.out.trans hs, congrArg (fun s => St.turn s 0) (added_abs {S with tk := S.tk ++ [c], tkv := .slice (some ⟨g1, 0, none⟩) (S.tk.length + 1) cap1} (.mk 2 ⟨#[c]⟩ ⟨#[]⟩ [] 0) v1 v2)⟩
  · have HE3 : Hid (stEscaped S.abs c = (0, (({S.abs with tk := S.abs.tk ++ [c]} : St).add (.mk 2 ⟨#[c]⟩ ⟨#[]⟩ [] 0)).turn 0)) := Lib.hid (by rw [HE2.out]; simp [h1])
    have w1 : (wh == 1) = false := by simpa using h1
    clear HE2 h1 hw3
    go_enter Try.func35, Try.ntmps35
    go_wp2_with fail
    refine HT.out.mono ?_
    rintro e w1 ⟨rfl, q, rfl⟩
    have s1 := Lib.hid (Stp.nob H.out (Kept.drewN w q nob))
    obtain ⟨a, cap, hf⟩ := af_tk s1.out.1 c
    have HF := Lib.hid hf
    have AZ1 := Lib.hid (hf.z HZ.out)
    have cw := AZ1.out.cw
    have T3 : Hid (S.tk.length + 1 ≤ maxLen) := Lib.hid (by unfold maxLen; have := HO.out.2.1; omega)
    have T4 : Hid ((S.tk.length + 1) * 1 ≤ 140737488355328) := Lib.hid (by have := HO.out.2.1; omega)
    clear hf
    go_wp2_with (at_builtin; refine wpList_append_lies _ rfl _ _ 51 rfl B 5 ti (.int .u8 0) 1 1 Try.underlying51 hi hz0 hz1 hz2 rfl (by decide) _ _ _ rfl AZ1.out.own ⟨w.heap.size, 0, none⟩ 1 1 [.int .u8 z] rfl rfl AZ1.out.new (one_z z) (by omega) T3.out T4.out AZ1.out.hB _ rfl ?_)
    intro g1 cap1 w2 own2 gr2 ls2 lt2
    have S2 := Lib.hid (s1.out.trans (app_tz HZ.out s1.out.1 HF.out own2 gr2 (by simpa [World.setCell] using ls2) lt2))
    have n2 := (gr2.cell_far ⟨b, 3, none⟩ AZ1.out.lt AZ1.out.ne).trans AZ1.out.c0
    have q2 := (gr2.frozen_far ⟨b, 3, none⟩ AZ1.out.lt AZ1.out.ne).trans AZ1.out.f0
    clear own2 gr2 ls2 lt2
    have S3 := Lib.hid (S2.out.trans (Stp.nob S2.out.1 (Kept.alloc (w2.setCell ⟨b, 3, none⟩ (.slice (some ⟨g1, 0, none⟩) (S.tk.length + 1) cap1)) (.cells #[.int .u8 z] 5) nob)))
    have hcn := conv_new [c] 1 (alloc_blk (w2.setCell ⟨b, 3, none⟩ (.slice (some ⟨g1, 0, none⟩) (S.tk.length + 1) cap1)) (.cells #[.int .u8 (c.toNat : Int)] 5))
    simp only [show (w2.setCell ⟨b, 3, none⟩ (.slice (some ⟨g1, 0, none⟩) (S.tk.length + 1) cap1)).heap.size = w2.heap.size by simp [World.setCell]] at hcn
    rw [HZ.out] at hcn
    have hcn' : (Go.convert 51 9 (.slice (some ⟨w2.heap.size, 0, none⟩) 1 1)).run Try.prog ((w2.setCell ⟨b, 3, none⟩ (.slice (some ⟨g1, 0, none⟩) (S.tk.length + 1) cap1)).alloc (.cells #[.int .u8 z] 5)) = Result.ok (Value.string ⟨#[c]⟩) ((w2.setCell ⟨b, 3, none⟩ (.slice (some ⟨g1, 0, none⟩) (S.tk.length + 1) cap1)).alloc (.cells #[.int .u8 z] 5)) := hcn
    clear hcn
    go_wp2_with fail
    refine (add_any S3.out.1 (by have := HOT.out; show S.tp.li.length ≤ _; omega) (by have := HOT.out; show S.tp.ps.length ≤ _; omega) 2 ⟨#[c]⟩ ⟨#[]⟩ none 0 0 [] none 0 0 (.inl ⟨none, 0, rfl, rfl⟩)).mono ?_
    rintro e w' ⟨v1, v2, rfl, hs⟩
    have HS := Lib.hid (S3.out.trans hs)
    clear hs
    go_wp2_with fail
    refine (goes_any HS.out.1 0 (by omega)).mono ?_
    rintro e w' ⟨rfl, hs⟩
    go_wp2
    go_ret
    rw [HE3.out]
    exact ⟨C, _, rfl, HS.out.trans hs, congrArg (fun s => St.turn s 0) (added_abs {S with tk := S.tk ++ [c], tkv := .slice (some ⟨g1, 0, none⟩) (S.tk.length + 1) cap1} (.mk 2 ⟨#[c]⟩ ⟨#[]⟩ [] 0) v1 v2)⟩
end Go.Proofs.Ytbmapjgajecgfaa
set_option linter.unusedVariables false
set_option linter.unusedSimpArgs false
namespace Go.Proofs.Ytbmapjgajecgfaa
open Go.RowKit
def stNext (s : St) (c : UInt8) : Int × St :=
  match s.kd with
  | 0 => stText s c
  | 1 => stEscaped s c
  | 2 => stDollar s c
  | 3 => stOpened s c
  | 4 => stBare s c
  | 5 => stHead s c
  | 6 => stHash s c
  | 7 => stName s c
  | 8 => stName s c
  | 9 => stBehind s c
  | 10 => stColon s c
  | 11 => stDouble s c
  | 12 => stSingle s c
  | 13 => stArith s c
  | 14 => stArithEnd s c
  | 16 => (1, s)
  | _ => (3, s)
def stFeed (s : St) (c : UInt8) : Int × St := if (stNext s c).1 = 0 then (0, {(stNext s c).2 with pl := (stNext s c).2.pl ++ [c]}) else stNext s c
/-- What a machine fulfils that was fed not more than n bytes or so. -/
structure St.good (n : Nat) (s : St) : Prop where
  lim : s.lim n
  wf : s.wf
  cok : s.cok
  kd : s.kd ≤ 17
theorem feed_nil (c : Int) (w : World) : Calls Try.prog 12 #[.pointer none, .int .u8 c] w fun e w' => e = .returned (.int .i64 3) ∧ w = w' := by
  go_enter Try.func12, Try.ntmps12
  go_wp2
  go_ret
  exact ⟨rfl, rfl⟩
theorem app_pz {B : Nat} {w w2 : World} {b : Nat} {C : Nat → Prop} {S : Sn} {c : UInt8} {a : Option Addr} {cap g cap2 : Nat} {z : Int} (hz : (c.toNat : Int) = z) (h : Fam B w C (S.dat b)) (hf : AF B w b 4 S.plv S.pl c a cap)
    (own2 : w2.ownsRow B 5 1 (.slice (some ⟨g, 0, none⟩) (S.pl.length + 1) cap2) (S.pl.length + 1) (bv S.pl ++ [.int .u8 z])) (gr : (w.alloc (.cells #[.int .u8 z] 5)).grownBy w2 (Value.slice a S.pl.length cap).ownBlock) (ls : (Value.slice a S.pl.length cap).ownBlock = some g ∨ g = (w.alloc (.cells #[.int .u8 z] 5)).heap.size) (lt : g < w2.heap.size) :
    Stp B w C (S.dat b) (w2.setCell ⟨b, 4, none⟩ (.slice (some ⟨g, 0, none⟩) (S.pl.length + 1) cap2)) C (({S with pl := S.pl ++ [c], plv := .slice (some ⟨g, 0, none⟩) (S.pl.length + 1) cap2} : Sn).dat b) := by
  subst hz
  exact app_pl h hf own2 gr ls lt
set_option maxRecDepth 100000 in
set_option maxHeartbeats 8000000 in
theorem feed_any {c : UInt8} {B : Nat} {w : World} {b : Nat} {C : Nat → Prop} {S : Sn} (h : Fam B w C (S.dat b)) (hg : S.abs.good 70000) (hp : (stNext S.abs c).2.pl.length ≤ 90000) :
    Calls Try.prog 12 #[.pointer (some ⟨b, 0, none⟩), .int .u8 (c.toNat : Int)] w (Ret B w b C S (stFeed S.abs c)) := by
  obtain ⟨ti, hi, hz0, hz1, hz2⟩ := info_parts info_u8
  have hok := ok_of hg.lim (by omega)
  have hwf := wf_of hg.wf
  have hlim := hg.lim.mono (show 70000 ≤ 80000 by omega)
  have hd : 0 ≤ S.dp ∧ S.dp ≤ 90000 := by have := hg.lim.2.2.2.2.2; exact ⟨this.1, by have := this.2; have e : S.abs.dp = S.dp := rfl; omega⟩
  have hb := hd_at h
  have c1 : w.cell? ⟨b, 1, none⟩ = some (nextv b S.kd) := by rw [cell_blk hb]; rfl
  have H := Lib.hid h
  have hkd : S.kd ≤ 17 := hg.kd
  have hN : ∀ k, S.kd = k → (∀ r, stNext S.abs c = r → ∃ f av, nextv b k = .func (.func f) av #[] ∧ Calls Try.prog f (av.push (.int .u8 (c.toNat : Int))) w (Ret B w b C S r)) := by
    intro k hk r hr
    have e : ∀ q, (stNext S.abs c = q) → r = q := fun q hq => hr.symm.trans hq
    have hkd' : S.abs.kd = k := hk
    unfold stNext at e
    rw [hkd'] at e
    have key : k = 0 ∨ k = 1 ∨ k = 2 ∨ k = 3 ∨ k = 4 ∨ k = 5 ∨ k = 6 ∨ k = 7 ∨ k = 8 ∨ k = 9 ∨ k = 10 ∨ k = 11 ∨ k = 12 ∨ k = 13 ∨ k = 14 ∨ k = 15 ∨ k = 16 ∨ k = 17 := by omega
    rcases key with rfl | rfl | rfl | rfl | rfl | rfl | rfl | rfl | rfl | rfl | rfl | rfl | rfl | rfl | rfl | rfl | rfl | rfl
    · rw [e _ rfl]; exact ⟨34, _, rfl, text_any h hok hwf c⟩
    · rw [e _ rfl]; exact ⟨35, _, rfl, escaped_any h hok hwf c⟩
    · rw [e _ rfl]; exact ⟨36, _, rfl, dollar_any h hlim hg.wf c⟩
    · rw [e _ rfl]; exact ⟨37, _, rfl, opened_any h c⟩
    · rw [e _ rfl]; exact ⟨38, _, rfl, bare_any h hlim hg.wf c⟩
    · rw [e _ rfl]; exact ⟨39, _, rfl, head_any h c⟩
    · rw [e _ rfl]; exact ⟨40, _, rfl, hash_any h hok c⟩
    · rw [e _ rfl]; exact ⟨41, _, rfl, name_any h hlim c⟩
    · rw [e _ rfl]; exact ⟨41, _, rfl, name_any h hlim c⟩
    · rw [e _ rfl]; exact ⟨42, _, rfl, behind_any h hok c⟩
    · rw [e _ rfl]; exact ⟨43, _, rfl, colon_any h hok c⟩
    · rw [e _ rfl]; exact ⟨44, _, rfl, double_any h hlim hg.wf hg.cok c⟩
    · rw [e _ rfl]; exact ⟨45, _, rfl, single_any h hok c⟩
    · rw [e _ rfl]; exact ⟨46, _, rfl, arith_any h hok hd c⟩
    · rw [e _ rfl]; exact ⟨47, _, rfl, arithEnd_any h hok c⟩
    · rw [e _ rfl]; exact ⟨49, #[], rfl, (dead_any _ w).mono (fun e w' ⟨h1, h2⟩ => by subst h1; subst h2; exact ⟨C, S, rfl, Stp.refl h, rfl⟩)⟩
    · rw [e _ rfl]; exact ⟨48, #[], rfl, (over_any _ w).mono (fun e w' ⟨h1, h2⟩ => by subst h1; subst h2; exact ⟨C, S, rfl, Stp.refl h, rfl⟩)⟩
    · rw [e _ rfl]; exact ⟨49, #[], rfl, (dead_any _ w).mono (fun e w' ⟨h1, h2⟩ => by subst h1; subst h2; exact ⟨C, S, rfl, Stp.refl h, rfl⟩)⟩
  obtain ⟨r, hr⟩ : ∃ r, stNext S.abs c = r := ⟨_, rfl⟩
  have hE : stFeed S.abs c = if r.1 = 0 then (0, {r.2 with pl := r.2.pl ++ [c]}) else r := by unfold stFeed; rw [hr]
  rw [hr] at hp
  have HE := Lib.hid hE
  obtain ⟨z, hz⟩ : ∃ z : Int, (c.toNat : Int) = z := ⟨_, rfl⟩
  have HZ := Lib.hid hz
  have hN' := fun k hk => hN k hk r hr
  rw [hz] at hN' ⊢
  have HP := Lib.hid hp
  clear hg hok hwf hlim hd hb hN hr hE hz hp h
  have key : S.kd = 0 ∨ S.kd = 1 ∨ S.kd = 2 ∨ S.kd = 3 ∨ S.kd = 4 ∨ S.kd = 5 ∨ S.kd = 6 ∨ S.kd = 7 ∨ S.kd = 8 ∨ S.kd = 9 ∨ S.kd = 10 ∨ S.kd = 11 ∨ S.kd = 12 ∨ S.kd = 13 ∨ S.kd = 14 ∨ S.kd = 15 ∨ S.kd = 16 ∨ S.kd = 17 := by omega
  clear hkd
  rcases key with hk | hk | hk | hk | hk | hk | hk | hk | hk | hk | hk | hk | hk | hk | hk | hk | hk | hk
  all_goals
    obtain ⟨f, av, e1, e2⟩ := hN' _ hk
    clear hN'
    rw [hk] at c1
    simp only [nextv, Value.func.injEq, Fn.func.injEq, and_true] at e1 c1
    obtain ⟨rfl, rfl⟩ := e1
    simp only [List.push_toArray, List.cons_append, List.nil_append] at e2
    have HC := Lib.hid e2
    clear e2 hk
    go_enter Try.func12, Try.ntmps12
    go_wp2_with fail
    refine HC.out.mono ?_
    rintro e w1 hret
    obtain ⟨C1, S1, rfl, h1, ha⟩ := ret_get hret
    have H1 := Lib.hid h1
    have HA := Lib.hid ha
    clear h1 ha hret
    obtain ⟨sg, hsg⟩ : ∃ sg, r.1 = sg := ⟨_, rfl⟩
    rw [hsg]
    have HS := Lib.hid hsg
    clear hsg
    by_cases h0 : sg = 0
    · have s0 : (sg == 0) = true := by simpa using h0
      have HH0 := Lib.hid h0
      obtain ⟨a, cap, hf⟩ := af_pl H1.out.1 c
      have HF := Lib.hid hf
      have AZ1 := Lib.hid (hf.z HZ.out)
      have cw := AZ1.out.cw
      have T2 : Hid (S1.pl.length ≤ 90000) := Lib.hid (by have := HP.out; rw [← HA.out] at this; exact this)
      have T3 : Hid (S1.pl.length + 1 ≤ maxLen) := Lib.hid (by unfold maxLen; have := T2.out; omega)
      have T4 : Hid ((S1.pl.length + 1) * 1 ≤ 140737488355328) := Lib.hid (by have := T2.out; omega)
      clear hf h0
      go_wp2_with (at_builtin; refine wpList_append_lies _ rfl _ _ 51 rfl B 5 ti (.int .u8 0) 1 1 Try.underlying51 hi hz0 hz1 hz2 rfl (by decide) _ _ _ rfl AZ1.out.own ⟨w1.heap.size, 0, none⟩ 1 1 [.int .u8 z] rfl rfl AZ1.out.new (one_z z) (by omega) T3.out T4.out AZ1.out.hB _ rfl ?_)
      intro g1 cap1 w2 own2 gr2 ls2 lt2
      have S2 := Lib.hid (H1.out.trans (app_pz HZ.out H1.out.1 HF.out own2 gr2 (by simpa [World.setCell] using ls2) lt2))
      have n2 := (gr2.cell_far ⟨b, 4, none⟩ AZ1.out.lt AZ1.out.ne).trans AZ1.out.c0
      have q2 := (gr2.frozen_far ⟨b, 4, none⟩ AZ1.out.lt AZ1.out.ne).trans AZ1.out.f0
      clear own2 gr2 ls2 lt2
      go_wp2
      go_ret
      rw [HE.out, if_pos (HS.out.trans HH0.out)]
      refine ⟨C1, _, (by rw [HH0.out]; rfl), S2.out, ?_⟩
      rw [← HA.out]
      rfl
    · have s0 : (sg == 0) = false := by simpa using h0
      have HH0 := Lib.hid h0
      clear h0
      go_wp2
      go_ret
      rw [HE.out, if_neg (fun e => HH0.out (HS.out.symm.trans e))]
      exact ⟨C1, S1, (by rw [HS.out]; rfl), H1.out, HA.out⟩
end Go.Proofs.Ytbmapjgajecgfaa
set_option linter.unusedVariables false
set_option linter.unusedSimpArgs false
namespace Go.Proofs.Ytbmapjgajecgfaa
open Go.RowKit
def lz : LvM := LvM.new 0 ⟨#[]⟩ ⟨#[]⟩
/-- A machine before its first byte. -/
def Sn.init (g k : Nat) : Sn := ⟨[], lz, k, [], [], false, false, [], 0, false, 0, .slice (some ⟨g, 0, none⟩) 1 1, .slice none 0 0, .slice none 0 0, .slice none 0 0⟩
def St.init : St := ⟨[], ⟨0, [], [], ⟨#[]⟩, ⟨#[]⟩⟩, 0, [], [], false, false, [], 0, false, 0⟩
theorem mk_lev (w : World) : (Instr.makeSlice 50 (.int .i64 1) (.int .i64 1)).run Try.prog w = .ok (.slice (some ⟨w.heap.size, 0, none⟩) 1 1) (w.alloc (.cells #[.int .i64 0, .slice none 0 0, .slice none 0 0, .string ⟨#[]⟩, .string ⟨#[]⟩] 55)) := by kernel_rfl
def New (B : Nat) (w0 : World) (e : Ending) (w' : World) : Prop :=
  ∃ (b : Nat) (S : Sn), e = .returned (.pointer (some ⟨b, 0, none⟩)) ∧ Fam B w' (fun _ => False) (S.dat b) ∧ Kept nob w0 w' ∧ (∀ k, Foot (fun _ => False) (S.dat b) k → w0.heap.size ≤ k) ∧ S.abs = St.init
theorem init_blk {b g k : Nat} (t : Tag) {j : Nat} (h : ((Sn.init g k).dat b t).blk = some j) : (t = .hd ∧ j = b) ∨ (t = .lv ∧ j = g) := by
  cases t with
  | hd => exact .inl ⟨rfl, (Option.some.inj h).symm⟩
  | lv => exact .inr ⟨rfl, (Option.some.inj h).symm⟩
  | ps i => rcases i with _ | i <;> cases h
  | li i => rcases i with _ | i <;> cases h
  | _ => cases h
theorem init_fam {B : Nat} {w : World} {b g : Nat} (hb : w.heap[b]? = some (.cells ((Sn.init g 0).head b (nextv b 0)) 53 (0, 0))) (hg : w.heap[g]? = some (.cells #[.int .i64 0, .slice none 0 0, .slice none 0 0, .string ⟨#[]⟩, .string ⟨#[]⟩] 55 (0, 0))) (hne : b ≠ g) (h1 : B ≤ b) (h2 : B ≤ g) :
    Fam B w (fun _ => False) ((Sn.init g 0).dat b) := by
  refine ⟨fun t => ?_, fun t s k ht hs => ?_, fun k hk => ?_, fun k t hk => hk.elim⟩
  · cases t with
    | hd => exact hb
    | lv => exact ⟨rfl, .inr ⟨g, 1, _, rfl, h2, hg, Nat.le_refl _, by unfold maxLen; omega, rfl, rfl⟩⟩
    | tk => exact World.ownsRow_nil _ _ _ _
    | pl => exact World.ownsRow_nil _ _ _ _
    | bu => exact World.ownsRow_nil _ _ _ _
    | ps i =>
      rcases i with _ | i
      · exact ⟨[], World.ownsRow_nil _ _ _ _, .nil⟩
      · exact trivial
    | li i =>
      rcases i with _ | i
      · exact World.ownsRow_nil _ _ _ _
      · exact trivial
  · rcases init_blk t ht with ⟨rfl, rfl⟩ | ⟨rfl, rfl⟩ <;> rcases init_blk s hs with ⟨rfl, e⟩ | ⟨rfl, e⟩
    · rfl
    · exact absurd e hne
    · exact absurd e.symm hne
    · rfl
  · rcases hk with hk | ⟨t, ht⟩
    · exact hk.elim
    · rcases init_blk t ht with ⟨_, rfl⟩ | ⟨_, rfl⟩
      · exact ⟨h1, lt_blk hb⟩
      · exact ⟨h2, lt_blk hg⟩
theorem turn0 {w : World} {b : Nat} {S : Sn} (hb : w.heap[b]? = some (.cells (S.head b .nilFunc) 53 (0, 0))) :
    Calls Try.prog 27 #[.pointer (some ⟨b, 0, none⟩), .int .i64 0] w fun e w' => e = .returned (.pointer (some ⟨b, 0, none⟩)) ∧ w' = (w.setCell ⟨b, 2, none⟩ (.int .i64 0)).setCell ⟨b, 1, none⟩ (nextv b 0) := by
  have e1 := fun v => set_blk hb 2 v
  have hc2 : w.cell? ⟨b, 2, none⟩ = some (.int .i64 (S.kd : Int)) := by rw [cell_blk hb]; rfl
  have hf2 := frz_blk hb 2
  have hd1 : ∀ v, (w.setCell ⟨b, 2, none⟩ v).cell? ⟨b, 1, none⟩ = some .nilFunc := fun v => by rw [cell_blk (e1 v)]; rfl
  have hg1 : ∀ v, (w.setCell ⟨b, 2, none⟩ v).frozen? ⟨b, 1, none⟩ = false := fun v => frz_blk (e1 v) 1
  clear hb e1
  go_enter Try.func27, Try.ntmps27
  go_wp2
  go_ret
  exact ⟨rfl, rfl⟩
set_option maxRecDepth 100000 in
theorem new_any (B : Nat) (w : World) (hB : B ≤ w.heap.size) : Calls Try.prog 24 #[] w (New B w) := by
  have hmk := mk_lev
  obtain ⟨w1, hw1⟩ : ∃ w1, w1 = (w.alloc (.cells #[.int .i64 0, .slice none 0 0, .slice none 0 0, .string ⟨#[]⟩, .string ⟨#[]⟩] 55)) := ⟨_, rfl⟩
  have z1 : w1.heap.size = w.heap.size + 1 := by rw [hw1]; simp
  have g1 := alloc_blk w (.cells #[.int .i64 0, .slice none 0 0, .slice none 0 0, .string ⟨#[]⟩, .string ⟨#[]⟩] 55)
  rw [← hw1] at g1
  have k1 : Kept nob w w1 := by rw [hw1]; exact Kept.alloc _ _ _
  have b2 := alloc_blk w1 (.cells ((Sn.init w.heap.size 0).head (w.heap.size + 1) .nilFunc) 53)
  rw [z1] at b2
  have g2 := alloc_old g1 (.cells ((Sn.init w.heap.size 0).head (w.heap.size + 1) .nilFunc) 53)
  have k2 := k1.trans (Kept.alloc w1 (.cells ((Sn.init w.heap.size 0).head (w.heap.size + 1) .nilFunc) 53) nob) (fun _ _ h => h)
  have HT := Lib.hid (turn0 (S := Sn.init w.heap.size 0) b2)
  rw [hw1] at HT
  clear g1 k1 b2 g2 k2 hw1 z1
  go_enter Try.func24, Try.ntmps24
  go_wp2_with fail
  refine HT.out.mono ?_
  rintro e w' ⟨rfl, rfl⟩
  go_wp2
  go_ret
  have hb3 := alloc_blk (w.alloc (.cells #[.int .i64 0, .slice none 0 0, .slice none 0 0, .string ⟨#[]⟩, .string ⟨#[]⟩] 55)) (.cells ((((Sn.init w.heap.size 0).head (w.heap.size + 1) Value.nilFunc).setIfInBounds 2 (.int .i64 0)).setIfInBounds 1 (nextv (w.heap.size + 1) 0)) 53)
  rw [World.size_alloc] at hb3
  have hg4 := alloc_old (alloc_blk w (.cells #[.int .i64 0, .slice none 0 0, .slice none 0 0, .string ⟨#[]⟩, .string ⟨#[]⟩] 55)) (.cells ((((Sn.init w.heap.size 0).head (w.heap.size + 1) Value.nilFunc).setIfInBounds 2 (.int .i64 0)).setIfInBounds 1 (nextv (w.heap.size + 1) 0)) 53)
  refine ⟨w.heap.size + 1, Sn.init w.heap.size 0, rfl, init_fam hb3 hg4 (by omega) (by omega) hB, (Kept.alloc w _ nob).trans (Kept.alloc _ _ nob) (fun _ _ h => h), fun k hk => ?_, rfl⟩
  rcases hk with hk | ⟨t, ht⟩
  · exact hk.elim
  · rcases init_blk t ht with ⟨_, rfl⟩ | ⟨_, rfl⟩ <;> omega
end Go.Proofs.Ytbmapjgajecgfaa

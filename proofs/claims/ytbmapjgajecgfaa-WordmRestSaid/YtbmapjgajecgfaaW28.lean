/-
  What is proved: what arith does. Conditions: those of each theorem.
-/
import Derived.Test.YtbmapjgajecgfaaW27
set_option linter.unusedVariables false
set_option linter.unusedSimpArgs false
namespace Go.Proofs.Ytbmapjgajecgfaa
open Go.RowKit
def stArith (s : St) (c : UInt8) : Int × St :=
  if c = 0 then (3, s.turn 17) else if c = 41 ∧ s.dp = 0 then (0, s.turn 14) else (0, {s with bu := s.bu ++ [c], dp := if c = 41 then s.dp - 1 else if c = 40 then s.dp + 1 else s.dp})
theorem dp_step {B : Nat} {w : World} {b : Nat} {C : Nat → Prop} {S : Sn} (h : Fam B w C (S.dat b)) (d : Int) : Stp B w C (S.dat b) (w.setCell ⟨b, 8, none⟩ (.int .i64 d)) C (({S with dp := d} : Sn).dat b) :=
  fset (S' := {S with dp := d}) h 8 (.int .i64 d) rfl (by funext t; cases t <;> rfl)
set_option maxRecDepth 100000 in
set_option maxHeartbeats 8000000 in
theorem arith_any {B : Nat} {w : World} {b : Nat} {C : Nat → Prop} {S : Sn} (h : Fam B w C (S.dat b)) (hok : S.ok) (hd : 0 ≤ S.dp ∧ S.dp ≤ 90000) (c : UInt8) :
    Calls Try.prog 46 #[.pointer (some ⟨b, 0, none⟩), .int .u8 (c.toNat : Int)] w (Ret B w b C S (stArith S.abs c)) := by
  obtain ⟨ti, hi, hz0, hz1, hz2⟩ := info_parts info_u8
  have hb := hd_at h
  have c8 : w.cell? ⟨b, 8, none⟩ = some (.int .i64 S.dp) := by rw [cell_blk hb]; rfl
  have f8 := frz_blk hb 8
  have H := Lib.hid h
  have hc255 := c.toNat_lt
  have HO := Lib.hid hok
  obtain ⟨z, hz⟩ : ∃ z : Int, (c.toNat : Int) = z := ⟨_, rfl⟩
  have hzl : 0 ≤ z := by omega
  have hzh : z ≤ 255 := by omega
  have HZ := Lib.hid hz
  rw [hz]
  obtain ⟨d, hd'⟩ : ∃ d, S.dp = d := ⟨_, rfl⟩
  rw [hd'] at hd c8
  have HD := Lib.hid hd'
  have hdl := hd.1
  have hdh := hd.2
  clear h hok hz hc255 hb hd' hd
  by_cases h0 : c = 0
  · have z0 : (z == 0) = true := z_eq HZ.out (k := 0) (by omega) h0
    have HE : Hid (stArith S.abs c = (3, S.abs.turn 17)) := Lib.hid (by unfold stArith; rw [if_pos h0])
    clear h0
    go_enter Try.func46, Try.ntmps46
    go_wp2_with fail
    refine (wrong_any H.out).mono ?_
    rintro e w' ⟨rfl, hs⟩
    go_wp2
    go_ret
    rw [HE.out]
    exact ⟨C, _, rfl, hs, rfl⟩
  have z0 : (z == 0) = false := z_ne HZ.out (k := 0) (by omega) h0
  by_cases h41 : c = 41
  · have z41 : (z == 41) = true := z_eq HZ.out (k := 41) (by omega) h41
    by_cases hdz : d = 0
    · have HE : Hid (stArith S.abs c = (0, S.abs.turn 14)) := Lib.hid (by unfold stArith; rw [if_neg h0, if_pos ⟨h41, HD.out.trans hdz⟩])
      have d0 : (d == 0) = true := by simpa using hdz
      clear h0 h41 hdz
      go_enter Try.func46, Try.ntmps46
      go_wp2_with fail
      refine (goes_any H.out 14 (by omega)).mono ?_
      rintro e w' ⟨rfl, hs⟩
      go_wp2
      go_ret
      rw [HE.out]
      exact ⟨C, _, rfl, hs, rfl⟩
    · have HE : Hid (stArith S.abs c = (0, {S.abs with bu := S.abs.bu ++ [c], dp := d - 1})) := Lib.hid (by
        have e : S.abs.dp = d := HD.out
        unfold stArith; rw [if_neg h0, if_neg (fun h => hdz (HD.out.symm.trans h.2)), if_pos h41, e])
      have d0 : (d == 0) = false := by simpa using hdz
      have hd1 : 1 ≤ d := by omega
      clear h0 h41 hdz
      have S1 := Lib.hid (dp_step H.out (d - 1))
      obtain ⟨a, cap, hf⟩ := af_bu S1.out.1 c
      have HF := Lib.hid hf
      have AZ1 := Lib.hid (hf.z HZ.out)
      have cw := AZ1.out.cw
      clear hf
      go_enter Try.func46, Try.ntmps46
      go_wp2_with (at_builtin; refine wpList_append_lies _ rfl _ _ 51 rfl B 5 ti (.int .u8 0) 1 1 Try.underlying51 hi hz0 hz1 hz2 rfl (by decide) _ _ _ rfl AZ1.out.own ⟨w.heap.size, 0, none⟩ 1 1 [.int .u8 z] rfl rfl ?q12 (one_z z) (by omega) ?q13 ?q14 ?q15 _ rfl ?_)
      case q13 => unfold maxLen; have := HO.out.2.2.2.1; show S.bu.length + 1 ≤ _; omega
      case q14 => have := HO.out.2.2.2.1; show S.bu.length ≤ _; omega
      case q15 => have := AZ1.out.hB; simpa [World.setCell] using this
      intro g1 cap1 w2 own2 gr2 ls2 lt2
      have S2 := Lib.hid (S1.out.trans (app_bz HZ.out S1.out.1 HF.out own2 gr2 (by simpa [World.setCell] using ls2) lt2))
      have n2 := (gr2.cell_far ⟨b, 7, none⟩ AZ1.out.lt AZ1.out.ne).trans AZ1.out.c0
      have q2 := (gr2.frozen_far ⟨b, 7, none⟩ AZ1.out.lt AZ1.out.ne).trans AZ1.out.f0
      clear own2 gr2 ls2 lt2
      go_wp2
      go_ret
      rw [HE.out]
      exact ⟨C, _, rfl, S2.out, rfl⟩
  have z41 : (z == 41) = false := z_ne HZ.out (k := 41) (by omega) h41
  by_cases h40 : c = 40
  · have z40 : (z == 40) = true := z_eq HZ.out (k := 40) (by omega) h40
    have HE : Hid (stArith S.abs c = (0, {S.abs with bu := S.abs.bu ++ [c], dp := d + 1})) := Lib.hid (by
      have e : S.abs.dp = d := HD.out
      unfold stArith; rw [if_neg h0, if_neg (fun h => h41 h.1), if_neg h41, if_pos h40, e])
    clear h0 h41 h40
    have S1 := Lib.hid (dp_step H.out (d + 1))
    obtain ⟨a, cap, hf⟩ := af_bu S1.out.1 c
    have HF := Lib.hid hf
    have AZ1 := Lib.hid (hf.z HZ.out)
    have cw := AZ1.out.cw
    clear hf
    go_enter Try.func46, Try.ntmps46
    go_wp2_with (at_builtin; refine wpList_append_lies _ rfl _ _ 51 rfl B 5 ti (.int .u8 0) 1 1 Try.underlying51 hi hz0 hz1 hz2 rfl (by decide) _ _ _ rfl AZ1.out.own ⟨w.heap.size, 0, none⟩ 1 1 [.int .u8 z] rfl rfl ?q22 (one_z z) (by omega) ?q23 ?q24 ?q25 _ rfl ?_)
    case q23 => unfold maxLen; have := HO.out.2.2.2.1; show S.bu.length + 1 ≤ _; omega
    case q24 => have := HO.out.2.2.2.1; show S.bu.length ≤ _; omega
    case q25 => have := AZ1.out.hB; simpa [World.setCell] using this
    intro g1 cap1 w2 own2 gr2 ls2 lt2
    have S2 := Lib.hid (S1.out.trans (app_bz HZ.out S1.out.1 HF.out own2 gr2 (by simpa [World.setCell] using ls2) lt2))
    have n2 := (gr2.cell_far ⟨b, 7, none⟩ AZ1.out.lt AZ1.out.ne).trans AZ1.out.c0
    have q2 := (gr2.frozen_far ⟨b, 7, none⟩ AZ1.out.lt AZ1.out.ne).trans AZ1.out.f0
    clear own2 gr2 ls2 lt2
    go_wp2
    go_ret
    rw [HE.out]
    exact ⟨C, _, rfl, S2.out, rfl⟩
  have z40 : (z == 40) = false := z_ne HZ.out (k := 40) (by omega) h40
  have HE : Hid (stArith S.abs c = (0, {S.abs with bu := S.abs.bu ++ [c]})) := Lib.hid (by
    unfold stArith; rw [if_neg h0, if_neg (fun h => h41 h.1), if_neg h41, if_neg h40])
  clear h0 h41 h40
  obtain ⟨a, cap, hf⟩ := af_bu H.out c
  have HF := Lib.hid hf
  have AZ1 := Lib.hid (hf.z HZ.out)
  have cw := AZ1.out.cw
  clear hf
  go_enter Try.func46, Try.ntmps46
  go_wp2_with (at_builtin; refine wpList_append_lies _ rfl _ _ 51 rfl B 5 ti (.int .u8 0) 1 1 Try.underlying51 hi hz0 hz1 hz2 rfl (by decide) _ _ _ rfl AZ1.out.own ⟨w.heap.size, 0, none⟩ 1 1 [.int .u8 z] rfl rfl ?q32 (one_z z) (by omega) ?q33 ?q34 ?q35 _ rfl ?_)
  case q33 => unfold maxLen; have := HO.out.2.2.2.1; show S.bu.length + 1 ≤ _; omega
  case q34 => have := HO.out.2.2.2.1; show S.bu.length ≤ _; omega
  case q35 => have := AZ1.out.hB; simpa [World.setCell] using this
  intro g1 cap1 w2 own2 gr2 ls2 lt2
  have S2 := Lib.hid ((app_bz HZ.out H.out HF.out own2 gr2 (by simpa [World.setCell] using ls2) lt2))
  have n2 := (gr2.cell_far ⟨b, 7, none⟩ AZ1.out.lt AZ1.out.ne).trans AZ1.out.c0
  have q2 := (gr2.frozen_far ⟨b, 7, none⟩ AZ1.out.lt AZ1.out.ne).trans AZ1.out.f0
  clear own2 gr2 ls2 lt2
  go_wp2
  go_ret
  rw [HE.out]
  exact ⟨C, _, rfl, S2.out, rfl⟩
theorem over_any (c : Int) (w : World) : Calls Try.prog 48 #[.int .u8 c] w fun e w' => e = .returned (.int .i64 1) ∧ w = w' := by
  go_enter Try.func48, Try.ntmps48
  go_wp2
  go_ret
  exact ⟨rfl, rfl⟩
theorem dead_any (c : Int) (w : World) : Calls Try.prog 49 #[.int .u8 c] w fun e w' => e = .returned (.int .i64 3) ∧ w = w' := by
  go_enter Try.func49, Try.ntmps49
  go_wp2
  go_ret
  exact ⟨rfl, rfl⟩
end Go.Proofs.Ytbmapjgajecgfaa

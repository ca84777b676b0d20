/-
  What is proved: what bare and name do. Conditions: those of each theorem.
-/
import Derived.Test.YtbmapjgajecgfaaW30
set_option linter.unusedVariables false
set_option linter.unusedSimpArgs false
namespace Go.Proofs.Ytbmapjgajecgfaa
open Go.RowKit
theorem add_lim {s : St} {n : Nat} (h : s.lim n) (p : Prt) : (s.add p).lim (n + 2) := by
  obtain ⟨h1, h2, h3, h4, h5, h6, h7⟩ := h
  have hf : s.tp.flush.li.length ≤ n ∧ s.tp.flush.ps.length ≤ n + 1 := by
    have := h5 s.tp (by simp [St.all])
    unfold Lvl.flush
    split
    · omega
    · simp; omega
  refine ⟨by show s.lo.length ≤ _; omega, by show s.tk.length ≤ _; omega, by show s.pl.length ≤ _; omega, by show s.bu.length ≤ _; omega, fun l hl => ?_, h6, by show s.dp ≤ _; omega⟩
  have hx : l ∈ s.lo ∨ l = {s.tp.flush with ps := s.tp.flush.ps ++ [p]} := by simpa [St.all, St.add] using hl
  rcases hx with hx | rfl
  · have := h5 l (by simp [St.all, hx]); omega
  · exact ⟨by show s.tp.flush.li.length ≤ _; omega, by simp; omega⟩
theorem flush_wh (l : Lvl) : l.flush.wh = l.wh := by unfold Lvl.flush; split <;> rfl
/-- The last level is another one with the same kind. -/
theorem wf_tp {s s' : St} (h : s.wf) (hlo : s'.lo = s.lo) (ht : s'.tp.wh = s.tp.wh) : s'.wf := by
  obtain ⟨l, r, h1, h2, h3⟩ := h
  unfold St.wf St.all
  rw [hlo]
  unfold St.all at h1
  rcases hs : s.lo with _ | ⟨x, t⟩
  · rw [hs] at h1
    simp at h1
    exact ⟨s'.tp, [], rfl, by rw [ht, h1.1, h2], fun x hx => by cases hx⟩
  · rw [hs] at h1
    simp at h1
    refine ⟨l, t ++ [s'.tp], by simp [h1.1], h2, fun y hy => ?_⟩
    have hy' : y ∈ t ∨ y = s'.tp := by simpa using hy
    rcases hy' with hy | rfl
    · exact h3 y (by rw [← h1.2]; simp [hy])
    · rw [ht]; exact h3 s.tp (by rw [← h1.2]; simp)
theorem add_wf {s : St} (h : s.wf) (p : Prt) : (s.add p).wf := wf_tp h rfl (flush_wh _)
theorem push_wf {s : St} (h : s.wf) {wh : Int} (hw : wh = 1 ∨ wh = 2) (nm op : ByteArray) : (s.push wh nm op).wf := by
  obtain ⟨l, r, h1, h2, h3⟩ := h
  refine ⟨l, r ++ [⟨wh, [], [], nm, op⟩], ?_, h2, fun y hy => ?_⟩
  · show (s.lo ++ [s.tp]) ++ [_] = _
    rw [show s.lo ++ [s.tp] = l :: r from h1]
    rfl
  · have hy' : y ∈ r ∨ y = ⟨wh, [], [], nm, op⟩ := by simpa using hy
    rcases hy' with hy | rfl
    · exact h3 y hy
    · exact hw
theorem push_lim {s : St} {n : Nat} (h : s.lim n) (wh : Int) (nm op : ByteArray) : (s.push wh nm op).lim (n + 1) := by
  obtain ⟨h1, h2, h3, h4, h5, h6, h7⟩ := h
  refine ⟨by simp [St.push]; omega, by show s.tk.length ≤ _; omega, by show s.pl.length ≤ _; omega, by show s.bu.length ≤ _; omega, fun l hl => ?_, h6, by show s.dp ≤ _; omega⟩
  have hx : l ∈ s.all ∨ l = ⟨wh, [], [], nm, op⟩ := by
    have : l ∈ (s.lo ++ [s.tp]) ++ [⟨wh, [], [], nm, op⟩] := hl
    rcases List.mem_append.1 this with h | h
    · exact .inl h
    · exact .inr (by simpa using h)
  rcases hx with hx | rfl
  · have := h5 l hx; omega
  · exact ⟨by simp, by simp⟩
def stBare (s : St) (c : UInt8) : Int × St :=
  if cls c.toNat = 4 ∨ cls c.toNat = 3 then (0, {s with bu := s.bu ++ [c]}) else stText ((s.add (.mk 5 ⟨s.bu.toArray⟩ ⟨#[]⟩ [] 0)).turn 0) c
set_option maxRecDepth 100000 in
set_option maxHeartbeats 8000000 in
theorem bare_any {B : Nat} {w : World} {b : Nat} {C : Nat → Prop} {S : Sn} (h : Fam B w C (S.dat b)) (hl : S.abs.lim 80000) (hwf : S.abs.wf) (c : UInt8) :
    Calls Try.prog 38 #[.pointer (some ⟨b, 0, none⟩), .int .u8 (c.toNat : Int)] w (Ret B w b C S (stBare S.abs c)) := by
  obtain ⟨ti, hi, hz0, hz1, hz2⟩ := info_parts info_u8
  have hb := hd_at h
  have H := Lib.hid h
  have HL := Lib.hid hl
  have hok := ok_of hl (by omega)
  have HO := Lib.hid hok
  have HOT := Lib.hid hok.tp
  have hc255 := c.toNat_lt
  have HCL := Lib.hid (class_any (c.toNat : Int))
  obtain ⟨k, hk⟩ : ∃ k, cls (c.toNat : Int) = k := ⟨_, rfl⟩
  have HW := Lib.hid hwf
  have HAG : Hid (∀ {w : World} {S : Sn}, Fam B w C (S.dat b) → S.abs.lim 90000 → S.abs.wf → Calls Try.prog 67 #[.pointer (some ⟨b, 0, none⟩), .int .i64 0, .int .u8 (c.toNat : Int)] w (Ret B w b C S (stText (S.abs.turn 0) c))) := Lib.hid (fun h hl hw => again_text h hl hw c)
  have HE : Hid (stBare S.abs c = (if k = 4 ∨ k = 3 then (0, {S.abs with bu := S.abs.bu ++ [c]}) else stText ((S.abs.add (.mk 5 ⟨S.abs.bu.toArray⟩ ⟨#[]⟩ [] 0)).turn 0) c)) := Lib.hid (by subst hk; rfl)
  rw [hk] at HCL
  obtain ⟨z, hz⟩ : ∃ z : Int, (c.toNat : Int) = z := ⟨_, rfl⟩
  have hzl : 0 ≤ z := by omega
  have hzh : z ≤ 255 := by omega
  have HZ := Lib.hid hz
  obtain ⟨a, cap, hf⟩ := af_bu h c
  have HF := Lib.hid hf
  have AZ1 := Lib.hid (hf.z HZ.out)
  have cw := AZ1.out.cw
  rw [hz] at HCL HAG ⊢
  have hcv := conv_own (h.comp .bu : w.ownsRow B 5 1 S.buv S.bu.length (bv S.bu))
  rw [hf.v] at hcv
  clear h hl hwf hok hz hc255 hk hb hf
  by_cases hA : k = 4 ∨ k = 3
  · have HE2 : Hid (stBare S.abs c = _) := Lib.hid (HE.out.trans (if_pos hA))
    have key : (k == 4) = true ∨ ((k == 4) = false ∧ (k == 3) = true) := by
      rcases hA with rfl | rfl <;> simp
    clear HE hA hcv
    rcases key with k4 | ⟨k4, k3⟩
    · go_enter Try.func38, Try.ntmps38
      go_wp2_with fail
      refine (HCL.out _ ⟨hzl, hzh⟩).mono ?_
      rintro e w' ⟨rfl, rfl⟩
      have T3 : Hid (S.bu.length + 1 ≤ maxLen) := Lib.hid (by unfold maxLen; have := HO.out.2.2.2.1; omega)
      have T4 : Hid ((S.bu.length + 1) * 1 ≤ 140737488355328) := Lib.hid (by have := HO.out.2.2.2.1; omega)
      go_wp2_with (at_builtin; refine wpList_append_lies _ rfl _ _ 51 rfl B 5 ti (.int .u8 0) 1 1 Try.underlying51 hi hz0 hz1 hz2 rfl (by decide) _ _ _ rfl AZ1.out.own ⟨w.heap.size, 0, none⟩ 1 1 [.int .u8 z] rfl rfl AZ1.out.new (one_z z) (by omega) T3.out T4.out AZ1.out.hB _ rfl ?_)
      intro g1 cap1 w2 own2 gr2 ls2 lt2
      have S2 := Lib.hid (app_bz HZ.out H.out HF.out own2 gr2 (by simpa [World.setCell] using ls2) lt2)
      have n2 := (gr2.cell_far ⟨b, 7, none⟩ AZ1.out.lt AZ1.out.ne).trans AZ1.out.c0
      have q2 := (gr2.frozen_far ⟨b, 7, none⟩ AZ1.out.lt AZ1.out.ne).trans AZ1.out.f0
      clear own2 gr2 ls2 lt2
      go_wp2
      go_ret
      rw [HE2.out]
      exact ⟨C, _, rfl, S2.out, rfl⟩
    · go_enter Try.func38, Try.ntmps38
      go_wp2_with fail
      refine (HCL.out _ ⟨hzl, hzh⟩).mono ?_
      rintro e w' ⟨rfl, rfl⟩
      have T3 : Hid (S.bu.length + 1 ≤ maxLen) := Lib.hid (by unfold maxLen; have := HO.out.2.2.2.1; omega)
      have T4 : Hid ((S.bu.length + 1) * 1 ≤ 140737488355328) := Lib.hid (by have := HO.out.2.2.2.1; omega)
      go_wp2_with (at_builtin; refine wpList_append_lies _ rfl _ _ 51 rfl B 5 ti (.int .u8 0) 1 1 Try.underlying51 hi hz0 hz1 hz2 rfl (by decide) _ _ _ rfl AZ1.out.own ⟨w.heap.size, 0, none⟩ 1 1 [.int .u8 z] rfl rfl AZ1.out.new (one_z z) (by omega) T3.out T4.out AZ1.out.hB _ rfl ?_)
      intro g1 cap1 w2 own2 gr2 ls2 lt2
      have S2 := Lib.hid (app_bz HZ.out H.out HF.out own2 gr2 (by simpa [World.setCell] using ls2) lt2)
      have n2 := (gr2.cell_far ⟨b, 7, none⟩ AZ1.out.lt AZ1.out.ne).trans AZ1.out.c0
      have q2 := (gr2.frozen_far ⟨b, 7, none⟩ AZ1.out.lt AZ1.out.ne).trans AZ1.out.f0
      clear own2 gr2 ls2 lt2
      go_wp2
      go_ret
      rw [HE2.out]
      exact ⟨C, _, rfl, S2.out, rfl⟩
  have HE2 := Lib.hid (HE.out.trans (if_neg hA))
  have k4 : (k == 4) = false := by simpa using fun e => hA (.inl e)
  have k3 : (k == 3) = false := by simpa using fun e => hA (.inr e)
  clear HE hA
  go_enter Try.func38, Try.ntmps38
  go_wp2_with fail
  refine (HCL.out _ ⟨hzl, hzh⟩).mono ?_
  rintro e w' ⟨rfl, rfl⟩
  go_wp2_with fail
  refine (add_any H.out (by have := HOT.out; omega) (by have := HOT.out; omega) 5 ⟨S.bu.toArray⟩ ⟨#[]⟩ none 0 0 [] none 0 0 (.inl ⟨none, 0, rfl, rfl⟩)).mono ?_
  rintro e w' ⟨v1, v2, rfl, hs⟩
  have HS := Lib.hid hs
  have HA := Lib.hid (added_abs S (.mk 5 ⟨S.bu.toArray⟩ ⟨#[]⟩ [] 0) v1 v2)
  clear hs
  go_wp2_with fail
  refine (HAG.out HS.out.1 (by rw [HA.out]; exact (add_lim HL.out _).mono (by omega)) (by rw [HA.out]; exact add_wf HW.out _)).mono ?_
  rw [HA.out]
  rintro e w2 hr
  obtain ⟨C', S', rfl, h2, h3⟩ := ret_get hr
  go_wp2
  go_ret
  rw [HE2.out]
  exact ⟨C', S', rfl, HS.out.trans h2, h3⟩
def stName (s : St) (c : UInt8) : Int × St :=
  if cls c.toNat = 3 ∨ (cls c.toNat = 4 ∧ s.kd = 7) then (0, {s with bu := s.bu ++ [c]}) else stBehind (s.turn 9) c
set_option maxRecDepth 100000 in
set_option maxHeartbeats 8000000 in
theorem name_any {B : Nat} {w : World} {b : Nat} {C : Nat → Prop} {S : Sn} (h : Fam B w C (S.dat b)) (hl : S.abs.lim 80000) (c : UInt8) :
    Calls Try.prog 41 #[.pointer (some ⟨b, 0, none⟩), .int .u8 (c.toNat : Int)] w (Ret B w b C S (stName S.abs c)) := by
  obtain ⟨ti, hi, hz0, hz1, hz2⟩ := info_parts info_u8
  have hb := hd_at h
  have H := Lib.hid h
  have HL := Lib.hid hl
  have hok := ok_of hl (by omega)
  have HO := Lib.hid hok
  have HOT := Lib.hid hok.tp
  have hc255 := c.toNat_lt
  have HCL := Lib.hid (class_any (c.toNat : Int))
  obtain ⟨k, hk⟩ : ∃ k, cls (c.toNat : Int) = k := ⟨_, rfl⟩
  have c2 : w.cell? ⟨b, 2, none⟩ = some (.int .i64 (S.kd : Int)) := by rw [cell_blk hb]; rfl
  obtain ⟨kd, hkd⟩ : ∃ kd : Int, (S.kd : Int) = kd := ⟨_, rfl⟩
  have hkd' : (S.abs.kd = 7) = (kd = 7) := by
    subst hkd
    exact propext ⟨fun e => by rw [show S.kd = 7 from e]; rfl, fun e => by show S.kd = 7; omega⟩
  rw [hkd] at c2
  have HAG : Hid (∀ {w : World} {S : Sn}, Fam B w C (S.dat b) → S.abs.lim 90000 → Calls Try.prog 67 #[.pointer (some ⟨b, 0, none⟩), .int .i64 9, .int .u8 (c.toNat : Int)] w (Ret B w b C S (stBehind (S.abs.turn 9) c))) := Lib.hid (fun h hl => again_behind h hl c)
  have HE : Hid (stName S.abs c = (if k = 3 ∨ (k = 4 ∧ kd = 7) then (0, {S.abs with bu := S.abs.bu ++ [c]}) else stBehind (S.abs.turn 9) c)) := Lib.hid (by unfold stName; simp only [hk, hkd'])
  rw [hk] at HCL
  obtain ⟨z, hz⟩ : ∃ z : Int, (c.toNat : Int) = z := ⟨_, rfl⟩
  have hzl : 0 ≤ z := by omega
  have hzh : z ≤ 255 := by omega
  have HZ := Lib.hid hz
  obtain ⟨a, cap, hf⟩ := af_bu h c
  have HF := Lib.hid hf
  have AZ1 := Lib.hid (hf.z HZ.out)
  have cw := AZ1.out.cw
  rw [hz] at HCL HAG ⊢
  clear h hl hok hz hc255 hk hb hf hkd hkd'
  by_cases hA : k = 3 ∨ (k = 4 ∧ kd = 7)
  · have HE2 : Hid (stName S.abs c = _) := Lib.hid (HE.out.trans (if_pos hA))
    have key : (k == 3) = true ∨ ((k == 3) = false ∧ (k == 4) = true ∧ (kd == 7) = true) := by
      rcases hA with rfl | ⟨rfl, rfl⟩ <;> simp
    clear HE hA
    rcases key with k3 | ⟨k3, k4, kk⟩
    · go_enter Try.func41, Try.ntmps41
      go_wp2_with fail
      refine (HCL.out _ ⟨hzl, hzh⟩).mono ?_
      rintro e w' ⟨rfl, rfl⟩
      have T3 : Hid (S.bu.length + 1 ≤ maxLen) := Lib.hid (by unfold maxLen; have := HO.out.2.2.2.1; omega)
      have T4 : Hid ((S.bu.length + 1) * 1 ≤ 140737488355328) := Lib.hid (by have := HO.out.2.2.2.1; omega)
      go_wp2_with (at_builtin; refine wpList_append_lies _ rfl _ _ 51 rfl B 5 ti (.int .u8 0) 1 1 Try.underlying51 hi hz0 hz1 hz2 rfl (by decide) _ _ _ rfl AZ1.out.own ⟨w.heap.size, 0, none⟩ 1 1 [.int .u8 z] rfl rfl AZ1.out.new (one_z z) (by omega) T3.out T4.out AZ1.out.hB _ rfl ?_)
      intro g1 cap1 w2 own2 gr2 ls2 lt2
      have S2 := Lib.hid (app_bz HZ.out H.out HF.out own2 gr2 (by simpa [World.setCell] using ls2) lt2)
      have n2 := (gr2.cell_far ⟨b, 7, none⟩ AZ1.out.lt AZ1.out.ne).trans AZ1.out.c0
      have q2 := (gr2.frozen_far ⟨b, 7, none⟩ AZ1.out.lt AZ1.out.ne).trans AZ1.out.f0
      clear own2 gr2 ls2 lt2
      go_wp2
      go_ret
      rw [HE2.out]
      exact ⟨C, _, rfl, S2.out, rfl⟩
    · go_enter Try.func41, Try.ntmps41
      go_wp2_with fail
      refine (HCL.out _ ⟨hzl, hzh⟩).mono ?_
      rintro e w' ⟨rfl, rfl⟩
      have T3 : Hid (S.bu.length + 1 ≤ maxLen) := Lib.hid (by unfold maxLen; have := HO.out.2.2.2.1; omega)
      have T4 : Hid ((S.bu.length + 1) * 1 ≤ 140737488355328) := Lib.hid (by have := HO.out.2.2.2.1; omega)
      go_wp2_with (at_builtin; refine wpList_append_lies _ rfl _ _ 51 rfl B 5 ti (.int .u8 0) 1 1 Try.underlying51 hi hz0 hz1 hz2 rfl (by decide) _ _ _ rfl AZ1.out.own ⟨w.heap.size, 0, none⟩ 1 1 [.int .u8 z] rfl rfl AZ1.out.new (one_z z) (by omega) T3.out T4.out AZ1.out.hB _ rfl ?_)
      intro g1 cap1 w2 own2 gr2 ls2 lt2
      have S2 := Lib.hid (app_bz HZ.out H.out HF.out own2 gr2 (by simpa [World.setCell] using ls2) lt2)
      have n2 := (gr2.cell_far ⟨b, 7, none⟩ AZ1.out.lt AZ1.out.ne).trans AZ1.out.c0
      have q2 := (gr2.frozen_far ⟨b, 7, none⟩ AZ1.out.lt AZ1.out.ne).trans AZ1.out.f0
      clear own2 gr2 ls2 lt2
      go_wp2
      go_ret
      rw [HE2.out]
      exact ⟨C, _, rfl, S2.out, rfl⟩
  have HE2 := Lib.hid (HE.out.trans (if_neg hA))
  have k3 : (k == 3) = false := by simpa using fun e => hA (.inl e)
  have key : (k == 4) = false ∨ ((k == 4) = true ∧ (kd == 7) = false) := by
    by_cases h4 : k = 4
    · exact .inr ⟨by simpa using h4, by simpa using fun e => hA (.inr ⟨h4, e⟩)⟩
    · exact .inl (by simpa using h4)
  clear HE hA
  rcases key with k4 | ⟨k4, kk⟩
  all_goals
    go_enter Try.func41, Try.ntmps41
    go_wp2_with fail
    refine (HCL.out _ ⟨hzl, hzh⟩).mono ?_
    rintro e w' ⟨rfl, rfl⟩
    go_wp2_with fail
    refine (HAG.out H.out (HL.out.mono (by omega))).mono ?_
    rintro e w2 hr
    obtain ⟨C', S', rfl, h2, h3⟩ := ret_get hr
    go_wp2
    go_ret
    rw [HE2.out]
    exact ⟨C', S', rfl, h2, h3⟩
end Go.Proofs.Ytbmapjgajecgfaa

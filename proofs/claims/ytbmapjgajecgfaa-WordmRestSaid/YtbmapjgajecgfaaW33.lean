/-
  What is proved: what escaped does. Conditions: those of each theorem.
-/
import Derived.Test.YtbmapjgajecgfaaW32
set_option linter.unusedVariables false
set_option linter.unusedSimpArgs false
namespace Go.Proofs.Ytbmapjgajecgfaa
open Go.RowKit
set_option maxRecDepth 100000 in
set_option maxHeartbeats 8000000 in
theorem escaped_any {B : Nat} {w : World} {b : Nat} {C : Nat → Prop} {S : Sn} (h : Fam B w C (S.dat b)) (hok : S.ok) (hwf : S.wf) (c : UInt8) :
    Calls Try.prog 35 #[.pointer (some ⟨b, 0, none⟩), .int .u8 (c.toNat : Int)] w (Ret B w b C S (stEscaped S.abs c)) := by
  obtain ⟨ti, hi, hz0, hz1, hz2⟩ := info_parts info_u8
  obtain ⟨g, n, tf⟩ := tf_at h
  have c0 := tf.c0
  have H := Lib.hid h
  have HT := Lib.hid (top_any h)
  rw [tf.top] at HT
  have hc255 := c.toNat_lt
  have HO := Lib.hid hok
  have HOT := Lib.hid hok.tp
  have HIX := Lib.hid (ixb_any ⟨#[36, 96, 34, 92]⟩ (c.toNat : Int))
  obtain ⟨x, hx⟩ : ∃ x, ixb ⟨#[36, 96, 34, 92]⟩ (c.toNat : Int) = x := ⟨_, rfl⟩
  obtain ⟨wh, hwh⟩ : ∃ k, S.tp.wh = k := ⟨_, rfl⟩
  have hwh' : S.abs.tp.wh = wh := hwh
  have hes : esc4 (c.toNat : Int) = decide (x < 0) := by unfold esc4; rw [hx]
  have HE : Hid (stEscaped S.abs c = (if c = 0 ∨ c = 10 then (3, S.abs.turn 17) else if wh = 1 ∧ decide (x < 0) = true then (0, (S.abs.lit [92, c]).turn 0)
    else (0, (({S.abs with tk := S.abs.tk ++ [c]} : St).add (.mk 2 ⟨#[c]⟩ ⟨#[]⟩ [] 0)).turn 0))) := Lib.hid (by unfold stEscaped; rw [hes, hwh'])
  rw [hx] at HIX
  rw [hwh] at c0
  have hw3 : wh = 0 ∨ wh = 1 ∨ wh = 2 := by
    rw [← hwh]
    rcases hwf with h | h
    · exact .inl h.2
    · exact .inr h.2
  obtain ⟨z, hz⟩ : ∃ z : Int, (c.toNat : Int) = z := ⟨_, rfl⟩
  have hzl : 0 ≤ z := by omega
  have hzh : z ≤ 255 := by omega
  have HZ := Lib.hid hz
  rw [hz] at HIX ⊢
  clear h hok hwf hx hwh hwh' tf hz hc255 hes
  by_cases hA : c = 0 ∨ c = 10
  · have HE2 := Lib.hid (HE.out.trans (if_pos hA))
    clear HE
    have key : (z == 0) = true ∨ ((z == 0) = false ∧ (z == 10) = true) := by
      by_cases h0 : c = 0
      · exact .inl (z_eq HZ.out (k := 0) (by omega) h0)
      · rcases hA with h | h
        · exact absurd h h0
        · exact .inr ⟨z_ne HZ.out (k := 0) (by omega) h0, z_eq HZ.out (k := 10) (by omega) h⟩
    clear hA
    rcases key with z0 | ⟨z0, z10⟩
    all_goals
      go_enter Try.func35, Try.ntmps35
      go_wp2_with fail
      refine (wrong_any H.out).mono ?_
      rintro e w' ⟨rfl, hs⟩
      go_wp2
      go_ret
      rw [HE2.out]
      exact ⟨C, _, rfl, hs, rfl⟩
  have HE2 := Lib.hid (HE.out.trans (if_neg hA))
  clear HE
  have z0 : (z == 0) = false := z_ne HZ.out (k := 0) (by omega) (fun e => hA (.inl e))
  have z10 : (z == 10) = false := z_ne HZ.out (k := 10) (by omega) (fun e => hA (.inr e))
  clear hA
  by_cases h1 : wh = 1
  · subst h1
    by_cases hxx : x < 0
    · have HE3 : Hid (stEscaped S.abs c = (0, (S.abs.lit [92, c]).turn 0)) := Lib.hid (by rw [HE2.out]; simp [hxx])
      clear HE2
      have hd : decide (x < 0) = true := by simpa using hxx
      go_enter Try.func35, Try.ntmps35
      go_wp2_with fail
      refine HT.out.mono ?_
      rintro e w1 ⟨rfl, q, rfl⟩
      have s1 := Lib.hid (Stp.nob H.out (Kept.drewN w q nob))
      go_wp2_with fail
      refine (HIX.out _).mono ?_
      rintro e w' ⟨rfl, rfl⟩
      go_wp2_with fail
      have S2 := Lib.hid (s1.out.trans (Stp.nob s1.out.1 (Kept.alloc (w.drewN q) (.cells #[.int .u8 92, .int .u8 z] 5) nob)))
      have HA := Lib.hid (alloc_blk (w.drewN q) (.cells #[.int .u8 92, .int .u8 z] 5))
      refine (lit_any S2.out.1 [92, c] w.heap.size 2 (by simp) (Eq.trans HA.out (by rw [← HZ.out]; rfl)) (fun hf => by have := s1.out.1.bnd _ hf; simp at this) (by have := HOT.out; omega) (by have := HO.out.2.1; omega)).mono ?_
      rintro e w3 ⟨v1, v2, rfl, s3⟩
      have S3 := Lib.hid (S2.out.trans s3)
      clear s3
      go_wp2_with fail
      refine (goes_any S3.out.1 0 (by omega)).mono ?_
      rintro e w' ⟨rfl, hs⟩
      go_wp2
      go_ret
      rw [HE3.out]
      exact ⟨C, _, rfl, S3.out.trans hs, rfl⟩
    · have HE3 : Hid (stEscaped S.abs c = (0, (({S.abs with tk := S.abs.tk ++ [c]} : St).add (.mk 2 ⟨#[c]⟩ ⟨#[]⟩ [] 0)).turn 0)) := Lib.hid (by rw [HE2.out]; simp [hxx])
      clear HE2
      have hd : decide (x < 0) = false := by simpa using hxx
      have hx0 : 0 ≤ x := by omega
      go_enter Try.func35, Try.ntmps35
      go_wp2_with fail
      refine HT.out.mono ?_
      rintro e w1 ⟨rfl, q, rfl⟩
      have s1 := Lib.hid (Stp.nob H.out (Kept.drewN w q nob))
      go_wp2_with fail
      refine (HIX.out _).mono ?_
      rintro e w' ⟨rfl, rfl⟩
      obtain ⟨a, cap, hf⟩ := af_tk s1.out.1 c
      have HF := Lib.hid hf
      have AZ1 := Lib.hid (hf.z HZ.out)
      have cw := AZ1.out.cw
      have T3 : Hid (S.tk.length + 1 ≤ maxLen) := Lib.hid (by unfold maxLen; have := HO.out.2.1; omega)
      have T4 : Hid ((S.tk.length + 1) * 1 ≤ 140737488355328) := Lib.hid (by have := HO.out.2.1; omega)
      clear hf
      go_wp2_with (at_builtin; refine wpList_append_lies _ rfl _ _ 51 rfl B 5 ti (.int .u8 0) 1 1 Try.underlying51 hi hz0 hz1 hz2 rfl (by decide) _ _ _ rfl AZ1.out.own ⟨w.heap.size, 0, none⟩ 1 1 [.int .u8 z] rfl rfl AZ1.out.new (one_z z) (by omega) T3.out T4.out AZ1.out.hB _ rfl ?_)
      intro g1 cap1 w2 own2 gr2 ls2 lt2
      have S2 := Lib.hid (s1.out.trans (app_tz HZ.out s1.out.1 HF.out own2 gr2 (by simpa [World.setCell] using ls2) lt2))
      have n2 := (gr2.cell_far ⟨b, 3, none⟩ AZ1.out.lt AZ1.out.ne).trans AZ1.out.c0
      have q2 := (gr2.frozen_far ⟨b, 3, none⟩ AZ1.out.lt AZ1.out.ne).trans AZ1.out.f0
      clear own2 gr2 ls2 lt2
      have S3 := Lib.hid (S2.out.trans (Stp.nob S2.out.1 (Kept.alloc (w2.setCell ⟨b, 3, none⟩ (.slice (some ⟨g1, 0, none⟩) (S.tk.length + 1) cap1)) (.cells #[.int .u8 z] 5) nob)))
      have hcn := conv_new [c] 1 (alloc_blk (w2.setCell ⟨b, 3, none⟩ (.slice (some ⟨g1, 0, none⟩) (S.tk.length + 1) cap1)) (.cells #[.int .u8 (c.toNat : Int)] 5))
      simp only [show (w2.setCell ⟨b, 3, none⟩ (.slice (some ⟨g1, 0, none⟩) (S.tk.length + 1) cap1)).heap.size = w2.heap.size by simp [World.setCell]] at hcn
      rw [HZ.out] at hcn
      have hcn' : (Go.convert 51 9 (.slice (some ⟨w2.heap.size, 0, none⟩) 1 1)).run Try.prog ((w2.setCell ⟨b, 3, none⟩ (.slice (some ⟨g1, 0, none⟩) (S.tk.length + 1) cap1)).alloc (.cells #[.int .u8 z] 5)) = Result.ok (Value.string ⟨#[c]⟩) ((w2.setCell ⟨b, 3, none⟩ (.slice (some ⟨g1, 0, none⟩) (S.tk.length + 1) cap1)).alloc (.cells #[.int .u8 z] 5)) := hcn
      clear hcn
      go_wp2_with fail
      refine (add_any S3.out.1 (by have := HOT.out; show S.tp.li.length ≤ _; omega) (by have := HOT.out; show S.tp.ps.length ≤ _; omega) 2 ⟨#[c]⟩ ⟨#[]⟩ none 0 0 [] none 0 0 (.inl ⟨none, 0, rfl, rfl⟩)).mono ?_
      rintro e w' ⟨v1, v2, rfl, hs⟩
      have HS := Lib.hid (S3.out.trans hs)
      clear hs
      go_wp2_with fail
      refine (goes_any HS.out.1 0 (by omega)).mono ?_
      rintro e w' ⟨rfl, hs⟩
      go_wp2
      go_ret
      rw [HE3.out]
      exact ⟨C, _, rfl, HS.out.trans hs, congrArg (fun s => St.turn s 0) (added_abs {S with tk := S.tk ++ [c], tkv := .slice (some ⟨g1, 0, none⟩) (S.tk.length + 1) cap1} (.mk 2 ⟨#[c]⟩ ⟨#[]⟩ [] 0) v1 v2)⟩
  · have HE3 : Hid (stEscaped S.abs c = (0, (({S.abs with tk := S.abs.tk ++ [c]} : St).add (.mk 2 ⟨#[c]⟩ ⟨#[]⟩ [] 0)).turn 0)) := Lib.hid (by rw [HE2.out]; simp [h1])
    have w1 : (wh == 1) = false := by simpa using h1
    clear HE2 h1 hw3
    go_enter Try.func35, Try.ntmps35
    go_wp2_with fail
    refine HT.out.mono ?_
    rintro e w1 ⟨rfl, q, rfl⟩
    have s1 := Lib.hid (Stp.nob H.out (Kept.drewN w q nob))
    obtain ⟨a, cap, hf⟩ := af_tk s1.out.1 c
    have HF := Lib.hid hf
    have AZ1 := Lib.hid (hf.z HZ.out)
    have cw := AZ1.out.cw
    have T3 : Hid (S.tk.length + 1 ≤ maxLen) := Lib.hid (by unfold maxLen; have := HO.out.2.1; omega)
    have T4 : Hid ((S.tk.length + 1) * 1 ≤ 140737488355328) := Lib.hid (by have := HO.out.2.1; omega)
    clear hf
    go_wp2_with (at_builtin; refine wpList_append_lies _ rfl _ _ 51 rfl B 5 ti (.int .u8 0) 1 1 Try.underlying51 hi hz0 hz1 hz2 rfl (by decide) _ _ _ rfl AZ1.out.own ⟨w.heap.size, 0, none⟩ 1 1 [.int .u8 z] rfl rfl AZ1.out.new (one_z z) (by omega) T3.out T4.out AZ1.out.hB _ rfl ?_)
    intro g1 cap1 w2 own2 gr2 ls2 lt2
    have S2 := Lib.hid (s1.out.trans (app_tz HZ.out s1.out.1 HF.out own2 gr2 (by simpa [World.setCell] using ls2) lt2))
    have n2 := (gr2.cell_far ⟨b, 3, none⟩ AZ1.out.lt AZ1.out.ne).trans AZ1.out.c0
    have q2 := (gr2.frozen_far ⟨b, 3, none⟩ AZ1.out.lt AZ1.out.ne).trans AZ1.out.f0
    clear own2 gr2 ls2 lt2
    have S3 := Lib.hid (S2.out.trans (Stp.nob S2.out.1 (Kept.alloc (w2.setCell ⟨b, 3, none⟩ (.slice (some ⟨g1, 0, none⟩) (S.tk.length + 1) cap1)) (.cells #[.int .u8 z] 5) nob)))
    have hcn := conv_new [c] 1 (alloc_blk (w2.setCell ⟨b, 3, none⟩ (.slice (some ⟨g1, 0, none⟩) (S.tk.length + 1) cap1)) (.cells #[.int .u8 (c.toNat : Int)] 5))
    simp only [show (w2.setCell ⟨b, 3, none⟩ (.slice (some ⟨g1, 0, none⟩) (S.tk.length + 1) cap1)).heap.size = w2.heap.size by simp [World.setCell]] at hcn
    rw [HZ.out] at hcn
    have hcn' : (Go.convert 51 9 (.slice (some ⟨w2.heap.size, 0, none⟩) 1 1)).run Try.prog ((w2.setCell ⟨b, 3, none⟩ (.slice (some ⟨g1, 0, none⟩) (S.tk.length + 1) cap1)).alloc (.cells #[.int .u8 z] 5)) = Result.ok (Value.string ⟨#[c]⟩) ((w2.setCell ⟨b, 3, none⟩ (.slice (some ⟨g1, 0, none⟩) (S.tk.length + 1) cap1)).alloc (.cells #[.int .u8 z] 5)) := hcn
    clear hcn
    go_wp2_with fail
    refine (add_any S3.out.1 (by have := HOT.out; show S.tp.li.length ≤ _; omega) (by have := HOT.out; show S.tp.ps.length ≤ _; omega) 2 ⟨#[c]⟩ ⟨#[]⟩ none 0 0 [] none 0 0 (.inl ⟨none, 0, rfl, rfl⟩)).mono ?_
    rintro e w' ⟨v1, v2, rfl, hs⟩
    have HS := Lib.hid (S3.out.trans hs)
    clear hs
    go_wp2_with fail
    refine (goes_any HS.out.1 0 (by omega)).mono ?_
    rintro e w' ⟨rfl, hs⟩
    go_wp2
    go_ret
    rw [HE3.out]
    exact ⟨C, _, rfl, HS.out.trans hs, congrArg (fun s => St.turn s 0) (added_abs {S with tk := S.tk ++ [c], tkv := .slice (some ⟨g1, 0, none⟩) (S.tk.length + 1) cap1} (.mk 2 ⟨#[c]⟩ ⟨#[]⟩ [] 0) v1 v2)⟩
end Go.Proofs.Ytbmapjgajecgfaa

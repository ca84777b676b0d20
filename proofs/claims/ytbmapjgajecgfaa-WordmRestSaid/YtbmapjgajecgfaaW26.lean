/-
  What is proved: what behind does. Conditions: those of each theorem.
-/
import Derived.Test.YtbmapjgajecgfaaW25
set_option linter.unusedVariables false
set_option linter.unusedSimpArgs false
namespace Go.Proofs.Ytbmapjgajecgfaa
open Go.RowKit
def stBehind (s : St) (c : UInt8) : Int × St :=
  if c = 125 then (0, (s.add (.mk 5 ⟨s.bu.toArray⟩ (if s.ln = true then ⟨#[108, 101, 110]⟩ else ⟨#[]⟩) [] 0)).turn 0)
  else if s.ln = true then (3, s.turn 17)
  else if c = 58 then (0, s.turn 10)
  else if c = 37 ∨ c = 35 then (0, {s with cu := c.toNat, kd := 11})
  else if one1 c.toNat = true then (0, s.push 2 ⟨s.bu.toArray⟩ ⟨#[c]⟩)
  else (3, s.turn 17)
theorem cu_step {B : Nat} {w : World} {b : Nat} {C : Nat → Prop} {S : Sn} (h : Fam B w C (S.dat b)) (z : Int) : Stp B w C (S.dat b) (w.setCell ⟨b, 10, none⟩ (.int .u8 z)) C (({S with cu := z} : Sn).dat b) :=
  fset (S' := {S with cu := z}) h 10 (.int .u8 z) rfl (by funext t; cases t <;> rfl)
set_option maxRecDepth 100000 in
set_option maxHeartbeats 8000000 in
theorem behind_any {B : Nat} {w : World} {b : Nat} {C : Nat → Prop} {S : Sn} (h : Fam B w C (S.dat b)) (hok : S.ok) (c : UInt8) :
    Calls Try.prog 42 #[.pointer (some ⟨b, 0, none⟩), .int .u8 (c.toNat : Int)] w (Ret B w b C S (stBehind S.abs c)) := by
  have hb := hd_at h
  have c7 : w.cell? ⟨b, 7, none⟩ = some S.buv := by rw [cell_blk hb]; rfl
  have c9 : w.cell? ⟨b, 9, none⟩ = some (.bool S.ln) := by rw [cell_blk hb]; rfl
  have c10 : w.cell? ⟨b, 10, none⟩ = some (.int .u8 S.cu) := by rw [cell_blk hb]; rfl
  have f10 := frz_blk hb 10
  have hcv := conv_own (h.comp .bu : w.ownsRow B 5 1 S.buv S.bu.length (bv S.bu))
  obtain ⟨ba, bc, hbu⟩ := own_slice (h.comp .bu : w.ownsRow B 5 1 S.buv S.bu.length (bv S.bu))
  rw [hbu] at c7 hcv
  have H := Lib.hid h
  have hc255 := c.toNat_lt
  have HO := Lib.hid hok
  have HOT := Lib.hid hok.tp
  have HSI := Lib.hid (single1_any (c.toNat : Int))
  obtain ⟨p, hp⟩ : ∃ p, one1 (c.toNat : Int) = p := ⟨_, rfl⟩
  obtain ⟨ln, hln⟩ : ∃ p, S.ln = p := ⟨_, rfl⟩
  have hln' : S.abs.ln = ln := hln
  have HE : Hid (stBehind S.abs c = (if c = 125 then (0, (S.abs.add (.mk 5 ⟨S.abs.bu.toArray⟩ (if ln = true then ⟨#[108, 101, 110]⟩ else ⟨#[]⟩) [] 0)).turn 0)
  else if ln = true then (3, S.abs.turn 17)
  else if c = 58 then (0, S.abs.turn 10)
  else if c = 37 ∨ c = 35 then (0, {S.abs with cu := c.toNat, kd := 11})
  else if p = true then (0, S.abs.push 2 ⟨S.abs.bu.toArray⟩ ⟨#[c]⟩)
  else (3, S.abs.turn 17))) := Lib.hid (by subst hp; subst hln; rfl)
  rw [hp] at HSI
  rw [hln] at c9
  obtain ⟨z, hz⟩ : ∃ z : Int, (c.toNat : Int) = z := ⟨_, rfl⟩
  have hz0 : 0 ≤ z := by omega
  have hz1 : z ≤ 255 := by omega
  have HZ := Lib.hid hz
  rw [hz] at HSI ⊢
  have hbz := lt_blk hb
  have ca9 : Hid (∀ o, (w.alloc o).cell? ⟨b, 9, none⟩ = some (.bool ln)) := Lib.hid (fun o => by rw [World.cell?_alloc_past _ _ _ hbz]; exact c9)
  clear h hok hp hz hc255 hb hbu hln hln' hbz
  by_cases hA : c = 125
  · have z125 : (z == 125) = true := z_eq HZ.out (k := 125) (by omega) hA
    cases ln with
    | true =>
      have HE2 : Hid (stBehind S.abs c = (0, (S.abs.add (.mk 5 ⟨S.abs.bu.toArray⟩ ⟨#[108, 101, 110]⟩ [] 0)).turn 0)) := Lib.hid (by rw [HE.out, if_pos hA]; simp)
      clear HE hA
      have a9 := ca9.out
      have S1 := Lib.hid (Stp.nob H.out (Kept.alloc w (.cells #[.int .i64 5, .string ⟨S.bu.toArray⟩, .string ⟨#[108, 101, 110]⟩, .slice none 0 0, .slice none 0 0] 49) nob))
      go_enter Try.func42, Try.ntmps42
      go_wp2_with fail
      refine (add_any S1.out.1 (by have := HOT.out; omega) (by have := HOT.out; omega) 5 ⟨S.bu.toArray⟩ ⟨#[108, 101, 110]⟩ none 0 0 [] none 0 0 (.inl ⟨none, 0, rfl, rfl⟩)).mono ?_
      rintro e w' ⟨v1, v2, rfl, hs⟩
      have HS := Lib.hid (S1.out.trans hs)
      clear hs
      go_wp2_with fail
      refine (goes_any HS.out.1 0 (by omega)).mono ?_
      rintro e w' ⟨rfl, hs⟩
      go_wp2
      go_ret
      rw [HE2.out]
      exact ⟨C, _, rfl, HS.out.trans hs, congrArg (fun s => St.turn s 0) (added_abs S (.mk 5 ⟨S.bu.toArray⟩ ⟨#[108, 101, 110]⟩ [] 0) v1 v2)⟩
    | false =>
      have HE2 : Hid (stBehind S.abs c = (0, (S.abs.add (.mk 5 ⟨S.abs.bu.toArray⟩ ⟨#[]⟩ [] 0)).turn 0)) := Lib.hid (by rw [HE.out, if_pos hA]; simp)
      clear HE hA
      have a9 := ca9.out
      have S1 := Lib.hid (Stp.nob H.out (Kept.alloc w (.cells #[.int .i64 5, .string ⟨S.bu.toArray⟩, .string ⟨#[]⟩, .slice none 0 0, .slice none 0 0] 49) nob))
      go_enter Try.func42, Try.ntmps42
      go_wp2_with fail
      refine (add_any S1.out.1 (by have := HOT.out; omega) (by have := HOT.out; omega) 5 ⟨S.bu.toArray⟩ ⟨#[]⟩ none 0 0 [] none 0 0 (.inl ⟨none, 0, rfl, rfl⟩)).mono ?_
      rintro e w' ⟨v1, v2, rfl, hs⟩
      have HS := Lib.hid (S1.out.trans hs)
      clear hs
      go_wp2_with fail
      refine (goes_any HS.out.1 0 (by omega)).mono ?_
      rintro e w' ⟨rfl, hs⟩
      go_wp2
      go_ret
      rw [HE2.out]
      exact ⟨C, _, rfl, HS.out.trans hs, congrArg (fun s => St.turn s 0) (added_abs S (.mk 5 ⟨S.bu.toArray⟩ ⟨#[]⟩ [] 0) v1 v2)⟩
  have z125 : (z == 125) = false := z_ne HZ.out (k := 125) (by omega) hA
  cases ln with
  | true =>
    have HE2 : Hid (stBehind S.abs c = (3, S.abs.turn 17)) := Lib.hid (by rw [HE.out, if_neg hA]; simp)
    clear HE hA
    go_enter Try.func42, Try.ntmps42
    go_wp2_with fail
    refine (wrong_any H.out).mono ?_
    rintro e w' ⟨rfl, hs⟩
    go_wp2
    go_ret
    rw [HE2.out]
    exact ⟨C, _, rfl, hs, rfl⟩
  | false =>
    have HE2 := Lib.hid (HE.out.trans (if_neg hA))
    clear HE hA
    by_cases h58 : c = 58
    · have z58 : (z == 58) = true := z_eq HZ.out (k := 58) (by omega) h58
      have HE3 : Hid (stBehind S.abs c = (0, S.abs.turn 10)) := Lib.hid (by rw [HE2.out]; simp [h58])
      clear HE2 h58
      go_enter Try.func42, Try.ntmps42
      go_wp2_with fail
      refine (goes_any H.out 10 (by omega)).mono ?_
      rintro e w' ⟨rfl, hs⟩
      go_wp2
      go_ret
      rw [HE3.out]
      exact ⟨C, _, rfl, hs, rfl⟩
    have z58 : (z == 58) = false := z_ne HZ.out (k := 58) (by omega) h58
    by_cases h2 : c = 37 ∨ c = 35
    · have HE3 : Hid (stBehind S.abs c = (0, {S.abs with cu := z, kd := 11})) := Lib.hid (by rw [HE2.out, ← HZ.out]; simp [h58, h2])
      have key : (z == 37) = true ∨ ((z == 37) = false ∧ (z == 35) = true) := by
        by_cases h0 : c = 37
        · exact .inl (z_eq HZ.out (k := 37) (by omega) h0)
        · rcases h2 with h | h
          · exact absurd h h0
          · exact .inr ⟨z_ne HZ.out (k := 37) (by omega) h0, z_eq HZ.out (k := 35) (by omega) h⟩
      clear HE2 h58 h2
      have S1 := Lib.hid (cu_step H.out z)
      rcases key with z37 | ⟨z37, z35⟩
      all_goals
        go_enter Try.func42, Try.ntmps42
        go_wp2_with fail
        refine (goes_any S1.out.1 11 (by omega)).mono ?_
        rintro e w' ⟨rfl, hs⟩
        go_wp2
        go_ret
        rw [HE3.out]
        exact ⟨C, _, rfl, S1.out.trans hs, rfl⟩
    have z37 : (z == 37) = false := z_ne HZ.out (k := 37) (by omega) (fun e => h2 (.inl e))
    have z35 : (z == 35) = false := z_ne HZ.out (k := 35) (by omega) (fun e => h2 (.inr e))
    have HE3 : Hid (stBehind S.abs c = if p = true then (0, S.abs.push 2 ⟨S.abs.bu.toArray⟩ ⟨#[c]⟩) else (3, S.abs.turn 17)) := Lib.hid (by rw [HE2.out]; simp [h58, h2])
    clear HE2 h58 h2
    have S1 := Lib.hid (Stp.nob H.out (Kept.alloc w (.cells #[.int .u8 z] 5) nob))
    have hcn := conv_new [c] 1 (alloc_blk w (.cells #[.int .u8 (c.toNat : Int)] 5))
    rw [HZ.out] at hcn
    have hcn' : (Go.convert 51 9 (.slice (some ⟨w.heap.size, 0, none⟩) 1 1)).run Try.prog (w.alloc (.cells #[.int .u8 z] 5)) = Result.ok (Value.string ⟨#[c]⟩) (w.alloc (.cells #[.int .u8 z] 5)) := hcn
    clear hcn
    go_enter Try.func42, Try.ntmps42
    go_wp2_with fail
    refine (HSI.out _).mono ?_
    rintro e w' ⟨rfl, rfl⟩
    cases p with
    | false =>
      go_wp2_with fail
      refine (wrong_any H.out).mono ?_
      rintro e w' ⟨rfl, hs⟩
      go_wp2
      go_ret
      rw [HE3.out]
      exact ⟨C, _, rfl, hs, rfl⟩
    | true =>
      go_wp2_with fail
      refine (operator_any S1.out.1 HO.out ⟨#[c]⟩).mono ?_
      rintro e w' hs
      obtain ⟨C', S', rfl, e2, e3⟩ := Pushed.ret hs
      go_wp2
      go_ret
      rw [HE3.out]
      exact ⟨C', S', rfl, S1.out.trans e2, e3⟩
end Go.Proofs.Ytbmapjgajecgfaa

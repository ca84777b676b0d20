/-
  What is proved: what text does. Conditions: those of each theorem.
-/
import Derived.Test.YtbmapjgajecgfaaW24
import Derived.Test.YtbmapjgajecgfaaW4
set_option linter.unusedVariables false
set_option linter.unusedSimpArgs false
namespace Go.Proofs.Ytbmapjgajecgfaa
open Go.RowKit
theorem z_eq {c : UInt8} {z : Int} (hz : (c.toNat : Int) = z) {k : Nat} (hk : k < 256) (h : c = k.toUInt8) : (z == (k : Int)) = true := by
  rw [← hz]; exact u8_eq hk h
theorem z_ne {c : UInt8} {z : Int} (hz : (c.toNat : Int) = z) {k : Nat} (hk : k < 256) (h : c ≠ k.toUInt8) : (z == (k : Int)) = false := by
  rw [← hz]; exact u8_ne hk h
set_option maxHeartbeats 8000000 in
theorem text_any {B : Nat} {w : World} {b : Nat} {C : Nat → Prop} {S : Sn} (h : Fam B w C (S.dat b)) (hok : S.ok) (hwf : S.wf) (c : UInt8) :
    Calls Try.prog 34 #[.pointer (some ⟨b, 0, none⟩), .int .u8 (c.toNat : Int)] w (Ret B w b C S (stText S.abs c)) := by
  obtain ⟨g, n, tf⟩ := tf_at h
  have c0 := tf.c0
  have H := Lib.hid h
  have HT := Lib.hid (top_any h)
  rw [tf.top] at HT
  have hc255 := c.toNat_lt
  have HCL := Lib.hid (class_any (c.toNat : Int))
  have HO := Lib.hid hok
  have HOT := Lib.hid hok.tp
  have HW := Lib.hid hwf
  obtain ⟨k, hk⟩ : ∃ k, cls (c.toNat : Int) = k := ⟨_, rfl⟩
  obtain ⟨wh, hwh⟩ : ∃ k, S.tp.wh = k := ⟨_, rfl⟩
  have hwh' : S.abs.tp.wh = wh := hwh
  have HE : Hid (stText S.abs c = (if c = 0 ∨ c = 96 then (3, S.abs.turn 17)
  else if wh = 0 ∧ (k = 1 ∨ k = 2 ∨ k = 5) then (1, {S.abs with tp := S.abs.tp.flush, kd := 16})
  else if (wh = 1 ∧ c = 34) ∨ (wh = 2 ∧ c = 125) then (0, S.abs.pop)
  else if c = 92 then (0, {S.abs with qu := true, kd := 1})
  else if c = 39 ∧ wh ≠ 1 then (0, {S.abs with qu := true, bu := [], kd := 12})
  else if c = 34 then (0, ({S.abs with qu := true} : St).push 1 ⟨#[]⟩ ⟨#[]⟩)
  else if c = 36 then (0, S.abs.turn 2)
  else (0, S.abs.lit [c]))) := Lib.hid (by unfold stText; rw [hk, hwh'])
  rw [hk] at HCL
  rw [hwh] at c0
  have HWH := Lib.hid hwh
  have hw3 : wh = 0 ∨ wh = 1 ∨ wh = 2 := by
    rw [← hwh]
    rcases hwf with h | h
    · exact .inl h.2
    · exact .inr h.2
  obtain ⟨z, hz⟩ : ∃ z : Int, (c.toNat : Int) = z := ⟨_, rfl⟩
  have hz0 : 0 ≤ z := by omega
  have hz1 : z ≤ 255 := by omega
  have HZ := Lib.hid hz
  rw [hz] at HCL ⊢
  have hf6 : Hid (∀ q, (w.drewN q).cell? ⟨b, 6, none⟩ = some (.bool S.qu) ∧ (w.drewN q).frozen? ⟨b, 6, none⟩ = false) := Lib.hid (fun q => by
    have := hd_at (Stp.nob h (Kept.drewN w q nob)).1
    exact ⟨by rw [cell_blk this]; rfl, frz_blk this 6⟩)
  have hf7 : Hid (∀ q, ((w.drewN q).setCell ⟨b, 6, none⟩ (.bool true)).cell? ⟨b, 7, none⟩ = some S.buv ∧ ((w.drewN q).setCell ⟨b, 6, none⟩ (.bool true)).frozen? ⟨b, 7, none⟩ = false) := Lib.hid (fun q => by
    have := hd_at (qu_step (Stp.nob h (Kept.drewN w q nob)).1).1
    exact ⟨by rw [cell_blk this]; rfl, frz_blk this 7⟩)
  clear h hok hwf hk hwh hwh' tf hz hc255


  by_cases hA : c = 0 ∨ c = 96
  · have HE2 := Lib.hid (HE.out.trans (if_pos hA))
    clear HE
    have key : (z == 0) = true ∨ ((z == 0) = false ∧ (z == 96) = true) := by
      by_cases h0 : c = 0
      · exact .inl (z_eq HZ.out (k := 0) (by omega) h0)
      · rcases hA with h | h
        · exact absurd h h0
        · exact .inr ⟨z_ne HZ.out (k := 0) (by omega) h0, z_eq HZ.out (k := 96) (by omega) h⟩
    clear hA
    rcases key with z0 | ⟨z0, z96⟩
    all_goals
      go_enter Try.func34, Try.ntmps34
      go_wp2_with fail
      refine HT.out.mono ?_
      rintro e w1 ⟨rfl, q, rfl⟩
      have s1 := Lib.hid (Stp.nob H.out (Kept.drewN w q nob))
      go_wp2_with fail
      refine (HCL.out _ ⟨hz0, hz1⟩).mono ?_
      rintro e w' ⟨rfl, rfl⟩
      go_wp2_with fail
      refine (wrong_any s1.out.1).mono ?_
      rintro e w' ⟨rfl, hs⟩
      go_wp2
      go_ret
      rw [HE2.out]
      exact ⟨C, _, rfl, s1.out.trans hs, rfl⟩
  have HE2 := Lib.hid (HE.out.trans (if_neg hA))
  clear HE
  have z0 : (z == 0) = false := z_ne HZ.out (k := 0) (by omega) (fun e => hA (.inl e))
  have z96 : (z == 96) = false := z_ne HZ.out (k := 96) (by omega) (fun e => hA (.inr e))
  clear hA
  by_cases hB : wh = 0 ∧ (k = 1 ∨ k = 2 ∨ k = 5)
  · have HE3 := Lib.hid (HE2.out.trans (if_pos hB))
    clear HE2
    have hwb : (wh == 0) = true := by simpa using hB.1
    have key : (k == 1) = true ∨ ((k == 1) = false ∧ (k == 2) = true) ∨ ((k == 1) = false ∧ (k == 2) = false ∧ (k == 5) = true) := by
      rcases hB.2 with rfl | rfl | rfl <;> simp
    clear hB hw3
    rcases key with k1 | ⟨k1, k2⟩ | ⟨k1, k2, k5⟩
    all_goals
      go_enter Try.func34, Try.ntmps34
      go_wp2_with fail
      refine HT.out.mono ?_
      rintro e w1 ⟨rfl, q, rfl⟩
      have s1 := Lib.hid (Stp.nob H.out (Kept.drewN w q nob))
      go_wp2_with fail
      refine (HCL.out _ ⟨hz0, hz1⟩).mono ?_
      rintro e w' ⟨rfl, rfl⟩
      go_wp2_with fail
      refine (top_any s1.out.1).mono ?_
      rintro e w2 ⟨rfl, q2, rfl⟩
      have s2 := Lib.hid (Stp.nob H.out (Kept.drewN w (q + q2) nob))
      go_wp2_with fail
      refine (flush_any s2.out.1 (by have := HOT.out; omega) (by have := HOT.out; omega)).mono ?_
      rintro e w3 ⟨v, rfl, s3⟩
      have S3 := Lib.hid (s2.out.trans s3)
      clear s3
      go_wp2_with fail
      refine (turn_any S3.out.1 16 (by omega)).mono ?_
      rintro e w4 ⟨rfl, s4⟩
      have S4 := Lib.hid (S3.out.trans s4)
      clear s4
      go_wp2
      go_ret
      rw [HE3.out]
      exact ⟨C, _, rfl, S4.out, congrArg (fun s => St.turn s 16) Flushed.abs⟩
  have hB' : wh = 0 → k ≠ 1 ∧ k ≠ 2 ∧ k ≠ 5 := fun h0 => ⟨fun e => hB ⟨h0, .inl e⟩, fun e => hB ⟨h0, .inr (.inl e)⟩, fun e => hB ⟨h0, .inr (.inr e)⟩⟩
  have HE3 := Lib.hid (HE2.out.trans (if_neg hB))
  clear HE2 hB
  rcases hw3 with rfl | rfl | rfl
  · have kk := hB' rfl
    have k1 : (k == 1) = false := by simpa using kk.1
    have k2 : (k == 2) = false := by simpa using kk.2.1
    have k5 : (k == 5) = false := by simpa using kk.2.2
    clear kk hB'
    by_cases h92 : c = 92
    · have HE4 : Hid (stText S.abs c = (0, {S.abs with qu := true, kd := 1})) := Lib.hid (by rw [HE3.out]; simp [h92])
      have z92 : (z == 92) = true := z_eq HZ.out (k := 92) (by omega) h92
      have z34 : (z == 34) = false := z_ne HZ.out (k := 34) (by omega) (by rw [h92]; decide)
      have z125 : (z == 125) = false := z_ne HZ.out (k := 125) (by omega) (by rw [h92]; decide)
      have z39 : (z == 39) = false := z_ne HZ.out (k := 39) (by omega) (by rw [h92]; decide)
      have z36 : (z == 36) = false := z_ne HZ.out (k := 36) (by omega) (by rw [h92]; decide)
      clear HE3 h92
      go_enter Try.func34, Try.ntmps34
      go_wp2_with fail
      refine HT.out.mono ?_
      rintro e w1 ⟨rfl, q, rfl⟩
      obtain ⟨c6, f6⟩ := hf6.out q
      have s1 := Lib.hid (Stp.nob H.out (Kept.drewN w q nob))
      go_wp2_with fail
      refine (HCL.out _ ⟨hz0, hz1⟩).mono ?_
      rintro e w' ⟨rfl, rfl⟩
      go_wp2_with fail
      have S2 := Lib.hid (s1.out.trans (qu_step s1.out.1))
      refine (goes_any S2.out.1 1 (by omega)).mono ?_
      rintro e w3 ⟨rfl, s3⟩
      go_wp2
      go_ret
      rw [HE4.out]
      exact ⟨C, _, rfl, S2.out.trans s3, rfl⟩
    by_cases h39 : c = 39
    · have HE4 : Hid (stText S.abs c = (0, {S.abs with qu := true, bu := [], kd := 12})) := Lib.hid (by rw [HE3.out]; simp [h39, h92])
      have z39 : (z == 39) = true := z_eq HZ.out (k := 39) (by omega) h39
      have z34 : (z == 34) = false := z_ne HZ.out (k := 34) (by omega) (by rw [h39]; decide)
      have z125 : (z == 125) = false := z_ne HZ.out (k := 125) (by omega) (by rw [h39]; decide)
      have z92 : (z == 92) = false := z_ne HZ.out (k := 92) (by omega) (by rw [h39]; decide)
      have z36 : (z == 36) = false := z_ne HZ.out (k := 36) (by omega) (by rw [h39]; decide)
      clear HE3 h39 h92
      go_enter Try.func34, Try.ntmps34
      go_wp2_with fail
      refine HT.out.mono ?_
      rintro e w1 ⟨rfl, q, rfl⟩
      obtain ⟨c6, f6⟩ := hf6.out q
      obtain ⟨c7, f7⟩ := hf7.out q
      have s1 := Lib.hid (Stp.nob H.out (Kept.drewN w q nob))
      go_wp2_with fail
      refine (HCL.out _ ⟨hz0, hz1⟩).mono ?_
      rintro e w' ⟨rfl, rfl⟩
      go_wp2_with fail
      have S2 := Lib.hid (s1.out.trans (qu_step s1.out.1))
      have S3 := Lib.hid (S2.out.trans (bu_nil S2.out.1))
      refine (goes_any S3.out.1 12 (by omega)).mono ?_
      rintro e w3 ⟨rfl, s3⟩
      go_wp2
      go_ret
      rw [HE4.out]
      exact ⟨C, _, rfl, S3.out.trans s3, rfl⟩
    by_cases h34 : c = 34
    · have HE4 : Hid (stText S.abs c = (0, ({S.abs with qu := true} : St).push 1 ⟨#[]⟩ ⟨#[]⟩)) := Lib.hid (by rw [HE3.out]; simp [h34, h92, h39])
      have z34 : (z == 34) = true := z_eq HZ.out (k := 34) (by omega) h34
      have z125 : (z == 125) = false := z_ne HZ.out (k := 125) (by omega) (by rw [h34]; decide)
      have z92 : (z == 92) = false := z_ne HZ.out (k := 92) (by omega) (by rw [h34]; decide)
      have z39 : (z == 39) = false := z_ne HZ.out (k := 39) (by omega) (by rw [h34]; decide)
      have z36 : (z == 36) = false := z_ne HZ.out (k := 36) (by omega) (by rw [h34]; decide)
      clear HE3 h34 h92 h39
      go_enter Try.func34, Try.ntmps34
      go_wp2_with fail
      refine HT.out.mono ?_
      rintro e w1 ⟨rfl, q, rfl⟩
      obtain ⟨c6, f6⟩ := hf6.out q
      have s1 := Lib.hid (Stp.nob H.out (Kept.drewN w q nob))
      go_wp2_with fail
      refine (HCL.out _ ⟨hz0, hz1⟩).mono ?_
      rintro e w' ⟨rfl, rfl⟩
      go_wp2_with fail
      have S2 := Lib.hid (s1.out.trans (qu_step s1.out.1))
      refine (push_any S2.out.1 (by have := HO.out.1; show S.lo.length ≤ _; omega) 1 ⟨#[]⟩ ⟨#[]⟩).mono ?_
      rintro e w3 hp
      have HP := Lib.hid (Pushed.ret hp)
      clear hp
      obtain ⟨C', S', e1, e2, e3⟩ := HP.out
      obtain rfl := e1
      go_wp2
      go_ret
      rw [HE4.out]
      exact ⟨C', S', rfl, S2.out.trans e2, e3⟩
    by_cases h36 : c = 36
    · have HE4 : Hid (stText S.abs c = (0, S.abs.turn 2)) := Lib.hid (by rw [HE3.out]; simp [h36, h92, h39, h34])
      have z36 : (z == 36) = true := z_eq HZ.out (k := 36) (by omega) h36
      have z34 : (z == 34) = false := z_ne HZ.out (k := 34) (by omega) (by rw [h36]; decide)
      have z125 : (z == 125) = false := z_ne HZ.out (k := 125) (by omega) (by rw [h36]; decide)
      have z92 : (z == 92) = false := z_ne HZ.out (k := 92) (by omega) (by rw [h36]; decide)
      have z39 : (z == 39) = false := z_ne HZ.out (k := 39) (by omega) (by rw [h36]; decide)
      clear HE3 h36 h92 h39 h34
      go_enter Try.func34, Try.ntmps34
      go_wp2_with fail
      refine HT.out.mono ?_
      rintro e w1 ⟨rfl, q, rfl⟩
      have s1 := Lib.hid (Stp.nob H.out (Kept.drewN w q nob))
      go_wp2_with fail
      refine (HCL.out _ ⟨hz0, hz1⟩).mono ?_
      rintro e w' ⟨rfl, rfl⟩
      go_wp2_with fail
      refine (goes_any s1.out.1 2 (by omega)).mono ?_
      rintro e w3 ⟨rfl, s3⟩
      go_wp2
      go_ret
      rw [HE4.out]
      exact ⟨C, _, rfl, s1.out.trans s3, rfl⟩
    have HE4 : Hid (stText S.abs c = (0, S.abs.lit [c])) := Lib.hid (by rw [HE3.out]; simp [h92, h39, h34, h36])
    have z92 : (z == 92) = false := z_ne HZ.out (k := 92) (by omega) h92
    have z39 : (z == 39) = false := z_ne HZ.out (k := 39) (by omega) h39
    have z34 : (z == 34) = false := z_ne HZ.out (k := 34) (by omega) h34
    have z36 : (z == 36) = false := z_ne HZ.out (k := 36) (by omega) h36
    clear HE3 h92 h39 h34 h36
    go_enter Try.func34, Try.ntmps34
    go_wp2_with fail
    refine HT.out.mono ?_
    rintro e w1 ⟨rfl, q, rfl⟩
    have s1 := Lib.hid (Stp.nob H.out (Kept.drewN w q nob))
    go_wp2_with fail
    refine (HCL.out _ ⟨hz0, hz1⟩).mono ?_
    rintro e w' ⟨rfl, rfl⟩
    go_wp2_with fail
    have S2 := Lib.hid (s1.out.trans (Stp.nob s1.out.1 (Kept.alloc (w.drewN q) (.cells #[.int .u8 z] 5) nob)))
    have HA := Lib.hid (alloc_blk (w.drewN q) (.cells #[.int .u8 z] 5))
    refine (lit_any S2.out.1 [c] w.heap.size 1 (by simp) (Eq.trans HA.out (by rw [← HZ.out]; rfl)) (fun hf => by have := s1.out.1.bnd _ hf; simp at this) (by have := HOT.out; omega) (by have := HO.out.2.1; omega)).mono ?_
    rintro e w3 ⟨v1, v2, rfl, s3⟩
    have S3 := Lib.hid (S2.out.trans s3)
    clear s3
    go_wp2
    go_ret
    rw [HE4.out]
    exact ⟨C, _, rfl, S3.out, rfl⟩
  · clear hB'
    have HPOP : Hid (∃ lo' t', Hid (S.lo = lo' ++ [t']) ∧ t'.li.length ≤ 90000 ∧ t'.ps.length ≤ 90000) := Lib.hid (by
      have hne : S.lo ≠ [] := by
        rcases HW.out with h | h
        · have := HWH.out; rw [h.2] at this; omega
        · exact h.1
      have := HO.out.2.2.2.2 (S.lo.getLast hne) (by unfold Sn.all; exact List.mem_append_left _ (List.getLast_mem hne))
      exact ⟨S.lo.dropLast, S.lo.getLast hne, Lib.hid (List.dropLast_concat_getLast hne).symm, this.1, this.2⟩)
    by_cases h34 : c = 34
    · have HE4 : Hid (stText S.abs c = (0, S.abs.pop)) := Lib.hid (by rw [HE3.out]; simp [h34])
      have z34 : (z == 34) = true := z_eq HZ.out (k := 34) (by omega) h34
      have z125 : (z == 125) = false := z_ne HZ.out (k := 125) (by omega) (by rw [h34]; decide)
      have z92 : (z == 92) = false := z_ne HZ.out (k := 92) (by omega) (by rw [h34]; decide)
      have z39 : (z == 39) = false := z_ne HZ.out (k := 39) (by omega) (by rw [h34]; decide)
      have z36 : (z == 36) = false := z_ne HZ.out (k := 36) (by omega) (by rw [h34]; decide)
      clear HE3 h34
      obtain ⟨lo', t', hlo, hb3, hb4⟩ := HPOP.out
      go_enter Try.func34, Try.ntmps34
      go_wp2_with fail
      refine HT.out.mono ?_
      rintro e w1 ⟨rfl, q, rfl⟩
      have s1 := Lib.hid (Stp.nob H.out (Kept.drewN w q nob))
      go_wp2_with fail
      refine (HCL.out _ ⟨hz0, hz1⟩).mono ?_
      rintro e w' ⟨rfl, rfl⟩
      go_wp2_with fail
      refine (pop_any s1.out.1 (by have := HOT.out; omega) (by have := HOT.out; omega) hlo.out (by omega) (by omega)).mono ?_
      rintro e w3 hp
      have HP := Lib.hid (Popped.ret hlo.out hp)
      clear hp
      obtain ⟨C', S', e1, e2, e3⟩ := HP.out
      obtain rfl := e1
      go_wp2
      go_ret
      rw [HE4.out]
      exact ⟨C', S', rfl, s1.out.trans e2, e3⟩
    by_cases h92 : c = 92
    · have HE4 : Hid (stText S.abs c = (0, {S.abs with qu := true, kd := 1})) := Lib.hid (by rw [HE3.out]; simp [h92, h34])
      have z92 : (z == 92) = true := z_eq HZ.out (k := 92) (by omega) h92
      have z34 : (z == 34) = false := z_ne HZ.out (k := 34) (by omega) (by rw [h92]; decide)
      have z125 : (z == 125) = false := z_ne HZ.out (k := 125) (by omega) (by rw [h92]; decide)
      have z39 : (z == 39) = false := z_ne HZ.out (k := 39) (by omega) (by rw [h92]; decide)
      have z36 : (z == 36) = false := z_ne HZ.out (k := 36) (by omega) (by rw [h92]; decide)
      clear HE3 h92 h34
      go_enter Try.func34, Try.ntmps34
      go_wp2_with fail
      refine HT.out.mono ?_
      rintro e w1 ⟨rfl, q, rfl⟩
      obtain ⟨c6, f6⟩ := hf6.out q
      have s1 := Lib.hid (Stp.nob H.out (Kept.drewN w q nob))
      go_wp2_with fail
      refine (HCL.out _ ⟨hz0, hz1⟩).mono ?_
      rintro e w' ⟨rfl, rfl⟩
      go_wp2_with fail
      have S2 := Lib.hid (s1.out.trans (qu_step s1.out.1))
      refine (goes_any S2.out.1 1 (by omega)).mono ?_
      rintro e w3 ⟨rfl, s3⟩
      go_wp2
      go_ret
      rw [HE4.out]
      exact ⟨C, _, rfl, S2.out.trans s3, rfl⟩
    by_cases h36 : c = 36
    · have HE4 : Hid (stText S.abs c = (0, S.abs.turn 2)) := Lib.hid (by rw [HE3.out]; simp [h36, h34, h92])
      have z36 : (z == 36) = true := z_eq HZ.out (k := 36) (by omega) h36
      have z34 : (z == 34) = false := z_ne HZ.out (k := 34) (by omega) (by rw [h36]; decide)
      have z125 : (z == 125) = false := z_ne HZ.out (k := 125) (by omega) (by rw [h36]; decide)
      have z92 : (z == 92) = false := z_ne HZ.out (k := 92) (by omega) (by rw [h36]; decide)
      have z39 : (z == 39) = false := z_ne HZ.out (k := 39) (by omega) (by rw [h36]; decide)
      clear HE3 h36 h34 h92
      go_enter Try.func34, Try.ntmps34
      go_wp2_with fail
      refine HT.out.mono ?_
      rintro e w1 ⟨rfl, q, rfl⟩
      have s1 := Lib.hid (Stp.nob H.out (Kept.drewN w q nob))
      go_wp2_with fail
      refine (HCL.out _ ⟨hz0, hz1⟩).mono ?_
      rintro e w' ⟨rfl, rfl⟩
      go_wp2_with fail
      refine (goes_any s1.out.1 2 (by omega)).mono ?_
      rintro e w3 ⟨rfl, s3⟩
      go_wp2
      go_ret
      rw [HE4.out]
      exact ⟨C, _, rfl, s1.out.trans s3, rfl⟩
    have HE4 : Hid (stText S.abs c = (0, S.abs.lit [c])) := Lib.hid (by rw [HE3.out]; simp [h34, h92, h36])
    have z34 : (z == 34) = false := z_ne HZ.out (k := 34) (by omega) h34
    have z92 : (z == 92) = false := z_ne HZ.out (k := 92) (by omega) h92
    have z36 : (z == 36) = false := z_ne HZ.out (k := 36) (by omega) h36
    clear HE3 h34 h92 h36
    by_cases h39 : (z == 39) = true
    · have z39 := h39
      clear h39
      go_enter Try.func34, Try.ntmps34
      go_wp2_with fail
      refine HT.out.mono ?_
      rintro e w1 ⟨rfl, q, rfl⟩
      have s1 := Lib.hid (Stp.nob H.out (Kept.drewN w q nob))
      go_wp2_with fail
      refine (HCL.out _ ⟨hz0, hz1⟩).mono ?_
      rintro e w' ⟨rfl, rfl⟩
      go_wp2_with fail
      have S2 := Lib.hid (s1.out.trans (Stp.nob s1.out.1 (Kept.alloc (w.drewN q) (.cells #[.int .u8 z] 5) nob)))
      have HA := Lib.hid (alloc_blk (w.drewN q) (.cells #[.int .u8 z] 5))
      refine (lit_any S2.out.1 [c] w.heap.size 1 (by simp) (Eq.trans HA.out (by rw [← HZ.out]; rfl)) (fun hf => by have := s1.out.1.bnd _ hf; simp at this) (by have := HOT.out; omega) (by have := HO.out.2.1; omega)).mono ?_
      rintro e w3 ⟨v1, v2, rfl, s3⟩
      have S3 := Lib.hid (S2.out.trans s3)
      clear s3
      go_wp2
      go_ret
      rw [HE4.out]
      exact ⟨C, _, rfl, S3.out, rfl⟩
    · have z39 : (z == 39) = false := by simpa using h39
      clear h39
      go_enter Try.func34, Try.ntmps34
      go_wp2_with fail
      refine HT.out.mono ?_
      rintro e w1 ⟨rfl, q, rfl⟩
      have s1 := Lib.hid (Stp.nob H.out (Kept.drewN w q nob))
      go_wp2_with fail
      refine (HCL.out _ ⟨hz0, hz1⟩).mono ?_
      rintro e w' ⟨rfl, rfl⟩
      go_wp2_with fail
      have S2 := Lib.hid (s1.out.trans (Stp.nob s1.out.1 (Kept.alloc (w.drewN q) (.cells #[.int .u8 z] 5) nob)))
      have HA := Lib.hid (alloc_blk (w.drewN q) (.cells #[.int .u8 z] 5))
      refine (lit_any S2.out.1 [c] w.heap.size 1 (by simp) (Eq.trans HA.out (by rw [← HZ.out]; rfl)) (fun hf => by have := s1.out.1.bnd _ hf; simp at this) (by have := HOT.out; omega) (by have := HO.out.2.1; omega)).mono ?_
      rintro e w3 ⟨v1, v2, rfl, s3⟩
      have S3 := Lib.hid (S2.out.trans s3)
      clear s3
      go_wp2
      go_ret
      rw [HE4.out]
      exact ⟨C, _, rfl, S3.out, rfl⟩
  · clear hB'
    have HPOP : Hid (∃ lo' t', Hid (S.lo = lo' ++ [t']) ∧ t'.li.length ≤ 90000 ∧ t'.ps.length ≤ 90000) := Lib.hid (by
      have hne : S.lo ≠ [] := by
        rcases HW.out with h | h
        · have := HWH.out; rw [h.2] at this; omega
        · exact h.1
      have := HO.out.2.2.2.2 (S.lo.getLast hne) (by unfold Sn.all; exact List.mem_append_left _ (List.getLast_mem hne))
      exact ⟨S.lo.dropLast, S.lo.getLast hne, Lib.hid (List.dropLast_concat_getLast hne).symm, this.1, this.2⟩)
    by_cases h125 : c = 125
    · have HE4 : Hid (stText S.abs c = (0, S.abs.pop)) := Lib.hid (by rw [HE3.out]; simp [h125])
      have z125 : (z == 125) = true := z_eq HZ.out (k := 125) (by omega) h125
      have z34 : (z == 34) = false := z_ne HZ.out (k := 34) (by omega) (by rw [h125]; decide)
      have z92 : (z == 92) = false := z_ne HZ.out (k := 92) (by omega) (by rw [h125]; decide)
      have z39 : (z == 39) = false := z_ne HZ.out (k := 39) (by omega) (by rw [h125]; decide)
      have z36 : (z == 36) = false := z_ne HZ.out (k := 36) (by omega) (by rw [h125]; decide)
      clear HE3 h125
      obtain ⟨lo', t', hlo, hb3, hb4⟩ := HPOP.out
      go_enter Try.func34, Try.ntmps34
      go_wp2_with fail
      refine HT.out.mono ?_
      rintro e w1 ⟨rfl, q, rfl⟩
      have s1 := Lib.hid (Stp.nob H.out (Kept.drewN w q nob))
      go_wp2_with fail
      refine (HCL.out _ ⟨hz0, hz1⟩).mono ?_
      rintro e w' ⟨rfl, rfl⟩
      go_wp2_with fail
      refine (pop_any s1.out.1 (by have := HOT.out; omega) (by have := HOT.out; omega) hlo.out (by omega) (by omega)).mono ?_
      rintro e w3 hp
      have HP := Lib.hid (Popped.ret hlo.out hp)
      clear hp
      obtain ⟨C', S', e1, e2, e3⟩ := HP.out
      obtain rfl := e1
      go_wp2
      go_ret
      rw [HE4.out]
      exact ⟨C', S', rfl, s1.out.trans e2, e3⟩
    by_cases h92 : c = 92
    · have HE4 : Hid (stText S.abs c = (0, {S.abs with qu := true, kd := 1})) := Lib.hid (by rw [HE3.out]; simp [h92, h125])
      have z92 : (z == 92) = true := z_eq HZ.out (k := 92) (by omega) h92
      have z34 : (z == 34) = false := z_ne HZ.out (k := 34) (by omega) (by rw [h92]; decide)
      have z125 : (z == 125) = false := z_ne HZ.out (k := 125) (by omega) (by rw [h92]; decide)
      have z39 : (z == 39) = false := z_ne HZ.out (k := 39) (by omega) (by rw [h92]; decide)
      have z36 : (z == 36) = false := z_ne HZ.out (k := 36) (by omega) (by rw [h92]; decide)
      clear HE3 h92 h125
      go_enter Try.func34, Try.ntmps34
      go_wp2_with fail
      refine HT.out.mono ?_
      rintro e w1 ⟨rfl, q, rfl⟩
      obtain ⟨c6, f6⟩ := hf6.out q
      have s1 := Lib.hid (Stp.nob H.out (Kept.drewN w q nob))
      go_wp2_with fail
      refine (HCL.out _ ⟨hz0, hz1⟩).mono ?_
      rintro e w' ⟨rfl, rfl⟩
      go_wp2_with fail
      have S2 := Lib.hid (s1.out.trans (qu_step s1.out.1))
      refine (goes_any S2.out.1 1 (by omega)).mono ?_
      rintro e w3 ⟨rfl, s3⟩
      go_wp2
      go_ret
      rw [HE4.out]
      exact ⟨C, _, rfl, S2.out.trans s3, rfl⟩
    by_cases h39 : c = 39
    · have HE4 : Hid (stText S.abs c = (0, {S.abs with qu := true, bu := [], kd := 12})) := Lib.hid (by rw [HE3.out]; simp [h39, h125, h92])
      have z39 : (z == 39) = true := z_eq HZ.out (k := 39) (by omega) h39
      have z34 : (z == 34) = false := z_ne HZ.out (k := 34) (by omega) (by rw [h39]; decide)
      have z125 : (z == 125) = false := z_ne HZ.out (k := 125) (by omega) (by rw [h39]; decide)
      have z92 : (z == 92) = false := z_ne HZ.out (k := 92) (by omega) (by rw [h39]; decide)
      have z36 : (z == 36) = false := z_ne HZ.out (k := 36) (by omega) (by rw [h39]; decide)
      clear HE3 h39 h125 h92
      go_enter Try.func34, Try.ntmps34
      go_wp2_with fail
      refine HT.out.mono ?_
      rintro e w1 ⟨rfl, q, rfl⟩
      obtain ⟨c6, f6⟩ := hf6.out q
      obtain ⟨c7, f7⟩ := hf7.out q
      have s1 := Lib.hid (Stp.nob H.out (Kept.drewN w q nob))
      go_wp2_with fail
      refine (HCL.out _ ⟨hz0, hz1⟩).mono ?_
      rintro e w' ⟨rfl, rfl⟩
      go_wp2_with fail
      have S2 := Lib.hid (s1.out.trans (qu_step s1.out.1))
      have S3 := Lib.hid (S2.out.trans (bu_nil S2.out.1))
      refine (goes_any S3.out.1 12 (by omega)).mono ?_
      rintro e w3 ⟨rfl, s3⟩
      go_wp2
      go_ret
      rw [HE4.out]
      exact ⟨C, _, rfl, S3.out.trans s3, rfl⟩
    by_cases h34 : c = 34
    · have HE4 : Hid (stText S.abs c = (0, ({S.abs with qu := true} : St).push 1 ⟨#[]⟩ ⟨#[]⟩)) := Lib.hid (by rw [HE3.out]; simp [h34, h125, h92, h39])
      have z34 : (z == 34) = true := z_eq HZ.out (k := 34) (by omega) h34
      have z125 : (z == 125) = false := z_ne HZ.out (k := 125) (by omega) (by rw [h34]; decide)
      have z92 : (z == 92) = false := z_ne HZ.out (k := 92) (by omega) (by rw [h34]; decide)
      have z39 : (z == 39) = false := z_ne HZ.out (k := 39) (by omega) (by rw [h34]; decide)
      have z36 : (z == 36) = false := z_ne HZ.out (k := 36) (by omega) (by rw [h34]; decide)
      clear HE3 h34 h125 h92 h39
      go_enter Try.func34, Try.ntmps34
      go_wp2_with fail
      refine HT.out.mono ?_
      rintro e w1 ⟨rfl, q, rfl⟩
      obtain ⟨c6, f6⟩ := hf6.out q
      have s1 := Lib.hid (Stp.nob H.out (Kept.drewN w q nob))
      go_wp2_with fail
      refine (HCL.out _ ⟨hz0, hz1⟩).mono ?_
      rintro e w' ⟨rfl, rfl⟩
      go_wp2_with fail
      have S2 := Lib.hid (s1.out.trans (qu_step s1.out.1))
      refine (push_any S2.out.1 (by have := HO.out.1; show S.lo.length ≤ _; omega) 1 ⟨#[]⟩ ⟨#[]⟩).mono ?_
      rintro e w3 hp
      have HP := Lib.hid (Pushed.ret hp)
      clear hp
      obtain ⟨C', S', e1, e2, e3⟩ := HP.out
      obtain rfl := e1
      go_wp2
      go_ret
      rw [HE4.out]
      exact ⟨C', S', rfl, S2.out.trans e2, e3⟩
    by_cases h36 : c = 36
    · have HE4 : Hid (stText S.abs c = (0, S.abs.turn 2)) := Lib.hid (by rw [HE3.out]; simp [h36, h125, h92, h39, h34])
      have z36 : (z == 36) = true := z_eq HZ.out (k := 36) (by omega) h36
      have z34 : (z == 34) = false := z_ne HZ.out (k := 34) (by omega) (by rw [h36]; decide)
      have z125 : (z == 125) = false := z_ne HZ.out (k := 125) (by omega) (by rw [h36]; decide)
      have z92 : (z == 92) = false := z_ne HZ.out (k := 92) (by omega) (by rw [h36]; decide)
      have z39 : (z == 39) = false := z_ne HZ.out (k := 39) (by omega) (by rw [h36]; decide)
      clear HE3 h36 h125 h92 h39 h34
      go_enter Try.func34, Try.ntmps34
      go_wp2_with fail
      refine HT.out.mono ?_
      rintro e w1 ⟨rfl, q, rfl⟩
      have s1 := Lib.hid (Stp.nob H.out (Kept.drewN w q nob))
      go_wp2_with fail
      refine (HCL.out _ ⟨hz0, hz1⟩).mono ?_
      rintro e w' ⟨rfl, rfl⟩
      go_wp2_with fail
      refine (goes_any s1.out.1 2 (by omega)).mono ?_
      rintro e w3 ⟨rfl, s3⟩
      go_wp2
      go_ret
      rw [HE4.out]
      exact ⟨C, _, rfl, s1.out.trans s3, rfl⟩
    have HE4 : Hid (stText S.abs c = (0, S.abs.lit [c])) := Lib.hid (by rw [HE3.out]; simp [h125, h92, h39, h34, h36])
    have z125 : (z == 125) = false := z_ne HZ.out (k := 125) (by omega) h125
    have z92 : (z == 92) = false := z_ne HZ.out (k := 92) (by omega) h92
    have z39 : (z == 39) = false := z_ne HZ.out (k := 39) (by omega) h39
    have z34 : (z == 34) = false := z_ne HZ.out (k := 34) (by omega) h34
    have z36 : (z == 36) = false := z_ne HZ.out (k := 36) (by omega) h36
    clear HE3 h125 h92 h39 h34 h36
    go_enter Try.func34, Try.ntmps34
    go_wp2_with fail
    refine HT.out.mono ?_
    rintro e w1 ⟨rfl, q, rfl⟩
    have s1 := Lib.hid (Stp.nob H.out (Kept.drewN w q nob))
    go_wp2_with fail
    refine (HCL.out _ ⟨hz0, hz1⟩).mono ?_
    rintro e w' ⟨rfl, rfl⟩
    go_wp2_with fail
    have S2 := Lib.hid (s1.out.trans (Stp.nob s1.out.1 (Kept.alloc (w.drewN q) (.cells #[.int .u8 z] 5) nob)))
    have HA := Lib.hid (alloc_blk (w.drewN q) (.cells #[.int .u8 z] 5))
    refine (lit_any S2.out.1 [c] w.heap.size 1 (by simp) (Eq.trans HA.out (by rw [← HZ.out]; rfl)) (fun hf => by have := s1.out.1.bnd _ hf; simp at this) (by have := HOT.out; omega) (by have := HO.out.2.1; omega)).mono ?_
    rintro e w3 ⟨v1, v2, rfl, s3⟩
    have S3 := Lib.hid (S2.out.trans s3)
    clear s3
    go_wp2
    go_ret
    rw [HE4.out]
    exact ⟨C, _, rfl, S3.out, rfl⟩
end Go.Proofs.Ytbmapjgajecgfaa

/-
  What is proved: what the program's unlike answers. Conditions: those of each theorem.
-/
import Derived.Test.YthddfkemagpiaaaL11
import Derived.Deep.RegionHeld3
set_option linter.unusedVariables false
set_option linter.unusedSimpArgs false
namespace Go.Proofs.Ythddfkemagpiaaa
open Go.RowKit
set_option maxRecDepth 100000 in
set_option maxHeartbeats 4000000 in
theorem test108 (w : World) (q0 q1 q2 : Nat) (a : Option Addr) (c i : Nat) (L : List Rl) (hL : RdR w a L) (hi : i < L.length) (hl : L.length ≤ 1000) (hR : ∀ r, r ∈ L → okR r)
    (h0 : w.cell? ⟨q0, 0, none⟩ = some (.func (.func 67) #[] #[])) (h1 : w.cell? ⟨q1, 0, none⟩ = some (.slice a L.length c)) (h2 : w.cell? ⟨q2, 0, none⟩ = some (.int .i64 (i : Int))) :
    Test108 w q0 q1 q2 okR (fun x => ruleB x (L.getD i (0, []))) := by
  intro w' l xs ra rc hk hr hP
  obtain ⟨b, o, r, ra', rc', rfl, hri, hgd, RA⟩ := rule_at (hL.nob (hk.trans (Kept.alloc w' (.cells #[.int .i64 l, .slice ra xs.length rc] 40) nob) (fun _ _ h => h))) hi
  rw [hgd]
  have hrl : r.2.length ≤ 10000 := hR r (List.mem_of_getElem? hri)
  have HS := Lib.hid (fun w1 (h : Kept nob (w'.alloc (.cells #[.int .i64 l, .slice ra xs.length rc] 40)) w1) => samerule_any w1 l r.1 ra ra' rc rc' xs r.2 (hr.nob ((Kept.alloc _ _ _).trans h (fun _ _ h => h))) (RA.rd.nob h) (by have : xs.length ≤ 10000 := hP; unfold big; omega) (by unfold big; omega))
  have d0 := RA.c0
  have d1 := RA.c1
  obtain ⟨l2, ys⟩ := r
  simp only at d0 d1 HS
  have k0 := kcell (hk.trans (Kept.alloc w' (.cells #[.int .i64 l, .slice ra xs.length rc] 40) nob) (fun _ _ h => h)) h0
  have k1 := kcell (hk.trans (Kept.alloc w' (.cells #[.int .i64 l, .slice ra xs.length rc] 40) nob) (fun _ _ h => h)) h1
  have k2 := kcell (hk.trans (Kept.alloc w' (.cells #[.int .i64 l, .slice ra xs.length rc] 40) nob) (fun _ _ h => h)) h2
  have hbk := alloc_blk w' (.cells #[.int .i64 l, .slice ra xs.length rc] 40)
  have e0 : (w'.alloc (.cells #[.int .i64 l, .slice ra xs.length rc] 40)).cell? ⟨w'.heap.size, 0, none⟩ = some (.int .i64 l) := by rw [cell_blk hbk]; rfl
  have e1 : (w'.alloc (.cells #[.int .i64 l, .slice ra xs.length rc] 40)).cell? ⟨w'.heap.size, 1, none⟩ = some (.slice ra xs.length rc) := by rw [cell_blk hbk]; rfl
  have HK := Lib.hid (Kept.alloc w' (.cells #[.int .i64 l, .slice ra xs.length rc] 40) nob)
  obtain ⟨w1, hw1⟩ : ∃ w1, w1 = w'.alloc (.cells #[.int .i64 l, .slice ra xs.length rc] 40) := ⟨_, rfl⟩
  rw [← hw1] at HS d0 d1 k0 k1 k2 e0 e1 HK
  have HW := Lib.hid hw1
  obtain ⟨sz, hsz⟩ : ∃ sz, w'.heap.size = sz := ⟨_, rfl⟩
  rw [hsz] at e0 e1
  have HSZ := Lib.hid hsz
  clear hL hR h0 h1 h2 hk hr hP RA hri hgd hbk hw1 hsz
  go_enter Try.func108, Try.ntmps108
  go_wp2
  rw [← HW.out, HSZ.out]
  have HKC : Hid (∀ wa wb, (wa.cell? ⟨q0, 0, none⟩ = some (.func (.func 67) #[] #[]) ∧ wa.cell? ⟨q1, 0, none⟩ = some (.slice (some ⟨b, o, none⟩) L.length c) ∧ wa.cell? ⟨q2, 0, none⟩ = some (.int .i64 (i : Int)) ∧ wa.cell? ⟨b, o + i * 2, none⟩ = some (.int .i64 l2) ∧ wa.cell? ⟨b, o + i * 2 + 1, none⟩ = some (.slice ra' ys.length rc') ∧ wa.cell? ⟨sz, 0, none⟩ = some (.int .i64 l) ∧ wa.cell? ⟨sz, 1, none⟩ = some (.slice ra xs.length rc) ∧ Kept nob w1 wa) → Kept nob wa wb →
      (wb.cell? ⟨q0, 0, none⟩ = some (.func (.func 67) #[] #[]) ∧ wb.cell? ⟨q1, 0, none⟩ = some (.slice (some ⟨b, o, none⟩) L.length c) ∧ wb.cell? ⟨q2, 0, none⟩ = some (.int .i64 (i : Int)) ∧ wb.cell? ⟨b, o + i * 2, none⟩ = some (.int .i64 l2) ∧ wb.cell? ⟨b, o + i * 2 + 1, none⟩ = some (.slice ra' ys.length rc') ∧ wb.cell? ⟨sz, 0, none⟩ = some (.int .i64 l) ∧ wb.cell? ⟨sz, 1, none⟩ = some (.slice ra xs.length rc) ∧ Kept nob w1 wb)) :=
    Lib.hid (fun wa wb h k => ⟨kcell k h.1, kcell k h.2.1, kcell k h.2.2.1, kcell k h.2.2.2.1, kcell k h.2.2.2.2.1, kcell k h.2.2.2.2.2.1, kcell k h.2.2.2.2.2.2.1, h.2.2.2.2.2.2.2.trans k (fun _ _ h => h)⟩)
  go_region_held3 (fun wa => wa.cell? ⟨q0, 0, none⟩ = some (.func (.func 67) #[] #[]) ∧ wa.cell? ⟨q1, 0, none⟩ = some (.slice (some ⟨b, o, none⟩) L.length c) ∧ wa.cell? ⟨q2, 0, none⟩ = some (.int .i64 (i : Int)) ∧ wa.cell? ⟨b, o + i * 2, none⟩ = some (.int .i64 l2) ∧ wa.cell? ⟨b, o + i * 2 + 1, none⟩ = some (.slice ra' ys.length rc') ∧ wa.cell? ⟨sz, 0, none⟩ = some (.int .i64 l) ∧ wa.cell? ⟨sz, 1, none⟩ = some (.slice ra xs.length rc) ∧ Kept nob w1 wa) (first | exact ⟨k0, k1, k2, d0, d1, e0, e1, Kept.drew _ _⟩ | assumption) (first | (go_at_call 67; refine (HS.out _ (by have h := ‹_ ∧ _›; exact h.2.2.2.2.2.2.2)).mono ?_; rintro e w5 ⟨rfl, k5⟩; have s5 := HKC.out _ _ (by assumption) k5))
  go_wp2
  go_ret
  exact ⟨rfl, HK.out.trans s5.2.2.2.2.2.2.2 (fun _ _ h => h)⟩
theorem any_rule (l : List Rl) (r : Rl) : l.any (fun x => ruleB x r) = decide (r ∈ l) := by
  rw [Bool.eq_iff_iff, List.any_eq_true]
  unfold ruleB
  simp
theorem RdR.take {w : World} {a : Option Addr} {L : List Rl} (h : RdR w a L) (k : Nat) : RdR w a (L.take k) := by
  rcases h with h | ⟨b, o, rfl, hc⟩
  · exact .inl (by rw [h]; simp)
  · refine .inr ⟨b, o, rfl, fun j r hj => hc j r ?_⟩
    rw [List.getElem?_take] at hj
    split at hj
    · exact hj
    · cases hj
theorem nodup_take {α : Type} {L : List α} {k : Nat} (h : L.Nodup) : (L.take k).Nodup := h.sublist (List.take_sublist k L)
set_option maxRecDepth 100000 in
set_option maxHeartbeats 4000000 in
theorem unlike_any (w : World) (a : Option Addr) (c : Nat) (L : List Rl) (hL : RdR w a L) (hl : L.length ≤ 1000) (hc : L.length ≤ c) (hR : ∀ r, r ∈ L → okR r) :
    Calls Try.prog 66 #[.slice a L.length c, .func (.func 67) #[] #[]] w (RetB1 w (decide L.Nodup)) := by
  have HL := Lib.hid hL
  have HR := Lib.hid hR
  clear hL hR
  have HK0 := Lib.hid ((Kept.alloc w (.cells #[.slice a L.length c] 23) nob).trans (Kept.alloc _ (.cells #[.func (.func 67) #[] #[]] 64) nob) (fun _ _ h => h))
  have HB0 : Hid (((w.alloc (.cells #[.slice a L.length c] 23)).alloc (.cells #[.func (.func 67) #[] #[]] 64)).cell? ⟨w.heap.size, 0, none⟩ = some (.slice a L.length c)) := Lib.hid (by
    rw [cell_blk (alloc_old (alloc_blk w _) _)]; rfl)
  have HB1 : Hid (((w.alloc (.cells #[.slice a L.length c] 23)).alloc (.cells #[.func (.func 67) #[] #[]] 64)).cell? ⟨w.heap.size + 1, 0, none⟩ = some (.func (.func 67) #[] #[])) := Lib.hid (by
    have := alloc_blk (w.alloc (.cells #[.slice a L.length c] 23)) (.cells #[.func (.func 67) #[] #[]] 64)
    rw [World.size_alloc] at this
    rw [cell_blk this]; rfl)
  obtain ⟨w1, hw1⟩ : ∃ w1, w1 = (w.alloc (.cells #[.slice a L.length c] 23)).alloc (.cells #[.func (.func 67) #[] #[]] 64) := ⟨_, rfl⟩
  rw [← hw1] at HK0 HB0 HB1
  have HW := Lib.hid hw1
  obtain ⟨q, hq⟩ : ∃ q, w.heap.size = q := ⟨_, rfl⟩
  rw [hq] at HB0 HB1
  have HQ := Lib.hid hq
  clear hq hw1
  have hb0 := HB0.out
  have hcl : (L.length : Int) ≤ (c : Int) := by omega
  go_enter Try.func66, Try.ntmps66
  go_wp2
  rw [← HW.out, HQ.out]
  go_loopw [8] (fun i wr => ∃ k : Nat, i = .int .i64 (k : Int) ∧ k ≤ L.length ∧ Hid ((L.take k).Nodup) ∧ Hid (Kept nob w1 wr)) (fun i _ => L.length - (intOf i).toNat)
  case atStart => exact ⟨0, rfl, by omega, Lib.hid (by simp), Lib.hid (Kept.refl _ _)⟩
  case round =>
    obtain ⟨k, rfl, hkl, hno, HK⟩ := hrel
    clear hb0
    by_cases hlt : k < L.length
    · have c0 := kcell HK.out HB0.out
      have c0' := kcell (Kept.alloc wr (.cells #[.int .i64 (k : Int)] 3) nob) c0
      have hbk : (wr.alloc (.cells #[.int .i64 (k : Int)] 3)).cell? ⟨wr.heap.size, 0, none⟩ = some (.int .i64 (k : Int)) := by rw [cell_blk (alloc_blk _ _)]; rfl
      have hk2 : Kept nob w (wr.alloc (.cells #[.int .i64 (k : Int)] 3)) := (HK0.out.trans HK.out (fun _ _ h => h)).trans (Kept.alloc _ _ _) (fun _ _ h => h)
      have hlen : (L.take k).length = k := by simp; omega
      have ht := test108 (wr.alloc (.cells #[.int .i64 (k : Int)] 3)) (q + 1) q wr.heap.size a c k L (HL.out.nob hk2) hlt hl HR.out (kcell (HK.out.trans (Kept.alloc _ _ _) (fun _ _ h => h)) HB1.out) c0' hbk
      have HC := contR_108 (wr.alloc (.cells #[.int .i64 (k : Int)] 3)) (q + 1) q wr.heap.size okR _ a c (L.take k) ((HL.out.nob hk2).take k) (fun r hr => HR.out r (List.mem_of_mem_take hr)) (by omega) ht
      rw [any_rule, hlen] at HC
      have HCC := Lib.hid HC
      obtain ⟨r, hr⟩ : ∃ r, L[k]? = some r := ⟨_, List.getElem?_eq_getElem hlt⟩
      have hgd : L.getD k (0, []) = r := by simp [List.getD, hr]
      have HRR := Lib.hid hr
      rw [hgd] at HCC
      obtain ⟨bb, hbb⟩ : ∃ b, decide (r ∈ L.take k) = b := ⟨_, rfl⟩
      rw [hbb] at HCC
      have HBB := Lib.hid hbb
      obtain ⟨b, o, _, _, _, rfl, _, _, _⟩ := rule_at HL.out hlt
      clear hbb hr hgd HC ht hk2 hlen
      cases bb
      · go_wp2_with fail
        refine HCC.out.mono ?_
        rintro e w2 ⟨rfl, hk⟩
        have HK2 := Lib.hid ((HK.out.trans (Kept.alloc _ _ _) (fun _ _ h => h)).trans hk (fun _ _ h => h))
        go_wp2
        go_roundw
        case rel => exact ⟨k + 1, by go_num, by omega, Lib.hid (by rw [take_snoc HRR.out, nodup_snoc]; exact ⟨hno.out, of_decide_eq_false HBB.out⟩), HK2⟩
        case measure => simp [intOf]; omega
      · have HE : Hid (decide L.Nodup = false) := Lib.hid (by
          rw [decide_eq_false_iff_not]
          intro h
          have := nodup_take (k := k + 1) h
          rw [take_snoc HRR.out, nodup_snoc] at this
          exact this.2 (of_decide_eq_true HBB.out))
        go_wp2_with fail
        refine HCC.out.mono ?_
        rintro e w2 ⟨rfl, hk⟩
        go_wp2
        go_ret
        exact ⟨ret_bool HE.out.symm, (HK0.out.trans (HK.out.trans (Kept.alloc _ _ _) (fun _ _ h => h)) (fun _ _ h => h)).trans hk (fun _ _ h => h)⟩
    · have HE : Hid (decide L.Nodup = true) := Lib.hid (by have := hno.out; rw [show k = L.length by omega, List.take_length] at this; simpa using this)
      go_wp2
      go_ret
      exact ⟨ret_bool HE.out.symm, HK0.out.trans HK.out (fun _ _ h => h)⟩
end Go.Proofs.Ythddfkemagpiaaa

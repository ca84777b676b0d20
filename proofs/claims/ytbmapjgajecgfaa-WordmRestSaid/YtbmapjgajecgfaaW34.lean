/-
  What is proved: what Feed does. Conditions: those of each theorem.
-/
import Derived.Test.YtbmapjgajecgfaaW33
set_option linter.unusedVariables false
set_option linter.unusedSimpArgs false
namespace Go.Proofs.Ytbmapjgajecgfaa
open Go.RowKit
def stNext (s : St) (c : UInt8) : Int × St :=
  match s.kd with
  | 0 => stText s c
  | 1 => stEscaped s c
  | 2 => stDollar s c
  | 3 => stOpened s c
  | 4 => stBare s c
  | 5 => stHead s c
  | 6 => stHash s c
  | 7 => stName s c
  | 8 => stName s c
  | 9 => stBehind s c
  | 10 => stColon s c
  | 11 => stDouble s c
  | 12 => stSingle s c
  | 13 => stArith s c
  | 14 => stArithEnd s c
  | 16 => (1, s)
  | _ => (3, s)
def stFeed (s : St) (c : UInt8) : Int × St := if (stNext s c).1 = 0 then (0, {(stNext s c).2 with pl := (stNext s c).2.pl ++ [c]}) else stNext s c
/-- What a machine fulfils that was fed not more than n bytes or so. -/
structure St.good (n : Nat) (s : St) : Prop where
  lim : s.lim n
  wf : s.wf
  cok : s.cok
  kd : s.kd ≤ 17
theorem feed_nil (c : Int) (w : World) : Calls Try.prog 12 #[.pointer none, .int .u8 c] w fun e w' => e = .returned (.int .i64 3) ∧ w = w' := by
  go_enter Try.func12, Try.ntmps12
  go_wp2
  go_ret
  exact ⟨rfl, rfl⟩
theorem app_pz {B : Nat} {w w2 : World} {b : Nat} {C : Nat → Prop} {S : Sn} {c : UInt8} {a : Option Addr} {cap g cap2 : Nat} {z : Int} (hz : (c.toNat : Int) = z) (h : Fam B w C (S.dat b)) (hf : AF B w b 4 S.plv S.pl c a cap)
    (own2 : w2.ownsRow B 5 1 (.slice (some ⟨g, 0, none⟩) (S.pl.length + 1) cap2) (S.pl.length + 1) (bv S.pl ++ [.int .u8 z])) (gr : (w.alloc (.cells #[.int .u8 z] 5)).grownBy w2 (Value.slice a S.pl.length cap).ownBlock) (ls : (Value.slice a S.pl.length cap).ownBlock = some g ∨ g = (w.alloc (.cells #[.int .u8 z] 5)).heap.size) (lt : g < w2.heap.size) :
    Stp B w C (S.dat b) (w2.setCell ⟨b, 4, none⟩ (.slice (some ⟨g, 0, none⟩) (S.pl.length + 1) cap2)) C (({S with pl := S.pl ++ [c], plv := .slice (some ⟨g, 0, none⟩) (S.pl.length + 1) cap2} : Sn).dat b) := by
  subst hz
  exact app_pl h hf own2 gr ls lt
set_option maxRecDepth 100000 in
set_option maxHeartbeats 8000000 in
theorem feed_any {c : UInt8} {B : Nat} {w : World} {b : Nat} {C : Nat → Prop} {S : Sn} (h : Fam B w C (S.dat b)) (hg : S.abs.good 70000) (hp : (stNext S.abs c).2.pl.length ≤ 90000) :
    Calls Try.prog 12 #[.pointer (some ⟨b, 0, none⟩), .int .u8 (c.toNat : Int)] w (Ret B w b C S (stFeed S.abs c)) := by
  obtain ⟨ti, hi, hz0, hz1, hz2⟩ := info_parts info_u8
  have hok := ok_of hg.lim (by omega)
  have hwf := wf_of hg.wf
  have hlim := hg.lim.mono (show 70000 ≤ 80000 by omega)
  have hd : 0 ≤ S.dp ∧ S.dp ≤ 90000 := by have := hg.lim.2.2.2.2.2; exact ⟨this.1, by have := this.2; have e : S.abs.dp = S.dp := rfl; omega⟩
  have hb := hd_at h
  have c1 : w.cell? ⟨b, 1, none⟩ = some (nextv b S.kd) := by rw [cell_blk hb]; rfl
  have H := Lib.hid h
  have hkd : S.kd ≤ 17 := hg.kd
  have hN : ∀ k, S.kd = k → (∀ r, stNext S.abs c = r → ∃ f av, nextv b k = .func (.func f) av #[] ∧ Calls Try.prog f (av.push (.int .u8 (c.toNat : Int))) w (Ret B w b C S r)) := by
    intro k hk r hr
    have e : ∀ q, (stNext S.abs c = q) → r = q := fun q hq => hr.symm.trans hq
    have hkd' : S.abs.kd = k := hk
    unfold stNext at e
    rw [hkd'] at e
    have key : k = 0 ∨ k = 1 ∨ k = 2 ∨ k = 3 ∨ k = 4 ∨ k = 5 ∨ k = 6 ∨ k = 7 ∨ k = 8 ∨ k = 9 ∨ k = 10 ∨ k = 11 ∨ k = 12 ∨ k = 13 ∨ k = 14 ∨ k = 15 ∨ k = 16 ∨ k = 17 := by omega
    rcases key with rfl | rfl | rfl | rfl | rfl | rfl | rfl | rfl | rfl | rfl | rfl | rfl | rfl | rfl | rfl | rfl | rfl | rfl
    · rw [e _ rfl]; exact ⟨34, _, rfl, text_any h hok hwf c⟩
    · rw [e _ rfl]; exact ⟨35, _, rfl, escaped_any h hok hwf c⟩
    · rw [e _ rfl]; exact ⟨36, _, rfl, dollar_any h hlim hg.wf c⟩
    · rw [e _ rfl]; exact ⟨37, _, rfl, opened_any h c⟩
    · rw [e _ rfl]; exact ⟨38, _, rfl, bare_any h hlim hg.wf c⟩
    · rw [e _ rfl]; exact ⟨39, _, rfl, head_any h c⟩
    · rw [e _ rfl]; exact ⟨40, _, rfl, hash_any h hok c⟩
    · rw [e _ rfl]; exact ⟨41, _, rfl, name_any h hlim c⟩
    · rw [e _ rfl]; exact ⟨41, _, rfl, name_any h hlim c⟩
    · rw [e _ rfl]; exact ⟨42, _, rfl, behind_any h hok c⟩
    · rw [e _ rfl]; exact ⟨43, _, rfl, colon_any h hok c⟩
    · rw [e _ rfl]; exact ⟨44, _, rfl, double_any h hlim hg.wf hg.cok c⟩
    · rw [e _ rfl]; exact ⟨45, _, rfl, single_any h hok c⟩
    · rw [e _ rfl]; exact ⟨46, _, rfl, arith_any h hok hd c⟩
    · rw [e _ rfl]; exact ⟨47, _, rfl, arithEnd_any h hok c⟩
    · rw [e _ rfl]; exact ⟨49, #[], rfl, (dead_any _ w).mono (fun e w' ⟨h1, h2⟩ => by subst h1; subst h2; exact ⟨C, S, rfl, Stp.refl h, rfl⟩)⟩
    · rw [e _ rfl]; exact ⟨48, #[], rfl, (over_any _ w).mono (fun e w' ⟨h1, h2⟩ => by subst h1; subst h2; exact ⟨C, S, rfl, Stp.refl h, rfl⟩)⟩
    · rw [e _ rfl]; exact ⟨49, #[], rfl, (dead_any _ w).mono (fun e w' ⟨h1, h2⟩ => by subst h1; subst h2; exact ⟨C, S, rfl, Stp.refl h, rfl⟩)⟩
  obtain ⟨r, hr⟩ : ∃ r, stNext S.abs c = r := ⟨_, rfl⟩
  have hE : stFeed S.abs c = if r.1 = 0 then (0, {r.2 with pl := r.2.pl ++ [c]}) else r := by unfold stFeed; rw [hr]
  rw [hr] at hp
  have HE := Lib.hid hE
  obtain ⟨z, hz⟩ : ∃ z : Int, (c.toNat : Int) = z := ⟨_, rfl⟩
  have HZ := Lib.hid hz
  have hN' := fun k hk => hN k hk r hr
  rw [hz] at hN' ⊢
  have HP := Lib.hid hp
  clear hg hok hwf hlim hd hb hN hr hE hz hp h
  have key : S.kd = 0 ∨ S.kd = 1 ∨ S.kd = 2 ∨ S.kd = 3 ∨ S.kd = 4 ∨ S.kd = 5 ∨ S.kd = 6 ∨ S.kd = 7 ∨ S.kd = 8 ∨ S.kd = 9 ∨ S.kd = 10 ∨ S.kd = 11 ∨ S.kd = 12 ∨ S.kd = 13 ∨ S.kd = 14 ∨ S.kd = 15 ∨ S.kd = 16 ∨ S.kd = 17 := by omega
  clear hkd
  rcases key with hk | hk | hk | hk | hk | hk | hk | hk | hk | hk | hk | hk | hk | hk | hk | hk | hk | hk
  all_goals
    obtain ⟨f, av, e1, e2⟩ := hN' _ hk
    clear hN'
    rw [hk] at c1
    simp only [nextv, Value.func.injEq, Fn.func.injEq, and_true] at e1 c1
    obtain ⟨rfl, rfl⟩ := e1
    simp only [List.push_toArray, List.cons_append, List.nil_append] at e2
    have HC := Lib.hid e2
    clear e2 hk
    go_enter Try.func12, Try.ntmps12
    go_wp2_with fail
    refine HC.out.mono ?_
    rintro e w1 hret
    obtain ⟨C1, S1, rfl, h1, ha⟩ := ret_get hret
    have H1 := Lib.hid h1
    have HA := Lib.hid ha
    clear h1 ha hret
    obtain ⟨sg, hsg⟩ : ∃ sg, r.1 = sg := ⟨_, rfl⟩
    rw [hsg]
    have HS := Lib.hid hsg
    clear hsg
    by_cases h0 : sg = 0
    · have s0 : (sg == 0) = true := by simpa using h0
      have HH0 := Lib.hid h0
      obtain ⟨a, cap, hf⟩ := af_pl H1.out.1 c
      have HF := Lib.hid hf
      have AZ1 := Lib.hid (hf.z HZ.out)
      have cw := AZ1.out.cw
      have T2 : Hid (S1.pl.length ≤ 90000) := Lib.hid (by have := HP.out; rw [← HA.out] at this; exact this)
      have T3 : Hid (S1.pl.length + 1 ≤ maxLen) := Lib.hid (by unfold maxLen; have := T2.out; omega)
      have T4 : Hid ((S1.pl.length + 1) * 1 ≤ 140737488355328) := Lib.hid (by have := T2.out; omega)
      clear hf h0
      go_wp2_with (at_builtin; refine wpList_append_lies _ rfl _ _ 51 rfl B 5 ti (.int .u8 0) 1 1 Try.underlying51 hi hz0 hz1 hz2 rfl (by decide) _ _ _ rfl AZ1.out.own ⟨w1.heap.size, 0, none⟩ 1 1 [.int .u8 z] rfl rfl AZ1.out.new (one_z z) (by omega) T3.out T4.out AZ1.out.hB _ rfl ?_)
      intro g1 cap1 w2 own2 gr2 ls2 lt2
      have S2 := Lib.hid (H1.out.trans (app_pz HZ.out H1.out.1 HF.out own2 gr2 (by simpa [World.setCell] using ls2) lt2))
      have n2 := (gr2.cell_far ⟨b, 4, none⟩ AZ1.out.lt AZ1.out.ne).trans AZ1.out.c0
      have q2 := (gr2.frozen_far ⟨b, 4, none⟩ AZ1.out.lt AZ1.out.ne).trans AZ1.out.f0
      clear own2 gr2 ls2 lt2
      go_wp2
      go_ret
      rw [HE.out, if_pos (HS.out.trans HH0.out)]
      refine ⟨C1, _, (by rw [HH0.out]; rfl), S2.out, ?_⟩
      rw [← HA.out]
      rfl
    · have s0 : (sg == 0) = false := by simpa using h0
      have HH0 := Lib.hid h0
      clear h0
      go_wp2
      go_ret
      rw [HE.out, if_neg (fun e => HH0.out (HS.out.symm.trans e))]
      exact ⟨C1, S1, (by rw [HS.out]; rfl), H1.out, HA.out⟩
end Go.Proofs.Ytbmapjgajecgfaa

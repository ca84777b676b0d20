/-
  What is proved: the law function WordmRest returns true. Condition: the bound of its argument.
-/
import Derived.Test.YtbmapjgajecgfaaW53
set_option linter.unusedVariables false
set_option linter.unusedSimpArgs false
namespace Go.Proofs.Ytbmapjgajecgfaa
open Go.RowKit
def TrueR (w0 : World) (e : Ending) (w' : World) : Prop := e = .returned (.bool true) ∧ Kept nob w0 w'
theorem awake_r {W w : World} (hk : Kept nob W w) : Calls Try.prog 8 #[] w (TrueR W) := by
  refine (awake_any w).mono ?_
  rintro e w' ⟨rfl, h⟩
  exact ⟨rfl, hk.trans h (fun _ _ h => h)⟩
theorem data_bs (s : ByteArray) (L : List UInt8) : (s ++ bs L).data.toList = s.data.toList ++ L := by
  simp [bs, ByteArray.data_append]
set_option maxRecDepth 100000 in
set_option maxHeartbeats 8000000 in
theorem rest_walk (w : World) (s : ByteArray) (hs : s.size ≤ 9223372036854775807) : Calls Try.prog 7 #[.string s] w (TrueR w) := by
  by_cases hbig : 600 < s.size
  · go_enter Try.func7, Try.ntmps7
    go_wp2_with fail
    refine (awake_r (Kept.refl nob w)).mono ?_
    rintro e w' ⟨rfl, hk⟩
    go_wp2
    go_ret
    exact ⟨rfl, hk⟩
  have hs6 : s.size ≤ 600 := by omega
  clear hbig hs
  have HF := Lib.hid (fed_any w w (Kept.refl _ _) s (by omega))
  have hinv := run_inv s.data.toList St.init 0 0 init_inv (by simp; omega)
  have hat := run_at s.data.toList St.init 0
  have hsm := run_sml s.data.toList St.init 0 0 ⟨by simp [St.init], by simp [St.init], fun e => by cases e⟩ (by show 0 ≤ 14; omega)
  obtain ⟨r, hr⟩ : ∃ r, run St.init s.data.toList 0 = r := ⟨_, rfl⟩
  rw [hr] at HF hinv hat hsm
  have HR := Lib.hid hr
  have HI := Lib.hid hinv.1
  have HAT : Hid (r.2.2 = 0 → r.2.1 = s.size) := Lib.hid (fun h => by have := hat h; rw [this]; simp)
  have HSM := Lib.hid hsm
  clear hr hinv hat hsm
  go_enter Try.func7, Try.ntmps7
  go_wp2_with fail
  refine HF.out.mono ?_
  rintro e w1 ⟨b, rfl, hm⟩
  have HM := Lib.hid hm
  clear hm
  obtain ⟨sg, hsg⟩ : ∃ x, r.2.2 = x := ⟨_, rfl⟩
  rw [hsg]
  have HSG := Lib.hid hsg
  clear hsg
  by_cases hs0 : sg = 0
  · have HSG0 : Hid (r.2.2 = 0) := Lib.hid (by rw [HSG.out, hs0])
    have s0 : (sg == 0) = true := by simpa using hs0
    have s1 : (sg != 0) = false := by simpa using hs0
    clear hs0
    have HRS := Lib.hid (mac_restK HM.out (HI.out.good.mono (by simp; omega)))
    obtain ⟨L, hL⟩ : ∃ L, stRest r.1 = L := ⟨_, rfl⟩
    have hLl : L.length ≤ 2404 := by
      have := rest_len (HSM.out HSG0.out).1
      rw [hL] at this
      simp at this
      omega
    obtain ⟨x, hx, hx16⟩ := rest_ends (s := r.1) HI.out.good.wf (HSM.out HSG0.out).2 HI.out.good.lim.2.2.2.2.2.1 (HSM.out HSG0.out).1.cu (s.size)
    rw [hL] at hx HRS
    have hadd : (Op.stringOp .add s (bs L)).run Try.prog = fun w' => .ok (.string (s ++ bs L)) w' := by
      funext w'
      exact run_string_add_sum w' _ _ (by show s.size + L.toArray.size ≤ _; simp; omega)
    obtain ⟨T, hT⟩ : ∃ T, s ++ bs L = T := ⟨_, rfl⟩
    have hTl : T.data.toList = s.data.toList ++ L := by rw [← hT]; exact data_bs s L
    have hTs : T.size = s.size + L.length := by rw [← hT, ByteArray.size_append]; show _ + L.toArray.size = _; simp
    rw [hT] at hadd
    obtain ⟨BL, hBL⟩ : ∃ BL, bs L = BL := ⟨_, rfl⟩
    rw [hBL] at hadd
    have hadd1 : ∀ w', (Op.stringOp .add s BL).run Try.prog w' = .ok (.string T) w' := fun w' => congrFun hadd w'
    have hadd2 : ∀ w', (Op.stringOp .add T ⟨#[32]⟩).run Try.prog w' = .ok (.string (T ++ ⟨#[32]⟩)) w' := fun w' => run_string_add_sum w' _ _ (by show T.size + 1 ≤ _; omega)
    obtain ⟨U, hU⟩ : ∃ U, T ++ ⟨#[32]⟩ = U := ⟨_, rfl⟩
    have hUl : U.data.toList = s.data.toList ++ (L ++ [32]) := by rw [← hU, show T ++ ⟨#[32]⟩ = T ++ bs [32] from rfl, data_bs, hTl, List.append_assoc]
    have hUs : U.size ≤ 6000 := by rw [← hU, show T ++ ⟨#[32]⟩ = T ++ bs [32] from rfl, ByteArray.size_append]; show T.size + 1 ≤ _; omega
    rw [hU] at hadd2
    have hrun : run St.init U.data.toList 0 = (x, T.size, 1) := by
      have h0 : (run St.init s.data.toList 0).2.2 = 0 := by rw [HR.out]; exact HSG0.out
      rw [hUl, run_app _ _ _ _ h0, HR.out]
      show run r.1 (L ++ [32]) (0 + s.data.toList.length) = _
      have : (0 + s.data.toList.length : Nat) = s.size := by simp
      rw [this, hx, hTs]
    have HFU := Lib.hid (fun (w' : World) => fed_any w' w' (Kept.refl _ _) U hUs)
    simp only [hrun] at HFU
    have HBL := Lib.hid hBL
    have HX16 := Lib.hid hx16
    have hTb : (T.size : Int) ≤ 9223372036854775807 := by omega
    have hTT : ((T.size : Int) == (T.size : Int)) = true := by simp
    clear hL hLl hx hadd hT hTl hTs hBL hU hUl hUs hrun hx16
    go_wp2_with fail
    refine HRS.out.mono ?_
    rintro e w2 ⟨he, hk2⟩
    rw [HBL.out] at he
    obtain rfl := he
    have HK2 := Lib.hid (HM.out.kept.trans hk2 (fun _ _ h => h))
    clear hk2
    go_wp2_with fail
    refine (HFU.out _).mono ?_
    rintro e w3 ⟨b2, rfl, hm3⟩
    have HM3 := Lib.hid hm3
    clear hm3
    go_wp2_with fail
    refine (mac_wordK HM3.out HX16.out).mono ?_
    rintro e w4 ⟨v, he, hk4, hwd⟩
    obtain rfl := he
    obtain ⟨va, vc, hv⟩ : ∃ a c, v = .slice a x.bot.ps.length c := by
      obtain ⟨C, h, _⟩ := hwd
      rcases h with ⟨a, cap, e1, e2⟩ | ⟨g, o, cap, us, e1, _⟩
      · exact ⟨a, cap, by rw [e1, e2]; rfl⟩
      · exact ⟨_, _, e1⟩
    subst hv
    have HK4 := Lib.hid ((HK2.out.trans HM3.out.kept (fun _ _ h => h)).trans hk4 (fun _ _ h => h))
    clear hk4 hwd
    go_wp2_with fail
    refine (awake_r (HK4.out.trans (Kept.alloc _ _ nob) (fun _ _ h => h))).mono ?_
    rintro e w' ⟨rfl, hk⟩
    go_wp2
    go_ret
    exact ⟨rfl, hk⟩
  · have s0 : (sg == 0) = false := by simpa using hs0
    have s1 : (sg != 0) = true := by simpa using hs0
    clear hs0
    go_wp2_with fail
    refine (awake_r HM.out.kept).mono ?_
    rintro e w' ⟨rfl, hk⟩
    go_wp2
    go_ret
    exact ⟨rfl, hk⟩
theorem wordmRest_walk (w : World) (s : ByteArray) (hs : s.size ≤ 9223372036854775807) : Calls Try.prog 7 #[.string s] w fun e w' => e = .returned (.bool true) ∧ Kept nob w w' := rest_walk w s hs
end Go.Proofs.Ytbmapjgajecgfaa

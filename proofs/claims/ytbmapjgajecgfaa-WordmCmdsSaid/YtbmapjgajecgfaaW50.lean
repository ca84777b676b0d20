/-
  What is proved: the law function WordmCmds returns true. Condition: the bounds of its arguments.
-/
import Derived.Test.YtbmapjgajecgfaaW49
import Derived.Deep.RegionWith
set_option linter.unusedVariables false
set_option linter.unusedSimpArgs false
namespace Go.Proofs.Ytbmapjgajecgfaa
open Go.RowKit
def TrueM (w0 : World) (e : Ending) (w' : World) : Prop := e = .returned (.bool true) ∧ Kept nob w0 w'
theorem awake_at {W w : World} (hk : Kept nob W w) : Calls Try.prog 8 #[] w (TrueM W) := by
  refine (awake_any w).mono ?_
  rintro e w' ⟨rfl, h⟩
  exact ⟨rfl, hk.trans h (fun _ _ h => h)⟩
/-- What is known of the first machine where the law's test has said yes. -/
structure C1 (s : ByteArray) (σ : St) (op : List UInt8) : Prop where
  run : run St.init (s.data.toList ++ [36, 40]) 0 = (σ, s.size + 2, 0)
  kd : σ.kd = 3
  rest : stRest σ = [40, 48, 41, 41] ++ op
  op : stRest (σ.turn 15) = op
  inv : σ.inv 5000
  cms : σ.cms = []
theorem data_app (s : ByteArray) (L : List UInt8) : (s ++ bs L).data.toList = s.data.toList ++ L := by
  simp [bs, ByteArray.data_append]
theorem ext4 (a b c d : UInt8) (L : List UInt8) : (bs ([a, b, c, d] ++ L)).extract 4 (bs ([a, b, c, d] ++ L)).size = bs L := by
  apply ByteArray.ext
  rw [ByteArray.data_extract]
  apply Array.ext'
  have hs : (bs ([a, b, c, d] ++ L)).size = L.length + 4 := by show ([a, b, c, d] ++ L).toArray.size = _; simp
  rw [hs]
  show (([a, b, c, d] ++ L).toArray.extract 4 (L.length + 4)).toList = L
  rw [Array.toList_extract]
  simp [List.extract]
theorem sim_bot {ub ud : Prop} {s t : St} (h : Sim ub ud s t) : s.bot.ps.length = t.bot.ps.length := by
  have e : ∀ (l : List Lvl) (d : Lvl), (l.headD d).shape = (l.map Lvl.shape).headD d.shape := fun l d => by cases l <;> rfl
  have : s.bot.shape = t.bot.shape := by
    unfold St.bot
    rw [e, e, h.lo, h.tp]
  exact congrArg (fun x => x.2.2.2.2) this
theorem Wd.len {w : World} {v : Value} {L : List Prt} (h : Wd w v L) : ∃ a c, v = .slice a L.length c := by
  obtain ⟨C, h, _⟩ := h
  rcases h with ⟨a, cap, e1, e2⟩ | ⟨g, o, cap, us, e1, _⟩
  · exact ⟨a, cap, by rw [e1, e2]; rfl⟩
  · exact ⟨_, _, e1⟩
theorem Cm.one {B : Nat} {w : World} {v : Value} {cm : Nat} (h : Cm B w v [cm]) : ∃ g c ca cc, v = .slice (some ⟨g, 0, none⟩) 1 c ∧ w.cell? ⟨g, 0, none⟩ = some (.slice ca cm cc) := by
  obtain ⟨xs, h1, _, h3⟩ := h
  obtain ⟨g, c, e, _, _⟩ := h1.form (by simp)
  rcases xs with _ | ⟨x, _ | ⟨y, xs⟩⟩
  · simp at h3
  · have hx : slen x = some cm := by simpa using h3
    rw [e] at h1
    have hc := own_cell h1 (j := 0) (by simp)
    cases x <;> simp [slen] at hx
    subst hx
    exact ⟨g, c, _, _, e, hc⟩
  · simp at h3
set_option maxRecDepth 100000 in
set_option maxHeartbeats 16000000 in
theorem cmds_walk (w : World) (s t : ByteArray) (hs : s.size ≤ 9223372036854775807) (ht : t.size ≤ 9223372036854775807) (n : Int) (hn : 0 ≤ n ∧ n ≤ 255) :
    Calls Try.prog 3 #[.string s, .string t, .int .u8 n] w (TrueM w) := by
  have hn0 := hn.1
  have hn1 := hn.2
  by_cases hbig : 300 < s.size ∨ 300 < t.size
  · have key : 300 < s.size ∨ (s.size ≤ 300 ∧ 300 < t.size) := by omega
    clear hbig hn
    rcases key with h1 | ⟨h1, h2⟩
    all_goals
      go_enter Try.func3, Try.ntmps3
      go_wp2_with fail
      refine (awake_at (Kept.refl nob w)).mono ?_
      rintro e w' ⟨rfl, hk⟩
      go_wp2
      go_ret
      exact ⟨rfl, hk⟩
  have hs3 : s.size ≤ 300 := by omega
  have ht3 : t.size ≤ 300 := by omega
  clear hbig hn hs ht
  have hadd : Hid (∀ w', (Op.stringOp .add s ⟨#[36, 40]⟩).run Try.prog w' = .ok (.string (s ++ ⟨#[36, 40]⟩)) w') := Lib.hid (fun w' => run_string_add_sum w' _ _ (by show s.size + 2 ≤ _; omega))
  obtain ⟨X, hX⟩ : ∃ X, s ++ ⟨#[36, 40]⟩ = X := ⟨_, rfl⟩
  have hXl : X.data.toList = s.data.toList ++ [36, 40] := by rw [← hX]; exact data_app s [36, 40]
  have hXs : X.size ≤ 6000 := by rw [← hX]; show (s ++ bs [36, 40]).size ≤ _; rw [ByteArray.size_append]; show s.size + 2 ≤ _; omega
  rw [hX] at hadd
  have hadd1 := hadd.out w
  have HF := Lib.hid (fed_any w w (Kept.refl _ _) X hXs)
  rw [hXl] at HF
  have hinv := run_inv (s.data.toList ++ [36, 40]) St.init 0 0 init_inv (by simp; omega)
  have hat := run_at (s.data.toList ++ [36, 40]) St.init 0
  obtain ⟨r, hr⟩ : ∃ r, run St.init (s.data.toList ++ [36, 40]) 0 = r := ⟨_, rfl⟩
  rw [hr] at HF hinv hat
  have HR := Lib.hid hr
  have HI := Lib.hid hinv
  have HAT : Hid (r.2.2 = 0 → r.2.1 = s.size + 2) := Lib.hid (fun h => by have := hat h; rw [this]; simp)
  clear hX hXl hXs hr hinv hat hadd
  go_enter Try.func3, Try.ntmps3
  go_wp2_with fail
  refine HF.out.mono ?_
  rintro e w1 ⟨b, rfl, hm⟩
  have HM := Lib.hid hm
  clear hm
  obtain ⟨sg, hsg⟩ : ∃ x, r.2.2 = x := ⟨_, rfl⟩
  obtain ⟨at0, hat0⟩ : ∃ x, r.2.1 = x := ⟨_, rfl⟩
  obtain ⟨σ, hσ⟩ : ∃ x, r.1 = x := ⟨_, rfl⟩
  rw [hsg, hat0]
  rw [hσ] at HM
  have HSG := Lib.hid hsg
  have HA0 := Lib.hid hat0
  have HSI := Lib.hid hσ
  have HIN : Hid (σ.inv 5000 ∧ σ.cms = []) := Lib.hid (by
    have := HI.out
    rw [hσ] at this
    exact ⟨this.1.mono (by simp; omega), this.2.trans init_cms⟩)
  clear hsg hat0 hσ
  by_cases hs0 : sg = 0
  · obtain rfl : at0 = s.size + 2 := by rw [← HA0.out]; exact HAT.out (by rw [HSG.out, hs0])
    have HSG0 : Hid (r.2.2 = 0) := Lib.hid (by rw [HSG.out, hs0])
    have s0 : (sg == 0) = true := by simpa using hs0
    have s1 : (sg != 0) = false := by simpa using hs0
    clear hs0
    go_wp2_with fail
    refine (mac_raw HM.out).mono ?_
    rintro e w' ⟨rfl, rfl⟩
    obtain ⟨rw0, hrw⟩ : ∃ x, stRaw σ = x := ⟨_, rfl⟩
    rw [hrw]
    clear hrw
    cases rw0 with
    | true =>
      go_wp2_with fail
      refine (awake_at HM.out.kept).mono ?_
      rintro e w' ⟨rfl, hk⟩
      go_wp2
      go_ret
      exact ⟨rfl, hk⟩
    | false =>
      have a1 : IntKind.i64.wrap ((s.size : Int) + 2) = (s.size : Int) + 2 := IntWalk.i64_in _ (by omega)
      go_wp2_with fail
      refine (mac_restK HM.out (HIN.out.1.good.mono (by omega))).mono ?_
      rintro e w2 ⟨rfl, hk2⟩
      have HM2 := Lib.hid (HM.out.frame hk2)
      clear hk2
      obtain ⟨rs, hrs⟩ : ∃ x, stRest σ = x := ⟨_, rfl⟩
      rw [hrs]
      have HRS := Lib.hid hrs
      clear hrs
      rcases rs with _ | ⟨c, rs⟩
      · rw [show bs [] = ⟨#[]⟩ from rfl]
        go_wp2_with fail
        refine (awake_at HM2.out.kept).mono ?_
        rintro e w' ⟨rfl, hk⟩
        go_wp2
        go_ret
        exact ⟨rfl, hk⟩
      · obtain ⟨Y, hY⟩ : ∃ Y, bs (c :: rs) = Y := ⟨_, rfl⟩
        have hYl : Y.toList = c :: rs := by rw [ByteArray.toList_eq, ← hY]; rfl
        have hne : ¬ Y.toList = [] := by rw [hYl]; simp
        have hem : Y.toList.isEmpty = false := by rw [hYl]; rfl
        have hsz : 0 < Y.size := by rw [← hY]; show 0 < (c :: rs).toArray.size; simp
        rw [hY]
        have HY := Lib.hid hY
        clear hY hYl
        have HRR := Lib.hid (mac_restK HM2.out (HIN.out.1.good.mono (by omega)))
        rw [HRS.out] at HRR
        go_wp2_with fail
        refine HRR.out.mono ?_
        rintro e w3 ⟨he, hk3⟩
        rw [HY.out] at he
        obtain rfl := he
        have HM3 := Lib.hid (HM2.out.frame hk3)
        clear hk3
        have hy0 : Y[0] = c := by
          have := HY.out
          subst this
          rfl
        by_cases hc40 : c = 40
        · have q1 : (((Y[0]'hsz).toNat : Int) == 40) = true := by rw [hy0, hc40]; rfl
          have q2 : (((Y[0]'hsz).toNat : Int) != 40) = false := by rw [hy0, hc40]; rfl
          have hkd : σ.kd = 3 := rest_paren HIN.out.1.good.kd (HRS.out.trans (by rw [hc40]))
          have hr3 := rest_3 hkd
          have HC1 : Hid (C1 s σ (stRest (σ.turn 15))) := Lib.hid ⟨by rw [HR.out]; exact Prod.ext HSI.out (Prod.ext HA0.out HSG0.out), hkd, hr3, rfl, HIN.out.1, HIN.out.2⟩
          have HRS2 : Hid (bs ([40, 48, 41, 41] ++ stRest (σ.turn 15)) = Y) := Lib.hid (by rw [← HY.out, ← HRS.out, hr3])
          clear hy0 hc40 hkd hr3
          obtain ⟨op, hop⟩ : ∃ op, stRest (σ.turn 15) = op := ⟨_, rfl⟩
          rw [hop] at HC1 HRS2
          have h4s : 4 ≤ Y.size := by rw [← HRS2.out]; show 4 ≤ ([40, 48, 41, 41] ++ op).toArray.size; simp
          obtain ⟨OP, hOP⟩ : ∃ OP, bs op = OP := ⟨_, rfl⟩
          have hext : Y.extract 4 Y.size = OP := by rw [← hOP, ← HRS2.out]; exact ext4 _ _ _ _ _
          have HOP := Lib.hid hOP
          have HSG : Hid (σ.good 70000) := Lib.hid (HIN.out.1.good.mono (by omega))
          have hR3 := Lib.hid (mac_restK HM3.out HSG.out)
          clear hop hOP
          go_wp2_with fail
          refine hR3.out.mono ?_
          rintro e w4 ⟨he, hk4⟩
          rw [HRS.out, HY.out] at he
          obtain rfl := he
          have HM4 := Lib.hid (HM3.out.frame hk4)
          clear hk4
          have hF5 := Lib.hid (mac_feed HM4.out HSG.out 97)
          rw [cmd_1 HC1.out.kd] at hF5
          go_wp2_with fail
          refine hF5.out.mono ?_
          rintro e w5 ⟨rfl, hm5⟩
          have HM5 := Lib.hid hm5
          clear hm5
          have HSG5 : Hid ((σ.turn 15).good 70000) := Lib.hid (good_turn HSG.out 15 (by omega))
          have hF6 := Lib.hid (mac_feed HM5.out HSG5.out 97)
          rw [cmd_2] at hF6
          go_wp2_with fail
          refine hF6.out.mono ?_
          rintro e w6 ⟨rfl, hm6⟩
          have HM6 := Lib.hid hm6
          clear hm6
          have hR6 := Lib.hid (mac_restK HM6.out HSG5.out)
          go_wp2_with fail
          refine hR6.out.mono ?_
          rintro e w7 ⟨he, hk7⟩
          rw [show stRest ((3, σ.turn 15) : Int × St).2 = op from HC1.out.op, HOP.out] at he
          obtain rfl := he
          have HM7 := Lib.hid (HM6.out.frame hk7)
          clear hk7
          obtain ⟨cm, hcm, hcl⟩ : ∃ cm : Nat, n % 5 = (cm : Int) ∧ cm ≤ 4 := ⟨(n % 5).toNat, by omega, by omega⟩
          obtain ⟨O, hmk⟩ := mk_nodes cm hcl
          have hw8 := Lib.hid (HM7.out.frame (Kept.alloc w7 O nob))
          have hC8 := Lib.hid (mac_close hw8.out HSG5.out (some ⟨w7.heap.size, 0, none⟩) cm cm)
          rw [cmd_3] at hC8
          have HIB := Lib.hid (behCmd_inv HIN.out.1 cm)
          have HCB := Lib.hid ((behCmd_cms σ cm).trans (by rw [HIN.out.2, List.nil_append]))
          go_wp2_with fail
          refine hC8.out.mono ?_
          rintro e w9 ⟨rfl, hm9⟩
          have HM9 := Lib.hid hm9
          clear hm9
          have hC9 := Lib.hid (mac_close HM9.out (HIB.out.good.mono (by omega)) none 0 0)
          rw [cmd_4] at hC9
          go_wp2_with fail
          refine hC9.out.mono ?_
          rintro e w10 ⟨rfl, hm10⟩
          have HM10 := Lib.hid hm10
          clear hm10
          have hadd2 : (Op.stringOp .add s ⟨#[36, 40, 40, 48, 41, 41]⟩).run Try.prog w10 = .ok (.string (s ++ ⟨#[36, 40, 40, 48, 41, 41]⟩)) w10 := run_string_add_sum w10 _ _ (by show s.size + 6 ≤ _; omega)
          obtain ⟨Z, hZ⟩ : ∃ Z, s ++ ⟨#[36, 40, 40, 48, 41, 41]⟩ = Z := ⟨_, rfl⟩
          have hZl : Z.data.toList = s.data.toList ++ [36, 40, 40, 48, 41, 41] := by rw [← hZ]; exact data_app s [36, 40, 40, 48, 41, 41]
          have hZs : Z.size ≤ 6000 := by rw [← hZ]; show (s ++ bs [36, 40, 40, 48, 41, 41]).size ≤ _; rw [ByteArray.size_append]; show s.size + 6 ≤ _; omega
          rw [hZ] at hadd2
          obtain ⟨ξ, hξ, hsim⟩ := ari_run HC1.out.kd (s.size + 2)
          have hrun : run St.init Z.data.toList 0 = (ξ, s.size + 2 + 4, 0) := by
            rw [hZl, show s.data.toList ++ [36, 40, 40, 48, 41, 41] = (s.data.toList ++ [36, 40]) ++ [40, 48, 41, 41] by simp, run_app _ _ _ _ (by rw [HC1.out.run]), HC1.out.run]
            show run σ _ (0 + (s.data.toList ++ [36, 40]).length) = _
            rw [← hξ]
            congr 1
            simp
          have hinx : ξ.inv 6000 := by
            have := (run_inv (s.data.toList ++ [36, 40, 40, 48, 41, 41]) St.init 0 0 init_inv (by simp; omega)).1
            rw [← hZl, hrun] at this
            exact this.mono (by rw [hZl]; simp; omega)
          have HFX := Lib.hid (fed_any w10 w10 (Kept.refl _ _) Z hZs)
          rw [hrun] at HFX
          have HINX := Lib.hid hinx
          have HSIM := Lib.hid (hsim cm)
          clear hZ hZl hZs hξ hsim hrun hinx
          go_wp2_with fail
          refine HFX.out.mono ?_
          rintro e w11 ⟨b2, rfl, hm11⟩
          have HT := Lib.hid (Two.mk' HM10.out hm11)
          clear hm11
          have hxx : True := trivial
          clear a1 q1 q2 hne hem h4s hext hmk hadd2 hadd1 s0 s1
          go_wp2
          go_loopw [14] (fun i wr => ∃ (k : Nat) (μ ξ : St), k ≤ t.size ∧ i = .int .i64 k ∧ Hid (Two w wr b μ b2 ξ ∧ SimK μ ξ ∧ μ.inv (6000 + 11 * k) ∧ ξ.inv (6000 + 11 * k) ∧ μ.cms = [cm])) (fun i _ => t.size - (intOf i).toNat)
          case atStart => exact ⟨0, _, _, Nat.zero_le _, rfl, Lib.hid ⟨HT.out, HSIM.out, HIB.out.mono (by omega), HINX.out, HCB.out⟩⟩
          case round =>
            obtain ⟨k, μ, ξ', hkt, rfl, HR2⟩ := hrel
            by_cases hlt : k < t.size
            · obtain ⟨c, hc⟩ : ∃ c, t[k] = c := ⟨_, rfl⟩
              have HC := Lib.hid hc
              have hfs := feed_sim HR2.out.2.1 c
              have HI1 := Lib.hid (feed_inv HR2.out.2.2.1 (by omega) c)
              have HI2 := Lib.hid (feed_inv HR2.out.2.2.2.1 (by omega) c)
              have HCM := Lib.hid ((feed_cms HR2.out.2.2.1.good.wf c).trans HR2.out.2.2.2.2)
              have HF1 := Lib.hid (two_feed (HR2.out.1.frame (Kept.drew wr nob)) (HR2.out.2.2.1.good.mono (by omega)) c)
              have HF2 : Hid (∀ w' μ', Two w w' b μ' b2 ξ' → Calls Try.prog 12 #[.pointer (some ⟨b2, 0, none⟩), .int .u8 (c.toNat : Int)] w' (FeedT2 w b μ' b2 (stFeed ξ' c))) := Lib.hid (fun w' μ' h => two_feed2 h (HR2.out.2.2.2.1.good.mono (by omega)) c)
              obtain ⟨r1, hr1⟩ : ∃ r, stFeed μ c = r := ⟨_, rfl⟩
              obtain ⟨r2, hr2⟩ : ∃ r, stFeed ξ' c = r := ⟨_, rfl⟩
              rw [hr1, hr2] at hfs
              rw [hr1] at HI1 HF1 HCM
              rw [hr2] at HI2 HF2
              obtain ⟨sg1, hsg1⟩ : ∃ x, r1.1 = x := ⟨_, rfl⟩
              have hsg2 : r2.1 = sg1 := by rw [← hfs.1, hsg1]
              have HS1 := Lib.hid hsg1
              have HS2 := Lib.hid hsg2
              have HSK := Lib.hid hfs.2
              clear hc hfs hr1 hr2 hsg1 hsg2
              have hki : (k : Int) < (t.size : Int) := by omega
              go_wp2_with fail
              go_cut [15, 16] from 99 to 148 (fun a q wc => a = .int .i64 sg1 ∧ q = .int .i64 sg1 ∧ Hid (Two w wc b r1.2 b2 r2.2))
              case first =>
                go_region_with (first | (go_at_call 12; (try rw [HC.out]); (with_reducible refine HF1.out.mono ?_); rintro e w12 ⟨he, h12⟩; rw [HS1.out] at he; obtain rfl := he; have HT1 := Lib.hid h12; clear h12) | (go_at_call 12; (try rw [HC.out]); (with_reducible refine (HF2.out _ _ HT1.out).mono ?_); rintro e w13 ⟨he, h13⟩; rw [HS2.out] at he; obtain rfl := he; have HT2 := Lib.hid h13; clear h13))
                all_goals
                  go_wp2_with fail
                  go_meet
                  exact ⟨rfl, rfl, HT2⟩
              case rest =>
                obtain ⟨rfl, rfl, HT3⟩ := hcut
                by_cases h2 : sg1 = 2
                · have s2 : (sg1 == 2) = true := by simpa using h2
                  have ss : (sg1 == sg1) = true := by simp
                  clear h2
                  go_wp2_with fail
                  refine (awake_at HT3.out.kept).mono ?_
                  rintro e w' ⟨rfl, hk⟩
                  go_wp2
                  go_ret
                  exact ⟨rfl, hk⟩
                have s2 : (sg1 == 2) = false := by simpa using h2
                have ss : (sg1 != sg1) = false := by simp
                have HR1 := Lib.hid (mac_restK HT3.out.fst (HI1.out.good.mono (by omega)))
                have HR2' : Hid (∀ w', Kept nob wc w' → Calls Try.prog 11 #[.pointer (some ⟨b2, 0, none⟩)] w' (GotS w' (stRest r1.2))) := Lib.hid (fun w' h => by
                  have := mac_restK (HT3.out.frame h).snd (HI2.out.good.mono (by omega))
                  rw [← rest_sim HSK.out] at this
                  exact this)
                obtain ⟨RS, hRS⟩ : ∃ RS, bs (stRest r1.2) = RS := ⟨_, rfl⟩
                have HRS9 := Lib.hid hRS
                clear h2 hRS
                go_wp2_with fail
                refine HR1.out.mono ?_
                rintro e w14 ⟨he, hk14⟩
                rw [HRS9.out] at he
                obtain rfl := he
                have HK14 := Lib.hid hk14
                clear hk14
                go_wp2_with fail
                refine (HR2'.out _ HK14.out).mono ?_
                rintro e w15 ⟨he, hk15⟩
                rw [HRS9.out] at he
                obtain rfl := he
                have HT15 := Lib.hid (HT3.out.frame (HK14.out.trans hk15 (fun _ _ h => h)))
                clear hk15
                have HRW2 := Lib.hid (mac_raw HT15.out.snd)
                rw [← raw_sim HSK.out] at HRW2
                obtain ⟨rwv, hrwv⟩ : ∃ x, stRaw r1.2 = x := ⟨_, rfl⟩
                have HRW1 := Lib.hid (mac_raw HT15.out.fst)
                rw [hrwv] at HRW1 HRW2
                clear hrwv
                have rr : (rwv != rwv) = false := by simp
                go_wp2_with fail
                refine HRW1.out.mono ?_
                rintro e w' ⟨rfl, rfl⟩
                go_wp2_with fail
                refine HRW2.out.mono ?_
                rintro e w' ⟨rfl, rfl⟩
                have HD1 := Lib.hid (mac_deep HT15.out.fst)
                have HD2 := Lib.hid (mac_deep HT15.out.snd)
                rw [← HSK.out.2.len] at HD2
                obtain ⟨dl, hdl⟩ : ∃ x : Int, (r1.2.lo.length : Int) = x := ⟨_, rfl⟩
                rw [hdl] at HD1 HD2
                clear hdl
                have dd : (dl != dl) = false := by simp
                go_wp2_with fail
                refine HD1.out.mono ?_
                rintro e w' ⟨rfl, rfl⟩
                go_wp2_with fail
                refine HD2.out.mono ?_
                rintro e w' ⟨rfl, rfl⟩
                by_cases h0 : sg1 = 0
                · have s0 : (sg1 == 0) = true := by simpa using h0
                  have s0n : (sg1 != 0) = false := by simpa using h0
                  clear h0
                  go_wp2
                  go_roundw
                  case rel => exact ⟨k + 1, r1.2, r2.2, by omega, by go_num, Lib.hid ⟨HT15.out, HSK.out, HI1.out.mono (by omega), HI2.out.mono (by omega), HCM.out⟩⟩
                  case measure => simp [intOf]; omega
                · have s0 : (sg1 == 0) = false := by simpa using h0
                  have s0n : (sg1 != 0) = true := by simpa using h0
                  clear h0
                  have HTF := HT15
                  have HSKF := HSK
                  have HIF : Hid (r1.2.inv 20000) := Lib.hid (HI1.out.mono (by omega))
                  have HCF := HCM
                  have HLEN : Hid (r1.2.bot.ps.length = r2.2.bot.ps.length) := Lib.hid (sim_bot HSKF.out.2)
                  by_cases h16 : r1.2.kd = 16
                  · have h16x : r2.2.kd = 16 := by rw [← HSKF.out.1]; exact h16
                    have HW1 := Lib.hid (mac_wordK HTF.out.fst h16)
                    have HW2 : Hid (∀ w', Kept nob w15 w' → Calls Try.prog 15 #[.pointer (some ⟨b2, 0, none⟩)] w' (WordK w' r2.2.bot.ps)) := Lib.hid (fun w' h => mac_wordK (HTF.out.frame h).snd h16x)
                    have HCMD : Hid (cmdsOf r1.2.bot.ps = [cm]) := Lib.hid ((fin_cms HIF.out.fin h16).trans HCF.out)
                    have HSH := Lib.hid (bot_short HIF.out.sh (HIF.out.good.mono (by omega)))
                    clear h16 h16x
                    go_wp2_with fail
                    refine HW1.out.mono ?_
                    rintro e w20 ⟨v1, he, hk20, hwd1⟩
                    obtain rfl := he
                    have HK20 := Lib.hid hk20
                    obtain ⟨va1, vc1, hv1⟩ := hwd1.len
                    obtain ⟨nl, hnl⟩ : ∃ nl, r1.2.bot.ps.length = nl := ⟨_, rfl⟩
                    rw [hnl] at hv1 HLEN
                    subst hv1
                    have HWD1 := Lib.hid hwd1
                    clear hk20 hwd1 hnl
                    go_wp2_with fail
                    refine (HW2.out _ (HK20.out.trans (Kept.alloc _ _ nob) (fun _ _ h => h))).mono ?_
                    rintro e w21 ⟨v2, he, hk21, hwd2⟩
                    obtain rfl := he
                    have HK21 := Lib.hid ((Kept.alloc w20 (.cells #[.slice va1 nl vc1] 33) nob).trans hk21 (fun _ _ h => h))
                    obtain ⟨va2, vc2, hv2⟩ := hwd2.len
                    rw [← HLEN.out] at hv2
                    have HB20 := Lib.hid (hk21.get (alloc_blk w20 (.cells #[.slice va1 nl vc1] 33)) (fun h => h))
                    have hz20 := lt_blk HB20.out
                    subst hv2
                    have q0 := cell_blk HB20.out 0
                    have q1 : ∀ o, (w21.alloc o).cell? ⟨w20.heap.size, 0, none⟩ = some (.slice va1 nl vc1) := fun o => by rw [World.cell?_alloc_past _ _ _ hz20, q0]; rfl
                    have HWD3 : Hid (∀ w', Kept nob w21 w' → Wd w' (.slice va1 nl vc1) r1.2.bot.ps) := Lib.hid (fun w' h => (HWD1.out.kept HK21.out).kept h)
                    clear hk21 hwd2 q0
                    have HCD : Hid (∀ w', Kept nob w21 w' → Calls Try.prog 16 #[.slice va1 nl vc1] w' (CmdsM w' r1.2.bot.ps)) := Lib.hid (fun w' h => by
                      obtain ⟨C, h1, h2⟩ := HWD3.out w' h
                      exact cmds_any _ _ (Nat.lt_succ_self _) w' C _ h1 h2 (by rw [HCMD.out]; simp) HSH.out)
                    go_wp2_with fail
                    refine (HCD.out _ (Kept.alloc _ _ nob)).mono ?_
                    rintro e w22 ⟨v22, he, hk22, hcm22⟩
                    obtain rfl := he
                    rw [HCMD.out] at hcm22
                    obtain ⟨ca2, cc2, hv22⟩ := hcm22.shape
                    subst hv22
                    have HK22 := Lib.hid ((Kept.alloc w21 (.cells #[.slice va2 nl vc2] 33) nob).trans hk22 (fun _ _ h => h))
                    have q2 : w22.cell? ⟨w20.heap.size, 0, none⟩ = some (.slice va1 nl vc1) := by rw [World.cell?_of_block (hk22.block _ (by simp; omega) (fun h => h))]; exact q1 _
                    clear hk22 hcm22 q1
                    go_wp2_with fail
                    refine (HCD.out _ HK22.out).mono ?_
                    rintro e w23 ⟨v23, he, hk23, hcm23⟩
                    obtain rfl := he
                    rw [HCMD.out] at hcm23
                    obtain ⟨g23, c23, ca23, cc23, hv23, hq23⟩ := hcm23.one
                    subst hv23
                    have HK23 := Lib.hid (HK22.out.trans hk23 (fun _ _ h => h))
                    clear hk23 hcm23 q2
                    go_wp2_with fail
                    refine (awake_at (((((HTF.out.kept.trans HK20.out (fun _ _ h => h)).trans HK21.out (fun _ _ h => h)).trans HK23.out (fun _ _ h => h))))).mono ?_
                    rintro e w' ⟨rfl, hk⟩
                    go_wp2
                    go_ret
                    exact ⟨rfl, hk⟩
                  · have h16x : r2.2.kd ≠ 16 := by rw [← HSKF.out.1]; exact h16
                    have HW1 := Lib.hid (mac_wordN HTF.out.fst h16)
                    have HW2 : Hid (∀ w', Kept nob w15 w' → Calls Try.prog 15 #[.pointer (some ⟨b2, 0, none⟩)] w' (WordNo w')) := Lib.hid (fun w' h => mac_wordN (HTF.out.frame h).snd h16x)
                    clear h16 h16x
                    go_wp2_with fail
                    refine HW1.out.mono ?_
                    rintro e w20 ⟨he, hk20⟩
                    obtain rfl := he
                    have HK20 := Lib.hid hk20
                    clear hk20
                    go_wp2_with fail
                    refine (HW2.out _ (HK20.out.trans (Kept.alloc _ _ nob) (fun _ _ h => h))).mono ?_
                    rintro e w21 ⟨he, hk21⟩
                    obtain rfl := he
                    have HB20 := Lib.hid (hk21.get (alloc_blk w20 (.cells #[.slice none 0 0] 33)) (fun h => h))
                    have hz20 := lt_blk HB20.out
                    have q0 := cell_blk HB20.out 0
                    have q1 : ∀ o, (w21.alloc o).cell? ⟨w20.heap.size, 0, none⟩ = some (.slice none 0 0) := fun o => by rw [World.cell?_alloc_past _ _ _ hz20, q0]; rfl
                    have HK21 := Lib.hid ((Kept.alloc w20 (.cells #[.slice none 0 0] 33) nob).trans hk21 (fun _ _ h => h))
                    clear hk21 q0
                    go_wp2_with fail
                    refine (awake_at (((HTF.out.kept.trans HK20.out (fun _ _ h => h)).trans HK21.out (fun _ _ h => h)).trans (Kept.alloc _ _ nob) (fun _ _ h => h))).mono ?_
                    rintro e w' ⟨rfl, hk⟩
                    go_wp2
                    go_ret
                    exact ⟨rfl, hk⟩
            · have HTF := Lib.hid HR2.out.1
              have HSKF := Lib.hid HR2.out.2.1
              have HIF : Hid (μ.inv 20000) := Lib.hid (HR2.out.2.2.1.mono (by omega))
              have HCF := Lib.hid HR2.out.2.2.2.2
              have hge : ¬ ((k : Int) < (t.size : Int)) := by omega
              have HLEN : Hid (μ.bot.ps.length = ξ'.bot.ps.length) := Lib.hid (sim_bot HSKF.out.2)
              by_cases h16 : μ.kd = 16
              · have h16x : ξ'.kd = 16 := by rw [← HSKF.out.1]; exact h16
                have HW1 := Lib.hid (mac_wordK HTF.out.fst h16)
                have HW2 : Hid (∀ w', Kept nob wr w' → Calls Try.prog 15 #[.pointer (some ⟨b2, 0, none⟩)] w' (WordK w' ξ'.bot.ps)) := Lib.hid (fun w' h => mac_wordK (HTF.out.frame h).snd h16x)
                have HCMD : Hid (cmdsOf μ.bot.ps = [cm]) := Lib.hid ((fin_cms HIF.out.fin h16).trans HCF.out)
                have HSH := Lib.hid (bot_short HIF.out.sh (HIF.out.good.mono (by omega)))
                clear h16 h16x
                go_wp2_with fail
                refine HW1.out.mono ?_
                rintro e w20 ⟨v1, he, hk20, hwd1⟩
                obtain rfl := he
                have HK20 := Lib.hid hk20
                obtain ⟨va1, vc1, hv1⟩ := hwd1.len
                obtain ⟨nl, hnl⟩ : ∃ nl, μ.bot.ps.length = nl := ⟨_, rfl⟩
                rw [hnl] at hv1 HLEN
                subst hv1
                have HWD1 := Lib.hid hwd1
                clear hk20 hwd1 hnl
                go_wp2_with fail
                refine (HW2.out _ (HK20.out.trans (Kept.alloc _ _ nob) (fun _ _ h => h))).mono ?_
                rintro e w21 ⟨v2, he, hk21, hwd2⟩
                obtain rfl := he
                have HK21 := Lib.hid ((Kept.alloc w20 (.cells #[.slice va1 nl vc1] 33) nob).trans hk21 (fun _ _ h => h))
                obtain ⟨va2, vc2, hv2⟩ := hwd2.len
                rw [← HLEN.out] at hv2
                have HB20 := Lib.hid (hk21.get (alloc_blk w20 (.cells #[.slice va1 nl vc1] 33)) (fun h => h))
                have hz20 := lt_blk HB20.out
                subst hv2
                have q0 := cell_blk HB20.out 0
                have q1 : ∀ o, (w21.alloc o).cell? ⟨w20.heap.size, 0, none⟩ = some (.slice va1 nl vc1) := fun o => by rw [World.cell?_alloc_past _ _ _ hz20, q0]; rfl
                have HWD3 : Hid (∀ w', Kept nob w21 w' → Wd w' (.slice va1 nl vc1) μ.bot.ps) := Lib.hid (fun w' h => (HWD1.out.kept HK21.out).kept h)
                clear hk21 hwd2 q0
                have HCD : Hid (∀ w', Kept nob w21 w' → Calls Try.prog 16 #[.slice va1 nl vc1] w' (CmdsM w' μ.bot.ps)) := Lib.hid (fun w' h => by
                  obtain ⟨C, h1, h2⟩ := HWD3.out w' h
                  exact cmds_any _ _ (Nat.lt_succ_self _) w' C _ h1 h2 (by rw [HCMD.out]; simp) HSH.out)
                go_wp2_with fail
                refine (HCD.out _ (Kept.alloc _ _ nob)).mono ?_
                rintro e w22 ⟨v22, he, hk22, hcm22⟩
                obtain rfl := he
                rw [HCMD.out] at hcm22
                obtain ⟨ca2, cc2, hv22⟩ := hcm22.shape
                subst hv22
                have HK22 := Lib.hid ((Kept.alloc w21 (.cells #[.slice va2 nl vc2] 33) nob).trans hk22 (fun _ _ h => h))
                have q2 : w22.cell? ⟨w20.heap.size, 0, none⟩ = some (.slice va1 nl vc1) := by rw [World.cell?_of_block (hk22.block _ (by simp; omega) (fun h => h))]; exact q1 _
                clear hk22 hcm22 q1
                go_wp2_with fail
                refine (HCD.out _ HK22.out).mono ?_
                rintro e w23 ⟨v23, he, hk23, hcm23⟩
                obtain rfl := he
                rw [HCMD.out] at hcm23
                obtain ⟨g23, c23, ca23, cc23, hv23, hq23⟩ := hcm23.one
                subst hv23
                have HK23 := Lib.hid (HK22.out.trans hk23 (fun _ _ h => h))
                clear hk23 hcm23 q2
                go_wp2_with fail
                refine (awake_at (((((HTF.out.kept.trans HK20.out (fun _ _ h => h)).trans HK21.out (fun _ _ h => h)).trans HK23.out (fun _ _ h => h))))).mono ?_
                rintro e w' ⟨rfl, hk⟩
                go_wp2
                go_ret
                exact ⟨rfl, hk⟩
              · have h16x : ξ'.kd ≠ 16 := by rw [← HSKF.out.1]; exact h16
                have HW1 := Lib.hid (mac_wordN HTF.out.fst h16)
                have HW2 : Hid (∀ w', Kept nob wr w' → Calls Try.prog 15 #[.pointer (some ⟨b2, 0, none⟩)] w' (WordNo w')) := Lib.hid (fun w' h => mac_wordN (HTF.out.frame h).snd h16x)
                clear h16 h16x
                go_wp2_with fail
                refine HW1.out.mono ?_
                rintro e w20 ⟨he, hk20⟩
                obtain rfl := he
                have HK20 := Lib.hid hk20
                clear hk20
                go_wp2_with fail
                refine (HW2.out _ (HK20.out.trans (Kept.alloc _ _ nob) (fun _ _ h => h))).mono ?_
                rintro e w21 ⟨he, hk21⟩
                obtain rfl := he
                have HB20 := Lib.hid (hk21.get (alloc_blk w20 (.cells #[.slice none 0 0] 33)) (fun h => h))
                have hz20 := lt_blk HB20.out
                have q0 := cell_blk HB20.out 0
                have q1 : ∀ o, (w21.alloc o).cell? ⟨w20.heap.size, 0, none⟩ = some (.slice none 0 0) := fun o => by rw [World.cell?_alloc_past _ _ _ hz20, q0]; rfl
                have HK21 := Lib.hid ((Kept.alloc w20 (.cells #[.slice none 0 0] 33) nob).trans hk21 (fun _ _ h => h))
                clear hk21 q0
                go_wp2_with fail
                refine (awake_at (((HTF.out.kept.trans HK20.out (fun _ _ h => h)).trans HK21.out (fun _ _ h => h)).trans (Kept.alloc _ _ nob) (fun _ _ h => h))).mono ?_
                rintro e w' ⟨rfl, hk⟩
                go_wp2
                go_ret
                exact ⟨rfl, hk⟩
        · have q1 : (((Y[0]'hsz).toNat : Int) == 40) = false := by rw [hy0]; exact u8_ne (k := 40) (by omega) hc40
          have q2 : (((Y[0]'hsz).toNat : Int) != 40) = true := by simp only [bne, q1]; rfl
          clear hy0 hc40
          go_wp2_with fail
          refine (awake_at HM3.out.kept).mono ?_
          rintro e w' ⟨rfl, hk⟩
          go_wp2
          go_ret
          exact ⟨rfl, hk⟩
  · have s0 : (sg == 0) = false := by simpa using hs0
    have s1 : (sg != 0) = true := by simpa using hs0
    clear hs0
    go_wp2_with fail
    refine (awake_at HM.out.kept).mono ?_
    rintro e w' ⟨rfl, hk⟩
    go_wp2
    go_ret
    exact ⟨rfl, hk⟩
theorem wordmCmds_walk (w : World) (s : ByteArray) (hs : s.size ≤ 9223372036854775807) (t : ByteArray) (ht : t.size ≤ 9223372036854775807) (n : Int) (hn : 0 ≤ n ∧ n ≤ 255) :
    Calls Try.prog 3 #[.string s, .string t, .int .u8 n] w fun e w' => e = .returned (.bool true) ∧ Kept nob w w' := cmds_walk w s t hs ht n hn
end Go.Proofs.Ytbmapjgajecgfaa

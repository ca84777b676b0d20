/-
  What is proved: what missing and Rest do, in every state. Conditions: those of each theorem.
-/
import Derived.Test.YtbmapjgajecgfaaW40
import Derived.Test.YtbmapjgajecgfaaW42
set_option linter.unusedVariables false
set_option linter.unusedSimpArgs false
namespace Go.Proofs.Ytbmapjgajecgfaa
open Go.RowKit
theorem repl_one (c : UInt8) (n : Nat) : Lib.repeatL [c] n = List.replicate n c := by
  induction n with
  | zero => rfl
  | succ n ih => show [c] ++ Lib.repeatL [c] n = _; rw [ih]; rfl
theorem repeat_any (n : Nat) (w : World) (hn : n ≤ 90000) : Calls Try.prog 31 #[.string ⟨#[41]⟩, .int .i64 (n : Int)] w (GotS w (List.replicate n 41)) := by
  refine (Try.strings_Repeat ⟨#[41]⟩ n w (by omega) (by show 1 * n ≤ _; omega)).mono ?_
  rintro e w' ⟨rfl, hb⟩
  refine ⟨?_, Kept.ofBelow hb _⟩
  show Ending.returned (.string ⟨(Lib.repeatL [41] n).toArray⟩) = _
  rw [repl_one]
  rfl
theorem missing_13 {B : Nat} {w : World} {b : Nat} {C : Nat → Prop} {S : Sn} (h : Fam B w C (S.dat b)) (hd : 0 ≤ S.dp ∧ S.dp ≤ 90000) (hk : S.kd = 13) : Calls Try.prog 25 #[.pointer (some ⟨b, 0, none⟩)] w (GotS w (stMissing S.abs)) := by
  have hb := hd_at h
  have c2 : w.cell? ⟨b, 2, none⟩ = some (.int .i64 13) := by rw [cell_blk hb]; show some (Value.int .i64 (S.kd : Int)) = _; rw [hk]; rfl
  have c8 : w.cell? ⟨b, 8, none⟩ = some (.int .i64 S.dp) := by rw [cell_blk hb]; rfl
  have hka : S.abs.kd = 13 := hk
  have e : stMissing S.abs = List.replicate S.dp.toNat 41 ++ [41, 41] := by unfold stMissing; rw [hka]; rfl
  rw [e]
  obtain ⟨n, hn⟩ : ∃ n : Nat, S.dp = (n : Int) := ⟨S.dp.toNat, by omega⟩
  rw [hn] at c8 hd ⊢
  rw [Int.toNat_natCast]
  have HR := Lib.hid (repeat_any n w (by omega))
  have hadd : Hid (∀ w', (Op.stringOp .add (bs (List.replicate n 41)) ⟨#[41, 41]⟩).run Try.prog w' = .ok (.string (bs (List.replicate n 41) ++ ⟨#[41, 41]⟩)) w') := Lib.hid (fun w' => run_string_add_sum w' _ _ (by
    show (List.replicate n (41 : UInt8)).toArray.size + 2 ≤ _
    simp
    omega))
  have hx : bs (List.replicate n 41) ++ ⟨#[41, 41]⟩ = bs (List.replicate n 41 ++ [41, 41]) := bs_app _ [41, 41]
  obtain ⟨X, hX⟩ : ∃ X, bs (List.replicate n 41) = X := ⟨_, rfl⟩
  obtain ⟨Y, hY⟩ : ∃ Y, X ++ ⟨#[41, 41]⟩ = Y := ⟨_, rfl⟩
  rw [hX, hY] at hadd
  have HX := Lib.hid hX
  have HY : Hid (Y = bs (List.replicate n 41 ++ [41, 41])) := Lib.hid (by rw [← hY, ← hX, hx])
  have hadd' := hadd.out
  clear h hb e hk hka hn hd hx hX hY
  go_enter Try.func25, Try.ntmps25
  go_wp2_with fail
  refine HR.out.mono ?_
  rintro e w' ⟨rfl, hk⟩
  rw [HX.out]
  have HK := Lib.hid hk
  clear hk
  go_wp2
  go_ret
  exact ⟨by rw [← HY.out]; rfl, HK.out⟩
theorem missing_any {B : Nat} {w : World} {b : Nat} {C : Nat → Prop} {S : Sn} (h : Fam B w C (S.dat b)) (hl : S.abs.lim 90000) (hk : S.kd ≤ 17) : Calls Try.prog 25 #[.pointer (some ⟨b, 0, none⟩)] w (GotS w (stMissing S.abs)) := by
  by_cases h13 : S.kd = 13
  · exact missing_13 h ⟨hl.2.2.2.2.2.1, hl.2.2.2.2.2.2⟩ h13
  · exact missing_no h hk h13
theorem rest_any {B : Nat} {w : World} {b : Nat} {C : Nat → Prop} {S : Sn} (h : Fam B w C (S.dat b)) (hg : S.abs.good 70000) : Calls Try.prog 11 #[.pointer (some ⟨b, 0, none⟩)] w (GotS w (stRest S.abs)) :=
  rest_of h hg.kd (hg.lim.mono (by omega)) (missing_any h (hg.lim.mono (by omega)) hg.kd)
theorem mac_rest {W w : World} {b : Nat} {s : St} (h : Mac W w b s) (hg : s.good 70000) : Calls Try.prog 11 #[.pointer (some ⟨b, 0, none⟩)] w (RestM W w b s (stRest s)) := by
  obtain ⟨C, S, h1, rfl, h3⟩ := h
  refine (rest_any h1 hg).mono ?_
  rintro e w' ⟨rfl, h4⟩
  exact ⟨rfl, C, S, h1.frame h4 (fun _ _ h => h), rfl, h3.trans h4 (fun _ _ h => h)⟩
/-- A text, byte by byte: the state, how many bytes were taken, the last signal. -/
def run (s : St) : List UInt8 → Nat → St × Nat × Int
  | [], i => (s, i, 0)
  | c :: r, i => if (stFeed s c).1 = 0 then run (stFeed s c).2 r (i + 1) else ((stFeed s c).2, i, (stFeed s c).1)
def FedM (W : World) (r : St × Nat × Int) (e : Ending) (w' : World) : Prop := ∃ b, e = .returned (.tuple #[.pointer (some ⟨b, 0, none⟩), .int .i64 (r.2.1 : Int), .int .i64 r.2.2]) ∧ Mac W w' b r.1
set_option maxHeartbeats 4000000 in
theorem fed_any (W w : World) (hk : Kept nob W w) (s : ByteArray) (hs : s.size ≤ 6000) : Calls Try.prog 9 #[.string s] w (FedM W (run St.init s.data.toList 0)) := by
  have HK := Lib.hid hk
  clear hk
  go_enter Try.func9, Try.ntmps9
  go_wp2_with fail
  refine (mac_new W w HK.out).mono ?_
  rintro e w0 ⟨b, rfl, h⟩
  have H0 := Lib.hid h
  clear h
  go_wp2
  go_loopw [6] (fun i wr => ∃ (k : Nat) (σ : St), k ≤ s.size ∧ i = .int .i64 k ∧ Hid (Mac W wr b σ ∧ σ.good (11 * k) ∧ run St.init s.data.toList 0 = run σ (s.data.toList.drop k) k)) (fun i _ => s.size - (intOf i).toNat)
  case atStart => exact ⟨0, St.init, Nat.zero_le _, rfl, Lib.hid ⟨H0.out, init_good, rfl⟩⟩
  case round =>
    obtain ⟨k, σ, hks, rfl, HR⟩ := hrel
    by_cases hlt : k < s.size
    · have hdr : s.data.toList.drop k = s[k] :: s.data.toList.drop (k + 1) := by
        rw [List.drop_eq_getElem_cons (by simpa using hlt)]
        rfl
      have HD := Lib.hid hdr
      obtain ⟨c, hc⟩ : ∃ c, s[k] = c := ⟨_, rfl⟩
      have HC := Lib.hid hc
      clear hdr hc
      have HF := Lib.hid (mac_feed HR.out.1 (HR.out.2.1.mono (by omega)) c)
      have HG := Lib.hid (feed_good HR.out.2.1 c)
      obtain ⟨r, hr⟩ : ∃ r, stFeed σ c = r := ⟨_, rfl⟩
      rw [hr] at HF HG
      have HRR := Lib.hid hr
      clear hr
      go_wp2_with fail
      rw [HC.out]
      refine HF.out.mono ?_
      rintro e w1 ⟨rfl, h⟩
      have H1 := Lib.hid h
      clear h
      obtain ⟨sg, hsg⟩ : ∃ sg, r.1 = sg := ⟨_, rfl⟩
      rw [hsg]
      have HS := Lib.hid hsg
      clear hsg
      have HRUN : Hid (run St.init s.data.toList 0 = if sg = 0 then run r.2 (s.data.toList.drop (k + 1)) (k + 1) else (r.2, k, sg)) := Lib.hid (by
        rw [HR.out.2.2, HD.out, HC.out]
        show (if (stFeed σ c).1 = 0 then _ else _) = _
        rw [HRR.out, HS.out])
      by_cases h0 : sg = 0
      · have s0 : (sg == 0) = true := by simpa using h0
        have s1 : (sg != 0) = false := by simpa using h0
        have HX : Hid (run St.init s.data.toList 0 = run r.2 (s.data.toList.drop (k + 1)) (k + 1)) := Lib.hid (by rw [HRUN.out, if_pos h0])
        clear HRUN h0
        go_wp2
        go_roundw
        case rel => exact ⟨k + 1, r.2, by omega, by go_num, Lib.hid ⟨H1.out, HG.out.mono (by omega), HX.out⟩⟩
        case measure => simp [intOf]; omega
      · have s0 : (sg == 0) = false := by simpa using h0
        have s1 : (sg != 0) = true := by simpa using h0
        have HX : Hid (run St.init s.data.toList 0 = (r.2, k, sg)) := Lib.hid (by rw [HRUN.out, if_neg h0])
        clear HRUN h0
        go_wp2
        go_ret3
        rw [HX.out]
        exact ⟨b, rfl, H1.out⟩
    · have HX : Hid (run St.init s.data.toList 0 = (σ, s.size, 0)) := Lib.hid (by
        rw [HR.out.2.2, List.drop_eq_nil_of_le (by simp; omega)]
        show (σ, k, (0 : Int)) = _
        rw [show k = s.size by omega])
      have HM := Lib.hid HR.out.1
      go_wp2
      go_ret3
      rw [HX.out]
      exact ⟨b, rfl, HM.out⟩
end Go.Proofs.Ytbmapjgajecgfaa

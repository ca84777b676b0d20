/-
  What is proved: the law's function returns true. Condition: the bounds of its arguments.
-/

import Derived.Test.YthncceffgncagaaInternNoneW
set_option linter.unusedVariables false
set_option linter.unusedSimpArgs false
namespace Go.Proofs.Ythncceffgncagaa
open Go.RowKit

theorem badName_false {s : ByteArray} (h0 : s.size ≠ 0) (h : s.size ≤ 24) : badName s = false := by simp [badName, h0]; omega
theorem plc_head {L : List ByteArray} {s : ByteArray} (hl : 0 < L.length) (h : L.getD 0 ⟨#[]⟩ = s) : plc L s = some 0 :=
  plc_some hl h (fun j hj => by omega)
theorem putL_head {L : List ByteArray} {most : Nat} {s t : ByteArray} (hl : 0 < L.length) (h : L.getD 0 ⟨#[]⟩ = s) : 0 < (putL L most t).length ∧ (putL L most t).getD 0 ⟨#[]⟩ = s ∧ (putL L most t).length ≤ L.length + 1 := by
  unfold putL
  split
  · exact ⟨hl, h, by omega⟩
  · split
    · exact ⟨hl, h, by omega⟩
    · split
      · refine ⟨by simp, ?_, by simp⟩
        cases L with
        | nil => simp at hl
        | cons x L => simpa using h
      · exact ⟨hl, h, by omega⟩
theorem put_ok {L : List ByteArray} {most : Nat} {t : ByteArray} (hb : badName t = false) (hlt : L.length < most) :
    ∃ k : Nat, putV L most t = ((k : Int), 0) ∧ k < (putL L most t).length ∧ (putL L most t).getD k ⟨#[]⟩ = t ∧ plc (putL L most t) t = some k := by
  unfold putV putL
  rw [hb]
  cases hp : plc L t with
  | some j =>
    obtain ⟨h1, h2, h3⟩ := plc_spec hp
    exact ⟨j, by simp, by simpa using h1, by simpa using h2, by simpa using hp⟩
  | none =>
    have hn := plc_spec_none hp
    have hg : (L ++ [t]).getD L.length ⟨#[]⟩ = t := by simp [List.getD]
    refine ⟨L.length, by simp [hlt], by simp [hlt], by simp [hlt], ?_⟩
    simp only [Bool.false_eq_true, if_false, hlt, if_true]
    refine plc_some (by simp) hg (fun j hj e => hn j hj ?_)
    rw [← e]; simp [List.getD, hj, List.getElem?_append_left]

set_option maxHeartbeats 4000000 in
theorem internStays_walk (w : World) (s : ByteArray) (hs : s.size ≤ 9223372036854775807) (t : ByteArray) (ht : t.size ≤ 9223372036854775807) (a : Option Addr) (cap : Nat) (xs : List ByteArray) (hx : Rd w a (sv xs)) (hl : xs.length ≤ 9223372036854775807) (hm : ∀ j, j < xs.length → (xs.getD j ⟨#[]⟩).size ≤ 9223372036854775807) :
    Calls Try.prog 3 #[.string s, .string t, .slice a xs.length cap] w (RetT w) := by
  have HX := Lib.hid hx
  have HM := Lib.hid hm
  clear hx hm
  by_cases hg : xs.length ≤ 60 ∧ s.size ≠ 0 ∧ t.size ≠ 0 ∧ s.size ≤ 24 ∧ t.size ≤ 24
  · obtain ⟨g1, g2, g3, g4, g5⟩ := hg
    have es := str_cons g2
    have et := str_cons g3
    have bs := Lib.hid (badName_false g2 g4)
    have bt := Lib.hid (badName_false g3 g5)
    clear g2 g3
    go_enter Try.func3, Try.ntmps3
    go_wp2_with fail
    refine (nnew_any 4096 w w.heap.size).mono ?_
    rintro e w1 ⟨b, r, rfl, h1, k1, hb, hr⟩
    have z1 := k1.size
    rw [show roomOf 4096 = 4096 from rfl] at h1
    have H1 := Lib.hid h1
    clear h1
    go_wp2_with fail
    refine (nput_own H1.out s z1 (own_new hb hr)).mono ?_
    rintro e w2 ⟨av2, rfl, h2, k2, o2⟩
    have e1 : putV [] 4096 s = (0, 0) := by unfold putV; rw [bs.out]; rfl
    have e2 : putL [] 4096 s = [s] := by unfold putL; rw [bs.out]; rfl
    rw [e1]
    rw [e2] at h2
    have H2 := Lib.hid h2
    have K2 := Lib.hid ((Kept.ofNob k1 (B := w.heap.size)).abt k2)
    have z2 := k2.size
    clear h2 e1 e2
    go_wp2
    go_loopw [10] (fun i wr => ∃ (k : Nat) (L : List ByteArray) (av : Value), i = .int .i64 (k : Int) ∧ k ≤ xs.length ∧ Hid (NW w.heap.size wr b r av L 4096) ∧ Hid (0 < L.length ∧ L.getD 0 ⟨#[]⟩ = s ∧ L.length ≤ k + 1) ∧ Hid (Own w.heap.size b r av) ∧ Kept (ab w.heap.size) w wr) (fun i _ => xs.length - (intOf i).toNat)
    case atStart => exact ⟨0, [s], av2, rfl, by omega, H2.out, ⟨by simp, rfl, by simp⟩, o2, K2.out⟩
    case round =>
      obtain ⟨k, L, av, rfl, hkl, hN, hL, hO, hK⟩ := hrel
      have zr := hK.size
      by_cases hlt : k < xs.length
      · rcases HX.out with h | ⟨b1, o1, rfl, hc1⟩
        · have := sv_len xs; rw [h] at this; simp at this; omega
        have hbb := World.block_lt_of_cell? w _ ((hc1 k (by rw [sv_len]; exact hlt)).trans (sv_get xs k hlt))
        have d1 : wr.cell? ⟨b1, o1 + k, none⟩ = some (.string (xs.getD k ⟨#[]⟩)) :=
          hK.toNob.cell ((hc1 k (by rw [sv_len]; exact hlt)).trans (sv_get xs k hlt)) (fun h => h)
        have hxs := HM.out k hlt
        obtain ⟨x, hxx⟩ : ∃ x, x = xs.getD k ⟨#[]⟩ := ⟨_, rfl⟩
        rw [← hxx] at d1 hxs
        clear hxx hc1
        rcases Nat.lt_or_ge 1000 x.size with hbig | hbig
        · go_wp2
          go_roundw
          case rel => exact ⟨k + 1, L, av, by go_num, by omega, hN, ⟨hL.out.1, hL.out.2.1, by have := hL.out.2.2; omega⟩, hO, hK⟩
          case measure => simp [intOf]; omega
        · go_wp2_with fail
          refine (nput_own hN.out x zr hO.out).mono ?_
          rintro e w3 ⟨av3, rfl, h3, k3, o3⟩
          have H3 := Lib.hid h3
          have O3 := Lib.hid o3
          clear h3 o3
          go_wp2
          go_roundw
          case rel =>
            have := putL_head (most := 4096) (t := x) hL.out.1 hL.out.2.1
            exact ⟨k + 1, _, av3, by go_num, by omega, H3.out, ⟨this.1, this.2.1, by have := this.2.2; have := hL.out.2.2; omega⟩, O3.out, hK.abt k3⟩
          case measure => simp [intOf]; omega
      · go_wp2_with fail
        refine (nput_own hN.out t zr hO.out).mono ?_
        rintro e w3 ⟨av3, rfl, h3, k3, o3⟩
        obtain ⟨q, hq1, hq2, hq3, hq4⟩ := put_ok (L := L) (most := 4096) bt.out (by have := hL.out.2.2; omega)
        have hph := putL_head (most := 4096) (t := t) hL.out.1 hL.out.2.1
        rw [hq1]
        have H3 := Lib.hid h3
        have hft : findI (putL L 4096 t) s = 0 := by unfold findI; rw [plc_head hph.1 hph.2.1]; rfl
        have hqs : (((0 : Int) == (q : Int)) == (s.toList == t.toList)) = true := by
          rw [toList_eq]
          by_cases est : s = t
          · subst est
            have : q = 0 := by rw [plc_head hph.1 hph.2.1] at hq4; simpa using hq4.symm
            subst this; simp
          · have : q ≠ 0 := by
              intro e; subst e
              rw [hph.2.1] at hq3; exact est hq3
            have : ((0 : Int) == (q : Int)) = false := by simp; omega
            rw [this]; simp [est]
        have HQ3 := Lib.hid hq3
        have HQ2 := Lib.hid hq2
        have HFT := Lib.hid hft
        have HQS := Lib.hid hqs
        clear h3 o3 hq1 hq2 hq3 hq4 hph hft hqs
        have HT := Lib.hid (ntext_in H3.out q HQ2.out)
        rw [HQ3.out] at HT
        go_wp2_with fail
        refine HT.out.mono ?_
        rintro e w4 ⟨rfl, rfl⟩
        go_wp2_with fail
        refine (nfind_any H3.out s).mono ?_
        rintro e w4 ⟨rfl, rfl⟩
        rw [HFT.out]
        have hqs := HQS.out
        go_wp2_with (go_at_call 9; refine (nawake _).mono ?_; rintro e w' ⟨rfl, hk9⟩)
        go_ret
        exact ⟨rfl, ((hK.abt k3).abt hk9.ofNob).toNob⟩
  · rcases Nat.lt_or_ge 60 xs.length with c1 | c1
    · clear hg
      go_enter Try.func3, Try.ntmps3
      go_wp2_with (go_at_call 9; refine (nawake _).mono ?_; rintro e w' ⟨rfl, hk⟩)
      go_ret
      exact ⟨rfl, hk⟩
    · by_cases c2 : s.size = 0
      · have es := str_nil c2
        clear hg c2
        go_enter Try.func3, Try.ntmps3
        go_wp2_with (go_at_call 9; refine (nawake _).mono ?_; rintro e w' ⟨rfl, hk⟩)
        go_ret
        exact ⟨rfl, hk⟩
      · have es := str_cons c2
        by_cases c3 : t.size = 0
        · have et := str_nil c3
          clear hg c2 c3
          go_enter Try.func3, Try.ntmps3
          go_wp2_with (go_at_call 9; refine (nawake _).mono ?_; rintro e w' ⟨rfl, hk⟩)
          go_ret
          exact ⟨rfl, hk⟩
        · have et := str_cons c3
          rcases Nat.lt_or_ge 24 s.size with c4 | c4
          · clear hg c2 c3
            go_enter Try.func3, Try.ntmps3
            go_wp2_with (go_at_call 9; refine (nawake _).mono ?_; rintro e w' ⟨rfl, hk⟩)
            go_ret
            exact ⟨rfl, hk⟩
          · have c5 : 24 < t.size := by omega
            clear hg c2 c3
            go_enter Try.func3, Try.ntmps3
            go_wp2_with (go_at_call 9; refine (nawake _).mono ?_; rintro e w' ⟨rfl, hk⟩)
            go_ret
            exact ⟨rfl, hk⟩

end Go.Proofs.Ythncceffgncagaa

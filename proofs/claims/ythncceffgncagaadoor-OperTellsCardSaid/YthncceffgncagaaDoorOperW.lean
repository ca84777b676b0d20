/-
  What is proved: the two laws' functions return true. Condition: the table holds its texts; the bounds of the arguments.
-/

import Derived.Test.YthncceffgncagaaDoorOper
set_option linter.unusedVariables false
set_option linter.unusedSimpArgs false
namespace Go.Proofs.YthncceffgncagaaDoor
open Go.RowKit
theorem awake_any (w : World) (hb : TB w) : Calls Tryd.prog 5 #[] w (RetB w true) := by
  have HB := Lib.hid hb
  clear hb
  go_enter Tryd.func5, Tryd.ntmps5
  go_wp2_with fail
  refine (text_any 13 w HB.out (by omega)).mono ?_
  rintro e w' ⟨rfl, rfl⟩
  rw [show txt 13 = ⟨#[60, 60, 45]⟩ by rfl]
  go_wp2_with fail
  refine (find_any _ w HB.out).mono ?_
  rintro e w' ⟨rfl, rfl⟩
  rw [show fnd ⟨#[38, 38]⟩ = 1 by decide]
  go_wp2_with fail
  refine (more_any _ w HB.out (by decide)).mono ?_
  rintro e w1 ⟨a, cap, rfl, ho, hk⟩
  rw [ivals_len, show (mor ⟨#[60, 60]⟩).length = 2 by decide]
  have HB1 := Lib.hid (HB.out.kept hk)
  clear ho
  go_wp2_with fail
  refine (longest_any _ w1 HB1.out (by decide)).mono ?_
  rintro e w' ⟨rfl, rfl⟩
  rw [show lng ⟨#[60, 60, 60]⟩ = 12 by decide]
  go_wp2_with fail
  refine (whole_any _ w1 HB1.out (by decide)).mono ?_
  rintro e w2 ⟨rfl, hk2⟩
  rw [show whl ⟨#[59, 59]⟩ = true by decide]
  have HB2 := Lib.hid (HB1.out.kept hk2)
  go_wp2_with fail
  refine (whole_any _ w2 HB2.out (by decide)).mono ?_
  rintro e w3 ⟨rfl, hk3⟩
  rw [show whl ⟨#[59]⟩ = false by decide]
  go_wp2_with fail
  refine (redir_any 17 w3 (by omega)).mono ?_
  rintro e w' ⟨rfl, rfl⟩
  rw [show rdr 17 = true by decide]
  go_wp2
  go_ret
  exact ⟨rfl, (hk.trans hk2 (fun _ _ h => h)).trans hk3 (fun _ _ h => h)⟩
theorem tells_walk (w : World) (hb : TB w) (op : Int) (hop : -9223372036854775808 ≤ op ∧ op ≤ 9223372036854775807) (s : ByteArray) (hs : s.size ≤ 9223372036854775807) :
    Calls Tryd.prog 3 #[.int .i64 op, .string s] w (RetB w true) := by
  have HB := Lib.hid hb
  clear hb
  by_cases hbig : 1000 < s.size
  · go_enter Tryd.func3, Tryd.ntmps3
    go_wp2_with fail
    refine (awake_any w HB.out).mono ?_
    rintro e w1 ⟨rfl, hk⟩
    go_wp2
    go_ret
    exact ⟨rfl, hk⟩
  · go_enter Tryd.func3, Tryd.ntmps3
    go_wp2_with fail
    refine (text_any op w HB.out hop).mono ?_
    rintro e w' ⟨rfl, rfl⟩
    go_wp2_with fail
    refine (text2_any op w hop).mono ?_
    rintro e w' ⟨rfl, rfl⟩
    obtain ⟨t, ht⟩ : ∃ t, txt op = t := ⟨_, rfl⟩
    rw [ht]
    clear ht
    have t1 : (t.toList == t.toList) = true := by simp
    go_wp2_with fail
    refine (find_any s w HB.out).mono ?_
    rintro e w' ⟨rfl, rfl⟩
    go_wp2_with fail
    refine (find2_any s w).mono ?_
    rintro e w' ⟨rfl, rfl⟩
    go_wp2_with fail
    refine (more_any s w HB.out hs).mono ?_
    rintro e w1 h1
    obtain ⟨a1, c1, rfl, r1, k1, o1⟩ := retRow_rd h1
    have HB1 := Lib.hid (HB.out.kept k1)
    have HR1 := Lib.hid r1
    clear h1 o1 r1
    go_wp2_with fail
    refine (more2_any s w1 hs).mono ?_
    rintro e w2 h2
    obtain ⟨a2, c2, rfl, r2, k2, o2⟩ := retRow_rd h2
    have HB2 := Lib.hid (HB1.out.kept k2)
    have HR2 := Lib.hid r2
    have HR1 := Lib.hid (HR1.out.kept k2 (fun b o _ h => h))
    clear h2 o2 r2
    have hl := mor_len s
    have el : (ivals (mor s)).length = ((mor s).map fun (x : Nat) => (x : Int)).length := by simp [ivals]
    rw [el]
    rw [ivals_iv] at HR1 HR2
    have hl' : ((mor s).map fun (x : Nat) => (x : Int)).length ≤ 18 := by simpa using hl
    obtain ⟨L, hL⟩ : ∃ L, ((mor s).map fun (x : Nat) => (x : Int)) = L := ⟨_, rfl⟩
    rw [hL] at HR1 HR2 hl' ⊢
    clear hL el hl
    go_wp2_with fail
    refine (ints_any a1 a2 c1 c2 L L w2 HR1.out HR2.out (by omega) (by omega)).mono ?_
    rintro e w3 ⟨rfl, k3⟩
    rw [show eqi L L = true by simp [eqi]]
    have HB3 := Lib.hid (HB2.out.kept k3)
    go_wp2_with fail
    refine (longest_any s w3 HB3.out hs).mono ?_
    rintro e w' ⟨rfl, rfl⟩
    go_wp2_with fail
    refine (longest2_any s w3 hs).mono ?_
    rintro e w' ⟨rfl, rfl⟩
    go_wp2_with fail
    refine (whole_any s w3 HB3.out hs).mono ?_
    rintro e w4 ⟨rfl, k4⟩
    have HB4 := Lib.hid (HB3.out.kept k4)
    obtain ⟨b1, hb1⟩ : ∃ b, whl s = b := ⟨_, rfl⟩
    rw [hb1]
    go_wp2_with fail
    refine (whole2_any s w4 hs).mono ?_
    rintro e w5 ⟨rfl, k5⟩
    have HB5 := Lib.hid (HB4.out.kept k5)
    rw [hb1]
    clear hb1
    go_wp2_with fail
    refine (redir_any op w5 hop).mono ?_
    rintro e w' ⟨rfl, rfl⟩
    obtain ⟨b2, hb2⟩ : ∃ b, rdr op = b := ⟨_, rfl⟩
    rw [hb2]
    go_wp2_with fail
    refine (redir2_any op w5 hop).mono ?_
    rintro e w' ⟨rfl, rfl⟩
    rw [hb2]
    clear hb2
    go_wp2_with fail
    refine (awake_any w5 HB5.out).mono ?_
    rintro e w6 ⟨rfl, k6⟩
    go_wp2
    go_ret
    exact ⟨rfl, ((((k1.trans k2 (fun _ _ h => h)).trans k3 (fun _ _ h => h)).trans k4 (fun _ _ h => h)).trans k5 (fun _ _ h => h)).trans k6 (fun _ _ h => h)⟩

theorem lng_max {s : ByteArray} {j : Nat} (h0 : 0 < j) (hj : j < 18) (hp : pre s (tx j) = true) : (tx j).size ≤ (tx (lng s)).size := by
  have hp' := pre_iff.1 hp
  have hf : fnd (s.extract 0 (tx j).size) = j := by rw [hp'.2, fnd_of_tx hj]
  have h1 := tx_pos h0 hj
  have h3 := tx_size j
  have hz : ∀ m, m ≤ s.size → fnd (s.extract 0 m) ≠ 0 → (tx (fnd (s.extract 0 m))).size = m := fun m hm hf => by
    rw [fnd_tx hf]; simp; omega
  unfold lng
  split
  · rename_i h; rw [hz 3 h.1 h.2]; omega
  · rename_i n3
    split
    · rename_i h; rw [hz 2 h.1 h.2]
      by_cases e : (tx j).size = 3
      · rw [e] at hf hp'; exact absurd ⟨hp'.1, by rw [hf]; omega⟩ n3
      · omega
    · rename_i n2
      split
      · rename_i h; rw [hz 1 h.1 h.2]
        by_cases e : (tx j).size = 3
        · rw [e] at hf hp'; exact absurd ⟨hp'.1, by rw [hf]; omega⟩ n3
        · by_cases e : (tx j).size = 2
          · rw [e] at hf hp'; exact absurd ⟨hp'.1, by rw [hf]; omega⟩ n2
          · omega
      · rename_i n1
        exfalso
        rcases (by omega : (tx j).size = 3 ∨ (tx j).size = 2 ∨ (tx j).size = 1) with e | e | e
        · rw [e] at hf hp'; exact absurd ⟨hp'.1, by rw [hf]; omega⟩ n3
        · rw [e] at hf hp'; exact absurd ⟨hp'.1, by rw [hf]; omega⟩ n2
        · rw [e] at hf hp'; exact absurd ⟨hp'.1, by rw [hf]; omega⟩ n1
theorem fnd_beg : ∀ q, q < 18 → 0 < q → ∀ m, m < (tx q).size → fnd ((tx q).extract 0 (1 + m)) ≠ 0 := by decide +kernel
theorem lng_tx : ∀ q, q < 18 → lng (tx q) = q := by decide +kernel
theorem mor_beg : ∀ q, q < 18 → ∀ m, m < (tx q).size → (mor (tx q)).length ≤ (mor ((tx q).extract 0 (1 + m))).length := by decide +kernel
theorem pre_app (t s : ByteArray) : pre (t ++ s) t = true := by
  rw [pre_iff]
  refine ⟨by rw [ByteArray.size_append]; omega, ?_⟩
  rw [ByteArray.extract_append_eq_left rfl]
theorem txt_empty {op : Int} (h : ¬ (1 ≤ op ∧ op ≤ 17)) : txt op = ⟨#[]⟩ := by
  unfold txt
  split
  · have : op = 0 := by omega
    subst this
    rfl
  · rfl
set_option maxHeartbeats 1000000 in
theorem begins_walk (w : World) (hb : TB w) (op : Int) (hop : -9223372036854775808 ≤ op ∧ op ≤ 9223372036854775807) (n : Int) (hn : 0 ≤ n ∧ n ≤ 255) (s : ByteArray) (hs : s.size ≤ 9223372036854775807) :
    Calls Tryd.prog 4 #[.int .i64 op, .int .u8 n, .string s] w (RetB w true) := by
  have HB := Lib.hid hb
  clear hb
  by_cases hbig : 1000 < s.size
  · go_enter Tryd.func4, Tryd.ntmps4
    go_wp2_with fail
    refine (awake_any w HB.out).mono ?_
    rintro e w1 ⟨rfl, hk⟩
    go_wp2
    go_ret
    exact ⟨rfl, hk⟩
  · by_cases hr : 1 ≤ op ∧ op ≤ 17
    · obtain ⟨q, rfl⟩ : ∃ q : Nat, op = (q : Int) := ⟨op.toNat, by omega⟩
      have hq : 0 < q ∧ q < 18 := by omega
      have et : txt (q : Int) = tx q := txt_nat hq.2
      have z1 := tx_pos hq.1 hq.2
      have z3 := tx_size q
      have hmm : n.toNat % (tx q).size < (tx q).size := Nat.mod_lt _ (by omega)
      obtain ⟨m, hm⟩ : ∃ m, n.toNat % (tx q).size = m := ⟨_, rfl⟩
      rw [hm] at hmm
      have f1 := fnd_beg q hq.2 hq.1 m hmm
      have f2 := mor_beg q hq.2 m hmm
      have f3 := fnd_of_tx hq.2
      have f4 := lng_tx q hq.2
      have f5 := lng_max hq.1 hq.2 (pre_app (tx q) s)
      have f6 := lng_lt (tx q ++ s)
      obtain ⟨t, ht⟩ : ∃ t, tx q = t := ⟨_, rfl⟩
      rw [ht] at et z1 z3 hmm hm f1 f2 f3 f4 f5 f6
      have HT := Lib.hid ht
      have hne : (t.toList == (⟨#[]⟩ : ByteArray).toList) = false := by
        rw [toList_eq]; simp; intro e; rw [e] at z1; exact absurd z1 (by decide)
      have hne1 : t.toList.isEmpty = false := by
        cases h : t.toList.isEmpty with
        | false => rfl
        | true =>
          rw [List.isEmpty_iff] at h
          rw [h] at hne
          have e : (⟨#[]⟩ : ByteArray).toList = [] := by rw [ba_toList]
          rw [e] at hne
          simp at hne
      clear ht hne hr
      have hmod : n.tmod (t.size : Int) = (m : Int) := by
        obtain ⟨k, rfl⟩ : ∃ k : Nat, n = (k : Int) := ⟨n.toNat, by omega⟩
        rw [← hm]; rfl
      have HM := Lib.hid hmod
      have F1 := Lib.hid f1
      have F2 := Lib.hid f2
      have F3 := Lib.hid f3
      have F4 := Lib.hid f4
      have F5 := Lib.hid f5
      clear hm f1 f2 f3 f4 f5
      go_enter Tryd.func4, Tryd.ntmps4
      go_wp2_with fail
      refine (text_any q w HB.out hop).mono ?_
      rintro e w' ⟨rfl, rfl⟩
      rw [et]
      go_wp2_with fail
      refine (find_any t w HB.out).mono ?_
      rintro e w' ⟨rfl, rfl⟩
      rw [F3.out]
      obtain ⟨b, hb⟩ : ∃ b, t.extract 0 (1 + m) = b := ⟨_, rfl⟩
      have zb : b.size ≤ 3 := by rw [← hb]; simp; omega
      rw [hb] at F1 F2 ⊢
      clear hb
      obtain ⟨f, hf⟩ : ∃ f, fnd b = f := ⟨_, rfl⟩
      have hf0 : ((f : Int) != 0) = true := by have := F1.out; rw [hf] at this; simp; omega
      have HFb := Lib.hid hf
      clear hf
      go_wp2_with fail
      refine (find_any b w HB.out).mono ?_
      rintro e w' ⟨rfl, rfl⟩
      rw [HFb.out]
      go_wp2_with fail
      refine (longest_any t w HB.out (by omega)).mono ?_
      rintro e w' ⟨rfl, rfl⟩
      rw [F4.out]
      go_wp2_with fail
      refine (longest_any (t ++ s) w HB.out (by rw [ByteArray.size_append]; omega)).mono ?_
      rintro e w' ⟨rfl, rfl⟩
      obtain ⟨l, hl⟩ : ∃ l, lng (t ++ s) = l := ⟨_, rfl⟩
      rw [hl] at f6 F5 ⊢
      clear hl
      go_wp2_with fail
      refine (text_any (l : Int) w HB.out (by omega)).mono ?_
      rintro e w' ⟨rfl, rfl⟩
      rw [txt_nat f6]
      have zl := tx_size l
      obtain ⟨u, hu⟩ : ∃ u, tx l = u := ⟨_, rfl⟩
      rw [hu] at F5 zl ⊢
      clear hu
      have f5 := F5.out
      go_wp2_with fail
      refine (more_any b w HB.out (by omega)).mono ?_
      rintro e w1 ⟨a1, c1, rfl, o1, k1⟩
      have HB1 := Lib.hid (HB.out.kept k1)
      have l1 := mor_len b
      rw [ivals_len]
      clear o1
      go_wp2_with fail
      refine (more_any t w1 HB1.out (by omega)).mono ?_
      rintro e w2 ⟨a2, c2, rfl, o2, k2⟩
      have HB2 := Lib.hid (HB1.out.kept k2)
      have l2 := mor_len t
      rw [ivals_len]
      clear o2
      have f2 := F2.out
      obtain ⟨n1, hn1⟩ : ∃ n, (mor b).length = n := ⟨_, rfl⟩
      obtain ⟨n2, hn2⟩ : ∃ n, (mor t).length = n := ⟨_, rfl⟩
      rw [hn1] at l1
      rw [hn2] at l2
      rw [hn1, hn2] at f2 ⊢
      clear hn1 hn2
      go_wp2_with fail
      refine (awake_any w2 HB2.out).mono ?_
      rintro e w3 ⟨rfl, k3⟩
      go_wp2
      go_ret
      exact ⟨rfl, (k1.trans k2 (fun _ _ h => h)).trans k3 (fun _ _ h => h)⟩
    · have HE := Lib.hid (txt_empty hr)
      clear hr
      go_enter Tryd.func4, Tryd.ntmps4
      go_wp2_with fail
      refine (text_any op w HB.out hop).mono ?_
      rintro e w' ⟨rfl, rfl⟩
      rw [HE.out]
      go_wp2_with fail
      refine (awake_any w HB.out).mono ?_
      rintro e w1 ⟨rfl, hk⟩
      go_wp2
      go_ret
      exact ⟨rfl, hk⟩

end Go.Proofs.YthncceffgncagaaDoor

/-
  What is proved: the walk of BitsUnites: it returns true and leaves old memory as it was. Conditions: the lists read as they do in any call.
-/
import Derived.Test.YthncceffgncagaaBawake
set_option linter.unusedVariables false
set_option linter.unusedSimpArgs false
namespace Go.Proofs.Ythncceffgncagaa
open Go.RowKit

/-- What is there when the first k numbers of a list have been put. -/
def ofl (n : Nat) (xs : List Int) (k : Nat) : Nat → Bool := fun j => (xs.take k).any fun x => inr n x && decide (j = x.toNat)
theorem ofl_succ (n : Nat) (xs : List Int) (k : Nat) (hk : k < xs.length) (j : Nat) : ofl n xs (k + 1) j = putf n (ofl n xs k) (xs.getD k 0) j := by
  unfold ofl putf
  rw [List.take_succ_eq_append_getElem hk, List.any_append]
  simp [List.getD, hk]

set_option maxHeartbeats 1000000 in
theorem of_any (n : Int) (a : Option Addr) (cap : Nat) (xs : List Int) (w : World) (hx : Rd w a (iv xs)) (hlx : xs.length ≤ 9223372036854775807) :
    Calls Try.prog 20 #[.int .i64 n, .slice a xs.length cap] w fun e w' => ∃ b g, e = .returned (.pointer (some ⟨b, 0, none⟩)) ∧ SetAt w' b g (roomOf n) (ofl (roomOf n) xs (min 60 xs.length)) ∧ Kept nob w w' ∧ w.heap.size ≤ b ∧ w.heap.size ≤ g := by
  have HX := Lib.hid hx
  clear hx
  go_enter Try.func20, Try.ntmps20
  go_wp2_with fail
  refine (new_set n w).mono ?_
  rintro e w1 ⟨b, g, rfl, h1, k1, hb, hg⟩
  have H1 := Lib.hid h1
  clear h1
  go_wp2
  go_loopw [6] (fun i wr => ∃ k : Nat, i = .int .i64 (k : Int) ∧ k ≤ 60 ∧ k ≤ xs.length ∧ Hid (SetAt wr b g (roomOf n) (ofl (roomOf n) xs k)) ∧ Kept nob w wr) (fun i _ => 61 - (intOf i).toNat)
  case atStart => exact ⟨0, rfl, by omega, by omega, H1.out.congr (fun j => by simp [ofl]), k1⟩
  case round =>
    obtain ⟨k, rfl, hk60, hkl, hs, hK⟩ := hrel
    by_cases hlt : k < xs.length ∧ k < 60
    · obtain ⟨hl1, hl2⟩ := hlt
      rcases HX.out.kept hK (fun _ _ _ h => h) with h | ⟨bb, o, rfl, hc⟩
      · have := iv_len xs; rw [h] at this; simp at this; omega
      have d1 : wr.cell? ⟨bb, o + k, none⟩ = some (.int .i64 (xs.getD k 0)) := by
        rw [← iv_get xs k hl1, ← hc k (by rw [iv_len]; exact hl1)]
      obtain ⟨x, hxx⟩ : ∃ x, x = xs.getD k 0 := ⟨_, rfl⟩
      rw [← hxx] at d1
      have HXX := Lib.hid hxx
      clear hxx hc
      go_wp2_with fail
      refine (put_any hs.out x).mono ?_
      rintro e w2 ⟨rfl, h2, k2, hsz⟩
      have hl := hs.out.lt
      have H2 := Lib.hid h2
      clear h2 hsz
      go_wp2
      go_roundw
      case rel =>
        refine ⟨k + 1, by go_num, by omega, by omega, H2.out.congr (fun j => ?_), hK.trans k2 (fun i hi h => by have : i = g := h; omega)⟩
        rw [ofl_succ _ _ _ hl1, HXX.out]
      case measure => simp [intOf]; omega
    · have hke : k = min 60 xs.length := by omega
      have HKE := Lib.hid hke
      have hd : k < xs.length → 60 ≤ k := by omega
      clear hke
      by_cases hl1 : k < xs.length
      · have := hd hl1
        clear hd hlt
        go_wp2
        go_ret
        exact ⟨b, g, rfl, by rw [← HKE.out]; exact hs.out, hK, hb, hg⟩
      · clear hd hlt
        go_wp2
        go_ret
        exact ⟨b, g, rfl, by rw [← HKE.out]; exact hs.out, hK, hb, hg⟩


theorem lst_mono (n : Nat) (f h : Nat → Bool) (hf : ∀ j, f j = true → h j = true) : (lst n f).length ≤ (lst n h).length := by
  unfold lst
  rw [← List.countP_eq_length_filter, ← List.countP_eq_length_filter]
  exact List.countP_mono_left (fun x _ hx => hf x hx)
theorem lst_congr (n : Nat) (f h : Nat → Bool) (hf : ∀ j, j < n → f j = h j) : lst n f = lst n h := by
  unfold lst
  exact List.filter_congr (fun x hx => hf x (by simpa using hx))
theorem SetAt.zero {w : World} {b g n : Nat} {f : Nat → Bool} (h : SetAt w b g n f) (i : Nat) (hi : n ≤ i) : f i = false := by
  obtain ⟨ws, hw, hf, hz⟩ := h
  exact hz i hi

set_option maxHeartbeats 4000000 in
theorem bitsUnites_walk (w : World) (n : Int) (_hn : -9223372036854775808 ≤ n ∧ n ≤ 9223372036854775807) (a1 : Option Addr) (c1 : Nat) (xs : List Int) (hx : Rd w a1 (iv xs)) (lx : xs.length ≤ 9223372036854775807) (a2 : Option Addr) (c2 : Nat) (ys : List Int) (hy : Rd w a2 (iv ys)) (ly : ys.length ≤ 9223372036854775807) (a3 : Option Addr) (c3 : Nat) (zs : List Int) (hz : Rd w a3 (iv zs))
    (lz : zs.length ≤ 9223372036854775807) :
    Calls Try.prog 6 #[.int .i64 n, .slice a1 xs.length c1, .slice a2 ys.length c2, .slice a3 zs.length c3] w (RetT w) := by
  obtain ⟨R, hR⟩ : ∃ R, R = roomOf n := ⟨_, rfl⟩
  obtain ⟨A, hA⟩ : ∃ A, A = ofl R xs (min 60 xs.length) := ⟨_, rfl⟩
  obtain ⟨B, hB⟩ : ∃ B, B = ofl R ys (min 60 ys.length) := ⟨_, rfl⟩
  obtain ⟨C, hC⟩ : ∃ C, C = ofl R zs (min 60 zs.length) := ⟨_, rfl⟩
  have ofA : ∀ w1, Kept nob w w1 → Calls Try.prog 20 #[.int .i64 n, .slice a1 xs.length c1] w1 fun e w' => ∃ b g, e = .returned (.pointer (some ⟨b, 0, none⟩)) ∧ SetAt w' b g R A ∧ Kept nob w1 w' ∧ w1.heap.size ≤ b ∧ w1.heap.size ≤ g := by
    intro w1 hk; rw [hA, hR]; exact of_any n a1 c1 xs w1 (hx.kept hk (fun _ _ _ h => h)) lx
  have ofB : ∀ w1, Kept nob w w1 → Calls Try.prog 20 #[.int .i64 n, .slice a2 ys.length c2] w1 fun e w' => ∃ b g, e = .returned (.pointer (some ⟨b, 0, none⟩)) ∧ SetAt w' b g R B ∧ Kept nob w1 w' ∧ w1.heap.size ≤ b ∧ w1.heap.size ≤ g := by
    intro w1 hk; rw [hB, hR]; exact of_any n a2 c2 ys w1 (hy.kept hk (fun _ _ _ h => h)) ly
  have ofC : ∀ w1, Kept nob w w1 → Calls Try.prog 20 #[.int .i64 n, .slice a3 zs.length c3] w1 fun e w' => ∃ b g, e = .returned (.pointer (some ⟨b, 0, none⟩)) ∧ SetAt w' b g R C ∧ Kept nob w1 w' ∧ w1.heap.size ≤ b ∧ w1.heap.size ≤ g := by
    intro w1 hk; rw [hC, hR]; exact of_any n a3 c3 zs w1 (hz.kept hk (fun _ _ _ h => h)) lz
  have OA := Lib.hid ofA
  have OB := Lib.hid ofB
  have OC := Lib.hid ofC
  clear ofA ofB ofC hA hB hC hR hx hy hz
  go_enter Try.func6, Try.ntmps6
  go_wp2_with fail
  refine (OA.out w (Kept.refl _ _)).mono ?_
  rintro e w1 ⟨bx, gx, rfl, x1, k1, q1, r1⟩
  have lx1 := x1.lt
  have X1 := Lib.hid x1
  have z1 := k1.size
  clear x1
  go_wp2_with fail
  refine (OC.out w1 k1).mono ?_
  rintro e w2 ⟨by', gy, rfl, y2, k2, q2, r2⟩
  have ly2 := y2.lt
  have Y2 := Lib.hid y2
  have X2 := Lib.hid (X1.out.kept k2 (fun h => h) (fun h => h))
  have K2 := Lib.hid ((Kept.ofNob k1 (B := w.heap.size)).abt k2.ofNob)
  have z2 := k2.size
  clear y2
  go_wp2_with fail
  refine (twin_any X2.out).mono ?_
  rintro e w3 ⟨bt, gt, rfl, t3, k3, q3, r3⟩
  have lt3 := t3.lt
  have T3 := Lib.hid t3
  have X3 := Lib.hid (X2.out.kept k3 (fun h => h) (fun h => h))
  have Y3 := Lib.hid (Y2.out.kept k3 (fun h => h) (fun h => h))
  have K3 := Lib.hid (K2.out.abt k3.ofNob)
  have z3 := k3.size
  clear t3
  -- x.Or(of(n, b))
  go_wp2_with fail
  refine (OB.out w3 K3.out.toNob).mono ?_
  rintro e w4 ⟨b4, g4, rfl, s4, k4, q4, r4⟩
  have l4 := s4.lt
  have S4 := Lib.hid s4
  have z4 := k4.size
  clear s4
  go_wp2_with fail
  refine (or_any (X3.out.kept k4 (fun h => h) (fun h => h)) S4.out).mono ?_
  rintro e w5 ⟨d1, rfl, _, x5, k5⟩
  have X5 := Lib.hid x5
  have Y5 := Lib.hid ((Y3.out.kept k4 (fun h => h) (fun h => h)).kept k5 (fun h => by have : by' = gx := h; omega) (fun h => by have : gy = gx := h; omega))
  have T5 := Lib.hid ((T3.out.kept k4 (fun h => h) (fun h => h)).kept k5 (fun h => by have : bt = gx := h; omega) (fun h => by have : gt = gx := h; omega))
  have K5 := Lib.hid ((K3.out.abt k4.ofNob).abt (k5.ofIb (by omega)))
  have z5 := k5.size
  clear x5
  -- x.Or(of(n, c))
  go_wp2_with fail
  refine (OC.out w5 K5.out.toNob).mono ?_
  rintro e w6 ⟨b6, g6, rfl, s6, k6, q6, r6⟩
  have S6 := Lib.hid s6
  have z6 := k6.size
  clear s6
  go_wp2_with fail
  refine (or_any (X5.out.kept k6 (fun h => h) (fun h => h)) S6.out).mono ?_
  rintro e w7 ⟨d2, rfl, _, x7, k7⟩
  have X7 := Lib.hid x7
  have Y7 := Lib.hid ((Y5.out.kept k6 (fun h => h) (fun h => h)).kept k7 (fun h => by have : by' = gx := h; omega) (fun h => by have : gy = gx := h; omega))
  have T7 := Lib.hid ((T5.out.kept k6 (fun h => h) (fun h => h)).kept k7 (fun h => by have : bt = gx := h; omega) (fun h => by have : gt = gx := h; omega))
  have K7 := Lib.hid ((K5.out.abt k6.ofNob).abt (k7.ofIb (by omega)))
  have z7 := k7.size
  clear x7
  -- y.Or(of(n, b))
  go_wp2_with fail
  refine (OB.out w7 K7.out.toNob).mono ?_
  rintro e w8 ⟨b8, g8, rfl, s8, k8, q8, r8⟩
  have S8 := Lib.hid s8
  have z8 := k8.size
  clear s8
  go_wp2_with fail
  refine (or_any (Y7.out.kept k8 (fun h => h) (fun h => h)) S8.out).mono ?_
  rintro e w9 ⟨d3, rfl, _, y9, k9⟩
  have Y9 := Lib.hid y9
  have X9 := Lib.hid ((X7.out.kept k8 (fun h => h) (fun h => h)).kept k9 (fun h => by have : bx = gy := h; omega) (fun h => by have : gx = gy := h; omega))
  have T9 := Lib.hid ((T7.out.kept k8 (fun h => h) (fun h => h)).kept k9 (fun h => by have : bt = gy := h; omega) (fun h => by have : gt = gy := h; omega))
  have K9 := Lib.hid ((K7.out.abt k8.ofNob).abt (k9.ofIb (by omega)))
  have z9 := k9.size
  clear y9
  -- y.Or(of(n, a))
  go_wp2_with fail
  refine (OA.out w9 K9.out.toNob).mono ?_
  rintro e w10 ⟨b10, g10, rfl, s10, k10, q10, r10⟩
  have S10 := Lib.hid s10
  have z10 := k10.size
  clear s10
  go_wp2_with fail
  refine (or_any (Y9.out.kept k10 (fun h => h) (fun h => h)) S10.out).mono ?_
  rintro e w11 ⟨d4, rfl, _, y11, k11⟩
  have Y11 := Lib.hid y11
  have X11 := Lib.hid ((X9.out.kept k10 (fun h => h) (fun h => h)).kept k11 (fun h => by have : bx = gy := h; omega) (fun h => by have : gx = gy := h; omega))
  have T11 := Lib.hid ((T9.out.kept k10 (fun h => h) (fun h => h)).kept k11 (fun h => by have : bt = gy := h; omega) (fun h => by have : gt = gy := h; omega))
  have K11 := Lib.hid ((K9.out.abt k10.ofNob).abt (k11.ofIb (by omega)))
  have z11 := k11.size
  clear y11
  -- again := x.Or(of(n, a))
  go_wp2_with fail
  refine (OA.out w11 K11.out.toNob).mono ?_
  rintro e w12 ⟨b12, g12, rfl, s12, k12, q12, r12⟩
  have S12 := Lib.hid s12
  have z12 := k12.size
  clear s12
  go_wp2_with fail
  refine (or_any (X11.out.kept k12 (fun h => h) (fun h => h)) S12.out).mono ?_
  rintro e w13 ⟨d5, rfl, hd5, x13, k13⟩
  obtain rfl : d5 = false := by
    cases d5 with
    | false => rfl
    | true =>
      obtain ⟨j, h1, h2, h3⟩ := hd5.1 rfl
      simp [orf, h2, h1] at h3
  clear hd5
  have X13 := Lib.hid x13
  have Y13 := Lib.hid ((Y11.out.kept k12 (fun h => h) (fun h => h)).kept k13 (fun h => by have : by' = gx := h; omega) (fun h => by have : gy = gx := h; omega))
  have T13 := Lib.hid ((T11.out.kept k12 (fun h => h) (fun h => h)).kept k13 (fun h => by have : bt = gx := h; omega) (fun h => by have : gt = gx := h; omega))
  have K13 := Lib.hid ((K11.out.abt k12.ofNob).abt (k13.ofIb (by omega)))
  have z13 := k13.size
  clear x13
  -- Same(x, y)
  have hle := X13.out.le
  have hzA : ∀ j, R ≤ j → A j = false := X1.out.zero
  have hzB : ∀ j, R ≤ j → B j = false := S4.out.zero
  have hzC : ∀ j, R ≤ j → C j = false := Y2.out.zero
  have hs1 := same_any (.pointer (some ⟨bx, 0, none⟩)) (.pointer (some ⟨by', 0, none⟩)) _ _ w13 (fun w' hk => list_any (X13.out.kept hk (fun h => h) (fun h => h))) (fun w' hk => list_any (Y13.out.kept hk (fun h => h) (fun h => h))) (by have := lst_len R (orf R (orf R (orf R A B) C) A); omega) (by have := lst_len R (orf R (orf R C B) A); omega)
  rw [decide_eq_true (lst_congr R _ _ (fun j hj => by unfold orf; cases A j <;> cases B j <;> cases C j <;> simp [hj]))] at hs1
  have HS1 := Lib.hid hs1
  clear hs1 hzA hzB hzC
  go_wp2_with fail
  refine HS1.out.mono ?_
  rintro e w14 ⟨rfl, k14⟩
  have X14 := Lib.hid (X13.out.kept k14 (fun h => h) (fun h => h))
  have T14 := Lib.hid (T13.out.kept k14 (fun h => h) (fun h => h))
  have K14 := Lib.hid (K13.out.abt k14.ofNob)
  have z14 := k14.size
  -- Same(t, of(n, a))
  go_wp2_with fail
  refine (OA.out w14 K14.out.toNob).mono ?_
  rintro e w15 ⟨b15, g15, rfl, s15, k15, q15, r15⟩
  have S15 := Lib.hid s15
  have X15 := Lib.hid (X14.out.kept k15 (fun h => h) (fun h => h))
  have T15 := Lib.hid (T14.out.kept k15 (fun h => h) (fun h => h))
  have K15 := Lib.hid (K14.out.abt k15.ofNob)
  clear s15
  have hs2 := same_any (.pointer (some ⟨bt, 0, none⟩)) (.pointer (some ⟨b15, 0, none⟩)) _ _ w15 (fun w' hk => list_any (T15.out.kept hk (fun h => h) (fun h => h))) (fun w' hk => list_any (S15.out.kept hk (fun h => h) (fun h => h))) (by have := lst_len R A; omega) (by have := lst_len R A; omega)
  rw [decide_eq_true rfl] at hs2
  have HS2 := Lib.hid hs2
  clear hs2
  go_wp2_with fail
  refine HS2.out.mono ?_
  rintro e w16 ⟨rfl, k16⟩
  have X16 := Lib.hid (X15.out.kept k16 (fun h => h) (fun h => h))
  have T16 := Lib.hid (T15.out.kept k16 (fun h => h) (fun h => h))
  have K16 := Lib.hid (K15.out.abt k16.ofNob)
  go_wp2_with fail
  refine (count_any X16.out).mono ?_
  rintro e w17 ⟨rfl, k17⟩
  have T17 := Lib.hid (T16.out.kept k17 (fun h => h) (fun h => h))
  have K17 := Lib.hid (K16.out.abt k17.ofNob)
  go_wp2_with fail
  refine (count_any T17.out).mono ?_
  rintro e w18 ⟨rfl, k18⟩
  have K18 := Lib.hid (K17.out.abt k18.ofNob)
  have hm := lst_mono R A (orf R (orf R (orf R A B) C) A) (fun j hj => by simp [orf, hj])
  go_wp2_with fail
  refine (bawake _).mono ?_
  rintro e w19 ⟨rfl, k19⟩
  go_wp2
  go_ret
  exact ⟨rfl, (K18.out.abt k19.ofNob).toNob⟩

end Go.Proofs.Ythncceffgncagaa

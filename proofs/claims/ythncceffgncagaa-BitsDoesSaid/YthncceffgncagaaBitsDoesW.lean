/-
  What is proved: the walk of BitsDoes: it returns true and leaves old memory as it was. Conditions: the list of calls reads as it does in any call.
-/
import Derived.Test.YthncceffgncagaaRef
import Derived.Test.YthncceffgncagaaBitsUnitesW
import Derived.Deep.RegionHeld3
import Derived.Deep.CutBlock
set_option linter.unusedVariables false
set_option linter.unusedSimpArgs false
namespace Go.Proofs.Ythncceffgncagaa
open Go.RowKit

theorem Kept.cell {S : Nat → Prop} {w w' : World} (h : Kept S w w') {a : Addr} {v : Value} (hc : w.cell? a = some v) (hs : ¬ S a.block) : w'.cell? a = some v :=
  (World.cell?_of_block (h.block a.block (World.block_lt_of_cell? w a hc) hs)).trans hc

/-- The two sets and the document's two. -/
structure Four (bs gs bt gt bx gx by' gy R M : Nat) (fs ft : Nat → Bool) (w : World) : Prop where
  s : SetAt w bs gs R fs
  t : SetAt w bt gt M ft
  x : RefAt w bx gx R fs
  y : RefAt w by' gy M ft
structure Apart4 (B : Nat) (bs gs bt gt bx gx by' gy : Nat) : Prop where
  h1 : B ≤ bs ∧ B ≤ gs ∧ B ≤ bt ∧ B ≤ gt ∧ B ≤ bx ∧ B ≤ gx ∧ B ≤ by' ∧ B ≤ gy
  h2 : gs ≠ bt ∧ gs ≠ gt ∧ gs ≠ bx ∧ gs ≠ gx ∧ gs ≠ by' ∧ gs ≠ gy
  h3 : gt ≠ bs ∧ gt ≠ gs ∧ gt ≠ bx ∧ gt ≠ gx ∧ gt ≠ by' ∧ gt ≠ gy
  h4 : gx ≠ bs ∧ gx ≠ gs ∧ gx ≠ bt ∧ gx ≠ gt ∧ gx ≠ by' ∧ gx ≠ gy
  h5 : gy ≠ bs ∧ gy ≠ gs ∧ gy ≠ bt ∧ gy ≠ gt ∧ gy ≠ bx ∧ gy ≠ gx
def Rd2 (w : World) (a : Option Addr) (xs : List (Int × Int)) : Prop :=
  xs = [] ∨ ∃ b o, a = some ⟨b, o, none⟩ ∧ ∀ j, j < xs.length → w.cell? ⟨b, o + j * 2, none⟩ = some (.int .i64 (xs.getD j (0, 0)).1) ∧ w.cell? ⟨b, o + j * 2 + 1, none⟩ = some (.int .i64 (xs.getD j (0, 0)).2)
def Cut4 (w : World) (bs gs bt gt bx gx by' gy R M : Nat) (a b : Value) (wc : World) : Prop :=
  ∃ r fs ft, a = .bool r ∧ b = .bool r ∧ Hid (Four bs gs bt gt bx gx by' gy R M fs ft wc) ∧ Kept nob w wc

theorem Four.step_s {B bs gs bt gt bx gx by' gy R M : Nat} {fs ft fs' : Nat → Bool} {w0 w1 w2 w3 : World} (hap : Apart4 B bs gs bt gt bx gx by' gy) (h : Four bs gs bt gt bx gx by' gy R M fs ft w0) (k0 : Kept nob w0 w1) (k1 : Kept (ib gs) w1 w2) (k2 : Kept (ib gx) w2 w3)
    (hs : SetAt w2 bs gs R fs') (hx : RefAt w3 bx gx R fs') : Four bs gs bt gt bx gx by' gy R M fs' ft w3 := by
  exact ⟨hs.kept k2 (fun e => hap.h4.1 (Eq.symm e)) (fun e => hap.h2.2.2.2.1 e),
    ((h.t.kept k0 (fun e => e) (fun e => e)).kept k1 (fun e => hap.h2.1 (Eq.symm e)) (fun e => hap.h2.2.1 (Eq.symm e))).kept k2 (fun e => hap.h4.2.2.1 (Eq.symm e)) (fun e => hap.h4.2.2.2.1 (Eq.symm e)), hx,
    ((h.y.kept k0 (fun e => e) (fun e => e)).kept k1 (fun e => hap.h2.2.2.2.2.1 (Eq.symm e)) (fun e => hap.h2.2.2.2.2.2 (Eq.symm e))).kept k2 (fun e => hap.h4.2.2.2.2.1 (Eq.symm e)) (fun e => hap.h4.2.2.2.2.2 (Eq.symm e))⟩
theorem Four.step_t {B bs gs bt gt bx gx by' gy R M : Nat} {fs ft ft' : Nat → Bool} {w0 w1 w2 w3 : World} (hap : Apart4 B bs gs bt gt bx gx by' gy) (h : Four bs gs bt gt bx gx by' gy R M fs ft w0) (k0 : Kept nob w0 w1) (k1 : Kept (ib gt) w1 w2) (k2 : Kept (ib gy) w2 w3)
    (hs : SetAt w2 bt gt M ft') (hx : RefAt w3 by' gy M ft') : Four bs gs bt gt bx gx by' gy R M fs ft' w3 := by
  exact ⟨((h.s.kept k0 (fun e => e) (fun e => e)).kept k1 (fun e => hap.h3.1 (Eq.symm e)) (fun e => hap.h3.2.1 (Eq.symm e))).kept k2 (fun e => hap.h5.1 (Eq.symm e)) (fun e => hap.h5.2.1 (Eq.symm e)),
    hs.kept k2 (fun e => hap.h5.2.2.1 (Eq.symm e)) (fun e => hap.h5.2.2.2.1 (Eq.symm e)),
    ((h.x.kept k0 (fun e => e) (fun e => e)).kept k1 (fun e => hap.h3.2.2.1 (Eq.symm e)) (fun e => hap.h3.2.2.2.1 (Eq.symm e))).kept k2 (fun e => hap.h5.2.2.2.2.1 (Eq.symm e)) (fun e => hap.h5.2.2.2.2.2 (Eq.symm e)), hx⟩
theorem Kept.two {w w0 w1 w2 w3 : World} {g1 g2 : Nat} (h : Kept nob w w0) (k0 : Kept nob w0 w1) (k1 : Kept (ib g1) w1 w2) (k2 : Kept (ib g2) w2 w3) (h1 : w.heap.size ≤ g1) (h2 : w.heap.size ≤ g2) : Kept nob w w3 :=
  ((h.trans k0 (fun _ _ e => e)).trans k1 (fun i hi e => by simp only [ib] at e; omega)).trans k2 (fun i hi e => by simp only [ib] at e; omega)
theorem Four.kept {bs gs bt gt bx gx by' gy R M : Nat} {fs ft : Nat → Bool} {w w' : World} (h : Four bs gs bt gt bx gx by' gy R M fs ft w) (k : Kept nob w w') : Four bs gs bt gt bx gx by' gy R M fs ft w' :=
  ⟨h.s.kept k (fun e => e) (fun e => e), h.t.kept k (fun e => e) (fun e => e), h.x.kept k (fun e => e) (fun e => e), h.y.kept k (fun e => e) (fun e => e)⟩

theorem eqi_refl (xs : List Int) : eqi xs xs = true := by unfold eqi; simp
theorem eqi_nat (xs ys : List Nat) : eqi (xs.map fun (x : Nat) => (x : Int)) (ys.map fun (x : Nat) => (x : Int)) = decide (xs = ys) := by
  unfold eqi
  congr 1
  apply propext
  constructor
  · intro h
    exact (List.map_inj_right (fun x y hxy => by omega)).1 h
  · intro h; rw [h]
theorem ints_two {w : World} {a1 a2 : Option Addr} {xs ys : List Nat} (h1 : Rd w a1 (ivals xs)) (h2 : Rd w a2 (ivals ys)) (hx : xs.length ≤ 4096) (hy : ys.length ≤ 4096) (c1 c2 : Nat) :
    Calls Try.prog 41 #[.slice a1 xs.length c1, .slice a2 ys.length c2] w fun e w' => e = .returned (.bool (decide (xs = ys))) ∧ Kept nob w w' := by
  rw [ivals_iv] at h1 h2
  have := ints_any a1 a2 c1 c2 _ _ w h1 h2 (by simp; omega) (by simp; omega)
  simp only [List.length_map, eqi_nat] at this
  exact this
theorem ints_same {w : World} {a1 a2 : Option Addr} {xs : List Nat} (h1 : Rd w a1 (ivals xs)) (h2 : Rd w a2 (ivals xs)) (hx : xs.length ≤ 4096) (c1 c2 : Nat) :
    Calls Try.prog 41 #[.slice a1 xs.length c1, .slice a2 xs.length c2] w fun e w' => e = .returned (.bool true) ∧ Kept nob w w' := by
  have := ints_two h1 h2 hx hx c1 c2
  rwa [decide_eq_true rfl] at this

set_option maxHeartbeats 4000000 in
set_option maxRecDepth 100000 in
theorem bitsDoes_walk (w : World) (n : Int) (hn : -9223372036854775808 ≤ n ∧ n ≤ 9223372036854775807) (m : Int) (hm : -9223372036854775808 ≤ m ∧ m ≤ 9223372036854775807) (a : Option Addr) (cap : Nat) (xs : List (Int × Int)) (hx : Rd2 w a xs) (hlx : xs.length ≤ 9223372036854775807) (hrg : ∀ j, j < xs.length → (xs.getD j (0, 0)).2 ≤ 9223372036854775807) :
    Calls Try.prog 7 #[.int .i64 n, .int .i64 m, .slice a xs.length cap] w (RetT w) := by
  obtain ⟨R, hR⟩ : ∃ R, R = roomOf n := ⟨_, rfl⟩
  obtain ⟨M, hM⟩ : ∃ M, M = roomOf m := ⟨_, rfl⟩
  have HX := Lib.hid hx
  have HRG := Lib.hid hrg
  have HR := Lib.hid hR
  have HM := Lib.hid hM
  clear hx hrg hR hM
  go_enter Try.func7, Try.ntmps7
  go_wp2_with fail
  refine (new_set n w).mono ?_
  rintro e w1 ⟨bs, gs, rfl, s1, k1, q1, r1⟩
  have ls := s1.lt
  have z1 := k1.size
  have S1 := Lib.hid s1
  clear s1
  go_wp2_with fail
  refine (new_set m w1).mono ?_
  rintro e w2 ⟨bt, gt, rfl, t2, k2, q2, r2⟩
  have lt2 := t2.lt
  have z2 := k2.size
  have T2 := Lib.hid t2
  clear t2
  go_wp2_with fail
  refine (rnew_set n w2).mono ?_
  rintro e w3 ⟨bx, gx, rfl, x3, k3, q3, r3⟩
  have lx := x3.lt
  have z3 := k3.size
  have X3 := Lib.hid x3
  clear x3
  go_wp2_with fail
  refine (rnew_set m w3).mono ?_
  rintro e w4 ⟨by', gy, rfl, y4, k4, q4, r4⟩
  have ly := y4.lt
  have z4 := k4.size
  have ny := y4.ne
  have F4 : Hid (Four bs gs bt gt bx gx by' gy R M (fun _ => false) (fun _ => false) w4) := by
    rw [HR.out, HM.out]
    exact ⟨((S1.out.kept k2 (fun h => h) (fun h => h)).kept k3 (fun h => h) (fun h => h)).kept k4 (fun h => h) (fun h => h), (T2.out.kept k3 (fun h => h) (fun h => h)).kept k4 (fun h => h) (fun h => h), X3.out.kept k4 (fun h => h) (fun h => h), y4⟩
  have nx := X3.out.ne
  have hap : Apart4 w.heap.size bs gs bt gt bx gx by' gy := by constructor <;> omega
  have K4 : Kept nob w w4 := ((k1.trans k2 (fun _ _ h => h)).trans k3 (fun _ _ h => h)).trans k4 (fun _ _ h => h)
  have HAP := Lib.hid hap
  clear y4 S1 T2 X3 hap k1 k2 k3 k4 q1 q2 q3 q4 r1 r2 r3 r4 z1 z2 z3 z4 ls lt2 lx ly ny nx
  go_wp2
  go_loopw [11] (fun i wr => ∃ (k : Nat) (fs ft : Nat → Bool), i = .int .i64 (k : Int) ∧ k ≤ 60 ∧ Hid (Four bs gs bt gt bx gx by' gy R M fs ft wr) ∧ Kept nob w wr) (fun i _ => 61 - (intOf i).toNat)
  case atStart => exact ⟨0, _, _, rfl, by omega, F4, K4⟩
  case round =>
    obtain ⟨k, fs, ft, rfl, hk60, hF, hK⟩ := hrel
    by_cases hlt : k < xs.length ∧ k < 60
    · obtain ⟨hl1, hl2⟩ := hlt
      rcases HX.out with h | ⟨bb, o, rfl, hcs⟩
      · rw [h] at hl1; simp at hl1
      have hd0 := hK.cell (hcs k hl1).1 (fun h => h)
      have hd1 := hK.cell (hcs k hl1).2 (fun h => h)
      have hbb := World.block_lt_of_cell? w _ (hcs k hl1).1
      have hyr := HRG.out k hl1
      obtain ⟨x, hxx⟩ : ∃ x, x = (xs.getD k (0, 0)).1 := ⟨_, rfl⟩
      obtain ⟨y, hyy⟩ : ∃ y, y = (xs.getD k (0, 0)).2 := ⟨_, rfl⟩
      rw [← hxx] at hd0
      rw [← hyy] at hd1 hyr
      have HCS := Lib.hid hcs
      have HYY := Lib.hid hyy
      clear hxx hyy hcs
      go_upto_block 2 with (fail)
      go_cut [12, 13] (fun a b wc => Cut4 w bs gs bt gt bx gx by' gy R M a b wc)
      case first =>
        have hb1 : bb ≠ gs ∧ bb ≠ gt ∧ bb ≠ gx ∧ bb ≠ gy := by have := HAP.out.h1; have hbb' : bb < w.heap.size := hbb; omega
        have hg := HAP.out.h1
        by_cases e0 : x = 0
        · subst e0
          go_wp2
          go_region_held3 (fun w' => w'.cell? ⟨bb, o + k * 2 + 1, none⟩ = some (.int .i64 y)) (first | exact hd1 | exact Kept.cell hk1 ‹_› hb1.1 | exact Kept.cell hk2 ‹_› hb1.2.2.1)
            (first | (go_at_call 28; refine (put_any (hF.out.s.kept (Kept.drew _ nob) (fun h => h) (fun h => h)) y).mono ?_; rintro e w5 ⟨rfl, hs5, hk1, _⟩) | (go_at_call 29; refine (rput_any ((hF.out.x.kept (Kept.drew _ nob) (fun h => h) (fun h => h)).kept hk1 (fun h => HAP.out.h2.2.2.1 (Eq.symm h)) (fun h => HAP.out.h2.2.2.2.1 (Eq.symm h))) y).mono ?_; rintro e w6 ⟨rfl, hs6, hk2, _⟩))
          go_wp2
          go_meet
          exact ⟨_, _, _, rfl, rfl, HAP.out |> fun hap => Four.step_s hap hF.out (Kept.drew _ nob) hk1 hk2 hs5 hs6, Kept.two hK (Kept.drew _ nob) hk1 hk2 hg.2.1 hg.2.2.2.2.2.1⟩
        · have f0 : (x == 0) = false := by simpa using e0
          by_cases e1 : x = 1
          · subst e1
            clear e0 f0
            go_wp2
            go_region_held3 (fun w' => w'.cell? ⟨bb, o + k * 2 + 1, none⟩ = some (.int .i64 y)) (first | exact hd1 | exact Kept.cell hk1 ‹_› hb1.1 | exact Kept.cell hk2 ‹_› hb1.2.2.1)
              (first | (go_at_call 30; refine (drop_any (hF.out.s.kept (Kept.drew _ nob) (fun h => h) (fun h => h)) y).mono ?_; rintro e w5 ⟨rfl, hs5, hk1, _⟩) | (go_at_call 31; refine (rdrop_any ((hF.out.x.kept (Kept.drew _ nob) (fun h => h) (fun h => h)).kept hk1 (fun h => HAP.out.h2.2.2.1 (Eq.symm h)) (fun h => HAP.out.h2.2.2.2.1 (Eq.symm h))) y).mono ?_; rintro e w6 ⟨rfl, hs6, hk2, _⟩))
            go_wp2
            go_meet
            exact ⟨_, _, _, rfl, rfl, HAP.out |> fun hap => Four.step_s hap hF.out (Kept.drew _ nob) hk1 hk2 hs5 hs6, Kept.two hK (Kept.drew _ nob) hk1 hk2 hg.2.1 hg.2.2.2.2.2.1⟩
          · have f1 : (x == 1) = false := by simpa using e1
            by_cases e2 : x = 2
            · subst e2
              clear e0 e1 f0 f1
              go_wp2_with fail
              refine (or_any hF.out.s hF.out.t).mono ?_
              rintro e w5 ⟨c1, rfl, hc1, hs5, hk1⟩
              have HC1 := Lib.hid hc1
              clear hc1
              go_wp2_with fail
              refine (ror_any (hF.out.x.kept hk1 (fun h => HAP.out.h2.2.2.1 (Eq.symm h)) (fun h => HAP.out.h2.2.2.2.1 (Eq.symm h))) (hF.out.y.kept hk1 (fun h => HAP.out.h2.2.2.2.2.1 (Eq.symm h)) (fun h => HAP.out.h2.2.2.2.2.2 (Eq.symm h))) (Ne.symm HAP.out.h4.2.2.2.2.1) (Ne.symm HAP.out.h4.2.2.2.2.2)).mono ?_
              rintro e w6 ⟨c2, rfl, hc2, hs6, hk2⟩
              obtain rfl : c1 = c2 := by rw [Bool.eq_iff_iff, HC1.out, hc2]
              clear hc2
              go_wp2
              go_meet
              exact ⟨_, _, _, rfl, rfl, HAP.out |> fun hap => Four.step_s hap hF.out (Kept.refl nob _) hk1 hk2 hs5 hs6, Kept.two hK (Kept.refl nob _) hk1 hk2 hg.2.1 hg.2.2.2.2.2.1⟩
            · have f2 : (x == 2) = false := by simpa using e2
              by_cases e3 : x = 3
              · subst e3
                clear e0 e1 e2 f0 f1 f2
                go_wp2
                go_region_held3 (fun w' => w'.cell? ⟨bb, o + k * 2 + 1, none⟩ = some (.int .i64 y)) (first | exact hd1 | exact Kept.cell hk1 ‹_› hb1.2.1 | exact Kept.cell hk2 ‹_› hb1.2.2.2)
                  (first | (go_at_call 28; refine (put_any (hF.out.t.kept (Kept.drew _ nob) (fun h => h) (fun h => h)) y).mono ?_; rintro e w5 ⟨rfl, hs5, hk1, _⟩) | (go_at_call 29; refine (rput_any ((hF.out.y.kept (Kept.drew _ nob) (fun h => h) (fun h => h)).kept hk1 (fun h => HAP.out.h3.2.2.2.2.1 (Eq.symm h)) (fun h => HAP.out.h3.2.2.2.2.2 (Eq.symm h))) y).mono ?_; rintro e w6 ⟨rfl, hs6, hk2, _⟩))
                go_wp2
                go_meet
                exact ⟨_, _, _, rfl, rfl, HAP.out |> fun hap => Four.step_t hap hF.out (Kept.drew _ nob) hk1 hk2 hs5 hs6, Kept.two hK (Kept.drew _ nob) hk1 hk2 hg.2.2.2.1 hg.2.2.2.2.2.2.2⟩
              · have f3 : (x == 3) = false := by simpa using e3
                clear e0 e1 e2 e3
                go_wp2
                go_meet
                exact ⟨_, _, _, rfl, rfl, hF, hK⟩
      case rest =>
        obtain ⟨r, fs', ft', rfl, rfl, hF', hK'⟩ := hcut
        have hd2 := hK'.cell (HCS.out k hl1).2 (fun h => h)
        rw [← HYY.out] at hd2
        have KW := Lib.hid (Kept.refl nob wc)
        go_wp2
        go_region_held3 (fun w' => w'.cell? ⟨bb, o + k * 2 + 1, none⟩ = some (.int .i64 y) ∧ Kept nob wc w') (first | exact ⟨hd2, Kept.drew _ _⟩ | exact ⟨‹_ ∧ Kept nob wc _›.2.cell hd2 (fun h => h), ‹_ ∧ Kept nob wc _›.2⟩ | exact ⟨(Kept.trans ‹_ ∧ Kept nob wc _›.2 hkm (fun _ _ h => h)).cell hd2 (fun h => h), Kept.trans ‹_ ∧ Kept nob wc _›.2 hkm (fun _ _ h => h)⟩)
          (first | (go_at_call 33; refine (has_any (hF'.out.kept ‹_ ∧ Kept nob wc _›.2).s y).mono ?_; rintro e w5 ⟨rfl, rfl⟩) | (go_at_call 34; refine (rhas_any (hF'.out.kept ‹_ ∧ Kept nob wc _›.2).x y).mono ?_; rintro e w5 ⟨rfl, rfl⟩) | (go_at_call 35; refine (next_any (hF'.out.kept ‹_ ∧ Kept nob wc _›.2).s y hyr).mono ?_; rintro e w5 ⟨r1, rfl, hr1, rfl⟩) | (go_at_call 36; refine (rnext_any (hF'.out.kept ‹_ ∧ Kept nob wc _›.2).x y hyr).mono ?_; rintro e w5 ⟨r2, rfl, hr2, rfl⟩; obtain rfl := hr1.uniq hr2) | (go_at_call 37; refine (meet_any (hF'.out.kept ‹_ ∧ Kept nob wc _›.2).s (hF'.out.kept ‹_ ∧ Kept nob wc _›.2).t).mono ?_; rintro e w5 ⟨c1, rfl, hc1, hkm⟩) | (go_at_call 38; refine (rmeet_any (hF'.out.kept ‹_ ∧ Kept nob wc _›.2).x (hF'.out.kept ‹_ ∧ Kept nob wc _›.2).y).mono ?_; rintro e w5 ⟨c2, rfl, hc2, rfl⟩; obtain rfl : c1 = c2 := by rw [Bool.eq_iff_iff, hc1, hc2]))
        go_wp2
        go_roundw
        case rel => exact ⟨k + 1, fs', ft', by go_num, by omega, (hF'.out.kept ‹_ ∧ Kept nob wc _›.2), hK'.trans ‹_ ∧ Kept nob wc _›.2 (fun _ _ h => h)⟩
        case measure => simp [intOf]; omega
    · have hd : k < xs.length → 60 ≤ k := by omega
      have HD := Lib.hid hd
      clear hd hlt
      have hle := hF.out.s.le
      have hle2 := hF.out.t.le
      have hl1 := lst_len R fs
      have hl2 := lst_len M ft
      rcases Nat.lt_or_ge k xs.length with hl | hl
      case' inl => have h60 := HD.out hl
      all_goals
        go_wp2_with fail
        refine (room_set hF.out.s).mono ?_
        rintro e w5 ⟨rfl, rfl⟩
        go_wp2_with fail
        refine (rroom_any hF.out.x).mono ?_
        rintro e w5 ⟨rfl, rfl⟩
        -- the first two lists
        go_wp2_with fail
        refine (list_any hF.out.s).mono ?_
        intro e w5 hrow
        obtain ⟨p1, d1, rfl, r1, j1, _⟩ := retRow_rd hrow
        have F5 := Lib.hid (hF.out.kept j1)
        have R1 := Lib.hid r1
        clear r1 hrow
        go_wp2_with fail
        refine (rlist_any F5.out.x).mono ?_
        intro e w6 hrow
        obtain ⟨p2, d2, rfl, r2, j2, _⟩ := retRow_rd hrow
        have F6 := Lib.hid (F5.out.kept j2)
        have hi := ints_same (R1.out.kept j2 (fun _ _ _ h => h)) r2 (by omega) d1 d2
        have HI := Lib.hid hi
        rw [ivals_len]
        clear r2 hrow R1 hi
        go_wp2_with fail
        refine HI.out.mono ?_
        rintro e w7 ⟨rfl, j3⟩
        have F7 := Lib.hid (F6.out.kept j3)
        -- the other two
        go_wp2_with fail
        refine (list_any F7.out.t).mono ?_
        intro e w8 hrow
        obtain ⟨p3, d3, rfl, r3, j4, _⟩ := retRow_rd hrow
        have F8 := Lib.hid (F7.out.kept j4)
        have R3 := Lib.hid r3
        clear r3 hrow
        go_wp2_with fail
        refine (rlist_any F8.out.y).mono ?_
        intro e w9 hrow
        obtain ⟨p4, d4, rfl, r4, j5, _⟩ := retRow_rd hrow
        have F9 := Lib.hid (F8.out.kept j5)
        have hi := ints_same (R3.out.kept j5 (fun _ _ _ h => h)) r4 (by omega) d3 d4
        have HI2 := Lib.hid hi
        rw [ivals_len]
        clear r4 hrow R3 hi
        go_wp2_with fail
        refine HI2.out.mono ?_
        rintro e w10 ⟨rfl, j6⟩
        have F10 := Lib.hid (F9.out.kept j6)
        -- how many
        go_wp2_with fail
        refine (count_any F10.out.s).mono ?_
        rintro e w11 ⟨rfl, j7⟩
        have F11 := Lib.hid (F10.out.kept j7)
        go_wp2_with fail
        refine (rlist_any F11.out.x).mono ?_
        intro e w12 hrow
        obtain ⟨p5, d5, rfl, _, j8, _⟩ := retRow_rd hrow
        have F12 := Lib.hid (F11.out.kept j8)
        rw [ivals_len]
        clear hrow
        -- the same?
        have hsm := same_any (.pointer (some ⟨bs, 0, none⟩)) (.pointer (some ⟨bt, 0, none⟩)) _ _ w12 (fun w' hk => list_any (F12.out.kept hk).s) (fun w' hk => list_any (F12.out.kept hk).t) (by omega) (by omega)
        have HSM := Lib.hid hsm
        clear hsm
        go_wp2_with fail
        refine HSM.out.mono ?_
        rintro e w13 ⟨rfl, j9⟩
        have F13 := Lib.hid (F12.out.kept j9)
        go_wp2_with fail
        refine (rlist_any F13.out.x).mono ?_
        intro e w14 hrow
        obtain ⟨p6, d6, rfl, r6, j10, _⟩ := retRow_rd hrow
        have F14 := Lib.hid (F13.out.kept j10)
        have R6 := Lib.hid r6
        clear r6 hrow
        go_wp2_with fail
        refine (rlist_any F14.out.y).mono ?_
        intro e w15 hrow
        obtain ⟨p7, d7, rfl, r7, j11, _⟩ := retRow_rd hrow
        have hi := ints_two (R6.out.kept j11 (fun _ _ _ h => h)) r7 (by omega) (by omega) d6 d7
        have HI3 := Lib.hid hi
        rw [ivals_len, ivals_len]
        clear r7 hrow R6 hi
        go_wp2_with fail
        refine HI3.out.mono ?_
        rintro e w16 ⟨rfl, j12⟩
        go_wp2_with fail
        refine (bawake _).mono ?_
        rintro e w17 ⟨rfl, j13⟩
        go_wp2
        go_ret
        exact ⟨rfl, ((((((((((((hK.trans j1 (fun _ _ h => h)).trans j2 (fun _ _ h => h)).trans j3 (fun _ _ h => h)).trans j4 (fun _ _ h => h)).trans j5 (fun _ _ h => h)).trans j6 (fun _ _ h => h)).trans j7 (fun _ _ h => h)).trans j8 (fun _ _ h => h)).trans j9 (fun _ _ h => h)).trans j10 (fun _ _ h => h)).trans j11 (fun _ _ h => h)).trans j12 (fun _ _ h => h)).trans j13 (fun _ _ h => h)⟩

end Go.Proofs.Ythncceffgncagaa

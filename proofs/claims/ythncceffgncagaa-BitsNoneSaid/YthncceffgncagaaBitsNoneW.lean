/-
  What is proved: the walk of BitsNone: it returns true and leaves old memory as it was, for all two ints. No condition.
-/
import Derived.Test.YthncceffgncagaaBawake
import Derived.Lib.MinMax
set_option linter.unusedVariables false
set_option linter.unusedSimpArgs false
namespace Go.Proofs.Ythncceffgncagaa
open Go.RowKit

set_option maxHeartbeats 2000000 in
theorem bitsNone_walk (i n : Int) (hi : i ≤ 9223372036854775807) (w : World) : Calls Try.prog 8 #[.int .i64 i, .int .i64 n] w (RetT w) := by
  obtain ⟨R, hR⟩ : ∃ R, R = roomOf n := ⟨_, rfl⟩
  have hRn : (R : Int) = min (max n 0) 4096 := by rw [hR]; unfold roomOf; omega
  have HR := Lib.hid hRn
  have HR2 := Lib.hid hR
  clear hR hRn
  go_enter Try.func8, Try.ntmps8
  go_wp2_with fail
  refine (new_set n w).mono ?_
  rintro e w1 ⟨b, g, rfl, h1, k1, hb, hg⟩
  rw [← HR2.out] at h1
  have H1 := Lib.hid h1
  clear h1
  go_wp2_with fail
  refine (put_nil _ _).mono ?_
  rintro e w2 ⟨rfl, rfl⟩
  go_wp2_with fail
  refine (drop_nil _ _).mono ?_
  rintro e w3 ⟨rfl, rfl⟩
  go_wp2_with fail
  refine (has_nil _ _).mono ?_
  rintro e w3 ⟨rfl, rfl⟩
  go_wp2_with fail
  refine (or_nil H1.out).mono ?_
  rintro e w2 ⟨rfl, k2⟩
  have H2 := Lib.hid (H1.out.kept k2 (fun h => h) (fun h => h))
  go_wp2_with fail
  refine (meet_nil H2.out).mono ?_
  rintro e w3 ⟨rfl, k3⟩
  have H3 := Lib.hid (H2.out.kept k3 (fun h => h) (fun h => h))
  go_wp2_with fail
  refine (or_none _ _ _ (room_set H3.out)).mono ?_
  rintro e w4 ⟨rfl, rfl⟩
  go_wp2_with fail
  refine (meet_none _ _ _ (room_set H3.out)).mono ?_
  rintro e w4 ⟨rfl, rfl⟩
  go_wp2_with fail
  refine (count_nil _).mono ?_
  rintro e w4 ⟨rfl, k4⟩
  go_wp2_with fail
  refine (room_nil _).mono ?_
  rintro e w5 ⟨rfl, rfl⟩
  go_wp2_with fail
  refine (list_nil _).mono ?_
  rintro e w5 ⟨a, cap, rfl, ho, k5⟩
  rw [show (ivals []).length = 0 from rfl] at ho ⊢
  go_wp2_with fail
  refine (next_nil i _ hi).mono ?_
  rintro e w6 ⟨rfl, rfl⟩
  go_wp2_with fail
  refine (twin_nil _).mono ?_
  rintro e w6 ⟨rfl, rfl⟩
  have H5 := Lib.hid ((H3.out.kept k4 (fun h => h) (fun h => h)).kept k5 (fun h => h) (fun h => h))
  go_wp2_with fail
  have hs := same_any (.pointer none) (.pointer (some ⟨b, 0, none⟩)) [] (lst R (fun _ => false)) w5 (fun w1 _ => list_nil w1) (fun w1 hk => list_any (H5.out.kept hk (fun h => h) (fun h => h))) (by simp) (by have := lst_len R (fun _ => false); have := H5.out.le; omega)
  rw [show decide ([] = lst R (fun _ => false)) = true by simp [lst]] at hs
  refine hs.mono ?_
  rintro e w6 ⟨rfl, k6⟩
  clear hs
  have H6 := Lib.hid (H5.out.kept k6 (fun h => h) (fun h => h))
  go_wp2_with fail
  refine (room_set H6.out).mono ?_
  rintro e w7 ⟨rfl, rfl⟩
  have hRn : min (max n 0) 4096 = (R : Int) := HR.out.symm
  go_wp2_with fail
  refine (bawake _).mono ?_
  rintro e w7 ⟨rfl, k7⟩
  go_wp2
  go_ret
  exact ⟨rfl, (((((k1.trans k2 (fun _ _ h => h)).trans k3 (fun _ _ h => h)).trans k4 (fun _ _ h => h)).trans k5 (fun _ _ h => h)).trans k6 (fun _ _ h => h)).trans k7 (fun _ _ h => h)⟩

end Go.Proofs.Ythncceffgncagaa

/-
  What is proved: the law's function returns true. Condition: the bounds of its arguments.
-/
import Derived.Test.YthncceffgncagaaBawake
import Derived.Test.YthncceffgncagaaIntern
set_option linter.unusedVariables false
set_option linter.unusedSimpArgs false
namespace Go.Proofs.Ythncceffgncagaa
open Go.RowKit

theorem NW.bnd {B : Nat} {w : World} {b r : Nat} {av : Value} {L : List ByteArray} {most : Nat} (h : NW B w b r av L most) : ∀ k, NF b r av k → k < w.heap.size := by
  obtain ⟨es, c, hm, hE⟩ := h.map
  intro k hk
  rcases hk with rfl | rfl | hk
  · exact lt_blk h.hd
  · exact lt_blk hm
  · exact (h.own.lt k hk.symm).2
/-- Names of the call's own: all its blocks from B on. -/
def Own (B : Nat) (b r : Nat) (av : Value) : Prop := ∀ k, NF b r av k → B ≤ k
theorem own_new {B b r : Nat} (hb : B ≤ b) (hr : B ≤ r) : Own B b r (.slice none 0 0) := by
  intro k hk
  rcases hk with rfl | rfl | hk
  · exact hb
  · exact hr
  · simp [Value.ownBlock] at hk
def NPutO (B : Nat) (w : World) (b r : Nat) (L : List ByteArray) (most : Nat) (s : ByteArray) (e : Ending) (w' : World) : Prop :=
  ∃ av', e = .returned (.tuple #[.int .i64 (putV L most s).1, .int .i64 (putV L most s).2]) ∧ NW B w' b r av' (putL L most s) most ∧ Kept (ab B) w w' ∧ Own B b r av'
theorem nput_own {B : Nat} {w : World} {b r : Nat} {av : Value} {L : List ByteArray} {most : Nat} (h : NW B w b r av L most) (s : ByteArray) (hB : B ≤ w.heap.size) (ho : Own B b r av) :
    Calls Try.prog 11 #[.pointer (some ⟨b, 0, none⟩), .string s] w (NPutO B w b r L most s) := by
  refine (nput_any h s hB).mono ?_
  rintro e w' ⟨av', he, hN, hk, hf⟩
  refine ⟨av', he, hN, hk.mono (fun i _ hi => ho i hi), fun k hk' => ?_⟩
  rcases hf k hk' with h1 | h1
  · exact ho k h1
  · omega

set_option maxHeartbeats 1000000 in
theorem nawake (w : World) : Calls Try.prog 9 #[] w (RetT w) := by
  go_enter Try.func9, Try.ntmps9
  go_wp2_with fail
  refine (nnew_any 2 w w.heap.size).mono ?_
  rintro e w1 ⟨b, r, rfl, h1, k1, hb, hr⟩
  have z1 := k1.size
  have R : roomOf 2 = 2 := rfl
  rw [R] at h1
  have H1 := Lib.hid h1
  clear h1 R
  go_wp2_with fail
  refine (nput_own H1.out ⟨#[97]⟩ z1 (own_new hb hr)).mono ?_
  rintro e w2 ⟨av2, rfl, h2, k2, o2⟩
  rw [show putV [] 2 ⟨#[97]⟩ = (0, 0) by rfl]
  rw [show putL [] 2 ⟨#[97]⟩ = [⟨#[97]⟩] by rfl] at h2
  have H2 := Lib.hid h2
  have z2 := k2.size
  clear h2
  go_wp2_with fail
  refine (nput_own H2.out ⟨#[98]⟩ (by omega) o2).mono ?_
  rintro e w3 ⟨av3, rfl, h3, k3, o3⟩
  rw [show putV [⟨#[97]⟩] 2 ⟨#[98]⟩ = (1, 0) by rfl]
  rw [show putL [⟨#[97]⟩] 2 ⟨#[98]⟩ = [⟨#[97]⟩, ⟨#[98]⟩] by rfl] at h3
  have H3 := Lib.hid h3
  have z3 := k3.size
  clear h3
  go_wp2_with fail
  refine (nput_own H3.out ⟨#[99]⟩ (by omega) o3).mono ?_
  rintro e w4 ⟨av4, rfl, h4, k4, o4⟩
  rw [show putV [⟨#[97]⟩, ⟨#[98]⟩] 2 ⟨#[99]⟩ = (0, 14) by rfl]
  rw [show putL [⟨#[97]⟩, ⟨#[98]⟩] 2 ⟨#[99]⟩ = [⟨#[97]⟩, ⟨#[98]⟩] by rfl] at h4
  have H4 := Lib.hid h4
  have z4 := k4.size
  clear h4
  go_wp2_with fail
  refine (nfind_any H4.out ⟨#[98]⟩).mono ?_
  rintro e w5 ⟨rfl, rfl⟩
  rw [show findI [⟨#[97]⟩, ⟨#[98]⟩] ⟨#[98]⟩ = 1 by rfl]
  go_wp2_with fail
  refine (nlen_any H4.out).mono ?_
  rintro e w5 ⟨rfl, rfl⟩
  go_wp2
  go_ret
  exact ⟨rfl, ((((Kept.ofNob k1 (B := w.heap.size)).abt k2).abt k3).abt k4).toNob⟩

set_option maxHeartbeats 1000000 in
theorem internNone_walk (w : World) (s : ByteArray) (hs : s.size ≤ 9223372036854775807) (i : Int) (_hi : -9223372036854775808 ≤ i ∧ i ≤ 9223372036854775807) :
    Calls Try.prog 5 #[.string s, .int .i64 i] w (RetT w) := by
  rcases Nat.lt_or_ge 1000 s.size with h | h
  · go_enter Try.func5, Try.ntmps5
    go_wp2_with (go_at_call 9; refine (nawake _).mono ?_; rintro e w' ⟨rfl, hk⟩)
    go_ret
    exact ⟨rfl, hk⟩
  · have HT := Lib.hid (ntext_out (nlen_nil w) i (by omega))
    go_enter Try.func5, Try.ntmps5
    go_wp2_with fail
    refine (nput_nil s w).mono ?_
    rintro e w' ⟨rfl, rfl⟩
    go_wp2_with fail
    refine HT.out.mono ?_
    rintro e w' ⟨rfl, rfl⟩
    go_wp2_with fail
    refine (nfind_nil s w).mono ?_
    rintro e w' ⟨rfl, rfl⟩
    go_wp2_with fail
    refine (nlen_nil w).mono ?_
    rintro e w' ⟨rfl, rfl⟩
    go_wp2_with fail
    refine (nall_nil w).mono ?_
    rintro e w' ⟨rfl, rfl⟩
    go_wp2_with (go_at_call 9; refine (nawake _).mono ?_; rintro e w' ⟨rfl, hk⟩)
    go_ret
    exact ⟨rfl, hk⟩

end Go.Proofs.Ythncceffgncagaa

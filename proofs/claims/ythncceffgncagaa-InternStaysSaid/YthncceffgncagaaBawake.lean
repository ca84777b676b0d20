/-
  What is proved: the law's own small test of bits returns true in every world. No condition.
-/
import Derived.Test.YthncceffgncagaaBits
set_option linter.unusedVariables false
set_option linter.unusedSimpArgs false
namespace Go.Proofs.Ythncceffgncagaa
open Go.RowKit

def ab (B : Nat) : Nat → Prop := fun k => B ≤ k
theorem Kept.abt {B : Nat} {a b c : World} (h : Kept (ab B) a b) (k : Kept (ab B) b c) : Kept (ab B) a c := h.trans k (fun _ _ h => h)
theorem Kept.ofNob {B : Nat} {a b : World} (h : Kept nob a b) : Kept (ab B) a b := h.mono (fun _ _ h => h.elim)
theorem Kept.ofIb {B g : Nat} {a b : World} (h : Kept (ib g) a b) (hg : B ≤ g) : Kept (ab B) a b := h.mono (fun i _ h => by have : i = g := h; show B ≤ i; omega)
theorem Kept.toNob {w w' : World} (h : Kept (ab w.heap.size) w w') : Kept nob w w' := ⟨h.os, h.tape, h.output, h.size, fun k hk _ => h.block k hk (fun h => by have : w.heap.size ≤ k := h; omega)⟩

def RetT (w : World) (e : Ending) (w' : World) : Prop := e = .returned (.bool true) ∧ Kept nob w w'
theorem room100 : roomOf 100 = 100 := rfl

set_option maxHeartbeats 1000000 in
theorem bawake (w : World) : Calls Try.prog 25 #[] w (RetT w) := by
  go_enter Try.func25, Try.ntmps25
  go_wp2_with fail
  refine (new_set 100 w).mono ?_
  rintro e w1 ⟨b, g, rfl, h1, k1, hb, hg⟩
  rw [room100] at h1
  go_wp2_with fail
  refine (put_any h1 70).mono ?_
  rintro e w2 ⟨rfl, h2, k2, _⟩
  have h2 : SetAt w2 b g 100 (fun j => decide (j = 70)) := h2.congr (fun j => by simp [putf, inr])
  rw [show (inr 100 70 && !false) = true from rfl]
  go_wp2_with fail
  refine (put_any h2 70).mono ?_
  rintro e w3 ⟨rfl, h3, k3, _⟩
  have h3 : SetAt w3 b g 100 (fun j => decide (j = 70)) := h3.congr (fun j => by by_cases e : j = 70 <;> simp [putf, inr, e])
  rw [show (inr 100 70 && !decide ((70 : Int).toNat = 70)) = false from rfl]
  go_wp2_with fail
  refine (has_any h3 70).mono ?_
  rintro e w4 ⟨rfl, rfl⟩
  rw [show (inr 100 70 && decide ((70 : Int).toNat = 70)) = true from rfl]
  go_wp2_with fail
  refine (next_any h3 0 (by omega)).mono ?_
  rintro e w4 ⟨r, rfl, hr, rfl⟩
  obtain rfl : r = 70 := IsNext.uniq hr (.inr ⟨70, rfl, by omega, by omega, rfl, fun i _ hi => by simp; omega⟩)
  go_wp2_with fail
  refine (count_any h3).mono ?_
  rintro e w4 ⟨rfl, k4⟩
  rw [show ((lst 100 fun j => decide (j = 70)).length : Int) = 1 from rfl]
  have h4 := h3.kept k4 (fun h => h) (fun h => h)
  go_wp2_with fail
  refine (room_set h4).mono ?_
  rintro e w5 ⟨rfl, rfl⟩
  go_wp2
  go_ret
  refine ⟨rfl, ?_⟩
  have hl := h1.lt
  have s1 := k1.size
  refine (((k1.trans (k2.mono (T := fun k => w.heap.size ≤ k) (fun i _ h => by have : i = g := h; omega)) (fun i hi h => by omega)).trans (k3.mono (T := fun k => w.heap.size ≤ k) (fun i _ h => by have : i = g := h; omega)) (fun i hi h => by omega)).trans k4 (fun i hi h => h))

end Go.Proofs.Ythncceffgncagaa

/-
  What is proved: words for live.only: rows of numbers, places. Conditions: those of each theorem.
-/
import Derived.Test.YthddfkemagpiaaaL18
set_option linter.unusedVariables false
set_option linter.unusedSimpArgs false
namespace Go.Proofs.Ythddfkemagpiaaa
open Go.RowKit
/-- A row of numbers. -/
def irow (n : Nat) (F : Nat → Int) : List Value := (List.range n).map fun i => Value.int .i64 (F i)
theorem irow_len (n : Nat) (F : Nat → Int) : (irow n F).length = n := by simp [irow]
theorem irow_get (n : Nat) (F : Nat → Int) (j : Nat) (hj : j < n) : (irow n F)[j]? = some (.int .i64 (F j)) := by simp [irow, hj]
theorem irow_set (n : Nat) (F : Nat → Int) (k : Nat) (v : Int) : (irow n F).set k (.int .i64 v) = irow n (fun j => if j = k then v else F j) := by
  apply List.ext_getElem?
  intro j
  rw [List.getElem?_set]
  by_cases hj : j < n
  · rw [irow_get _ _ _ hj, irow_len]
    by_cases e : k = j
    · subst e; simp [hj, irow_get _ _ _ hj]
    · simp [e, show ¬ j = k from fun h => e h.symm, irow_get _ _ _ hj]
  · have h1 : (irow n (fun j => if j = k then v else F j))[j]? = none := by rw [List.getElem?_eq_none]; rw [irow_len]; omega
    have h2 : (irow n F)[j]? = none := by rw [List.getElem?_eq_none]; rw [irow_len]; omega
    rw [h1, h2, irow_len]
    split
    · split
      · omega
      · rfl
    · rfl
/-- The table of new numbers. -/
def NowAt (w : World) (bn n : Nat) (F : Nat → Int) : Prop := w.heap[bn]? = some (.cells (irow n F).toArray 3 (0, 0))
theorem NowAt.c {w : World} {bn n : Nat} {F : Nat → Int} (h : NowAt w bn n F) {j : Nat} (hj : j < n) : w.cell? ⟨bn, j, none⟩ = some (.int .i64 (F j)) := by
  rw [cell_blk h]
  simp [irow_get _ _ _ hj]
theorem NowAt.fr {w : World} {bn n : Nat} {F : Nat → Int} (h : NowAt w bn n F) (j : Nat) : w.frozen? ⟨bn, j, none⟩ = false := frz_blk h j
theorem NowAt.set {w : World} {bn n : Nat} {F : Nat → Int} (h : NowAt w bn n F) (k : Nat) (v : Int) : NowAt (w.setCell ⟨bn, k, none⟩ (.int .i64 v)) bn n (fun j => if j = k then v else F j) := by
  unfold NowAt
  rw [set_blk h, ← irow_set]
  simp
/-- Where symbols of a list stand, from 1 on. -/
def plcN (l : List Nat) (x : Nat) : Int := if x ∈ l then (l.idxOf x : Int) + 1 else 0
theorem plcN_snoc {l : List Nat} {s x : Nat} (hs : ¬ s ∈ l) : plcN (l ++ [s]) x = if x = s then (l.length : Int) + 1 else plcN l x := by
  unfold plcN
  by_cases e : x = s
  · subst e
    rw [if_pos rfl, if_pos (by simp), List.idxOf_append, if_neg hs]
    simp
  · rw [if_neg e]
    by_cases h : x ∈ l
    · rw [if_pos h, if_pos (by simp [h]), List.idxOf_append, if_pos h]
    · rw [if_neg h, if_neg (by simp [h, e])]
theorem lst_nodup (n : Nat) (f : Nat → Bool) : (lst n f).Nodup := List.nodup_range.filter _
theorem lst_mem {n : Nat} {f : Nat → Bool} {i : Nat} : i ∈ lst n f ↔ i < n ∧ f i = true := by
  unfold lst
  rw [List.mem_filter, List.mem_range]
theorem info_strs : (Try.prog.info? 9).map (fun i => (i.zero, i.size, i.bytes)) = some (some (.string ⟨#[]⟩), 1, 16) := by kernel_rfl
theorem info_rule : (Try.prog.info? 40).map (fun i => (i.zero, i.size, i.bytes)) = some (some (.agg #[.int .i64 0, .slice none 0 0]), 2, 32) := by kernel_rfl
/-- The struct out, as it is built. -/
def OutAt (w : World) (bo : Nat) (tv nv rv : Value) (st : Int) : Prop := w.heap[bo]? = some (.cells #[tv, nv, rv, .int .i64 st] 25 (0, 0))
/-- Names by a list of symbols. -/
def tnames (g : Gm) (l : List Nat) : List ByteArray := (l.filter fun (x : Nat) => g.term (x : Int)).map fun (x : Nat) => nameG g (x : Int)
def nnames (g : Gm) (l : List Nat) : List ByteArray := (l.filter fun (x : Nat) => !g.term (x : Int)).map fun (x : Nat) => nameG g (x : Int)
/-- The first half of live.only: so many symbols are numbered. -/
structure On1 (g : Gm) (l : List Nat) (Q bo bn n : Nat) (k : Nat) (tv nv : Value) (w : World) : Prop where
  out : OutAt w bo tv nv (.slice none 0 0) 0
  now : NowAt w bn n (plcN (l.take k))
  t : w.ownsRow Q 9 1 tv (tnames g (l.take k)).length (sv (tnames g (l.take k)))
  n : w.ownsRow Q 9 1 nv (nnames g (l.take k)).length (sv (nnames g (l.take k)))
  ne : ∀ q, tv.ownBlock = some q → nv.ownBlock = some q → False
theorem info_ints : (Try.prog.info? 3).map (fun i => (i.zero, i.size, i.bytes)) = some (some (.int .i64 0), 1, 8) := by kernel_rfl
end Go.Proofs.Ythddfkemagpiaaa

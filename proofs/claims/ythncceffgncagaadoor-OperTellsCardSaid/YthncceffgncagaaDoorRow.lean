/-
  What is proved: slices of ints: what they read as, and what the document's comparison of two of them answers. No condition.
-/
import Derived.Test.YthncceffgncagaaDoorCore
import Derived.Laws.CopyOwn
set_option linter.unusedVariables false
set_option linter.unusedSimpArgs false
namespace Go.Proofs.YthncceffgncagaaDoor
open Go.RowKit

theorem info_int : (Tryd.prog.info? 3).map (fun i => (i.zero, i.size, i.bytes)) = some (some (.int .i64 0), 1, 8) := by kernel_rfl

theorem own_zero {w : World} {base : Nat} {e : TypeId} {g : Nat} (hg : w.heap[g]? = some (.cells #[] e (0, 0))) (hb : base ≤ g) : w.ownsRow base e 1 (.slice (some ⟨g, 0, none⟩) 0 0) 0 [] :=
  ⟨rfl, .inr ⟨g, 0, #[], rfl, hb, hg, Nat.le_refl _, by unfold maxLen; omega, rfl, rfl⟩⟩

theorem own_some {w : World} {base : Nat} {e : TypeId} {size : Nat} {v : Value} {n m : Nat} {xs : List Value} (h : w.ownsRow base e size v n xs) (hnm : n = m) (hv : v ≠ .slice none 0 0) : ∃ g' cap, v = .slice (some ⟨g', 0, none⟩) m cap := by
  subst hnm
  rcases h.2 with ⟨h, _⟩ | ⟨g, cap, cur, h, _⟩
  · exact absurd h hv
  · exact ⟨g, cap, h⟩

theorem add_pl (g j : Nat) : (⟨g, 0, none⟩ : Addr).add j = ⟨g, j, none⟩ := by unfold Addr.add; split <;> simp_all

def RetRow (w0 : World) (t : TypeId) (vs : List Value) (e : Ending) (w' : World) : Prop :=
  ∃ a cap, e = .returned (.slice a vs.length cap) ∧ w'.ownsRow w0.heap.size t 1 (.slice a vs.length cap) vs.length vs ∧ Kept nob w0 w'

theorem RetRow.mk {w0 w' : World} {t : TypeId} {vs : List Value} {v : Value} {n : Nat} (h : w'.ownsRow w0.heap.size t 1 v n vs) (hK : Kept nob w0 w') : RetRow w0 t vs (.returned v) w' := by
  have hn : vs.length = n := by have := h.1; omega
  subst hn
  rcases h.2 with ⟨rfl, h0⟩ | ⟨g, cap, cur, rfl, _⟩
  · rw [h0] at h
    refine ⟨none, 0, by rw [h0], by rw [h0]; exact h, hK⟩
  · exact ⟨_, _, rfl, h, hK⟩

/-- What a slice reads as. -/
def Rd (w : World) (a : Option Addr) (vs : List Value) : Prop :=
  vs = [] ∨ ∃ b o, a = some ⟨b, o, none⟩ ∧ ∀ j, j < vs.length → w.cell? ⟨b, o + j, none⟩ = vs[j]?

def iv (xs : List Int) : List Value := xs.map fun x => Value.int .i64 x

theorem iv_len (xs : List Int) : (iv xs).length = xs.length := by simp [iv]

theorem iv_get (xs : List Int) (j : Nat) (hj : j < xs.length) : (iv xs)[j]? = some (.int .i64 (xs.getD j 0)) := by
  simp [iv, hj, List.getD]

theorem Rd.kept {S : Nat → Prop} {w w' : World} {a : Option Addr} {vs : List Value} (h : Rd w a vs) (hK : Kept S w w') (hS : ∀ b o, a = some ⟨b, o, none⟩ → ¬ S b) : Rd w' a vs := by
  rcases h with h | ⟨b, o, rfl, hc⟩
  · exact .inl h
  · by_cases h0 : vs = []
    · exact .inl h0
    refine .inr ⟨b, o, rfl, fun j hj => ?_⟩
    rw [← hc j hj]
    have hb : b < w.heap.size := by
      have := hc j hj
      rw [List.getElem?_eq_getElem hj] at this
      exact World.block_lt_of_cell? w _ this
    exact World.cell?_of_block (hK.block b hb (hS b o rfl))

theorem Rd.drewN {w : World} {a : Option Addr} {vs : List Value} (h : Rd w a vs) (n : Nat) : Rd (w.drewN n) a vs := h

theorem Rd.lt {w : World} {b o : Nat} {vs : List Value} (h : Rd w (some ⟨b, o, none⟩) vs) (hn : vs ≠ []) : b < w.heap.size := by
  rcases h with h | ⟨b', o', e, hc⟩
  · exact absurd h hn
  · have hj : 0 < vs.length := List.length_pos_iff.2 hn
    have := hc 0 hj
    rw [List.getElem?_eq_getElem hj] at this
    obtain ⟨rfl, rfl⟩ : b = b' ∧ o = o' := by simpa using e
    exact World.block_lt_of_cell? w _ this

theorem Rd.own {w : World} {base : Nat} {t : TypeId} {a : Option Addr} {n cap : Nat} {vs : List Value} (h : w.ownsRow base t 1 (.slice a n cap) n vs) : Rd w a vs := by
  rcases h.2 with ⟨h1, h2⟩ | ⟨g, c, cur, h1, h2, h3, h4, h5, h6, h7⟩
  · left
    have := h.1
    rw [h2] at this
    exact List.eq_nil_of_length_eq_zero (by simpa using this)
  · obtain ⟨rfl, rfl⟩ : a = some ⟨g, 0, none⟩ ∧ cap = c := by simpa using h1
    refine .inr ⟨g, 0, rfl, fun j hj => ?_⟩
    rw [Nat.zero_add, h.cellAt j (by have := h.1; omega)]

def eqi (xs ys : List Int) : Bool := decide (xs = ys)

theorem eqi_len {xs ys : List Int} (h : xs.length ≠ ys.length) : eqi xs ys = false := by
  unfold eqi; rw [decide_eq_false_iff_not]; intro e; rw [e] at h; exact h rfl

theorem eqi_at {xs ys : List Int} (k : Nat) (h : xs.getD k 0 ≠ ys.getD k 0) : eqi xs ys = false := by
  unfold eqi; rw [decide_eq_false_iff_not]; intro e; rw [e] at h; exact h rfl

theorem eqi_all {xs ys : List Int} (hl : xs.length = ys.length) (h : ∀ j, j < xs.length → xs.getD j 0 = ys.getD j 0) : eqi xs ys = true := by
  unfold eqi; rw [decide_eq_true_eq]
  apply List.ext_getElem hl
  intro i h1 h2
  have := h i h1
  simpa [List.getD, h1, h2] using this

set_option maxHeartbeats 1000000 in
theorem ints_any (a1 a2 : Option Addr) (c1 c2 : Nat) (xs ys : List Int) (w : World) (hx : Rd w a1 (iv xs)) (hy : Rd w a2 (iv ys)) (hlx : xs.length ≤ 9223372036854775807) (hly : ys.length ≤ 9223372036854775807) :
    Calls Tryd.prog 10 #[.slice a1 xs.length c1, .slice a2 ys.length c2] w fun e w' => e = .returned (.bool (eqi xs ys)) ∧ Kept nob w w' := by
  by_cases hl : xs.length = ys.length
  · have hlx0 := hl
    have HLL := Lib.hid hl
    rw [← hl] at hly ⊢
    clear hl hlx0
    go_enter Tryd.func10, Tryd.ntmps10
    go_wp2
    go_loopw [5] (fun i wr => ∃ k q : Nat, i = .int .i64 (k : Int) ∧ k ≤ xs.length ∧ wr = w.drewN q ∧ Hid (∀ j, j < k → xs.getD j 0 = ys.getD j 0)) (fun i _ => xs.length - (intOf i).toNat)
    case atStart => exact ⟨0, 0, rfl, by omega, rfl, fun j h => by omega⟩
    case round =>
      obtain ⟨k, q, rfl, hkl, rfl, hno⟩ := hrel
      by_cases hlt : k < xs.length
      · rcases hx with h | ⟨b1, o1, rfl, hc1⟩
        · have := iv_len xs; rw [h] at this; simp at this; omega
        rcases hy with h | ⟨b2, o2, rfl, hc2⟩
        · have := iv_len ys; rw [h] at this; have := HLL.out; simp at *; omega
        have hlt2 : k < ys.length := by rw [← HLL.out]; exact hlt
        have d1 : w.cell? ⟨b1, o1 + k, none⟩ = some (.int .i64 (xs.getD k 0)) := by
          rw [← iv_get xs k hlt, ← hc1 k (by rw [iv_len]; exact hlt)]
        have d2 : w.cell? ⟨b2, o2 + k, none⟩ = some (.int .i64 (ys.getD k 0)) := by
          rw [← iv_get ys k hlt2, ← hc2 k (by rw [iv_len]; exact hlt2)]
        obtain ⟨x, hx⟩ : ∃ x, x = xs.getD k 0 := ⟨_, rfl⟩
        obtain ⟨y, hy⟩ : ∃ y, y = ys.getD k 0 := ⟨_, rfl⟩
        rw [← hx] at d1
        rw [← hy] at d2
        have HX := Lib.hid hx
        have HY := Lib.hid hy
        clear hx hy hc1 hc2
        by_cases hxy : x = y
        · subst hxy
          go_wp2
          go_quiet (fail)
          go_wp2
          go_roundw
          case rel =>
            refine ⟨k + 1, q + nq, by go_num, by omega, rfl, fun j hj => ?_⟩
            by_cases e : j = k
            · rw [e, ← HX.out, ← HY.out]
            · exact hno.out j (by omega)
          case measure => simp [intOf]; omega
        · have hb : (x != y) = true := by simpa using hxy
          have HE := Lib.hid (eqi_at (xs := xs) (ys := ys) k (by rw [← HX.out, ← HY.out]; exact hxy))
          go_wp2
          go_quiet (fail)
          go_wp2
          go_ret
          exact ⟨ret_bool HE.out.symm, by rw [World.drewN_drewN]; exact Kept.drewN _ _ _⟩
      · have HE := Lib.hid (eqi_all HLL.out (fun j hj => hno.out j (by omega)))
        go_wp2
        go_ret
        exact ⟨ret_bool HE.out.symm, Kept.drewN _ _ _⟩
  · have HE := Lib.hid (eqi_len hl)
    have hb : ((xs.length : Int) != ys.length) = true := by simp only [bne_iff_ne, ne_eq]; omega
    clear hl
    go_enter Tryd.func10, Tryd.ntmps10
    go_wp2
    go_ret
    exact ⟨ret_bool HE.out.symm, Kept.refl _ _⟩

theorem retRow_rd {w0 : World} {t : TypeId} {vs : List Value} {e : Ending} {w' : World} (h : RetRow w0 t vs e w') : ∃ a cap, e = .returned (.slice a vs.length cap) ∧ Rd w' a vs ∧ Kept nob w0 w' ∧ (∀ b o, a = some ⟨b, o, none⟩ → vs ≠ [] → w0.heap.size ≤ b) := by
  obtain ⟨a, cap, rfl, ho, hk⟩ := h
  refine ⟨a, cap, rfl, Rd.own ho, hk, fun b o e hn => ?_⟩
  subst e
  rcases ho.2 with ⟨h1, _⟩ | ⟨g, c, cur, h1, h2, _⟩
  · simp at h1
  · have : b = g := by simp at h1; exact h1.1.1
    omega
def ivals (xs : List Nat) : List Value := xs.map fun (x : Nat) => Value.int .i64 (x : Int)
theorem ivals_len (xs : List Nat) : (ivals xs).length = xs.length := by simp [ivals]
def lst (k : Nat) (f : Nat → Bool) : List Nat := (List.range k).filter f
theorem lst_len (k : Nat) (f : Nat → Bool) : (lst k f).length ≤ k := by
  have := List.length_filter_le f (List.range k)
  simpa [lst] using this
theorem ivals_one (xs : List Nat) : ∀ u ∈ ivals xs, u.oneCell' = true := by
  intro u hu
  obtain ⟨_, _, rfl⟩ := List.mem_map.1 hu
  rfl
theorem ivals_iv (xs : List Nat) : ivals xs = iv (xs.map fun (x : Nat) => (x : Int)) := by simp [ivals, iv]
theorem ba_beq (a b : ByteArray) : (a == b) = decide (a = b) := by
  rw [Bool.eq_iff_iff, decide_eq_true_eq]
  show ByteArray.beq a b = true ↔ a = b
  cases a; cases b
  unfold ByteArray.beq
  simp
theorem ba_toList (a : ByteArray) : a.toList = a.data.toList := by
  exact ByteArray.toList_eq a
theorem toList_eq (a b : ByteArray) : (a.toList == b.toList) = decide (a = b) := by
  rw [ba_toList, ba_toList, Bool.eq_iff_iff]
  simp only [beq_iff_eq, decide_eq_true_eq]
  constructor
  · intro h
    exact ByteArray.ext (Array.ext' h)
  · intro h; rw [h]

end Go.Proofs.YthncceffgncagaaDoor

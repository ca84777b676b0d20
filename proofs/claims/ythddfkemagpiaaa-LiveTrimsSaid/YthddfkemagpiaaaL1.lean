/-
  What is proved: grammars as they are read in memory; what Top, Term, Non, Of answer. Conditions: the grammar can be read.
-/
import Derived.Test.YthddfkemagpiaaaSetB
import Derived.Test.YthddfkemagpiaaaStrB
set_option linter.unusedVariables false
set_option linter.unusedSimpArgs false
namespace Go.Proofs.Ythddfkemagpiaaa
open Go.RowKit

abbrev Rl := Int × List Int
/-- A grammar. -/
structure Gm where
  T : List ByteArray
  N : List ByteArray
  R : List Rl
  st : Int
def Gm.nt (g : Gm) : Int := g.T.length
def Gm.top (g : Gm) : Int := g.T.length + g.N.length
def Gm.non (g : Gm) (s : Int) : Bool := decide (g.nt < s ∧ s ≤ g.top)
def Gm.term (g : Gm) (s : Int) : Bool := decide (1 ≤ s ∧ s ≤ g.nt)
abbrev big : Nat := 4611686018427387904
/-- A rule's right side is read. -/
structure RuleAt (w : World) (b o : Nat) (r : Rl) (ra : Option Addr) (rc : Nat) : Prop where
  c0 : w.cell? ⟨b, o, none⟩ = some (.int .i64 r.1)
  c1 : w.cell? ⟨b, o + 1, none⟩ = some (.slice ra r.2.length rc)
  rd : Rd w ra (iv r.2)
  len : r.2.length ≤ big
  cap : r.2.length ≤ rc
def RdR (w : World) (a : Option Addr) (L : List Rl) : Prop :=
  L = [] ∨ ∃ b o, a = some ⟨b, o, none⟩ ∧ ∀ j r, L[j]? = some r → ∃ ra rc, RuleAt w b (o + j * 2) r ra rc
/-- Where a grammar's parts lie. -/
structure Gp where
  ta : Option Addr
  tc : Nat
  na : Option Addr
  nc : Nat
  ra : Option Addr
  rc : Nat
abbrev gv (p : Gp) (g : Gm) : Value := .agg #[.slice p.ta g.T.length p.tc, .slice p.na g.N.length p.nc, .slice p.ra g.R.length p.rc, .int .i64 g.st]
structure GA (w : World) (p : Gp) (g : Gm) : Prop where
  t : Rd w p.ta (sv g.T)
  n : Rd w p.na (sv g.N)
  r : RdR w p.ra g.R
  lt : g.T.length ≤ big
  ln : g.N.length ≤ big
  lr : g.R.length ≤ big
  cr : g.R.length ≤ p.rc
theorem Rd.nob {w w' : World} {a : Option Addr} {vs : List Value} (h : Rd w a vs) (hK : Kept nob w w') : Rd w' a vs := h.kept hK (fun _ _ _ h => h)
theorem kcell {w w' : World} (hK : Kept nob w w') {a : Addr} {v : Value} (h : w.cell? a = some v) : w'.cell? a = some v := by
  rw [← h]
  exact World.cell?_of_block (hK.block _ (World.block_lt_of_cell? w _ h) (fun h => h))
theorem RuleAt.nob {w w' : World} {b o : Nat} {r : Rl} {ra : Option Addr} {rc : Nat} (h : RuleAt w b o r ra rc) (hK : Kept nob w w') : RuleAt w' b o r ra rc :=
  ⟨kcell hK h.c0, kcell hK h.c1, h.rd.nob hK, h.len, h.cap⟩
theorem RdR.nob {w w' : World} {a : Option Addr} {L : List Rl} (h : RdR w a L) (hK : Kept nob w w') : RdR w' a L := by
  rcases h with h | ⟨b, o, rfl, hc⟩
  · exact .inl h
  · refine .inr ⟨b, o, rfl, fun j r hj => ?_⟩
    obtain ⟨ra, rc, h⟩ := hc j r hj
    exact ⟨ra, rc, h.nob hK⟩
theorem GA.nob {w w' : World} {p : Gp} {g : Gm} (h : GA w p g) (hK : Kept nob w w') : GA w' p g :=
  ⟨h.t.nob hK, h.n.nob hK, h.r.nob hK, h.lt, h.ln, h.lr, h.cr⟩
/-- The box of a grammar. -/
def GB (w : World) (b : Nat) (p : Gp) (g : Gm) : Prop :=
  w.heap[b]? = some (.cells #[.slice p.ta g.T.length p.tc, .slice p.na g.N.length p.nc, .slice p.ra g.R.length p.rc, .int .i64 g.st] 25 (0, 0))
theorem GB.c {w : World} {b : Nat} {p : Gp} {g : Gm} (h : GB w b p g) : w.cell? ⟨b, 0, none⟩ = some (.slice p.ta g.T.length p.tc) ∧ w.cell? ⟨b, 1, none⟩ = some (.slice p.na g.N.length p.nc) ∧ w.cell? ⟨b, 2, none⟩ = some (.slice p.ra g.R.length p.rc) ∧ w.cell? ⟨b, 3, none⟩ = some (.int .i64 g.st) := by
  refine ⟨?_, ?_, ?_, ?_⟩ <;> rw [cell_blk h] <;> rfl
theorem GB.nob {w w' : World} {b : Nat} {p : Gp} {g : Gm} (h : GB w b p g) (hK : Kept nob w w') : GB w' b p g := hK.get h (fun h => h)
theorem GB.new (w : World) (p : Gp) (g : Gm) : GB (w.alloc (.cells #[.slice p.ta g.T.length p.tc, .slice p.na g.N.length p.nc, .slice p.ra g.R.length p.rc, .int .i64 g.st] 25)) w.heap.size p g := alloc_blk _ _

/-- A grammar is small. -/
structure Sm (g : Gm) : Prop where
  n : g.T.length + g.N.length + g.R.length ≤ 1000
  r : ∀ r, r ∈ g.R → r.2.length ≤ 10000
  t : ∀ s, s ∈ g.T → s.size ≤ 10000
  s : ∀ s, s ∈ g.N → s.size ≤ 10000
theorem w64 {x : Int} (h1 : -9223372036854775808 ≤ x) (h2 : x ≤ 9223372036854775807) : wrap64 x = x := by unfold wrap64; omega
theorem Sm.top {g : Gm} (h : Sm g) : 0 ≤ g.top ∧ g.top ≤ 1000 ∧ 0 ≤ g.nt ∧ g.nt ≤ g.top := by
  have := h.n
  unfold Gm.top Gm.nt
  omega
theorem top_any (w : World) (p : Gp) (g : Gm) (hs : Sm g) : Calls Try.prog 44 #[gv p g] w fun e w' => e = .returned (.int .i64 g.top) ∧ Kept nob w w' := by
  have h1 := hs.n
  clear hs
  obtain ⟨T, N, R, st⟩ := g
  obtain ⟨ta, tc, na, nc, ra, rc⟩ := p
  unfold gv Gm.top
  simp only at h1 ⊢
  go_enter Try.func44, Try.ntmps44
  go_wp2
  go_ret
  exact ⟨rfl, Kept.alloc _ _ _⟩
theorem non_any (w : World) (p : Gp) (g : Gm) (s : Int) (hs : Sm g) : Calls Try.prog 46 #[gv p g, .int .i64 s] w fun e w' => e = .returned (.bool (g.non s)) ∧ Kept nob w w' := by
  have HT := Lib.hid (fun w => top_any w p g hs)
  obtain ⟨T, N, R, st⟩ := g
  obtain ⟨ta, tc, na, nc, ra, rc⟩ := p
  unfold gv at HT ⊢
  have H1 := Lib.hid hs.n
  unfold Gm.non Gm.nt
  simp only at HT ⊢
  clear hs
  by_cases h : (T.length : Int) < s
  · have hb : decide ((s : Int) > (T.length : Int)) = true := by simpa using h
    obtain ⟨t, ht⟩ : ∃ t, t = (Gm.mk T N R st).top := ⟨_, rfl⟩
    rw [← ht] at HT ⊢
    clear ht
    go_enter Try.func46, Try.ntmps46
    go_wp2_with fail
    refine (HT.out _).mono ?_
    rintro e w1 ⟨rfl, hk⟩
    go_wp2
    go_ret
    exact ⟨ret_bool (by simp [h]), (Kept.alloc _ _ _).trans hk (fun _ _ h => h)⟩
  · have hb : decide ((s : Int) > (T.length : Int)) = false := by simpa using h
    go_enter Try.func46, Try.ntmps46
    go_wp2
    go_ret
    exact ⟨ret_bool (by simp [h]), Kept.alloc _ _ _⟩
theorem rtop_any (w : World) (p : Gp) (g : Gm) (hs : Sm g) : Calls Try.prog 28 #[gv p g] w fun e w' => e = .returned (.int .i64 g.top) ∧ Kept nob w w' := by
  have h1 := hs.n
  clear hs
  obtain ⟨T, N, R, st⟩ := g
  obtain ⟨ta, tc, na, nc, ra, rc⟩ := p
  unfold gv Gm.top
  simp only at h1 ⊢
  go_enter Try.func28, Try.ntmps28
  go_wp2
  go_ret
  exact ⟨rfl, Kept.alloc _ _ _⟩
theorem rnon_any (w : World) (p : Gp) (g : Gm) (s : Int) (hs : Sm g) : Calls Try.prog 39 #[gv p g, .int .i64 s] w fun e w' => e = .returned (.bool (g.non s)) ∧ Kept nob w w' := by
  have HT := Lib.hid (fun w => rtop_any w p g hs)
  obtain ⟨T, N, R, st⟩ := g
  obtain ⟨ta, tc, na, nc, ra, rc⟩ := p
  unfold gv at HT ⊢
  have H1 := Lib.hid hs.n
  unfold Gm.non Gm.nt
  simp only at HT ⊢
  clear hs
  by_cases h : (T.length : Int) < s
  · have hb : decide ((s : Int) > (T.length : Int)) = true := by simpa using h
    obtain ⟨t, ht⟩ : ∃ t, t = (Gm.mk T N R st).top := ⟨_, rfl⟩
    rw [← ht] at HT ⊢
    clear ht
    go_enter Try.func39, Try.ntmps39
    go_wp2_with fail
    refine (HT.out _).mono ?_
    rintro e w1 ⟨rfl, hk⟩
    go_wp2
    go_ret
    exact ⟨ret_bool (by simp [h]), (Kept.alloc _ _ _).trans hk (fun _ _ h => h)⟩
  · have hb : decide ((s : Int) > (T.length : Int)) = false := by simpa using h
    go_enter Try.func39, Try.ntmps39
    go_wp2
    go_ret
    exact ⟨ret_bool (by simp [h]), Kept.alloc _ _ _⟩
theorem term_any (w : World) (p : Gp) (g : Gm) (s : Int) (hs : Sm g) : Calls Try.prog 92 #[gv p g, .int .i64 s] w fun e w' => e = .returned (.bool (g.term s)) ∧ Kept nob w w' := by
  obtain ⟨T, N, R, st⟩ := g
  obtain ⟨ta, tc, na, nc, ra, rc⟩ := p
  unfold gv Gm.term Gm.nt
  simp only
  clear hs
  by_cases h : 1 ≤ s
  · have hb : decide (s ≥ 1) = true := by simpa using h
    go_enter Try.func92, Try.ntmps92
    go_wp2
    go_ret
    exact ⟨ret_bool (by simp [h]), Kept.alloc _ _ _⟩
  · have hb : decide (s ≥ 1) = false := by simpa using h
    go_enter Try.func92, Try.ntmps92
    go_wp2
    go_ret
    exact ⟨ret_bool (by simp [h]), Kept.alloc _ _ _⟩
theorem rterm_any (w : World) (p : Gp) (g : Gm) (s : Int) (hs : Sm g) : Calls Try.prog 94 #[gv p g, .int .i64 s] w fun e w' => e = .returned (.bool (g.term s)) ∧ Kept nob w w' := by
  obtain ⟨T, N, R, st⟩ := g
  obtain ⟨ta, tc, na, nc, ra, rc⟩ := p
  unfold gv Gm.term Gm.nt
  simp only
  clear hs
  by_cases h : 1 ≤ s
  · have hb : decide (s ≥ 1) = true := by simpa using h
    go_enter Try.func94, Try.ntmps94
    go_wp2
    go_ret
    exact ⟨ret_bool (by simp [h]), Kept.alloc _ _ _⟩
  · have hb : decide (s ≥ 1) = false := by simpa using h
    go_enter Try.func94, Try.ntmps94
    go_wp2
    go_ret
    exact ⟨ret_bool (by simp [h]), Kept.alloc _ _ _⟩
end Go.Proofs.Ythddfkemagpiaaa

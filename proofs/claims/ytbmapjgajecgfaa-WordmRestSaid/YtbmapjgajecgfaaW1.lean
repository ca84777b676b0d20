/-
  What is proved: what a step of a machine keeps of memory: families of things, each with blocks of its own. Conditions: those of each theorem.
-/
import Derived.Test.YtbmapjgajecgfaaCore
import Derived.Deep.AppendLies
import Derived.Laws.AppendOwnNone
set_option linter.unusedVariables false
set_option linter.unusedSimpArgs false
namespace Go.Proofs.Ytbmapjgajecgfaa
open Go.RowKit

theorem own_kept {S : Nat → Prop} {w w' : World} (hK : Kept S w w') {base : Nat} {e : TypeId} {size : Nat} {v : Value} {n : Nat} {xs : List Value} (h : w.ownsRow base e size v n xs) (hS : ∀ k, v.ownBlock = some k → ¬ S k) : w'.ownsRow base e size v n xs := by
  refine ⟨h.1, ?_⟩
  rcases h.2 with ⟨h1, h2⟩ | ⟨g, cap, cur, h1, h2, h3, h4⟩
  · exact .inl ⟨h1, h2⟩
  · exact .inr ⟨g, cap, cur, h1, h2, hK.get h3 (hS g (by rw [h1]; rfl)), h4⟩

/-- A part of a word: its kind, its texts, its parts, how many commands. -/
inductive Prt where
  | mk (k : Int) (tx op : ByteArray) (kids : List Prt) (cm : Nat)

/-- What a row of cells reads as, five a part; the rows within lie in blocks of which C speaks. -/
inductive Rds (w : World) (C : Nat → Prop) : List Value → List Prt → Prop
  | nil : Rds w C [] []
  | bare {k : Int} {tx op : ByteArray} {a : Option Addr} {cap : Nat} {ca : Option Addr} {cm cc : Nat} {vs : List Value} {L : List Prt} : Rds w C vs L → Rds w C (.int .i64 k :: .string tx :: .string op :: .slice a 0 cap :: .slice ca cm cc :: vs) (.mk k tx op [] cm :: L)
  | kids {k : Int} {tx op : ByteArray} {g o : Nat} {cap : Nat} {ca : Option Addr} {cm cc : Nat} {us vs : List Value} {K L : List Prt} : C g → (∀ j, j < us.length → w.cell? ⟨g, o + j, none⟩ = us[j]?) → Rds w C us K → Rds w C vs L →
      Rds w C (.int .i64 k :: .string tx :: .string op :: .slice (some ⟨g, o, none⟩) K.length cap :: .slice ca cm cc :: vs) (.mk k tx op K cm :: L)
theorem Rds.len {w : World} {C : Nat → Prop} {vs : List Value} {L : List Prt} (h : Rds w C vs L) : vs.length = L.length * 5 := by
  induction h with
  | nil => rfl
  | bare _ ih => simp only [List.length_cons, ih]; omega
  | kids _ _ _ _ _ ih => simp only [List.length_cons, ih]; omega
theorem Rds.kept {S : Nat → Prop} {w w' : World} (hK : Kept S w w') {C : Nat → Prop} (hC : ∀ k, C k → ¬ S k ∧ k < w.heap.size) {vs : List Value} {L : List Prt} (h : Rds w C vs L) : Rds w' C vs L := by
  induction h with
  | nil => exact .nil
  | bare _ ih => exact .bare ih
  | kids hg hc _ _ i1 i2 => exact .kids hg (fun j hj => by rw [← hc j hj]; exact World.cell?_of_block (hK.block _ (hC _ hg).2 (hC _ hg).1)) i1 i2
theorem Rds.mono {w : World} {C C' : Nat → Prop} (hC : ∀ k, C k → C' k) {vs : List Value} {L : List Prt} (h : Rds w C vs L) : Rds w C' vs L := by
  induction h with
  | nil => exact .nil
  | bare _ ih => exact .bare ih
  | kids hg hc _ _ i1 i2 => exact .kids (hC _ hg) hc i1 i2
theorem Rds.app {w : World} {C : Nat → Prop} {vs us : List Value} {L K : List Prt} (h : Rds w C vs L) (h' : Rds w C us K) : Rds w C (vs ++ us) (L ++ K) := by
  induction h with
  | nil => exact h'
  | bare _ ih => exact .bare ih
  | kids hg hc h1 _ _ i2 => exact .kids hg hc h1 i2
/-- What a slice of parts reads as. -/
def Cold (w : World) (C : Nat → Prop) (v : Value) (L : List Prt) : Prop :=
  (∃ a cap, v = .slice a 0 cap ∧ L = []) ∨ ∃ g o cap us, v = .slice (some ⟨g, o, none⟩) L.length cap ∧ C g ∧ (∀ j, j < us.length → w.cell? ⟨g, o + j, none⟩ = us[j]?) ∧ Rds w C us L
theorem Rds.one {w : World} {C : Nat → Prop} {k : Int} {tx op : ByteArray} {kv : Value} {ca : Option Addr} {cm cc : Nat} {K : List Prt} (h : Cold w C kv K) : Rds w C [.int .i64 k, .string tx, .string op, kv, .slice ca cm cc] [.mk k tx op K cm] := by
  rcases h with ⟨a, cap, rfl, rfl⟩ | ⟨g, o, cap, us, rfl, hg, hc, hr⟩
  · exact .bare .nil
  · exact .kids hg hc hr .nil

/-- One thing in memory that is somebody's own. -/
inductive Dat where
  | nothing
  | head (b : Nat) (t : TypeId) (cs : Array Value)
  | row (e : TypeId) (size : Nat) (v : Value) (n : Nat) (xs : List Value)
  | prow (e : TypeId) (v : Value) (L : List Prt)
def Dat.blk : Dat → Option Nat
  | .nothing => none
  | .head b _ _ => some b
  | .row _ _ v _ _ => v.ownBlock
  | .prow _ v _ => v.ownBlock
def Comp (B : Nat) (w : World) (C : Nat → Prop) : Dat → Prop
  | .nothing => True
  | .head b t cs => w.heap[b]? = some (.cells cs t (0, 0))
  | .row e size v n xs => w.ownsRow B e size v n xs
  | .prow e v L => ∃ vs, w.ownsRow B e 5 v L.length vs ∧ Rds w C vs L
theorem Comp.kept {B : Nat} {S : Nat → Prop} {w w' : World} (hK : Kept S w w') {C : Nat → Prop} (hC : ∀ k, C k → ¬ S k ∧ k < w.heap.size) {d : Dat} (hd : ∀ k, d.blk = some k → ¬ S k) (h : Comp B w C d) : Comp B w' C d := by
  cases d with
  | nothing => trivial
  | head b t cs => exact hK.get h (hd b rfl)
  | row e size v n xs => exact own_kept hK h hd
  | prow e v L =>
    obtain ⟨vs, h1, h2⟩ := h
    exact ⟨vs, own_kept hK h1 hd, h2.kept hK hC⟩
theorem Comp.mono {B : Nat} {w : World} {C C' : Nat → Prop} (hC : ∀ k, C k → C' k) {d : Dat} (h : Comp B w C d) : Comp B w C' d := by
  cases d with
  | prow e v L =>
    obtain ⟨vs, h1, h2⟩ := h
    exact ⟨vs, h1, h2.mono hC⟩
  | _ => exact h
def Foot {τ : Type} (C : Nat → Prop) (D : τ → Dat) (k : Nat) : Prop := C k ∨ ∃ t, (D t).blk = some k
structure Fam {τ : Type} (B : Nat) (w : World) (C : Nat → Prop) (D : τ → Dat) : Prop where
  comp : ∀ t, Comp B w C (D t)
  inj : ∀ t s k, (D t).blk = some k → (D s).blk = some k → t = s
  bnd : ∀ k, Foot C D k → B ≤ k ∧ k < w.heap.size
  cold : ∀ k t, C k → (D t).blk ≠ some k
def upd {τ : Type} [DecidableEq τ] (D : τ → Dat) (t : τ) (d : Dat) : τ → Dat := fun s => if s = t then d else D s
theorem upd_at {τ : Type} [DecidableEq τ] (D : τ → Dat) (t : τ) (d : Dat) : upd D t d t = d := by simp [upd]
theorem upd_ne {τ : Type} [DecidableEq τ] {D : τ → Dat} {t s : τ} {d : Dat} (h : s ≠ t) : upd D t d s = D s := by simp [upd, h]
theorem Fam.frame {τ : Type} {B : Nat} {T : Nat → Prop} {w w' : World} {C : Nat → Prop} {D : τ → Dat} (h : Fam B w C D) (hK : Kept T w w') (hT : ∀ k, Foot C D k → ¬ T k) : Fam B w' C D :=
  ⟨fun t => (h.comp t).kept hK (fun k hk => ⟨hT k (.inl hk), (h.bnd k (.inl hk)).2⟩) (fun k hk => hT k (.inr ⟨t, hk⟩)), h.inj, fun k hk => by
    have := h.bnd k hk
    have := hK.size
    omega, h.cold⟩
def Hot {τ : Type} (D : τ → Dat) (k : Nat) : Prop := ∃ t, (D t).blk = some k
def Stp {τ : Type} (B : Nat) (w : World) (C : Nat → Prop) (D : τ → Dat) (w' : World) (C' : Nat → Prop) (D' : τ → Dat) : Prop :=
  Fam B w' C' D' ∧ Kept (Hot D) w w' ∧ (∀ k, Hot D' k → Hot D k ∨ w.heap.size ≤ k) ∧ (∀ k, C' k → C k ∨ Hot D k ∨ w.heap.size ≤ k) ∧ ∀ k, C k → C' k
theorem Stp.refl {τ : Type} {B : Nat} {w : World} {C : Nat → Prop} {D : τ → Dat} (h : Fam B w C D) : Stp B w C D w C D := ⟨h, Kept.refl _ _, fun k hk => .inl hk, fun k hk => .inl hk, fun k hk => hk⟩
theorem Stp.trans {τ : Type} {B : Nat} {w w1 w2 : World} {C C1 C2 : Nat → Prop} {D D1 D2 : τ → Dat} (h : Stp B w C D w1 C1 D1) (k : Stp B w1 C1 D1 w2 C2 D2) : Stp B w C D w2 C2 D2 := by
  obtain ⟨h1, h2, h3, h4, h5⟩ := h
  obtain ⟨k1, k2, k3, k4, k5⟩ := k
  have hz := h2.size
  refine ⟨k1, h2.trans k2 (fun i hi hf => ?_), fun i hi => ?_, fun i hi => ?_, fun i hi => k5 i (h5 i hi)⟩
  · rcases h3 i hf with h | h
    · exact h
    · omega
  · rcases k3 i hi with h | h
    · exact h3 i h
    · exact .inr (by omega)
  · rcases k4 i hi with h | h | h
    · exact h4 i h
    · rcases h3 i h with h | h
      · exact .inr (.inl h)
      · exact .inr (.inr h)
    · exact .inr (.inr (by omega))
theorem Stp.nob {τ : Type} {B : Nat} {w w' : World} {C : Nat → Prop} {D : τ → Dat} (h : Fam B w C D) (hK : Kept nob w w') : Stp B w C D w' C D :=
  ⟨h.frame hK (fun _ _ h => h), hK.mono (fun _ _ h => h.elim), fun k hk => .inl hk, fun k hk => .inl hk, fun k hk => hk⟩
theorem Stp.foot {τ : Type} {B : Nat} {w w' : World} {C C' : Nat → Prop} {D D' : τ → Dat} (h : Stp B w C D w' C' D') : ∀ k, Foot C' D' k → Foot C D k ∨ w.heap.size ≤ k := fun k hk => by
  rcases hk with hk | hk
  · rcases h.2.2.2.1 k hk with h | h | h
    · exact .inl (.inl h)
    · exact .inl (.inr h)
    · exact .inr h
  · rcases h.2.2.1 k hk with h | h
    · exact .inl (.inr h)
    · exact .inr h
theorem Cold.kept {S : Nat → Prop} {w w' : World} (hK : Kept S w w') {C : Nat → Prop} (hC : ∀ k, C k → ¬ S k ∧ k < w.heap.size) {v : Value} {L : List Prt} (h : Cold w C v L) : Cold w' C v L := by
  rcases h with ⟨a, cap, e1, e2⟩ | ⟨g, o, cap, us, e1, e2, e3, e4⟩
  · exact .inl ⟨a, cap, e1, e2⟩
  · exact .inr ⟨g, o, cap, us, e1, e2, fun j hj => by rw [← e3 j hj]; exact World.cell?_of_block (hK.block _ (hC _ e2).2 (hC _ e2).1), e4.kept hK hC⟩
theorem Stp.cold {τ : Type} {B : Nat} {w w' : World} {C C' : Nat → Prop} {D D' : τ → Dat} (h0 : Fam B w C D) (h : Stp B w C D w' C' D') {v : Value} {L : List Prt} (hv : Cold w C v L) : Cold w' C v L :=
  hv.kept h.2.1 (fun k hk => ⟨fun ⟨t, e⟩ => h0.cold k t hk e, (h0.bnd k (.inl hk)).2⟩)
/-- One thing changes: in place, or by a new block. -/
theorem Stp.one {τ : Type} [DecidableEq τ] {B : Nat} {w w' : World} {C : Nat → Prop} {D : τ → Dat} (h : Fam B w C D) (t : τ) (d : Dat) (hK : Kept (fun k => (D t).blk = some k) w w')
    (hd : Comp B w' C d) (hb : ∀ k, d.blk = some k → ((D t).blk = some k ∨ w.heap.size ≤ k) ∧ k < w'.heap.size) (hB : B ≤ w.heap.size) : Stp B w C D w' C (upd D t d) := by
  have hf : ∀ k, Foot C (upd D t d) k → Foot C D k ∨ w.heap.size ≤ k := fun k hk => by
    rcases hk with hk | ⟨s, hs⟩
    · exact .inl (.inl hk)
    · by_cases e : s = t
      · subst e
        rw [upd_at] at hs
        rcases (hb k hs).1 with h | h
        · exact .inl (.inr ⟨s, h⟩)
        · exact .inr h
      · rw [upd_ne e] at hs
        exact .inl (.inr ⟨s, hs⟩)
  have hh : ∀ k, Hot (upd D t d) k → Hot D k ∨ w.heap.size ≤ k := fun k hk => by
    obtain ⟨s, hs⟩ := hk
    by_cases e : s = t
    · subst e
      rw [upd_at] at hs
      rcases (hb k hs).1 with h | h
      · exact .inl ⟨s, h⟩
      · exact .inr h
    · rw [upd_ne e] at hs
      exact .inl ⟨s, hs⟩
  refine ⟨⟨fun s => ?_, fun s u k hs hu => ?_, fun k hk => ?_, fun k s hC hs => ?_⟩, hK.mono (fun k _ hk => ⟨t, hk⟩), hh, fun k hk => .inl hk, fun k hk => hk⟩
  · by_cases e : s = t
    · subst e; rw [upd_at]; exact hd
    · rw [upd_ne e]
      exact (h.comp s).kept hK (fun k hk => ⟨h.cold k t hk, (h.bnd k (.inl hk)).2⟩) (fun k hk hk2 => e (h.inj _ _ _ hk hk2))
  · by_cases e1 : s = t
    · by_cases e2 : u = t
      · rw [e1, e2]
      · subst e1
        rw [upd_at] at hs
        rw [upd_ne e2] at hu
        rcases (hb k hs).1 with h' | h'
        · exact h.inj _ _ _ h' hu
        · have := (h.bnd k (.inr ⟨u, hu⟩)).2; omega
    · rw [upd_ne e1] at hs
      by_cases e2 : u = t
      · subst e2
        rw [upd_at] at hu
        rcases (hb k hu).1 with h' | h'
        · exact h.inj _ _ _ hs h'
        · have := (h.bnd k (.inr ⟨s, hs⟩)).2; omega
      · rw [upd_ne e2] at hu
        exact h.inj _ _ _ hs hu
  · have hz := hK.size
    rcases hk with hk | ⟨s, hs⟩
    · have := h.bnd k (.inl hk); omega
    · by_cases e : s = t
      · subst e
        rw [upd_at] at hs
        have h2 := (hb k hs).2
        rcases (hb k hs).1 with h' | h'
        · have := h.bnd k (.inr ⟨s, h'⟩); omega
        · omega
      · rw [upd_ne e] at hs
        have := h.bnd k (.inr ⟨s, hs⟩); omega
  · by_cases e : s = t
    · subst e
      rw [upd_at] at hs
      rcases (hb k hs).1 with h' | h'
      · exact h.cold k s hC h'
      · have := (h.bnd k (.inl hC)).2; omega
    · rw [upd_ne e] at hs
      exact h.cold k s hC hs
/-- One thing is left alone from now on. -/
theorem Stp.cool {τ : Type} [DecidableEq τ] {B : Nat} {w : World} {C : Nat → Prop} {D : τ → Dat} (h : Fam B w C D) (t : τ) : Stp B w C D w (fun k => C k ∨ (D t).blk = some k) (upd D t .nothing) := by
  have hf : ∀ k, Foot (fun k => C k ∨ (D t).blk = some k) (upd D t .nothing) k → Foot C D k := fun k hk => by
    rcases hk with (hk | hk) | ⟨s, hs⟩
    · exact .inl hk
    · exact .inr ⟨t, hk⟩
    · by_cases e : s = t
      · subst e; rw [upd_at] at hs; cases hs
      · rw [upd_ne e] at hs; exact .inr ⟨s, hs⟩
  refine ⟨⟨fun s => ?_, fun s u k hs hu => ?_, fun k hk => h.bnd k (hf k hk), fun k s hC hs => ?_⟩, Kept.refl _ _, fun k hk => ?_, fun k hk => hk.elim .inl (fun e => .inr (.inl ⟨t, e⟩)), fun k hk => .inl hk⟩
  rotate_right
  · obtain ⟨s, hs⟩ := hk
    by_cases e : s = t
    · subst e; rw [upd_at] at hs; cases hs
    · rw [upd_ne e] at hs; exact .inl ⟨s, hs⟩
  · by_cases e : s = t
    · subst e; rw [upd_at]; trivial
    · rw [upd_ne e]; exact (h.comp s).mono (fun k hk => .inl hk)
  · by_cases e1 : s = t
    · subst e1; rw [upd_at] at hs; cases hs
    · rw [upd_ne e1] at hs
      by_cases e2 : u = t
      · subst e2; rw [upd_at] at hu; cases hu
      · rw [upd_ne e2] at hu
        exact h.inj _ _ _ hs hu
  · by_cases e : s = t
    · subst e; rw [upd_at] at hs; cases hs
    · rw [upd_ne e] at hs
      rcases hC with hC | hC
      · exact h.cold k s hC hs
      · exact e (h.inj _ _ _ hs hC)
end Go.Proofs.Ytbmapjgajecgfaa

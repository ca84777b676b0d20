/-
  What is proved: what a step of a machine keeps of memory: families of things, each with blocks of its own; what (*wordm.Machine).turn does; what goes, wrong and top do; writes to a machine; lemmas on the five cells of a part; lemma: the end of flush; what flush does. Conditions: those of each theorem.
-/
import Derived.Test.YtbmapjgajecgfaaCore
import Derived.Deep.AppendLies
import Derived.Laws.AppendOwnNone
import Derived.Laws.EntriesVeiled
import Derived.Laws.IdiomStrings
import Derived.Lib.BufferRead
import Derived.Deep.RegionLaw
set_option linter.unusedVariables false
set_option linter.unusedSimpArgs false
namespace Go.Proofs.Ytbmapjgajecgfaa
open Go.RowKit

theorem own_kept {S : Nat → Prop} {w w' : World} (hK : Kept S w w') {base : Nat} {e : TypeId} {size : Nat} {v : Value} {n : Nat} {xs : List Value} (h : w.ownsRow base e size v n xs) (hS : ∀ k, v.ownBlock = some k → ¬ S k) : w'.ownsRow base e size v n xs := by
  refine ⟨h.1, ?_⟩
  rcases h.2 with ⟨h1, h2⟩ | ⟨g, cap, cur, h1, h2, h3, h4⟩
  · exact .inl ⟨h1, h2⟩
  · exact .inr ⟨g, cap, cur, h1, h2, hK.get h3 (hS g (by rw [h1]; rfl)), h4⟩

/-- A part of a word: its kind, its texts, its parts, how many commands. -/
inductive Prt where
  | mk (k : Int) (tx op : ByteArray) (kids : List Prt) (cm : Nat)

/-- What a row of cells reads as, five a part; the rows within lie in blocks of which C speaks. -/
inductive Rds (w : World) (C : Nat → Prop) : List Value → List Prt → Prop
  | nil : Rds w C [] []
  | bare {k : Int} {tx op : ByteArray} {a : Option Addr} {cap : Nat} {ca : Option Addr} {cm cc : Nat} {vs : List Value} {L : List Prt} : Rds w C vs L → Rds w C (.int .i64 k :: .string tx :: .string op :: .slice a 0 cap :: .slice ca cm cc :: vs) (.mk k tx op [] cm :: L)
  | kids {k : Int} {tx op : ByteArray} {g o : Nat} {cap : Nat} {ca : Option Addr} {cm cc : Nat} {us vs : List Value} {K L : List Prt} : C g → (∀ j, j < us.length → w.cell? ⟨g, o + j, none⟩ = us[j]?) → Rds w C us K → Rds w C vs L →
      Rds w C (.int .i64 k :: .string tx :: .string op :: .slice (some ⟨g, o, none⟩) K.length cap :: .slice ca cm cc :: vs) (.mk k tx op K cm :: L)
theorem Rds.len {w : World} {C : Nat → Prop} {vs : List Value} {L : List Prt} (h : Rds w C vs L) : vs.length = L.length * 5 := by
  induction h with
  | nil => rfl
  | bare _ ih => simp only [List.length_cons, ih]; omega
  | kids _ _ _ _ _ ih => simp only [List.length_cons, ih]; omega
theorem Rds.kept {S : Nat → Prop} {w w' : World} (hK : Kept S w w') {C : Nat → Prop} (hC : ∀ k, C k → ¬ S k ∧ k < w.heap.size) {vs : List Value} {L : List Prt} (h : Rds w C vs L) : Rds w' C vs L := by
  induction h with
  | nil => exact .nil
  | bare _ ih => exact .bare ih
  | kids hg hc _ _ i1 i2 => exact .kids hg (fun j hj => by rw [← hc j hj]; exact World.cell?_of_block (hK.block _ (hC _ hg).2 (hC _ hg).1)) i1 i2
theorem Rds.mono {w : World} {C C' : Nat → Prop} (hC : ∀ k, C k → C' k) {vs : List Value} {L : List Prt} (h : Rds w C vs L) : Rds w C' vs L := by
  induction h with
  | nil => exact .nil
  | bare _ ih => exact .bare ih
  | kids hg hc _ _ i1 i2 => exact .kids (hC _ hg) hc i1 i2
theorem Rds.app {w : World} {C : Nat → Prop} {vs us : List Value} {L K : List Prt} (h : Rds w C vs L) (h' : Rds w C us K) : Rds w C (vs ++ us) (L ++ K) := by
  induction h with
  | nil => exact h'
  | bare _ ih => exact .bare ih
  | kids hg hc h1 _ _ i2 => exact .kids hg hc h1 i2
/-- What a slice of parts reads as. -/
def Cold (w : World) (C : Nat → Prop) (v : Value) (L : List Prt) : Prop :=
  (∃ a cap, v = .slice a 0 cap ∧ L = []) ∨ ∃ g o cap us, v = .slice (some ⟨g, o, none⟩) L.length cap ∧ C g ∧ (∀ j, j < us.length → w.cell? ⟨g, o + j, none⟩ = us[j]?) ∧ Rds w C us L
theorem Rds.one {w : World} {C : Nat → Prop} {k : Int} {tx op : ByteArray} {kv : Value} {ca : Option Addr} {cm cc : Nat} {K : List Prt} (h : Cold w C kv K) : Rds w C [.int .i64 k, .string tx, .string op, kv, .slice ca cm cc] [.mk k tx op K cm] := by
  rcases h with ⟨a, cap, rfl, rfl⟩ | ⟨g, o, cap, us, rfl, hg, hc, hr⟩
  · exact .bare .nil
  · exact .kids hg hc hr .nil

/-- One thing in memory that is somebody's own. -/
inductive Dat where
  | nothing
  | head (b : Nat) (t : TypeId) (cs : Array Value)
  | row (e : TypeId) (size : Nat) (v : Value) (n : Nat) (xs : List Value)
  | prow (e : TypeId) (v : Value) (L : List Prt)
def Dat.blk : Dat → Option Nat
  | .nothing => none
  | .head b _ _ => some b
  | .row _ _ v _ _ => v.ownBlock
  | .prow _ v _ => v.ownBlock
def Comp (B : Nat) (w : World) (C : Nat → Prop) : Dat → Prop
  | .nothing => True
  | .head b t cs => w.heap[b]? = some (.cells cs t (0, 0))
  | .row e size v n xs => w.ownsRow B e size v n xs
  | .prow e v L => ∃ vs, w.ownsRow B e 5 v L.length vs ∧ Rds w C vs L
theorem Comp.kept {B : Nat} {S : Nat → Prop} {w w' : World} (hK : Kept S w w') {C : Nat → Prop} (hC : ∀ k, C k → ¬ S k ∧ k < w.heap.size) {d : Dat} (hd : ∀ k, d.blk = some k → ¬ S k) (h : Comp B w C d) : Comp B w' C d := by
  cases d with
  | nothing => trivial
  | head b t cs => exact hK.get h (hd b rfl)
  | row e size v n xs => exact own_kept hK h hd
  | prow e v L =>
    obtain ⟨vs, h1, h2⟩ := h
    exact ⟨vs, own_kept hK h1 hd, h2.kept hK hC⟩
theorem Comp.mono {B : Nat} {w : World} {C C' : Nat → Prop} (hC : ∀ k, C k → C' k) {d : Dat} (h : Comp B w C d) : Comp B w C' d := by
  cases d with
  | prow e v L =>
    obtain ⟨vs, h1, h2⟩ := h
    exact ⟨vs, h1, h2.mono hC⟩
  | _ => exact h
def Foot {τ : Type} (C : Nat → Prop) (D : τ → Dat) (k : Nat) : Prop := C k ∨ ∃ t, (D t).blk = some k
structure Fam {τ : Type} (B : Nat) (w : World) (C : Nat → Prop) (D : τ → Dat) : Prop where
  comp : ∀ t, Comp B w C (D t)
  inj : ∀ t s k, (D t).blk = some k → (D s).blk = some k → t = s
  bnd : ∀ k, Foot C D k → B ≤ k ∧ k < w.heap.size
  cold : ∀ k t, C k → (D t).blk ≠ some k
def upd {τ : Type} [DecidableEq τ] (D : τ → Dat) (t : τ) (d : Dat) : τ → Dat := fun s => if s = t then d else D s
theorem upd_at {τ : Type} [DecidableEq τ] (D : τ → Dat) (t : τ) (d : Dat) : upd D t d t = d := by simp [upd]
theorem upd_ne {τ : Type} [DecidableEq τ] {D : τ → Dat} {t s : τ} {d : Dat} (h : s ≠ t) : upd D t d s = D s := by simp [upd, h]
theorem Fam.frame {τ : Type} {B : Nat} {T : Nat → Prop} {w w' : World} {C : Nat → Prop} {D : τ → Dat} (h : Fam B w C D) (hK : Kept T w w') (hT : ∀ k, Foot C D k → ¬ T k) : Fam B w' C D :=
  ⟨fun t => (h.comp t).kept hK (fun k hk => ⟨hT k (.inl hk), (h.bnd k (.inl hk)).2⟩) (fun k hk => hT k (.inr ⟨t, hk⟩)), h.inj, fun k hk => by
    have := h.bnd k hk
    have := hK.size
    omega, h.cold⟩
def Hot {τ : Type} (D : τ → Dat) (k : Nat) : Prop := ∃ t, (D t).blk = some k
def Stp {τ : Type} (B : Nat) (w : World) (C : Nat → Prop) (D : τ → Dat) (w' : World) (C' : Nat → Prop) (D' : τ → Dat) : Prop :=
  Fam B w' C' D' ∧ Kept (Hot D) w w' ∧ (∀ k, Hot D' k → Hot D k ∨ w.heap.size ≤ k) ∧ (∀ k, C' k → C k ∨ Hot D k ∨ w.heap.size ≤ k) ∧ ∀ k, C k → C' k
theorem Stp.refl {τ : Type} {B : Nat} {w : World} {C : Nat → Prop} {D : τ → Dat} (h : Fam B w C D) : Stp B w C D w C D := ⟨h, Kept.refl _ _, fun k hk => .inl hk, fun k hk => .inl hk, fun k hk => hk⟩
theorem Stp.trans {τ : Type} {B : Nat} {w w1 w2 : World} {C C1 C2 : Nat → Prop} {D D1 D2 : τ → Dat} (h : Stp B w C D w1 C1 D1) (k : Stp B w1 C1 D1 w2 C2 D2) : Stp B w C D w2 C2 D2 := by
  obtain ⟨h1, h2, h3, h4, h5⟩ := h
  obtain ⟨k1, k2, k3, k4, k5⟩ := k
  have hz := h2.size
  refine ⟨k1, h2.trans k2 (fun i hi hf => ?_), fun i hi => ?_, fun i hi => ?_, fun i hi => k5 i (h5 i hi)⟩
  · rcases h3 i hf with h | h
    · exact h
    · omega
  · rcases k3 i hi with h | h
    · exact h3 i h
    · exact .inr (by omega)
  · rcases k4 i hi with h | h | h
    · exact h4 i h
    · rcases h3 i h with h | h
      · exact .inr (.inl h)
      · exact .inr (.inr h)
    · exact .inr (.inr (by omega))
theorem Stp.nob {τ : Type} {B : Nat} {w w' : World} {C : Nat → Prop} {D : τ → Dat} (h : Fam B w C D) (hK : Kept nob w w') : Stp B w C D w' C D :=
  ⟨h.frame hK (fun _ _ h => h), hK.mono (fun _ _ h => h.elim), fun k hk => .inl hk, fun k hk => .inl hk, fun k hk => hk⟩
theorem Stp.foot {τ : Type} {B : Nat} {w w' : World} {C C' : Nat → Prop} {D D' : τ → Dat} (h : Stp B w C D w' C' D') : ∀ k, Foot C' D' k → Foot C D k ∨ w.heap.size ≤ k := fun k hk => by
  rcases hk with hk | hk
  · rcases h.2.2.2.1 k hk with h | h | h
    · exact .inl (.inl h)
    · exact .inl (.inr h)
    · exact .inr h
  · rcases h.2.2.1 k hk with h | h
    · exact .inl (.inr h)
    · exact .inr h
theorem Cold.kept {S : Nat → Prop} {w w' : World} (hK : Kept S w w') {C : Nat → Prop} (hC : ∀ k, C k → ¬ S k ∧ k < w.heap.size) {v : Value} {L : List Prt} (h : Cold w C v L) : Cold w' C v L := by
  rcases h with ⟨a, cap, e1, e2⟩ | ⟨g, o, cap, us, e1, e2, e3, e4⟩
  · exact .inl ⟨a, cap, e1, e2⟩
  · exact .inr ⟨g, o, cap, us, e1, e2, fun j hj => by rw [← e3 j hj]; exact World.cell?_of_block (hK.block _ (hC _ e2).2 (hC _ e2).1), e4.kept hK hC⟩
theorem Stp.cold {τ : Type} {B : Nat} {w w' : World} {C C' : Nat → Prop} {D D' : τ → Dat} (h0 : Fam B w C D) (h : Stp B w C D w' C' D') {v : Value} {L : List Prt} (hv : Cold w C v L) : Cold w' C v L :=
  hv.kept h.2.1 (fun k hk => ⟨fun ⟨t, e⟩ => h0.cold k t hk e, (h0.bnd k (.inl hk)).2⟩)
/-- One thing changes: in place, or by a new block. -/
theorem Stp.one {τ : Type} [DecidableEq τ] {B : Nat} {w w' : World} {C : Nat → Prop} {D : τ → Dat} (h : Fam B w C D) (t : τ) (d : Dat) (hK : Kept (fun k => (D t).blk = some k) w w')
    (hd : Comp B w' C d) (hb : ∀ k, d.blk = some k → ((D t).blk = some k ∨ w.heap.size ≤ k) ∧ k < w'.heap.size) (hB : B ≤ w.heap.size) : Stp B w C D w' C (upd D t d) := by
  have hf : ∀ k, Foot C (upd D t d) k → Foot C D k ∨ w.heap.size ≤ k := fun k hk => by
    rcases hk with hk | ⟨s, hs⟩
    · exact .inl (.inl hk)
    · by_cases e : s = t
      · subst e
        rw [upd_at] at hs
        rcases (hb k hs).1 with h | h
        · exact .inl (.inr ⟨s, h⟩)
        · exact .inr h
      · rw [upd_ne e] at hs
        exact .inl (.inr ⟨s, hs⟩)
  have hh : ∀ k, Hot (upd D t d) k → Hot D k ∨ w.heap.size ≤ k := fun k hk => by
    obtain ⟨s, hs⟩ := hk
    by_cases e : s = t
    · subst e
      rw [upd_at] at hs
      rcases (hb k hs).1 with h | h
      · exact .inl ⟨s, h⟩
      · exact .inr h
    · rw [upd_ne e] at hs
      exact .inl ⟨s, hs⟩
  refine ⟨⟨fun s => ?_, fun s u k hs hu => ?_, fun k hk => ?_, fun k s hC hs => ?_⟩, hK.mono (fun k _ hk => ⟨t, hk⟩), hh, fun k hk => .inl hk, fun k hk => hk⟩
  · by_cases e : s = t
    · subst e; rw [upd_at]; exact hd
    · rw [upd_ne e]
      exact (h.comp s).kept hK (fun k hk => ⟨h.cold k t hk, (h.bnd k (.inl hk)).2⟩) (fun k hk hk2 => e (h.inj _ _ _ hk hk2))
  · by_cases e1 : s = t
    · by_cases e2 : u = t
      · rw [e1, e2]
      · subst e1
        rw [upd_at] at hs
        rw [upd_ne e2] at hu
        rcases (hb k hs).1 with h' | h'
        · exact h.inj _ _ _ h' hu
        · have := (h.bnd k (.inr ⟨u, hu⟩)).2; omega
    · rw [upd_ne e1] at hs
      by_cases e2 : u = t
      · subst e2
        rw [upd_at] at hu
        rcases (hb k hu).1 with h' | h'
        · exact h.inj _ _ _ hs h'
        · have := (h.bnd k (.inr ⟨s, hs⟩)).2; omega
      · rw [upd_ne e2] at hu
        exact h.inj _ _ _ hs hu
  · have hz := hK.size
    rcases hk with hk | ⟨s, hs⟩
    · have := h.bnd k (.inl hk); omega
    · by_cases e : s = t
      · subst e
        rw [upd_at] at hs
        have h2 := (hb k hs).2
        rcases (hb k hs).1 with h' | h'
        · have := h.bnd k (.inr ⟨s, h'⟩); omega
        · omega
      · rw [upd_ne e] at hs
        have := h.bnd k (.inr ⟨s, hs⟩); omega
  · by_cases e : s = t
    · subst e
      rw [upd_at] at hs
      rcases (hb k hs).1 with h' | h'
      · exact h.cold k s hC h'
      · have := (h.bnd k (.inl hC)).2; omega
    · rw [upd_ne e] at hs
      exact h.cold k s hC hs
/-- One thing is left alone from now on. -/
theorem Stp.cool {τ : Type} [DecidableEq τ] {B : Nat} {w : World} {C : Nat → Prop} {D : τ → Dat} (h : Fam B w C D) (t : τ) : Stp B w C D w (fun k => C k ∨ (D t).blk = some k) (upd D t .nothing) := by
  have hf : ∀ k, Foot (fun k => C k ∨ (D t).blk = some k) (upd D t .nothing) k → Foot C D k := fun k hk => by
    rcases hk with (hk | hk) | ⟨s, hs⟩
    · exact .inl hk
    · exact .inr ⟨t, hk⟩
    · by_cases e : s = t
      · subst e; rw [upd_at] at hs; cases hs
      · rw [upd_ne e] at hs; exact .inr ⟨s, hs⟩
  refine ⟨⟨fun s => ?_, fun s u k hs hu => ?_, fun k hk => h.bnd k (hf k hk), fun k s hC hs => ?_⟩, Kept.refl _ _, fun k hk => ?_, fun k hk => hk.elim .inl (fun e => .inr (.inl ⟨t, e⟩)), fun k hk => .inl hk⟩
  rotate_right
  · obtain ⟨s, hs⟩ := hk
    by_cases e : s = t
    · subst e; rw [upd_at] at hs; cases hs
    · rw [upd_ne e] at hs; exact .inl ⟨s, hs⟩
  · by_cases e : s = t
    · subst e; rw [upd_at]; trivial
    · rw [upd_ne e]; exact (h.comp s).mono (fun k hk => .inl hk)
  · by_cases e1 : s = t
    · subst e1; rw [upd_at] at hs; cases hs
    · rw [upd_ne e1] at hs
      by_cases e2 : u = t
      · subst e2; rw [upd_at] at hu; cases hu
      · rw [upd_ne e2] at hu
        exact h.inj _ _ _ hs hu
  · by_cases e : s = t
    · subst e; rw [upd_at] at hs; cases hs
    · rw [upd_ne e] at hs
      rcases hC with hC | hC
      · exact h.cold k s hC hs
      · exact e (h.inj _ _ _ hs hC)
end Go.Proofs.Ytbmapjgajecgfaa
set_option linter.unusedVariables false
set_option linter.unusedSimpArgs false
namespace Go.Proofs.Ytbmapjgajecgfaa
open Go.RowKit
inductive Tag where
  | hd | lv | tk | pl | bu
  | ps (i : Nat) | li (i : Nat)
  deriving DecidableEq
def bv (L : List UInt8) : List Value := L.map fun x => .int .u8 (x.toNat : Int)
theorem bv_len (L : List UInt8) : (bv L).length = L.length := by simp [bv]
/-- A level, with the values that lie in memory for its lists. -/
structure LvM where
  wh : Int
  ps : List Prt
  li : List UInt8
  nm : ByteArray
  op : ByteArray
  pv : Value
  tv : Value
def LvM.cells (l : LvM) : List Value := [.int .i64 l.wh, l.pv, l.tv, .string l.nm, .string l.op]
/-- A machine: the levels below, the last one, the rest; and the values that lie in memory for its lists. -/
structure Sn where
  lo : List LvM
  tp : LvM
  kd : Nat
  tk : List UInt8
  pl : List UInt8
  ex : Bool
  qu : Bool
  bu : List UInt8
  dp : Int
  ln : Bool
  cu : Int
  lvv : Value
  tkv : Value
  plv : Value
  buv : Value
def nextv (b : Nat) (k : Nat) : Value :=
  let p : Value := .pointer (some ⟨b, 0, none⟩)
  match k with
  | 0 => .func (.func 34) #[p] #[]
  | 1 => .func (.func 35) #[p] #[]
  | 2 => .func (.func 36) #[p] #[]
  | 3 => .func (.func 37) #[p] #[]
  | 4 => .func (.func 38) #[p] #[]
  | 5 => .func (.func 39) #[p] #[]
  | 6 => .func (.func 40) #[p] #[]
  | 7 => .func (.func 41) #[p] #[]
  | 8 => .func (.func 41) #[p] #[]
  | 9 => .func (.func 42) #[p] #[]
  | 10 => .func (.func 43) #[p] #[]
  | 11 => .func (.func 44) #[p] #[]
  | 12 => .func (.func 45) #[p] #[]
  | 13 => .func (.func 46) #[p] #[]
  | 14 => .func (.func 47) #[p] #[]
  | 16 => .func (.func 48) #[] #[]
  | _ => .func (.func 49) #[] #[]
def Sn.head (S : Sn) (b : Nat) (nx : Value) : Array Value := #[S.lvv, nx, .int .i64 (S.kd : Int), S.tkv, S.plv, .bool S.ex, .bool S.qu, S.buv, .int .i64 S.dp, .bool S.ln, .int .u8 S.cu]
def Sn.all (S : Sn) : List LvM := S.lo ++ [S.tp]
def Sn.dat (S : Sn) (b : Nat) : Tag → Dat
  | .hd => .head b 53 (S.head b (nextv b S.kd))
  | .lv => .row 55 5 S.lvv (S.lo.length + 1) (S.all.flatMap LvM.cells)
  | .tk => .row 5 1 S.tkv S.tk.length (bv S.tk)
  | .pl => .row 5 1 S.plv S.pl.length (bv S.pl)
  | .bu => .row 5 1 S.buv S.bu.length (bv S.bu)
  | .ps i => match S.all[i]? with | some l => .prow 49 l.pv l.ps | none => .nothing
  | .li i => match S.all[i]? with | some l => .row 5 1 l.tv l.li.length (bv l.li) | none => .nothing
theorem head_step {B : Nat} {w w' : World} {b : Nat} {C : Nat → Prop} {S S' : Sn} (h : Fam B w C (S.dat b)) (hK : Kept (ib b) w w') (hd : w'.heap[b]? = some (.cells (S'.head b (nextv b S'.kd)) 53 (0, 0)))
    (hs : upd (S.dat b) .hd (.head b 53 (S'.head b (nextv b S'.kd))) = S'.dat b) : Stp B w C (S.dat b) w' C (S'.dat b) := by
  have hb := h.bnd b (.inr ⟨.hd, rfl⟩)
  rw [← hs]
  refine Stp.one h .hd _ (hK.mono (fun k _ e => by rw [e]; rfl)) hd (fun k hk => ?_) (by omega)
  have hz := hK.size
  obtain rfl : b = k := by simpa [Dat.blk] using hk
  exact ⟨.inl rfl, by omega⟩
def Turned (B : Nat) (w0 : World) (b : Nat) (C : Nat → Prop) (S : Sn) (k : Nat) (v : Value) (e : Ending) (w' : World) : Prop :=
  e = .returned v ∧ Stp B w0 C (S.dat b) w' C ({S with kd := k}.dat b)
set_option maxHeartbeats 2000000 in
theorem turn_any {B : Nat} {w : World} {b : Nat} {C : Nat → Prop} {S : Sn} (h : Fam B w C (S.dat b)) (k : Nat) (hk : k ≤ 17) :
    Calls Try.prog 27 #[.pointer (some ⟨b, 0, none⟩), .int .i64 (k : Int)] w (Turned B w b C S k (.pointer (some ⟨b, 0, none⟩))) := by
  have hb : w.heap[b]? = some (.cells (S.head b (nextv b S.kd)) 53 (0, 0)) := h.comp .hd
  have e1 := fun v => set_blk hb 2 v
  have hc1 : w.cell? ⟨b, 1, none⟩ = some (nextv b S.kd) := by rw [cell_blk hb]; rfl
  have hc2 : w.cell? ⟨b, 2, none⟩ = some (.int .i64 (S.kd : Int)) := by rw [cell_blk hb]; rfl
  have hf1 := frz_blk hb 1
  have hf2 := frz_blk hb 2
  have hd1 : ∀ v, (w.setCell ⟨b, 2, none⟩ v).cell? ⟨b, 1, none⟩ = some (nextv b S.kd) := fun v => by rw [cell_blk (e1 v)]; rfl
  have hg1 : ∀ v, (w.setCell ⟨b, 2, none⟩ v).frozen? ⟨b, 1, none⟩ = false := fun v => frz_blk (e1 v) 1
  have fin : ∀ k : Nat, Stp B w C (S.dat b) ((w.setCell ⟨b, 2, none⟩ (.int .i64 (k : Int))).setCell ⟨b, 1, none⟩ (nextv b k)) C ({S with kd := k}.dat b) := fun k => by
    refine head_step h ((Kept.setCell w ⟨b, 2, none⟩ _).trans (Kept.setCell _ ⟨b, 1, none⟩ _) (fun _ _ h => h)) ?_ ?_
    · rw [set_blk (e1 _)]; rfl
    · funext t; cases t <;> rfl
  have HF := Lib.hid fin
  obtain ⟨nv, hnv⟩ : ∃ nv, nextv b S.kd = nv := ⟨_, rfl⟩
  rw [hnv] at hc1 hd1
  clear hb e1 fin hnv h
  have key : k = 0 ∨ k = 1 ∨ k = 2 ∨ k = 3 ∨ k = 4 ∨ k = 5 ∨ k = 6 ∨ k = 7 ∨ k = 8 ∨ k = 9 ∨ k = 10 ∨ k = 11 ∨ k = 12 ∨ k = 13 ∨ k = 14 ∨ k = 15 ∨ k = 16 ∨ k = 17 := by omega
  clear hk
  rcases key with rfl | rfl | rfl | rfl | rfl | rfl | rfl | rfl | rfl | rfl | rfl | rfl | rfl | rfl | rfl | rfl | rfl | rfl
  all_goals
    go_enter Try.func27, Try.ntmps27
    go_wp2
    go_ret
    exact ⟨rfl, HF.out _⟩
end Go.Proofs.Ytbmapjgajecgfaa
set_option linter.unusedVariables false
set_option linter.unusedSimpArgs false
namespace Go.Proofs.Ytbmapjgajecgfaa
open Go.RowKit
theorem goes_any {B : Nat} {w : World} {b : Nat} {C : Nat → Prop} {S : Sn} (h : Fam B w C (S.dat b)) (k : Nat) (hk : k ≤ 17) :
    Calls Try.prog 63 #[.pointer (some ⟨b, 0, none⟩), .int .i64 (k : Int)] w (Turned B w b C S k (.int .i64 0)) := by
  have H := Lib.hid h
  clear h
  go_enter Try.func63, Try.ntmps63
  go_wp2_with fail
  refine (turn_any H.out k hk).mono ?_
  rintro e w' ⟨rfl, hs⟩
  go_wp2
  go_ret
  exact ⟨rfl, hs⟩
theorem wrong_any {B : Nat} {w : World} {b : Nat} {C : Nat → Prop} {S : Sn} (h : Fam B w C (S.dat b)) :
    Calls Try.prog 61 #[.pointer (some ⟨b, 0, none⟩)] w (Turned B w b C S 17 (.int .i64 3)) := by
  have H := Lib.hid h
  clear h
  go_enter Try.func61, Try.ntmps61
  go_wp2_with fail
  refine (turn_any H.out 17 (by omega)).mono ?_
  rintro e w' ⟨rfl, hs⟩
  go_wp2
  go_ret
  exact ⟨rfl, hs⟩
theorem lv_at {B : Nat} {w : World} {b : Nat} {C : Nat → Prop} {S : Sn} (h : Fam B w C (S.dat b)) :
    ∃ g cap cur, S.lvv = .slice (some ⟨g, 0, none⟩) (S.lo.length + 1) cap ∧ B ≤ g ∧ w.heap[g]? = some (.cells cur 55 (0, 0)) ∧ S.lo.length + 1 ≤ cap ∧ cap ≤ maxLen ∧ cur.size = cap * 5 ∧ cur.toList.take ((S.lo.length + 1) * 5) = S.all.flatMap LvM.cells := by
  have := h.comp .lv
  rcases this.2 with ⟨_, h2⟩ | h
  · omega
  · exact h
/-- Where the last level lies. -/
def topA (S : Sn) : Option Addr := match S.lvv with | .slice (some a) _ _ => some ⟨a.block, S.lo.length * 5, none⟩ | _ => none
theorem top_any {B : Nat} {w : World} {b : Nat} {C : Nat → Prop} {S : Sn} (h : Fam B w C (S.dat b)) :
    Calls Try.prog 32 #[.pointer (some ⟨b, 0, none⟩)] w fun e w' => e = .returned (.pointer (topA S)) ∧ ∃ q, w' = w.drewN q := by
  obtain ⟨g, cap, cur, hl, hB, hg, hn, hm, _, _⟩ := lv_at h
  have hb : w.heap[b]? = some (.cells (S.head b (nextv b S.kd)) 53 (0, 0)) := h.comp .hd
  have hc0 : w.cell? ⟨b, 0, none⟩ = some S.lvv := by rw [cell_blk hb]; rfl
  have ht : topA S = some ⟨g, S.lo.length * 5, none⟩ := by rw [topA, hl]
  rw [hl] at hc0
  rw [ht]
  unfold maxLen at hm
  obtain ⟨n, hn'⟩ : ∃ n, S.lo.length = n := ⟨_, rfl⟩
  rw [hn'] at hn hc0 ⊢
  clear h hb hg ht hl hn'
  go_enter Try.func32, Try.ntmps32
  go_wp2
  go_quiet (fail)
  go_wp2
  go_ret
  exact ⟨rfl, _, rfl⟩

theorem own_set {w : World} {base : Nat} {e : TypeId} {size : Nat} {g n cap : Nat} {xs : List Value} (h : w.ownsRow base e size (.slice (some ⟨g, 0, none⟩) n cap) n xs) (j : Nat) (u : Value) :
    (w.setCell ⟨g, j, none⟩ u).ownsRow base e size (.slice (some ⟨g, 0, none⟩) n cap) n (xs.set j u) := by
  refine ⟨by rw [List.length_set]; exact h.1, .inr ?_⟩
  rcases h.2 with ⟨h1, _⟩ | ⟨g', cap', cur, h1, h2, h3, h4, h5, h6, h7⟩
  · simp at h1
  · obtain ⟨rfl, rfl⟩ : g = g' ∧ cap = cap' := by simpa using h1
    refine ⟨g, cap, cur.setIfInBounds j u, rfl, h2, set_blk h3 j u, h4, h5, by simpa using h6, ?_⟩
    rw [← h7]
    simp [List.take_set]
theorem own_cell {w : World} {base : Nat} {e : TypeId} {size : Nat} {g n cap : Nat} {xs : List Value} (h : w.ownsRow base e size (.slice (some ⟨g, 0, none⟩) n cap) n xs) {j : Nat} (hj : j < n * size) : w.cell? ⟨g, j, none⟩ = xs[j]? := by
  rcases h.2 with ⟨h1, _⟩ | ⟨g', cap', cur, h1, h2, h3, h4, h5, h6, h7⟩
  · simp at h1
  · obtain ⟨rfl, rfl⟩ : g = g' ∧ cap = cap' := by simpa using h1
    rw [cell_blk h3, ← h7, List.getElem?_take, if_pos hj]
    simp
theorem own_frz {w : World} {base : Nat} {e : TypeId} {size : Nat} {g n cap : Nat} {xs : List Value} (h : w.ownsRow base e size (.slice (some ⟨g, 0, none⟩) n cap) n xs) (j : Nat) : w.frozen? ⟨g, j, none⟩ = false := by
  rcases h.2 with ⟨h1, _⟩ | ⟨g', cap', cur, h1, h2, h3, h4, h5, h6, h7⟩
  · simp at h1
  · obtain ⟨rfl, rfl⟩ : g = g' ∧ cap = cap' := by simpa using h1
    exact frz_blk h3 j
theorem flat_len (l : List LvM) : (l.flatMap LvM.cells).length = l.length * 5 := by
  induction l with
  | nil => rfl
  | cons x l ih => simp only [List.flatMap_cons, List.length_append, ih, List.length_cons]; show 5 + _ = _; omega
theorem all_flat (S : Sn) : S.all.flatMap LvM.cells = S.lo.flatMap LvM.cells ++ S.tp.cells := by simp [Sn.all]
theorem flat_at (S : Sn) (j : Nat) : (S.all.flatMap LvM.cells)[S.lo.length * 5 + j]? = S.tp.cells[j]? := by
  rw [all_flat, List.getElem?_append_right (by rw [flat_len]; omega), flat_len]
  congr 1
  omega
theorem flat_set (S : Sn) (j : Nat) (u : Value) : (S.all.flatMap LvM.cells).set (S.lo.length * 5 + j) u = S.lo.flatMap LvM.cells ++ S.tp.cells.set j u := by
  rw [all_flat, List.set_append, if_neg (by rw [flat_len]; omega), flat_len]
  congr 2
  omega
theorem all_at (S : Sn) (i : Nat) (h : i ≠ S.lo.length) : S.all[i]? = S.lo[i]? := by
  unfold Sn.all
  by_cases hi : i < S.lo.length
  · rw [List.getElem?_append_left hi]
  · rw [List.getElem?_append_right (by omega), List.getElem?_eq_none (by simp; omega), List.getElem?_eq_none (by omega)]
theorem all_tp (S : Sn) : S.all[S.lo.length]? = some S.tp := by
  unfold Sn.all
  rw [List.getElem?_append_right (Nat.le_refl _)]
  simp
theorem dat_eq {S S' : Sn} {b : Nat} {D : Tag → Dat} (hlo : S'.lo = S.lo) (h1 : D .hd = S'.dat b .hd) (h2 : D .lv = S'.dat b .lv) (h3 : D .tk = S'.dat b .tk) (h4 : D .pl = S'.dat b .pl) (h5 : D .bu = S'.dat b .bu)
    (h6 : D (.ps S.lo.length) = .prow 49 S'.tp.pv S'.tp.ps) (h7 : D (.li S.lo.length) = .row 5 1 S'.tp.tv S'.tp.li.length (bv S'.tp.li))
    (h8 : ∀ i, i ≠ S.lo.length → D (.ps i) = S.dat b (.ps i)) (h9 : ∀ i, i ≠ S.lo.length → D (.li i) = S.dat b (.li i)) : D = S'.dat b := by
  funext t
  cases t with
  | hd => exact h1
  | lv => exact h2
  | tk => exact h3
  | pl => exact h4
  | bu => exact h5
  | ps i =>
    by_cases e : i = S.lo.length
    · subst e
      rw [h6]
      show _ = match S'.all[S.lo.length]? with | some l => Dat.prow 49 l.pv l.ps | none => .nothing
      rw [← hlo, all_tp]
    · rw [h8 i e]
      show (match S.all[i]? with | some l => Dat.prow 49 l.pv l.ps | none => .nothing) = match S'.all[i]? with | some l => Dat.prow 49 l.pv l.ps | none => .nothing
      rw [all_at S i e, all_at S' i (by rw [hlo]; exact e), hlo]
  | li i =>
    by_cases e : i = S.lo.length
    · subst e
      rw [h7]
      show _ = match S'.all[S.lo.length]? with | some l => Dat.row 5 1 l.tv l.li.length (bv l.li) | none => .nothing
      rw [← hlo, all_tp]
    · rw [h9 i e]
      show (match S.all[i]? with | some l => Dat.row 5 1 l.tv l.li.length (bv l.li) | none => .nothing) = match S'.all[i]? with | some l => Dat.row 5 1 l.tv l.li.length (bv l.li) | none => .nothing
      rw [all_at S i e, all_at S' i (by rw [hlo]; exact e), hlo]
theorem dat_ps (S : Sn) (b : Nat) : S.dat b (.ps S.lo.length) = .prow 49 S.tp.pv S.tp.ps := by
  show (match S.all[S.lo.length]? with | some l => Dat.prow 49 l.pv l.ps | none => .nothing) = _
  rw [all_tp]
theorem dat_li (S : Sn) (b : Nat) : S.dat b (.li S.lo.length) = .row 5 1 S.tp.tv S.tp.li.length (bv S.tp.li) := by
  show (match S.all[S.lo.length]? with | some l => Dat.row 5 1 l.tv l.li.length (bv l.li) | none => .nothing) = _
  rw [all_tp]
theorem info_u8 : (Try.prog.info? 5).map (fun i => (i.zero, i.size, i.bytes)) = some (some (.int .u8 0), 1, 1) := by kernel_rfl
theorem bv_one (L : List UInt8) : ∀ u ∈ bv L, u.oneCell' = true := by
  intro u hu
  obtain ⟨_, _, rfl⟩ := List.mem_map.1 hu
  rfl

theorem Stp.setRow {τ : Type} [DecidableEq τ] {B : Nat} {w : World} {C : Nat → Prop} {D : τ → Dat} (h : Fam B w C D) {t : τ} {e : TypeId} {size g n cap : Nat} {xs : List Value} (ht : D t = .row e size (.slice (some ⟨g, 0, none⟩) n cap) n xs) (j : Nat) (u : Value) :
    Stp B w C D (w.setCell ⟨g, j, none⟩ u) C (upd D t (.row e size (.slice (some ⟨g, 0, none⟩) n cap) n (xs.set j u))) := by
  have hc := h.comp t
  rw [ht] at hc
  have hb := h.bnd g (.inr ⟨t, by rw [ht]; rfl⟩)
  refine Stp.one h t _ (by rw [ht]; exact (Kept.setCell w ⟨g, j, none⟩ u).mono (fun k _ e => by rw [e]; rfl)) (own_set hc j u) (fun k hk => ?_) (by omega)
  obtain rfl : g = k := by simpa [Dat.blk, Value.ownBlock] using hk
  exact ⟨.inl (by rw [ht]; rfl), by simp [World.setCell]; exact hb.2⟩
theorem Stp.setHead {τ : Type} [DecidableEq τ] {B : Nat} {w : World} {C : Nat → Prop} {D : τ → Dat} (h : Fam B w C D) {t : τ} {b : Nat} {ty : TypeId} {cs : Array Value} (ht : D t = .head b ty cs) (j : Nat) (u : Value) :
    Stp B w C D (w.setCell ⟨b, j, none⟩ u) C (upd D t (.head b ty (cs.setIfInBounds j u))) := by
  have hc := h.comp t
  rw [ht] at hc
  have hb := h.bnd b (.inr ⟨t, by rw [ht]; rfl⟩)
  refine Stp.one h t _ (by rw [ht]; exact (Kept.setCell w ⟨b, j, none⟩ u).mono (fun k _ e => by rw [e]; rfl)) (set_blk hc j u) (fun k hk => ?_) (by omega)
  obtain rfl : b = k := by simpa [Dat.blk] using hk
  exact ⟨.inl (by rw [ht]; rfl), by simp [World.setCell]; exact hb.2⟩
theorem Stp.app {τ : Type} [DecidableEq τ] {B : Nat} {w w' : World} {C : Nat → Prop} {D : τ → Dat} (h : Fam B w C D) {t : τ} {e : TypeId} {size g n m cap : Nat} {v : Value} {xs ys : List Value} (ht : D t = .row e size v n xs) (gr : w.grownBy w' v.ownBlock)
    (own : w'.ownsRow B e size (.slice (some ⟨g, 0, none⟩) m cap) m ys) (ls : v.ownBlock = some g ∨ g = w.heap.size) (lt : g < w'.heap.size) (hB : B ≤ w.heap.size) :
    Stp B w C D w' C (upd D t (.row e size (.slice (some ⟨g, 0, none⟩) m cap) m ys)) := by
  refine Stp.one h t _ (by rw [ht]; exact (Kept.ofGrown gr).mono (fun k _ e => e.symm)) own (fun k hk => ?_) hB
  obtain rfl : g = k := by simpa [Dat.blk, Value.ownBlock] using hk
  refine ⟨?_, lt⟩
  rcases ls with h | h
  · left; rw [ht]; exact h
  · right; omega
theorem Stp.hB {τ : Type} {B : Nat} {w w' : World} {C C' : Nat → Prop} {D D' : τ → Dat} (h : Stp B w C D w' C' D') (hB : B ≤ w.heap.size) : B ≤ w'.heap.size := Nat.le_trans hB h.2.1.size
end Go.Proofs.Ytbmapjgajecgfaa
set_option linter.unusedVariables false
set_option linter.unusedSimpArgs false
namespace Go.Proofs.Ytbmapjgajecgfaa
open Go.RowKit
def zpart : Value := .agg #[.int .i64 0, .string ⟨#[]⟩, .string ⟨#[]⟩, .slice none 0 0, .slice none 0 0]
def zcells : Array Value := #[.int .i64 0, .string ⟨#[]⟩, .string ⟨#[]⟩, .slice none 0 0, .slice none 0 0]
theorem info_part : (Try.prog.info? 49).map (fun i => (i.zero, i.size, i.bytes)) = some (some zpart, 5, 88) := by kernel_rfl
theorem own_slice {w : World} {base : Nat} {e : TypeId} {size : Nat} {v : Value} {n : Nat} {xs : List Value} (h : w.ownsRow base e size v n xs) : ∃ a c, v = .slice a n c := by
  rcases h.2 with ⟨h1, h2⟩ | ⟨g, cap, cur, h1, _⟩
  · exact ⟨none, 0, by rw [h1, h2]⟩
  · exact ⟨_, _, h1⟩
theorem World.heap_alloc_old' {w : World} {i : Nat} (o : Obj) (h : i < w.heap.size) : (w.alloc o).heap[i]? = w.heap[i]? := by
  show (w.heap.push o)[i]? = w.heap[i]?
  rw [Array.getElem?_push, if_neg (Nat.ne_of_lt h)]
theorem five {w : World} {g o : Nat} {v0 v1 v2 v3 v4 va : Value} {a : Addr} (h0 : w.cell? ⟨g, o, none⟩ = some v0) (h1 : w.cell? ⟨g, o + 1, none⟩ = some v1) (h2 : w.cell? ⟨g, o + 2, none⟩ = some v2) (h3 : w.cell? ⟨g, o + 3, none⟩ = some v3) (h4 : w.cell? ⟨g, o + 4, none⟩ = some v4) (ha : w.cell? a = some va) (hne : a.block ≠ g) :
    w.cell? ⟨g, o, none⟩ = some v0 ∧ (∀ u0, (w.setCell ⟨g, o, none⟩ u0).cell? ⟨g, o + 1, none⟩ = some v1) ∧ (∀ u0 u1, ((w.setCell ⟨g, o, none⟩ u0).setCell ⟨g, o + 1, none⟩ u1).cell? ⟨g, o + 2, none⟩ = some v2) ∧
    (∀ u0 u1 u2, (((w.setCell ⟨g, o, none⟩ u0).setCell ⟨g, o + 1, none⟩ u1).setCell ⟨g, o + 2, none⟩ u2).cell? ⟨g, o + 3, none⟩ = some v3) ∧
    (∀ u0 u1 u2 u3, ((((w.setCell ⟨g, o, none⟩ u0).setCell ⟨g, o + 1, none⟩ u1).setCell ⟨g, o + 2, none⟩ u2).setCell ⟨g, o + 3, none⟩ u3).cell? ⟨g, o + 4, none⟩ = some v4) ∧
    (∀ u0 u1 u2 u3 u4, (((((w.setCell ⟨g, o, none⟩ u0).setCell ⟨g, o + 1, none⟩ u1).setCell ⟨g, o + 2, none⟩ u2).setCell ⟨g, o + 3, none⟩ u3).setCell ⟨g, o + 4, none⟩ u4).cell? a = some va) := by
  have ne : ∀ (i j : Nat), i ≠ j → (⟨g, i, none⟩ : Addr) ≠ ⟨g, j, none⟩ := fun i j h e => h (Addr.mk.inj e).2.1
  have nea : ∀ i, (⟨g, i, none⟩ : Addr) ≠ a := fun i e => hne (by rw [← e])
  refine ⟨h0, fun _ => ?_, fun _ _ => ?_, fun _ _ _ => ?_, fun _ _ _ _ => ?_, fun _ _ _ _ _ => ?_⟩
  · rw [World.cell?_setCell_other (h := ne _ _ (by omega)), h1]
  · rw [World.cell?_setCell_other (h := ne _ _ (by omega)), World.cell?_setCell_other (h := ne _ _ (by omega)), h2]
  · rw [World.cell?_setCell_other (h := ne _ _ (by omega)), World.cell?_setCell_other (h := ne _ _ (by omega)), World.cell?_setCell_other (h := ne _ _ (by omega)), h3]
  · rw [World.cell?_setCell_other (h := ne _ _ (by omega)), World.cell?_setCell_other (h := ne _ _ (by omega)), World.cell?_setCell_other (h := ne _ _ (by omega)), World.cell?_setCell_other (h := ne _ _ (by omega)), h4]
  · rw [World.cell?_setCell_other (h := nea _), World.cell?_setCell_other (h := nea _), World.cell?_setCell_other (h := nea _), World.cell?_setCell_other (h := nea _), World.cell?_setCell_other (h := nea _), ha]
theorem five2 {w : World} {g o : Nat} {v0 v1 v2 v3 v4 u : Value} {a : Addr} (h0 : w.cell? ⟨g, o, none⟩ = some v0) (h1 : w.cell? ⟨g, o + 1, none⟩ = some v1) (h2 : w.cell? ⟨g, o + 2, none⟩ = some v2) (h3 : w.cell? ⟨g, o + 3, none⟩ = some v3) (h4 : w.cell? ⟨g, o + 4, none⟩ = some v4) (hne : a.block ≠ g) :
    (w.setCell a u).cell? ⟨g, o, none⟩ = some v0 ∧ (∀ u0, ((w.setCell a u).setCell ⟨g, o, none⟩ u0).cell? ⟨g, o + 1, none⟩ = some v1) ∧ (∀ u0 u1, (((w.setCell a u).setCell ⟨g, o, none⟩ u0).setCell ⟨g, o + 1, none⟩ u1).cell? ⟨g, o + 2, none⟩ = some v2) ∧
    (∀ u0 u1 u2, ((((w.setCell a u).setCell ⟨g, o, none⟩ u0).setCell ⟨g, o + 1, none⟩ u1).setCell ⟨g, o + 2, none⟩ u2).cell? ⟨g, o + 3, none⟩ = some v3) ∧
    (∀ u0 u1 u2 u3, (((((w.setCell a u).setCell ⟨g, o, none⟩ u0).setCell ⟨g, o + 1, none⟩ u1).setCell ⟨g, o + 2, none⟩ u2).setCell ⟨g, o + 3, none⟩ u3).cell? ⟨g, o + 4, none⟩ = some v4) := by
  have nea : ∀ i, a ≠ (⟨g, i, none⟩ : Addr) := fun i e => hne (by rw [e])
  have f : ∀ {i : Nat} {v : Value}, w.cell? ⟨g, i, none⟩ = some v → (w.setCell a u).cell? ⟨g, i, none⟩ = some v := fun h => by rw [World.cell?_setCell_other (h := nea _), h]
  have ne : ∀ (i j : Nat), i ≠ j → (⟨g, i, none⟩ : Addr) ≠ ⟨g, j, none⟩ := fun i j h e => h (Addr.mk.inj e).2.1
  refine ⟨f h0, fun _ => ?_, fun _ _ => ?_, fun _ _ _ => ?_, fun _ _ _ _ => ?_⟩
  · rw [World.cell?_setCell_other (h := ne _ _ (by omega)), f h1]
  · rw [World.cell?_setCell_other (h := ne _ _ (by omega)), World.cell?_setCell_other (h := ne _ _ (by omega)), f h2]
  · rw [World.cell?_setCell_other (h := ne _ _ (by omega)), World.cell?_setCell_other (h := ne _ _ (by omega)), World.cell?_setCell_other (h := ne _ _ (by omega)), f h3]
  · rw [World.cell?_setCell_other (h := ne _ _ (by omega)), World.cell?_setCell_other (h := ne _ _ (by omega)), World.cell?_setCell_other (h := ne _ _ (by omega)), World.cell?_setCell_other (h := ne _ _ (by omega)), f h4]
theorem zcell {w : World} {B g l cap : Nat} {vs : List Value} (h : w.ownsRow B 49 5 (.slice (some ⟨g, 0, none⟩) (l + 1) cap) (l + 1) (vs ++ zcells.toList)) (j : Nat) (hj : j < 5) : w.cell? ⟨g, l * 5 + j, none⟩ = zcells[j]? := by
  have hl : vs.length = l * 5 := by
    have := h.1
    simp [zcells] at this
    omega
  rw [own_cell h (by omega), List.getElem?_append_right (by omega), hl]
  simp
def ptr (a : Option Addr) : Value := .pointer a
def LvM.flushed (l : LvM) (v : Value) : LvM := if l.li = [] then l else {l with ps := l.ps ++ [.mk 1 ⟨l.li.toArray⟩ ⟨#[]⟩ [] 0], pv := v, li := [], tv := .slice none 0 0}
def FlushedM (B : Nat) (w0 : World) (b : Nat) (C : Nat → Prop) (S : Sn) (e : Ending) (w' : World) : Prop :=
  ∃ v : Value, e = .returned (.tuple #[]) ∧ Stp B w0 C (S.dat b) w' C ({S with tp := S.tp.flushed v}.dat b)
/-- Behind the append of flush. -/
def Mid (B : Nat) (w0 : World) (b : Nat) (C : Nat → Prop) (S : Sn) (p : Prt) (wc : World) : Prop :=
  ∃ v : Value, Stp B w0 C (S.dat b) wc C ({S with tp := {S.tp with ps := S.tp.ps ++ [p], pv := v}}.dat b)
theorem Stp.appP {τ : Type} [DecidableEq τ] {B : Nat} {w w' : World} {C : Nat → Prop} {D : τ → Dat} (h : Fam B w C D) {t : τ} {e : TypeId} {g m cap : Nat} {v : Value} {L L' : List Prt} {ys : List Value} (ht : D t = .prow e v L) (hK : Kept (fun k => v.ownBlock = some k) w w')
    (own : w'.ownsRow B e 5 (.slice (some ⟨g, 0, none⟩) m cap) m ys) (hr : Rds w' C ys L') (hm : L'.length = m) (ls : v.ownBlock = some g ∨ w.heap.size ≤ g) (lt : g < w'.heap.size) (hB : B ≤ w.heap.size) :
    Stp B w C D w' C (upd D t (.prow e (.slice (some ⟨g, 0, none⟩) m cap) L')) := by
  refine Stp.one h t _ (by rw [ht]; exact hK) ⟨ys, by rw [hm]; exact own, hr⟩ (fun k hk => ?_) hB
  obtain rfl : g = k := by simpa [Dat.blk, Value.ownBlock] using hk
  exact ⟨by rw [ht]; exact ls, lt⟩
/-- Five cells of a row are written. -/
def W5 (w : World) (g o : Nat) (u0 u1 u2 u3 u4 : Value) : World := ((((w.setCell ⟨g, o, none⟩ u0).setCell ⟨g, o + 1, none⟩ u1).setCell ⟨g, o + 2, none⟩ u2).setCell ⟨g, o + 3, none⟩ u3).setCell ⟨g, o + 4, none⟩ u4
theorem W5.kept (w : World) (g o : Nat) (u0 u1 u2 u3 u4 : Value) : Kept (ib g) w (W5 w g o u0 u1 u2 u3 u4) :=
  ((((Kept.setCell w ⟨g, o, none⟩ u0).trans (Kept.setCell _ ⟨g, o + 1, none⟩ u1) (fun _ _ h => h)).trans (Kept.setCell _ ⟨g, o + 2, none⟩ u2) (fun _ _ h => h)).trans (Kept.setCell _ ⟨g, o + 3, none⟩ u3) (fun _ _ h => h)).trans (Kept.setCell _ ⟨g, o + 4, none⟩ u4) (fun _ _ h => h)
theorem set5 {vs : List Value} {o : Nat} (h : vs.length = o) (z0 z1 z2 z3 z4 u0 u1 u2 u3 u4 : Value) : (((((vs ++ [z0, z1, z2, z3, z4]).set o u0).set (o + 1) u1).set (o + 2) u2).set (o + 3) u3).set (o + 4) u4 = vs ++ [u0, u1, u2, u3, u4] := by
  subst h
  have f : ∀ (l : List Value) (j : Nat) (u : Value), (vs ++ l).set (vs.length + j) u = vs ++ l.set j u := fun l j u => by
    rw [List.set_append, if_neg (by omega)]; congr 2; omega
  rw [show vs.length = vs.length + 0 by rfl, f]
  simp only [Nat.add_zero]
  rw [f, f, f, f]
  rfl
theorem W5.own {w : World} {B g l cap : Nat} {vs : List Value} (h : w.ownsRow B 49 5 (.slice (some ⟨g, 0, none⟩) (l + 1) cap) (l + 1) (vs ++ zcells.toList)) (u0 u1 u2 u3 u4 : Value) :
    (W5 w g (l * 5) u0 u1 u2 u3 u4).ownsRow B 49 5 (.slice (some ⟨g, 0, none⟩) (l + 1) cap) (l + 1) (vs ++ [u0, u1, u2, u3, u4]) := by
  have hl : vs.length = l * 5 := by
    have := h.1
    simp [zcells] at this
    omega
  have := own_set (own_set (own_set (own_set (own_set h (l * 5) u0) (l * 5 + 1) u1) (l * 5 + 2) u2) (l * 5 + 3) u3) (l * 5 + 4) u4
  rwa [show zcells.toList = [.int .i64 0, .string ⟨#[]⟩, .string ⟨#[]⟩, .slice none 0 0, .slice none 0 0] by rfl, set5 hl] at this
/-- The two orders in which a part more is written. -/
theorem grow_mid {B : Nat} {w w2 : World} {b : Nat} {C : Nat → Prop} {S : Sn} {g cap gg cap2 l : Nat} {vs : List Value} {o : Obj} {k : Int} {tx op : ByteArray} {kv : Value} {K : List Prt} {cb : Option Addr} {cm cc : Nat} (h : Fam B w C (S.dat b)) (hl : S.lvv = .slice (some ⟨g, 0, none⟩) (S.lo.length + 1) cap) (hps : S.tp.ps.length = l) (hvs : Rds w C vs S.tp.ps)
    (own2 : w2.ownsRow B 49 5 (.slice (some ⟨gg, 0, none⟩) (l + 1) cap2) (l + 1) (vs ++ zcells.toList)) (gr2 : ((w.alloc o).drew).grownBy w2 S.tp.pv.ownBlock) (ls2 : S.tp.pv.ownBlock = some gg ∨ gg = w.heap.size + 1) (lt2 : gg < w2.heap.size)
    (hkv : Cold w C kv K) :
    Mid B w b C S (.mk k tx op K cm) ((W5 w2 gg (l * 5) (.int .i64 k) (.string tx) (.string op) kv (.slice cb cm cc)).setCell ⟨g, S.lo.length * 5 + 1, none⟩ (.slice (some ⟨gg, 0, none⟩) (l + 1) cap2)) ∧
    Mid B w b C S (.mk k tx op K cm) (W5 (w2.setCell ⟨g, S.lo.length * 5 + 1, none⟩ (.slice (some ⟨gg, 0, none⟩) (l + 1) cap2)) gg (l * 5) (.int .i64 k) (.string tx) (.string op) kv (.slice cb cm cc)) := by
  have hBw : B ≤ w.heap.size := by have := h.bnd b (.inr ⟨.hd, rfl⟩); omega
  have hlv : (S.dat b) .lv = .row 55 5 (.slice (some ⟨g, 0, none⟩) (S.lo.length + 1) cap) (S.lo.length + 1) (S.all.flatMap LvM.cells) := by
    show Dat.row 55 5 S.lvv (S.lo.length + 1) _ = _
    rw [hl]
  have k1 : Kept nob w (w.alloc o).drew := (Kept.alloc w o nob).trans (Kept.drew _ nob) (fun _ _ h => h)
  have s1 := Stp.nob h k1
  have hz1 : (w.alloc o).drew.heap.size = w.heap.size + 1 := by simp
  have k2 : Kept (fun k => S.tp.pv.ownBlock = some k) (w.alloc o).drew w2 := (Kept.ofGrown gr2).mono (fun k _ e => e.symm)
  have cC : ∀ (k' : Nat), C k' → ¬ S.tp.pv.ownBlock = some k' ∧ k' < w.heap.size := fun k' hk' => by
    have hb := h.bnd k' (.inl hk')
    refine ⟨fun e => h.cold k' (.ps S.lo.length) hk' (by rw [dat_ps]; exact e), hb.2⟩
  have cg : ¬ C gg := fun hc => by
    rcases ls2 with e | e
    · exact (cC gg hc).1 e
    · have := (cC gg hc).2; omega
  have rd2 : ∀ {L : List Prt} {xs : List Value}, Rds w C xs L → Rds w2 C xs L := fun hr =>
    (hr.kept k1 (fun k' hk' => ⟨fun e => e, (cC k' hk').2⟩)).kept k2 (fun k' hk' => ⟨(cC k' hk').1, by have := (cC k' hk').2; omega⟩)
  have ls1 : S.tp.pv.ownBlock = some gg ∨ (w.alloc o).drew.heap.size ≤ gg := by
    rcases ls2 with e | e
    · exact .inl e
    · exact .inr (by omega)
  have kg : ∀ {w3 : World}, Kept (ib gg) w2 w3 → Kept (fun k => S.tp.pv.ownBlock = some k) (w.alloc o).drew w3 := fun hk => k2.trans hk (fun i hi e => by
    rcases ls1 with e1 | e1
    · show S.tp.pv.ownBlock = some i
      rw [e1, show i = gg from e]
    · have : i = gg := e
      omega)
  have hdat : ∀ (D : Tag → Dat) (d0 : Dat), D = upd (S.dat b) (.ps S.lo.length) d0 → True := fun _ _ _ => trivial
  have fin : ∀ {D : Tag → Dat} {p : Prt} , D (.ps S.lo.length) = .prow 49 (.slice (some ⟨gg, 0, none⟩) (l + 1) cap2) (S.tp.ps ++ [p]) →
      D .lv = .row 55 5 (.slice (some ⟨g, 0, none⟩) (S.lo.length + 1) cap) (S.lo.length + 1) ((S.all.flatMap LvM.cells).set (S.lo.length * 5 + 1) (.slice (some ⟨gg, 0, none⟩) (l + 1) cap2)) → (∀ t, t ≠ .ps S.lo.length → t ≠ .lv → D t = S.dat b t) →
      D = ({S with tp := {S.tp with ps := S.tp.ps ++ [p], pv := .slice (some ⟨gg, 0, none⟩) (l + 1) cap2}} : Sn).dat b := fun {D p} h1 h2 h3 => by
    refine dat_eq (S := S) rfl ?_ ?_ ?_ ?_ ?_ h1 ?_ (fun i hi => ?_) (fun i hi => ?_)
    · rw [h3 _ (by simp) (by simp)]; rfl
    · rw [h2]
      show Dat.row _ _ _ _ _ = Dat.row 55 5 S.lvv (S.lo.length + 1) _
      rw [hl, flat_set, all_flat]
      rfl
    · rw [h3 _ (by simp) (by simp)]; rfl
    · rw [h3 _ (by simp) (by simp)]; rfl
    · rw [h3 _ (by simp) (by simp)]; rfl
    · rw [h3 _ (by simp) (by simp), dat_li]
    · exact h3 _ (by simpa using hi) (by simp)
    · exact h3 _ (by simp) (by simp)
  have hm : ∀ p : Prt, (S.tp.ps ++ [p]).length = l + 1 := fun p => by simp [hps]
  constructor
  · have s2 := Stp.appP s1.1 (t := .ps S.lo.length) (dat_ps S b) (kg (W5.kept w2 gg (l * 5) (.int .i64 k) (.string tx) (.string op) kv (.slice cb cm cc))) (W5.own own2 _ _ _ _ _)
      (L' := S.tp.ps ++ [.mk k tx op K cm]) ((rd2 (hvs.app (Rds.one hkv))).kept (W5.kept _ _ _ _ _ _ _ _) (fun k' hk' => ⟨fun e => cg (by have e' : k' = gg := e; rw [← e']; exact hk'), by have := (cC k' hk').2; have := k2.size; omega⟩)) (hm _) ls1 (by have := (W5.kept w2 gg (l * 5) (.int .i64 k) (.string tx) (.string op) kv (.slice cb cm cc)).size; omega) (by omega)
    have s3 := Stp.setRow s2.1 (t := .lv) (by rw [upd_ne (by simp)]; exact hlv) (S.lo.length * 5 + 1) (.slice (some ⟨gg, 0, none⟩) (l + 1) cap2)
    refine ⟨.slice (some ⟨gg, 0, none⟩) (l + 1) cap2, ?_⟩
    have s := (s1.trans s2).trans s3
    refine Eq.mp (congrArg (fun D => Stp B w C (S.dat b) _ C D) (fin (p := .mk k tx op K cm) ?_ ?_ ?_)) s
    · rw [upd_ne (by simp), upd_at]
    · rw [upd_at]
    · intro t h1 h2; rw [upd_ne h2, upd_ne h1]
  · have s2 := Stp.appP s1.1 (t := .ps S.lo.length) (dat_ps S b) k2 own2 (L' := S.tp.ps ++ [.mk 0 ⟨#[]⟩ ⟨#[]⟩ [] 0]) ((rd2 hvs).app (Rds.bare .nil)) (hm _) ls1 lt2 (by omega)
    have s3 := Stp.setRow s2.1 (t := .lv) (by rw [upd_ne (by simp)]; exact hlv) (S.lo.length * 5 + 1) (.slice (some ⟨gg, 0, none⟩) (l + 1) cap2)
    have hgn : gg ≠ g := fun e => by
      have e1 : ((upd (S.dat b) (.ps S.lo.length) (.prow 49 (.slice (some ⟨gg, 0, none⟩) (l + 1) cap2) (S.tp.ps ++ [.mk 0 ⟨#[]⟩ ⟨#[]⟩ [] 0]))) (.ps S.lo.length)).blk = some gg := by rw [upd_at]; rfl
      have e2 : ((upd (S.dat b) (.ps S.lo.length) (.prow 49 (.slice (some ⟨gg, 0, none⟩) (l + 1) cap2) (S.tp.ps ++ [.mk 0 ⟨#[]⟩ ⟨#[]⟩ [] 0]))) .lv).blk = some gg := by rw [upd_ne (by simp), hlv, e]; rfl
      have := s2.1.inj _ _ _ e1 e2
      simp at this
    have own3 := own_kept (Kept.setCell w2 ⟨g, S.lo.length * 5 + 1, none⟩ (.slice (some ⟨gg, 0, none⟩) (l + 1) cap2)) own2 (fun k' hk' e => hgn (by
      have e1 : gg = k' := by simpa [Value.ownBlock] using hk'
      rw [e1]; exact e))
    have s4 := Stp.appP s3.1 (t := .ps S.lo.length) (by rw [upd_ne (by simp), upd_at]) ((W5.kept (w2.setCell ⟨g, S.lo.length * 5 + 1, none⟩ (.slice (some ⟨gg, 0, none⟩) (l + 1) cap2)) gg (l * 5) (.int .i64 k) (.string tx) (.string op) kv (.slice cb cm cc)).mono (fun k' _ e => by rw [e]; rfl)) (W5.own own3 _ _ _ _ _)
      (L' := S.tp.ps ++ [.mk k tx op K cm]) (((rd2 (hvs.app (Rds.one hkv))).kept (Kept.setCell w2 ⟨g, S.lo.length * 5 + 1, none⟩ (.slice (some ⟨gg, 0, none⟩) (l + 1) cap2)) (fun k' hk' => ⟨fun e => h.cold k' .lv hk' (by rw [hlv]; show some g = some k'; rw [show k' = g from e]), by have := (cC k' hk').2; have := k2.size; omega⟩)).kept (W5.kept _ _ _ _ _ _ _ _) (fun k' hk' => ⟨fun e => cg (by have e' : k' = gg := e; rw [← e']; exact hk'), by have := (cC k' hk').2; have := k2.size; simp [World.setCell]; omega⟩)) (hm _) (.inl rfl) (by have := (W5.kept (w2.setCell ⟨g, S.lo.length * 5 + 1, none⟩ (.slice (some ⟨gg, 0, none⟩) (l + 1) cap2)) gg (l * 5) (.int .i64 k) (.string tx) (.string op) kv (.slice cb cm cc)).size; simp [World.setCell] at this ⊢; simp [W5, World.setCell]; omega) (by have := s3.2.1.size; have := s2.2.1.size; omega)
    refine ⟨.slice (some ⟨gg, 0, none⟩) (l + 1) cap2, ?_⟩
    have s := ((s1.trans s2).trans s3).trans s4
    refine Eq.mp (congrArg (fun D => Stp B w C (S.dat b) _ C D) (fin (p := .mk k tx op K cm) ?_ ?_ ?_)) s
    · rw [upd_at]
    · rw [upd_ne (by simp), upd_at]
    · intro t h1 h2; rw [upd_ne h1, upd_ne h2, upd_ne h1]
theorem grow_mid' {B : Nat} {w w2 : World} {b : Nat} {C : Nat → Prop} {S : Sn} {g cap gg cap2 l n : Nat} {vs : List Value} {o : Obj} {k : Int} {tx op : ByteArray} {kv : Value} {K : List Prt} {cb : Option Addr} {cm cc : Nat} (h : Fam B w C (S.dat b)) (hl : S.lvv = .slice (some ⟨g, 0, none⟩) (S.lo.length + 1) cap) (hn : S.lo.length = n) (hps : S.tp.ps.length = l) (hvs : Rds w C vs S.tp.ps)
    {pv : Value} (hpv : S.tp.pv = pv) (own2 : w2.ownsRow B 49 5 (.slice (some ⟨gg, 0, none⟩) (l + 1) cap2) (l + 1) (vs ++ zcells.toList)) (gr2 : ((w.alloc o).drew).grownBy w2 pv.ownBlock) (ls2 : pv.ownBlock = some gg ∨ gg = w.heap.size + 1) (lt2 : gg < w2.heap.size)
    (hkv : Cold w C kv K) :
    Mid B w b C S (.mk k tx op K cm) ((W5 w2 gg (l * 5) (.int .i64 k) (.string tx) (.string op) kv (.slice cb cm cc)).setCell ⟨g, n * 5 + 1, none⟩ (.slice (some ⟨gg, 0, none⟩) (l + 1) cap2)) ∧
    Mid B w b C S (.mk k tx op K cm) (W5 (w2.setCell ⟨g, n * 5 + 1, none⟩ (.slice (some ⟨gg, 0, none⟩) (l + 1) cap2)) gg (l * 5) (.int .i64 k) (.string tx) (.string op) kv (.slice cb cm cc)) := by
  subst hn; subst hpv
  exact grow_mid h hl hps hvs own2 gr2 ls2 lt2 hkv
end Go.Proofs.Ytbmapjgajecgfaa
set_option linter.unusedVariables false
set_option linter.unusedSimpArgs false
namespace Go.Proofs.Ytbmapjgajecgfaa
open Go.RowKit
theorem flush_end {B : Nat} {w wc : World} {b : Nat} {C : Nat → Prop} {S : Sn} {g cap n : Nat} {v : Value} (hl : S.lvv = .slice (some ⟨g, 0, none⟩) (S.lo.length + 1) cap) (hn : S.lo.length = n) (h0 : S.tp.li ≠ []) (hB : B ≤ wc.heap.size)
    (hS : Stp B w C (S.dat b) wc C ({S with tp := {S.tp with ps := S.tp.ps ++ [Prt.mk 1 ⟨S.tp.li.toArray⟩ ⟨#[]⟩ [] 0], pv := v}}.dat b)) :
    Stp B w C (S.dat b) (wc.setCell ⟨g, n * 5 + 2, none⟩ (.slice none 0 0)) C ({S with tp := S.tp.flushed v}.dat b) := by
  subst hn
  have s2 := Stp.setRow hS.1 (t := .lv) (e := 55) (size := 5) (g := g) (n := S.lo.length + 1) (cap := cap) (by show Dat.row 55 5 S.lvv (S.lo.length + 1) _ = _; rw [hl]) (S.lo.length * 5 + 2) (.slice none 0 0)
  have s3 := Stp.one s2.1 (.li S.lo.length) (.row 5 1 (.slice none 0 0) 0 []) (Kept.refl _ _) (World.ownsRow_nil _ _ _ _) (fun k hk => by cases hk) (by have := s2.2.1.size; omega)
  have s := (hS.trans s2).trans s3
  refine Eq.mp (congrArg (fun D => Stp B w C (S.dat b) _ C D) ?_) s
  rw [show S.tp.flushed v = {S.tp with ps := S.tp.ps ++ [Prt.mk 1 ⟨S.tp.li.toArray⟩ ⟨#[]⟩ [] 0], pv := v, li := [], tv := .slice none 0 0} by unfold LvM.flushed; rw [if_neg h0]]
  refine dat_eq (S := {S with tp := {S.tp with ps := S.tp.ps ++ [Prt.mk 1 ⟨S.tp.li.toArray⟩ ⟨#[]⟩ [] 0], pv := v}}) rfl ?_ ?_ ?_ ?_ ?_ ?_ ?_ (fun i hi => ?_) (fun i hi => ?_)
  · rw [upd_ne (by simp), upd_ne (by simp)]; rfl
  · rw [upd_ne (by simp), upd_at]
    refine Eq.trans ?_ (congrArg (fun v => Dat.row 55 5 v (S.lo.length + 1) _) hl.symm)
    exact congrArg (Dat.row 55 5 _ _) ((flat_set ({S with tp := {S.tp with ps := S.tp.ps ++ [Prt.mk 1 ⟨S.tp.li.toArray⟩ ⟨#[]⟩ [] 0], pv := v}}) 2 _).trans (all_flat ({S with tp := {S.tp with ps := S.tp.ps ++ [Prt.mk 1 ⟨S.tp.li.toArray⟩ ⟨#[]⟩ [] 0], pv := v, li := [], tv := .slice none 0 0}})).symm)
  · rw [upd_ne (by simp), upd_ne (by simp)]; rfl
  · rw [upd_ne (by simp), upd_ne (by simp)]; rfl
  · rw [upd_ne (by simp), upd_ne (by simp)]; rfl
  · rw [upd_ne (by simp), upd_ne (by simp)]
    exact dat_ps _ b
  · rw [upd_at]; rfl
  · rw [upd_ne (by simp), upd_ne (by simp)]
  · rw [upd_ne (by simpa using hi), upd_ne (by simp)]
end Go.Proofs.Ytbmapjgajecgfaa
set_option linter.unusedVariables false
set_option linter.unusedSimpArgs false
namespace Go.Proofs.Ytbmapjgajecgfaa
open Go.RowKit
set_option maxHeartbeats 2000000 in
set_option maxRecDepth 100000 in
theorem flush_any {B : Nat} {w : World} {b : Nat} {C : Nat → Prop} {S : Sn} (h : Fam B w C (S.dat b)) (hl1 : S.tp.li.length ≤ 100000) (hl2 : S.tp.ps.length ≤ 100000) :
    Calls Try.prog 33 #[.pointer (topA S)] w (FlushedM B w b C S) := by
  obtain ⟨ti, hi, hz0, hz1, hz2⟩ := info_parts info_part
  obtain ⟨g, cap, cur, hl, hB, hg, hn, hm, hcs, htk⟩ := lv_at h
  have ht : topA S = some ⟨g, S.lo.length * 5, none⟩ := by rw [topA, hl]
  have hBw : B ≤ w.heap.size := by have := h.bnd b (.inr ⟨.hd, rfl⟩); omega
  have hlv : (S.dat b) .lv = .row 55 5 (.slice (some ⟨g, 0, none⟩) (S.lo.length + 1) cap) (S.lo.length + 1) (S.all.flatMap LvM.cells) := by
    show Dat.row 55 5 S.lvv (S.lo.length + 1) _ = _
    rw [hl]
  have o0 : w.ownsRow B 55 5 (.slice (some ⟨g, 0, none⟩) (S.lo.length + 1) cap) (S.lo.length + 1) (S.all.flatMap LvM.cells) := by
    have := h.comp .lv; rw [hlv] at this; exact this
  have c2 : w.cell? ⟨g, S.lo.length * 5 + 2, none⟩ = some S.tp.tv := by rw [own_cell o0 (by omega), flat_at]; rfl
  have c1 : w.cell? ⟨g, S.lo.length * 5 + 1, none⟩ = some S.tp.pv := by rw [own_cell o0 (by omega), flat_at]; rfl
  have oli : w.ownsRow B 5 1 S.tp.tv S.tp.li.length (bv S.tp.li) := by have := h.comp (.li S.lo.length); rw [dat_li] at this; exact this
  obtain ⟨vs, ops, hrd⟩ : ∃ vs, w.ownsRow B 49 5 S.tp.pv S.tp.ps.length vs ∧ Rds w C vs S.tp.ps := by have := h.comp (.ps S.lo.length); rw [dat_ps] at this; exact this
  obtain ⟨pa, pc, hpv⟩ := own_slice ops
  have OPS := Lib.hid ops
  rw [hpv] at ops c1
  have HPV := Lib.hid hpv
  clear hpv
  have H := Lib.hid h
  have HL := Lib.hid hl
  have HLV := Lib.hid hlv
  have HRD := Lib.hid hrd
  clear h hl hlv hg hm hcs htk
  obtain ⟨n, hn'⟩ : ∃ n, S.lo.length = n := ⟨_, rfl⟩
  rw [ht]
  rw [hn'] at hn c1 c2 ⊢
  clear ht
  by_cases h0 : S.tp.li = []
  · have e0 : ∀ v, ({S with tp := S.tp.flushed v} : Sn) = S := fun v => by unfold LvM.flushed; rw [if_pos h0]
    have E0 := Lib.hid e0
    have hlen : S.tp.li.length = 0 := by rw [h0]; rfl
    rw [hlen] at oli
    rcases oli.2 with ⟨e1, _⟩ | ⟨g1, cap1, cur1, e1, _⟩ <;> rw [e1] at c2 <;> clear h0 hlen e0 oli o0 ops e1
    all_goals
      go_enter Try.func33, Try.ntmps33
      go_wp2
      go_end0
      exact ⟨Value.bool false, rfl, by rw [E0.out]; exact Stp.refl H.out⟩
  · have hlen : 0 < S.tp.li.length := List.length_pos_iff.2 h0
    rcases oli.2 with ⟨e1, e2⟩ | ⟨g1, cap1, cur1, e1, _⟩
    · omega
    have OLI := Lib.hid oli
    have O0 := Lib.hid o0
    have E1 := Lib.hid e1
    have H0 := Lib.hid h0
    rw [e1] at c2
    have hgl : g1 < w.heap.size := by
      have hk : ∃ cur, w.heap[g1]? = some (.cells cur 5 (0, 0)) := by
        rcases oli.2 with ⟨e3, _⟩ | ⟨g3, cap3, cur3, e3, _, e4, _⟩
        · rw [e1] at e3; simp at e3
        · obtain ⟨rfl, _⟩ : g1 = g3 ∧ cap1 = cap3 := by rw [e1] at e3; simpa using e3
          exact ⟨_, e4⟩
      obtain ⟨_, hk⟩ := hk
      exact lt_blk hk
    have hconv : ∀ (w1 : World), w1.heap[g1]? = w.heap[g1]? → (Go.convert 51 9 (.slice (some ⟨g1, 0, none⟩) S.tp.li.length cap1)).run Try.prog w1 = Result.ok (Value.string ⟨S.tp.li.toArray⟩) w1 := fun w1 hk => by
      refine run_convert_bytes_back w1 51 9 5 ⟨g1, 0, none⟩ cap1 S.tp.li Try.underlying51 Try.underlying5 Try.underlying9 (fun j hj => ?_)
      have : (⟨g1, 0, none⟩ : Addr).add j = ⟨g1, j, none⟩ := by unfold Addr.add; split <;> simp_all
      rw [this, World.cell?_of_block hk]
      rw [e1] at oli
      rw [own_cell oli (by omega)]
      simp [bv, hj]
    have HCV := Lib.hid hconv
    have hcv0 := hconv w.drew rfl
    have hcv1 := hconv (w.alloc (.cells #[.int .i64 0, .string ⟨#[]⟩, .string ⟨#[]⟩, .slice none 0 0, .slice none 0 0] 49)).drew (World.heap_alloc_old' _ hgl)
    clear h0 oli o0 e1 hconv
    obtain ⟨l, hl'⟩ : ∃ l, S.tp.ps.length = l := ⟨_, rfl⟩
    rw [hl'] at c1 ops
    rw [hl'] at HPV
    have i0 : (0 : Int) ≤ (l : Int) := by omega
    have i1 : (l : Int) < ((l + 1 : Nat) : Int) := by omega
    have i2 : (l : Int) < (l : Int) + 1 := by omega
    have hgl := Lib.hid hgl
    have b1 : (S.dat b (.li S.lo.length)).blk = some g1 := by rw [dat_li]; show S.tp.tv.ownBlock = _; rw [E1.out]; rfl
    have b2 : (S.dat b .lv).blk = some g := by rw [HLV.out]; rfl
    have b3 : (S.dat b (.ps S.lo.length)).blk = (Value.slice pa l pc).ownBlock := by rw [dat_ps]; show S.tp.pv.ownBlock = _; rw [HPV.out]
    have HNE3 : Hid (g1 ≠ g) := Lib.hid (fun e => by have := H.out.inj _ _ _ b1 (by rw [b2, e]); simp at this)
    have HNE2 : Hid (some g1 ≠ (Value.slice pa l pc).ownBlock) := Lib.hid (fun e => by have := H.out.inj _ _ _ b1 (by rw [b3, ← e]); simp at this)
    have hgg : Hid (g < w.heap.size) := Lib.hid (World.block_lt_of_cell? w _ c1)
    have HNE1 : Hid (some g ≠ (Value.slice pa l pc).ownBlock) := Lib.hid (fun e => by have := H.out.inj _ _ _ b2 (by rw [b3, ← e]); simp at this)
    have HNE : Hid (∀ gg, ((Value.slice pa l pc).ownBlock = some gg ∨ gg = w.heap.size + 1) → g ≠ gg) := Lib.hid (fun gg h e => by
      rcases h with h | h
      · exact HNE1.out (by rw [h, e])
      · have := hgg.out; omega)
    clear b1 b2 b3
    have ca1 : (w.alloc (.cells #[.int .i64 0, .string ⟨#[]⟩, .string ⟨#[]⟩, .slice none 0 0, .slice none 0 0] 49)).cell? ⟨g, n * 5 + 1, none⟩ = some (.slice pa l pc) := by rw [World.cell?_alloc_past _ _ _ hgg.out]; exact c1
    have ca2 : (w.alloc (.cells #[.int .i64 0, .string ⟨#[]⟩, .string ⟨#[]⟩, .slice none 0 0, .slice none 0 0] 49)).cell? ⟨g, n * 5 + 2, none⟩ = some (.slice (some ⟨g1, 0, none⟩) S.tp.li.length cap1) := by rw [World.cell?_alloc_past _ _ _ hgg.out]; exact c2
    have c1a : Hid ((w.alloc (.cells zcells 49)).drew.cell? ⟨g, n * 5 + 1, none⟩ = some (.slice pa l pc)) := Lib.hid (by show (w.alloc _).cell? _ = _; rw [World.cell?_alloc_past _ _ _ hgg.out]; exact c1)
    have c2a : Hid ((w.alloc (.cells zcells 49)).drew.cell? ⟨g, n * 5 + 2, none⟩ = some (.slice (some ⟨g1, 0, none⟩) S.tp.li.length cap1)) := Lib.hid (by show (w.alloc _).cell? _ = _; rw [World.cell?_alloc_past _ _ _ hgg.out]; exact c2)
    have fzl : Hid ((w.alloc (.cells zcells 49)).drew.frozen? ⟨g, n * 5 + 1, none⟩ = false) := Lib.hid (own_frz ((own_kept ((Kept.alloc w _ nob).trans (Kept.drew _ nob) (fun _ _ h => h)) O0.out (fun _ _ h => h))) _)
    have hgl1 : Hid (g < (w.alloc (.cells zcells 49)).drew.heap.size) := Lib.hid (by have := hgg.out; simp; omega)
    go_enter Try.func33, Try.ntmps33
    go_wp2
    go_cut [] (fun wc => Mid B w b C S (.mk 1 ⟨S.tp.li.toArray⟩ ⟨#[]⟩ [] 0) wc)
    case first =>
      go_region_law ((refine step_append_lies _ (by rfl) _ _ _ (by rfl) B 49 ti zpart 5 88 Try.underlying31 hi hz0 hz1 hz2 rfl (by decide) _ l vs (by rfl) ((ops.alloc _).drew) ⟨w.heap.size, 0, none⟩ 1 1 zcells.toList (by rfl) (by rfl) (World.news_of_block (cs := zcells) (t := 49) (fr := (0, 0)) (heap_alloc_new w _)) (by simp [zcells, Value.oneCell']) (by omega) (by unfold maxLen; omega) (by omega) (by simp; omega) (w.heap.size + 1) (by simp) ?_; intro gg cap2 w2 own2 gr2 ls2 lt2; have kc := (gr2.cell_far _ hgl1.out HNE1.out).trans c1a.out; obtain ⟨k0, k1, k2, k3, k4, k5⟩ := five (o := l * 5) (v0 := .int .i64 0) (v1 := .string ⟨#[]⟩) (v2 := .string ⟨#[]⟩) (v3 := .slice none 0 0) (v4 := .slice none 0 0) (a := ⟨g, n * 5 + 1, none⟩) (zcell own2 0 (by omega)) (zcell own2 1 (by omega)) (zcell own2 2 (by omega)) (zcell own2 3 (by omega)) (zcell own2 4 (by omega)) kc (HNE.out _ ls2); obtain ⟨m0, m1, m2, m3, m4⟩ := five2 (o := l * 5) (v0 := .int .i64 0) (v1 := .string ⟨#[]⟩) (v2 := .string ⟨#[]⟩) (v3 := .slice none 0 0) (v4 := .slice none 0 0) (a := ⟨g, n * 5 + 1, none⟩) (u := .slice (some ⟨gg, 0, none⟩) (l + 1) cap2) (zcell own2 0 (by omega)) (zcell own2 1 (by omega)) (zcell own2 2 (by omega)) (zcell own2 3 (by omega)) (zcell own2 4 (by omega)) (HNE.out _ ls2); have hv2 := HCV.out w2 ((gr2.block g1 (by have := hgl1.out; simp at this ⊢; omega) HNE2.out).trans (World.heap_alloc_old' _ hgl.out)); have hv3 := fun u => HCV.out (w2.setCell ⟨g, n * 5 + 1, none⟩ u) ((Below.heap_setCell w2 _ _ g1 HNE3.out).trans ((gr2.block g1 (by have := hgl1.out; simp at this ⊢; omega) HNE2.out).trans (World.heap_alloc_old' _ hgl.out))); have n2 := (gr2.cell_far ⟨g, n * 5 + 2, none⟩ hgl1.out HNE1.out).trans c2a.out; have n3 : ∀ u, (w2.setCell ⟨g, n * 5 + 1, none⟩ u).cell? ⟨g, n * 5 + 2, none⟩ = some (.slice (some ⟨g1, 0, none⟩) S.tp.li.length cap1) := fun u => by { rw [World.cell?_setCell_other (h := by simp)]; exact n2 }; have q0 := own_frz own2; have q1 := (gr2.frozen_far ⟨g, n * 5 + 1, none⟩ hgl1.out HNE1.out).trans fzl.out; have O2 := Lib.hid own2; have G2 := Lib.hid gr2; clear own2 gr2))
      all_goals
        go_wp2
        go_meet
        have hm := grow_mid' (k := 1) (tx := ⟨S.tp.li.toArray⟩) (op := ⟨#[]⟩) (kv := .slice none 0 0) (K := []) (cb := none) (cm := 0) (cc := 0) H.out HL.out hn' hl' HRD.out HPV.out O2.out G2.out ls2 lt2 (.inl ⟨none, 0, rfl, rfl⟩)
        simp only [W5] at hm
        first
          | with_reducible exact hm.1
          | with_reducible exact hm.2
    case rest =>
      obtain ⟨v, hS⟩ := hcut
      have hSo := hS.1
      have hlvo : wc.ownsRow B 55 5 (.slice (some ⟨g, 0, none⟩) (S.lo.length + 1) cap) (S.lo.length + 1) (({S with tp := {S.tp with ps := S.tp.ps ++ [.mk 1 ⟨S.tp.li.toArray⟩ ⟨#[]⟩ [] 0], pv := v}} : Sn).all.flatMap LvM.cells) := by
        have := hSo.comp .lv
        have e : S.lvv = _ := HL.out
        simp only [Sn.dat, Comp, e] at this
        exact this
      have cc2 : wc.cell? ⟨g, n * 5 + 2, none⟩ = some S.tp.tv := by
        rw [own_cell hlvo (by omega), ← hn']
        exact (flat_at _ 2).trans rfl
      have fc2 := own_frz hlvo (n * 5 + 2)
      have HSS := Lib.hid hS
      clear hS hSo hlvo
      go_wp2
      go_end0
      exact ⟨v, rfl, flush_end HL.out hn' H0.out (Nat.le_trans hBw HSS.out.2.1.size) HSS.out⟩
end Go.Proofs.Ytbmapjgajecgfaa

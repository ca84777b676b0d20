/-
  What is proved: machines without their place in memory. Conditions: those of each theorem.
-/
import Derived.Test.YtbmapjgajecgfaaW12
set_option linter.unusedVariables false
set_option linter.unusedSimpArgs false
namespace Go.Proofs.Ytbmapjgajecgfaa
open Go.RowKit
/-- A level and a machine, without what lies where in memory. -/
structure Lvl where
  wh : Int
  ps : List Prt
  li : List UInt8
  nm : ByteArray
  op : ByteArray
structure St where
  lo : List Lvl
  tp : Lvl
  kd : Nat
  tk : List UInt8
  pl : List UInt8
  ex : Bool
  qu : Bool
  bu : List UInt8
  dp : Int
  ln : Bool
  cu : Int
def LvM.abs (l : LvM) : Lvl := ⟨l.wh, l.ps, l.li, l.nm, l.op⟩
def Sn.abs (S : Sn) : St := ⟨S.lo.map LvM.abs, S.tp.abs, S.kd, S.tk, S.pl, S.ex, S.qu, S.bu, S.dp, S.ln, S.cu⟩
def Lvl.flush (l : Lvl) : Lvl := if l.li = [] then l else {l with ps := l.ps ++ [.mk 1 ⟨l.li.toArray⟩ ⟨#[]⟩ [] 0], li := []}
def Lvl.part (l : Lvl) : Prt := if l.wh = 2 then .mk 5 l.nm l.op l.ps 0 else .mk 4 ⟨#[]⟩ ⟨#[]⟩ l.ps 0
theorem LvM.flushed_abs (l : LvM) (v : Value) : (l.flushed v).abs = l.abs.flush := by
  unfold LvM.flushed Lvl.flush
  show _ = if l.li = [] then _ else _
  split <;> rfl
def St.turn (s : St) (k : Nat) : St := {s with kd := k}
def St.lit (s : St) (bs : List UInt8) : St := {s with tp := {s.tp with li := s.tp.li ++ bs}, tk := s.tk ++ bs}
def St.add (s : St) (p : Prt) : St := {s with tp := {s.tp.flush with ps := s.tp.flush.ps ++ [p]}}
def St.push (s : St) (wh : Int) (nm op : ByteArray) : St := {s with lo := s.lo ++ [s.tp], tp := ⟨wh, [], [], nm, op⟩, kd := 0}
def St.pop (s : St) : St := {({s with lo := s.lo.dropLast, tp := s.lo.getLastD s.tp} : St).add s.tp.flush.part with kd := 0}
/-- What a call on a machine leaves: its signal, the machine. -/
def Ret (B : Nat) (w0 : World) (b : Nat) (C : Nat → Prop) (S : Sn) (r : Int × St) (e : Ending) (w' : World) : Prop :=
  ∃ (C' : Nat → Prop) (S' : Sn), e = .returned (.int .i64 r.1) ∧ Stp B w0 C (S.dat b) w' C' (S'.dat b) ∧ S'.abs = r.2
theorem Turned.ret {B : Nat} {w0 : World} {b : Nat} {C : Nat → Prop} {S : Sn} {k : Nat} {v : Int} {e : Ending} {w' : World} (h : Turned B w0 b C S k (.int .i64 v) e w') : Ret B w0 b C S (v, S.abs.turn k) e w' :=
  ⟨C, _, h.1, h.2, rfl⟩
theorem Pushed.ret {B : Nat} {w0 : World} {b : Nat} {C : Nat → Prop} {S : Sn} {wh : Int} {nm op : ByteArray} {e : Ending} {w' : World} (h : Pushed B w0 b C S wh nm op e w') : Ret B w0 b C S (0, S.abs.push wh nm op) e w' := by
  obtain ⟨v, h1, h2⟩ := h
  exact ⟨C, _, h1, h2, by simp [Sn.abs, St.push, LvM.abs, LvM.new]⟩
theorem Popped.ret {B : Nat} {w0 : World} {b : Nat} {C : Nat → Prop} {S : Sn} {lo' : List LvM} {t' : LvM} {e : Ending} {w' : World} (hlo : S.lo = lo' ++ [t']) (h : Popped B w0 b C S lo' t' e w') : Ret B w0 b C S (0, S.abs.pop) e w' := by
  obtain ⟨C', v0, v1, v2, v3, h1, h2⟩ := h
  refine ⟨C', _, h1, h2, ?_⟩
  have e1 : (t'.flushed v1).abs = t'.abs.flush := LvM.flushed_abs _ _
  have e2 : (S.tp.flushed v0).abs = S.tp.abs.flush := LvM.flushed_abs _ _
  have e3 : (S.tp.flushed v0).part = S.tp.abs.flush.part := by rw [← e2]; rfl
  have e4 : (t'.flushed v1).ps = t'.abs.flush.ps := by rw [← e1]; rfl
  have a1 : S.abs.lo.dropLast = lo'.map LvM.abs := by simp [Sn.abs, hlo]
  have a2 : S.abs.lo.getLastD S.abs.tp = t'.abs := by simp [Sn.abs, hlo]
  unfold St.pop St.add
  rw [a1, a2]
  show (⟨_, _, _, _, _, _, _, _, _, _, _⟩ : St) = ⟨_, _, _, _, _, _, _, _, _, _, _⟩
  rw [St.mk.injEq]
  refine ⟨rfl, ?_, rfl, rfl, rfl, rfl, rfl, rfl, rfl, rfl, rfl⟩
  rw [← e1]
  show (⟨_, _, _, _, _⟩ : Lvl) = ⟨_, _, _, _, _⟩
  rw [Lvl.mk.injEq]
  refine ⟨rfl, ?_, rfl, rfl, rfl⟩
  rw [e3]
  rfl
end Go.Proofs.Ytbmapjgajecgfaa

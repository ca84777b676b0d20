/-
  What is proved: what (*wordm.Machine).turn does. Conditions: those of each theorem.
-/
import Derived.Test.YtbmapjgajecgfaaW1
import Derived.Laws.EntriesVeiled
set_option linter.unusedVariables false
set_option linter.unusedSimpArgs false
namespace Go.Proofs.Ytbmapjgajecgfaa
open Go.RowKit
inductive Tag where
  | hd | lv | tk | pl | bu
  | ps (i : Nat) | li (i : Nat)
  deriving DecidableEq
def bv (L : List UInt8) : List Value := L.map fun x => .int .u8 (x.toNat : Int)
theorem bv_len (L : List UInt8) : (bv L).length = L.length := by simp [bv]
/-- A level, with the values that lie in memory for its lists. -/
structure LvM where
  wh : Int
  ps : List Prt
  li : List UInt8
  nm : ByteArray
  op : ByteArray
  pv : Value
  tv : Value
def LvM.cells (l : LvM) : List Value := [.int .i64 l.wh, l.pv, l.tv, .string l.nm, .string l.op]
/-- A machine: the levels below, the last one, the rest; and the values that lie in memory for its lists. -/
structure Sn where
  lo : List LvM
  tp : LvM
  kd : Nat
  tk : List UInt8
  pl : List UInt8
  ex : Bool
  qu : Bool
  bu : List UInt8
  dp : Int
  ln : Bool
  cu : Int
  lvv : Value
  tkv : Value
  plv : Value
  buv : Value
def nextv (b : Nat) (k : Nat) : Value :=
  let p : Value := .pointer (some ⟨b, 0, none⟩)
  match k with
  | 0 => .func (.func 34) #[p] #[]
  | 1 => .func (.func 35) #[p] #[]
  | 2 => .func (.func 36) #[p] #[]
  | 3 => .func (.func 37) #[p] #[]
  | 4 => .func (.func 38) #[p] #[]
  | 5 => .func (.func 39) #[p] #[]
  | 6 => .func (.func 40) #[p] #[]
  | 7 => .func (.func 41) #[p] #[]
  | 8 => .func (.func 41) #[p] #[]
  | 9 => .func (.func 42) #[p] #[]
  | 10 => .func (.func 43) #[p] #[]
  | 11 => .func (.func 44) #[p] #[]
  | 12 => .func (.func 45) #[p] #[]
  | 13 => .func (.func 46) #[p] #[]
  | 14 => .func (.func 47) #[p] #[]
  | 16 => .func (.func 48) #[] #[]
  | _ => .func (.func 49) #[] #[]
def Sn.head (S : Sn) (b : Nat) (nx : Value) : Array Value := #[S.lvv, nx, .int .i64 (S.kd : Int), S.tkv, S.plv, .bool S.ex, .bool S.qu, S.buv, .int .i64 S.dp, .bool S.ln, .int .u8 S.cu]
def Sn.all (S : Sn) : List LvM := S.lo ++ [S.tp]
def Sn.dat (S : Sn) (b : Nat) : Tag → Dat
  | .hd => .head b 53 (S.head b (nextv b S.kd))
  | .lv => .row 55 5 S.lvv (S.lo.length + 1) (S.all.flatMap LvM.cells)
  | .tk => .row 5 1 S.tkv S.tk.length (bv S.tk)
  | .pl => .row 5 1 S.plv S.pl.length (bv S.pl)
  | .bu => .row 5 1 S.buv S.bu.length (bv S.bu)
  | .ps i => match S.all[i]? with | some l => .prow 49 l.pv l.ps | none => .nothing
  | .li i => match S.all[i]? with | some l => .row 5 1 l.tv l.li.length (bv l.li) | none => .nothing
theorem head_step {B : Nat} {w w' : World} {b : Nat} {C : Nat → Prop} {S S' : Sn} (h : Fam B w C (S.dat b)) (hK : Kept (ib b) w w') (hd : w'.heap[b]? = some (.cells (S'.head b (nextv b S'.kd)) 53 (0, 0)))
    (hs : upd (S.dat b) .hd (.head b 53 (S'.head b (nextv b S'.kd))) = S'.dat b) : Stp B w C (S.dat b) w' C (S'.dat b) := by
  have hb := h.bnd b (.inr ⟨.hd, rfl⟩)
  rw [← hs]
  refine Stp.one h .hd _ (hK.mono (fun k _ e => by rw [e]; rfl)) hd (fun k hk => ?_) (by omega)
  have hz := hK.size
  obtain rfl : b = k := by simpa [Dat.blk] using hk
  exact ⟨.inl rfl, by omega⟩
def Turned (B : Nat) (w0 : World) (b : Nat) (C : Nat → Prop) (S : Sn) (k : Nat) (v : Value) (e : Ending) (w' : World) : Prop :=
  e = .returned v ∧ Stp B w0 C (S.dat b) w' C ({S with kd := k}.dat b)
set_option maxHeartbeats 2000000 in
theorem turn_any {B : Nat} {w : World} {b : Nat} {C : Nat → Prop} {S : Sn} (h : Fam B w C (S.dat b)) (k : Nat) (hk : k ≤ 17) :
    Calls Try.prog 27 #[.pointer (some ⟨b, 0, none⟩), .int .i64 (k : Int)] w (Turned B w b C S k (.pointer (some ⟨b, 0, none⟩))) := by
  have hb : w.heap[b]? = some (.cells (S.head b (nextv b S.kd)) 53 (0, 0)) := h.comp .hd
  have e1 := fun v => set_blk hb 2 v
  have hc1 : w.cell? ⟨b, 1, none⟩ = some (nextv b S.kd) := by rw [cell_blk hb]; rfl
  have hc2 : w.cell? ⟨b, 2, none⟩ = some (.int .i64 (S.kd : Int)) := by rw [cell_blk hb]; rfl
  have hf1 := frz_blk hb 1
  have hf2 := frz_blk hb 2
  have hd1 : ∀ v, (w.setCell ⟨b, 2, none⟩ v).cell? ⟨b, 1, none⟩ = some (nextv b S.kd) := fun v => by rw [cell_blk (e1 v)]; rfl
  have hg1 : ∀ v, (w.setCell ⟨b, 2, none⟩ v).frozen? ⟨b, 1, none⟩ = false := fun v => frz_blk (e1 v) 1
  have fin : ∀ k : Nat, Stp B w C (S.dat b) ((w.setCell ⟨b, 2, none⟩ (.int .i64 (k : Int))).setCell ⟨b, 1, none⟩ (nextv b k)) C ({S with kd := k}.dat b) := fun k => by
    refine head_step h ((Kept.setCell w ⟨b, 2, none⟩ _).trans (Kept.setCell _ ⟨b, 1, none⟩ _) (fun _ _ h => h)) ?_ ?_
    · rw [set_blk (e1 _)]; rfl
    · funext t; cases t <;> rfl
  have HF := Lib.hid fin
  obtain ⟨nv, hnv⟩ : ∃ nv, nextv b S.kd = nv := ⟨_, rfl⟩
  rw [hnv] at hc1 hd1
  clear hb e1 fin hnv h
  have key : k = 0 ∨ k = 1 ∨ k = 2 ∨ k = 3 ∨ k = 4 ∨ k = 5 ∨ k = 6 ∨ k = 7 ∨ k = 8 ∨ k = 9 ∨ k = 10 ∨ k = 11 ∨ k = 12 ∨ k = 13 ∨ k = 14 ∨ k = 15 ∨ k = 16 ∨ k = 17 := by omega
  clear hk
  rcases key with rfl | rfl | rfl | rfl | rfl | rfl | rfl | rfl | rfl | rfl | rfl | rfl | rfl | rfl | rfl | rfl | rfl | rfl
  all_goals
    go_enter Try.func27, Try.ntmps27
    go_wp2
    go_ret
    exact ⟨rfl, HF.out _⟩
end Go.Proofs.Ytbmapjgajecgfaa

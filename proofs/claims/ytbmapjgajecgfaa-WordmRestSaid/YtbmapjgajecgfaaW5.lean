/-
  What is proved: lemmas on the five cells of a part. Conditions: those of each theorem.
-/
import Derived.Test.YtbmapjgajecgfaaW3
import Derived.Laws.IdiomStrings
import Derived.Lib.BufferRead
import Derived.Deep.RegionLaw
set_option linter.unusedVariables false
set_option linter.unusedSimpArgs false
namespace Go.Proofs.Ytbmapjgajecgfaa
open Go.RowKit
def zpart : Value := .agg #[.int .i64 0, .string ⟨#[]⟩, .string ⟨#[]⟩, .slice none 0 0, .slice none 0 0]
def zcells : Array Value := #[.int .i64 0, .string ⟨#[]⟩, .string ⟨#[]⟩, .slice none 0 0, .slice none 0 0]
theorem info_part : (Try.prog.info? 49).map (fun i => (i.zero, i.size, i.bytes)) = some (some zpart, 5, 88) := by kernel_rfl
theorem own_slice {w : World} {base : Nat} {e : TypeId} {size : Nat} {v : Value} {n : Nat} {xs : List Value} (h : w.ownsRow base e size v n xs) : ∃ a c, v = .slice a n c := by
  rcases h.2 with ⟨h1, h2⟩ | ⟨g, cap, cur, h1, _⟩
  · exact ⟨none, 0, by rw [h1, h2]⟩
  · exact ⟨_, _, h1⟩
theorem World.heap_alloc_old' {w : World} {i : Nat} (o : Obj) (h : i < w.heap.size) : (w.alloc o).heap[i]? = w.heap[i]? := by
  show (w.heap.push o)[i]? = w.heap[i]?
  rw [Array.getElem?_push, if_neg (Nat.ne_of_lt h)]
theorem five {w : World} {g o : Nat} {v0 v1 v2 v3 v4 va : Value} {a : Addr} (h0 : w.cell? ⟨g, o, none⟩ = some v0) (h1 : w.cell? ⟨g, o + 1, none⟩ = some v1) (h2 : w.cell? ⟨g, o + 2, none⟩ = some v2) (h3 : w.cell? ⟨g, o + 3, none⟩ = some v3) (h4 : w.cell? ⟨g, o + 4, none⟩ = some v4) (ha : w.cell? a = some va) (hne : a.block ≠ g) :
    w.cell? ⟨g, o, none⟩ = some v0 ∧ (∀ u0, (w.setCell ⟨g, o, none⟩ u0).cell? ⟨g, o + 1, none⟩ = some v1) ∧ (∀ u0 u1, ((w.setCell ⟨g, o, none⟩ u0).setCell ⟨g, o + 1, none⟩ u1).cell? ⟨g, o + 2, none⟩ = some v2) ∧
    (∀ u0 u1 u2, (((w.setCell ⟨g, o, none⟩ u0).setCell ⟨g, o + 1, none⟩ u1).setCell ⟨g, o + 2, none⟩ u2).cell? ⟨g, o + 3, none⟩ = some v3) ∧
    (∀ u0 u1 u2 u3, ((((w.setCell ⟨g, o, none⟩ u0).setCell ⟨g, o + 1, none⟩ u1).setCell ⟨g, o + 2, none⟩ u2).setCell ⟨g, o + 3, none⟩ u3).cell? ⟨g, o + 4, none⟩ = some v4) ∧
    (∀ u0 u1 u2 u3 u4, (((((w.setCell ⟨g, o, none⟩ u0).setCell ⟨g, o + 1, none⟩ u1).setCell ⟨g, o + 2, none⟩ u2).setCell ⟨g, o + 3, none⟩ u3).setCell ⟨g, o + 4, none⟩ u4).cell? a = some va) := by
  have ne : ∀ (i j : Nat), i ≠ j → (⟨g, i, none⟩ : Addr) ≠ ⟨g, j, none⟩ := fun i j h e => h (Addr.mk.inj e).2.1
  have nea : ∀ i, (⟨g, i, none⟩ : Addr) ≠ a := fun i e => hne (by rw [← e])
  refine ⟨h0, fun _ => ?_, fun _ _ => ?_, fun _ _ _ => ?_, fun _ _ _ _ => ?_, fun _ _ _ _ _ => ?_⟩
  · rw [World.cell?_setCell_other (h := ne _ _ (by omega)), h1]
  · rw [World.cell?_setCell_other (h := ne _ _ (by omega)), World.cell?_setCell_other (h := ne _ _ (by omega)), h2]
  · rw [World.cell?_setCell_other (h := ne _ _ (by omega)), World.cell?_setCell_other (h := ne _ _ (by omega)), World.cell?_setCell_other (h := ne _ _ (by omega)), h3]
  · rw [World.cell?_setCell_other (h := ne _ _ (by omega)), World.cell?_setCell_other (h := ne _ _ (by omega)), World.cell?_setCell_other (h := ne _ _ (by omega)), World.cell?_setCell_other (h := ne _ _ (by omega)), h4]
  · rw [World.cell?_setCell_other (h := nea _), World.cell?_setCell_other (h := nea _), World.cell?_setCell_other (h := nea _), World.cell?_setCell_other (h := nea _), World.cell?_setCell_other (h := nea _), ha]
theorem five2 {w : World} {g o : Nat} {v0 v1 v2 v3 v4 u : Value} {a : Addr} (h0 : w.cell? ⟨g, o, none⟩ = some v0) (h1 : w.cell? ⟨g, o + 1, none⟩ = some v1) (h2 : w.cell? ⟨g, o + 2, none⟩ = some v2) (h3 : w.cell? ⟨g, o + 3, none⟩ = some v3) (h4 : w.cell? ⟨g, o + 4, none⟩ = some v4) (hne : a.block ≠ g) :
    (w.setCell a u).cell? ⟨g, o, none⟩ = some v0 ∧ (∀ u0, ((w.setCell a u).setCell ⟨g, o, none⟩ u0).cell? ⟨g, o + 1, none⟩ = some v1) ∧ (∀ u0 u1, (((w.setCell a u).setCell ⟨g, o, none⟩ u0).setCell ⟨g, o + 1, none⟩ u1).cell? ⟨g, o + 2, none⟩ = some v2) ∧
    (∀ u0 u1 u2, ((((w.setCell a u).setCell ⟨g, o, none⟩ u0).setCell ⟨g, o + 1, none⟩ u1).setCell ⟨g, o + 2, none⟩ u2).cell? ⟨g, o + 3, none⟩ = some v3) ∧
    (∀ u0 u1 u2 u3, (((((w.setCell a u).setCell ⟨g, o, none⟩ u0).setCell ⟨g, o + 1, none⟩ u1).setCell ⟨g, o + 2, none⟩ u2).setCell ⟨g, o + 3, none⟩ u3).cell? ⟨g, o + 4, none⟩ = some v4) := by
  have nea : ∀ i, a ≠ (⟨g, i, none⟩ : Addr) := fun i e => hne (by rw [e])
  have f : ∀ {i : Nat} {v : Value}, w.cell? ⟨g, i, none⟩ = some v → (w.setCell a u).cell? ⟨g, i, none⟩ = some v := fun h => by rw [World.cell?_setCell_other (h := nea _), h]
  have ne : ∀ (i j : Nat), i ≠ j → (⟨g, i, none⟩ : Addr) ≠ ⟨g, j, none⟩ := fun i j h e => h (Addr.mk.inj e).2.1
  refine ⟨f h0, fun _ => ?_, fun _ _ => ?_, fun _ _ _ => ?_, fun _ _ _ _ => ?_⟩
  · rw [World.cell?_setCell_other (h := ne _ _ (by omega)), f h1]
  · rw [World.cell?_setCell_other (h := ne _ _ (by omega)), World.cell?_setCell_other (h := ne _ _ (by omega)), f h2]
  · rw [World.cell?_setCell_other (h := ne _ _ (by omega)), World.cell?_setCell_other (h := ne _ _ (by omega)), World.cell?_setCell_other (h := ne _ _ (by omega)), f h3]
  · rw [World.cell?_setCell_other (h := ne _ _ (by omega)), World.cell?_setCell_other (h := ne _ _ (by omega)), World.cell?_setCell_other (h := ne _ _ (by omega)), World.cell?_setCell_other (h := ne _ _ (by omega)), f h4]
theorem zcell {w : World} {B g l cap : Nat} {vs : List Value} (h : w.ownsRow B 49 5 (.slice (some ⟨g, 0, none⟩) (l + 1) cap) (l + 1) (vs ++ zcells.toList)) (j : Nat) (hj : j < 5) : w.cell? ⟨g, l * 5 + j, none⟩ = zcells[j]? := by
  have hl : vs.length = l * 5 := by
    have := h.1
    simp [zcells] at this
    omega
  rw [own_cell h (by omega), List.getElem?_append_right (by omega), hl]
  simp
def ptr (a : Option Addr) : Value := .pointer a
def LvM.flushed (l : LvM) (v : Value) : LvM := if l.li = [] then l else {l with ps := l.ps ++ [.mk 1 ⟨l.li.toArray⟩ ⟨#[]⟩ [] 0], pv := v, li := [], tv := .slice none 0 0}
def FlushedM (B : Nat) (w0 : World) (b : Nat) (C : Nat → Prop) (S : Sn) (e : Ending) (w' : World) : Prop :=
  ∃ v : Value, e = .returned (.tuple #[]) ∧ Stp B w0 C (S.dat b) w' C ({S with tp := S.tp.flushed v}.dat b)
/-- Behind the append of flush. -/
def Mid (B : Nat) (w0 : World) (b : Nat) (C : Nat → Prop) (S : Sn) (p : Prt) (wc : World) : Prop :=
  ∃ v : Value, Stp B w0 C (S.dat b) wc C ({S with tp := {S.tp with ps := S.tp.ps ++ [p], pv := v}}.dat b)
theorem Stp.appP {τ : Type} [DecidableEq τ] {B : Nat} {w w' : World} {C : Nat → Prop} {D : τ → Dat} (h : Fam B w C D) {t : τ} {e : TypeId} {g m cap : Nat} {v : Value} {L L' : List Prt} {ys : List Value} (ht : D t = .prow e v L) (hK : Kept (fun k => v.ownBlock = some k) w w')
    (own : w'.ownsRow B e 5 (.slice (some ⟨g, 0, none⟩) m cap) m ys) (hr : Rds w' C ys L') (hm : L'.length = m) (ls : v.ownBlock = some g ∨ w.heap.size ≤ g) (lt : g < w'.heap.size) (hB : B ≤ w.heap.size) :
    Stp B w C D w' C (upd D t (.prow e (.slice (some ⟨g, 0, none⟩) m cap) L')) := by
  refine Stp.one h t _ (by rw [ht]; exact hK) ⟨ys, by rw [hm]; exact own, hr⟩ (fun k hk => ?_) hB
  obtain rfl : g = k := by simpa [Dat.blk, Value.ownBlock] using hk
  exact ⟨by rw [ht]; exact ls, lt⟩
/-- Five cells of a row are written. -/
def W5 (w : World) (g o : Nat) (u0 u1 u2 u3 u4 : Value) : World := ((((w.setCell ⟨g, o, none⟩ u0).setCell ⟨g, o + 1, none⟩ u1).setCell ⟨g, o + 2, none⟩ u2).setCell ⟨g, o + 3, none⟩ u3).setCell ⟨g, o + 4, none⟩ u4
theorem W5.kept (w : World) (g o : Nat) (u0 u1 u2 u3 u4 : Value) : Kept (ib g) w (W5 w g o u0 u1 u2 u3 u4) :=
  ((((Kept.setCell w ⟨g, o, none⟩ u0).trans (Kept.setCell _ ⟨g, o + 1, none⟩ u1) (fun _ _ h => h)).trans (Kept.setCell _ ⟨g, o + 2, none⟩ u2) (fun _ _ h => h)).trans (Kept.setCell _ ⟨g, o + 3, none⟩ u3) (fun _ _ h => h)).trans (Kept.setCell _ ⟨g, o + 4, none⟩ u4) (fun _ _ h => h)
theorem set5 {vs : List Value} {o : Nat} (h : vs.length = o) (z0 z1 z2 z3 z4 u0 u1 u2 u3 u4 : Value) : (((((vs ++ [z0, z1, z2, z3, z4]).set o u0).set (o + 1) u1).set (o + 2) u2).set (o + 3) u3).set (o + 4) u4 = vs ++ [u0, u1, u2, u3, u4] := by
  subst h
  have f : ∀ (l : List Value) (j : Nat) (u : Value), (vs ++ l).set (vs.length + j) u = vs ++ l.set j u := fun l j u => by
    rw [List.set_append, if_neg (by omega)]; congr 2; omega
  rw [show vs.length = vs.length + 0 by rfl, f]
  simp only [Nat.add_zero]
  rw [f, f, f, f]
  rfl
theorem W5.own {w : World} {B g l cap : Nat} {vs : List Value} (h : w.ownsRow B 49 5 (.slice (some ⟨g, 0, none⟩) (l + 1) cap) (l + 1) (vs ++ zcells.toList)) (u0 u1 u2 u3 u4 : Value) :
    (W5 w g (l * 5) u0 u1 u2 u3 u4).ownsRow B 49 5 (.slice (some ⟨g, 0, none⟩) (l + 1) cap) (l + 1) (vs ++ [u0, u1, u2, u3, u4]) := by
  have hl : vs.length = l * 5 := by
    have := h.1
    simp [zcells] at this
    omega
  have := own_set (own_set (own_set (own_set (own_set h (l * 5) u0) (l * 5 + 1) u1) (l * 5 + 2) u2) (l * 5 + 3) u3) (l * 5 + 4) u4
  rwa [show zcells.toList = [.int .i64 0, .string ⟨#[]⟩, .string ⟨#[]⟩, .slice none 0 0, .slice none 0 0] by rfl, set5 hl] at this
/-- The two orders in which a part more is written. -/
theorem grow_mid {B : Nat} {w w2 : World} {b : Nat} {C : Nat → Prop} {S : Sn} {g cap gg cap2 l : Nat} {vs : List Value} {o : Obj} {k : Int} {tx op : ByteArray} {kv : Value} {K : List Prt} {cb : Option Addr} {cm cc : Nat} (h : Fam B w C (S.dat b)) (hl : S.lvv = .slice (some ⟨g, 0, none⟩) (S.lo.length + 1) cap) (hps : S.tp.ps.length = l) (hvs : Rds w C vs S.tp.ps)
    (own2 : w2.ownsRow B 49 5 (.slice (some ⟨gg, 0, none⟩) (l + 1) cap2) (l + 1) (vs ++ zcells.toList)) (gr2 : ((w.alloc o).drew).grownBy w2 S.tp.pv.ownBlock) (ls2 : S.tp.pv.ownBlock = some gg ∨ gg = w.heap.size + 1) (lt2 : gg < w2.heap.size)
    (hkv : Cold w C kv K) :
    Mid B w b C S (.mk k tx op K cm) ((W5 w2 gg (l * 5) (.int .i64 k) (.string tx) (.string op) kv (.slice cb cm cc)).setCell ⟨g, S.lo.length * 5 + 1, none⟩ (.slice (some ⟨gg, 0, none⟩) (l + 1) cap2)) ∧
    Mid B w b C S (.mk k tx op K cm) (W5 (w2.setCell ⟨g, S.lo.length * 5 + 1, none⟩ (.slice (some ⟨gg, 0, none⟩) (l + 1) cap2)) gg (l * 5) (.int .i64 k) (.string tx) (.string op) kv (.slice cb cm cc)) := by
  have hBw : B ≤ w.heap.size := by have := h.bnd b (.inr ⟨.hd, rfl⟩); omega
  have hlv : (S.dat b) .lv = .row 55 5 (.slice (some ⟨g, 0, none⟩) (S.lo.length + 1) cap) (S.lo.length + 1) (S.all.flatMap LvM.cells) := by
    show Dat.row 55 5 S.lvv (S.lo.length + 1) _ = _
    rw [hl]
  have k1 : Kept nob w (w.alloc o).drew := (Kept.alloc w o nob).trans (Kept.drew _ nob) (fun _ _ h => h)
  have s1 := Stp.nob h k1
  have hz1 : (w.alloc o).drew.heap.size = w.heap.size + 1 := by simp
  have k2 : Kept (fun k => S.tp.pv.ownBlock = some k) (w.alloc o).drew w2 := (Kept.ofGrown gr2).mono (fun k _ e => e.symm)
  have cC : ∀ (k' : Nat), C k' → ¬ S.tp.pv.ownBlock = some k' ∧ k' < w.heap.size := fun k' hk' => by
    have hb := h.bnd k' (.inl hk')
    refine ⟨fun e => h.cold k' (.ps S.lo.length) hk' (by rw [dat_ps]; exact e), hb.2⟩
  have cg : ¬ C gg := fun hc => by
    rcases ls2 with e | e
    · exact (cC gg hc).1 e
    · have := (cC gg hc).2; omega
  have rd2 : ∀ {L : List Prt} {xs : List Value}, Rds w C xs L → Rds w2 C xs L := fun hr =>
    (hr.kept k1 (fun k' hk' => ⟨fun e => e, (cC k' hk').2⟩)).kept k2 (fun k' hk' => ⟨(cC k' hk').1, by have := (cC k' hk').2; omega⟩)
  have ls1 : S.tp.pv.ownBlock = some gg ∨ (w.alloc o).drew.heap.size ≤ gg := by
    rcases ls2 with e | e
    · exact .inl e
    · exact .inr (by omega)
  have kg : ∀ {w3 : World}, Kept (ib gg) w2 w3 → Kept (fun k => S.tp.pv.ownBlock = some k) (w.alloc o).drew w3 := fun hk => k2.trans hk (fun i hi e => by
    rcases ls1 with e1 | e1
    · show S.tp.pv.ownBlock = some i
      rw [e1, show i = gg from e]
    · have : i = gg := e
      omega)
  have hdat : ∀ (D : Tag → Dat) (d0 : Dat), D = upd (S.dat b) (.ps S.lo.length) d0 → True := fun _ _ _ => trivial
  have fin : ∀ {D : Tag → Dat} {p : Prt} , D (.ps S.lo.length) = .prow 49 (.slice (some ⟨gg, 0, none⟩) (l + 1) cap2) (S.tp.ps ++ [p]) →
      D .lv = .row 55 5 (.slice (some ⟨g, 0, none⟩) (S.lo.length + 1) cap) (S.lo.length + 1) ((S.all.flatMap LvM.cells).set (S.lo.length * 5 + 1) (.slice (some ⟨gg, 0, none⟩) (l + 1) cap2)) → (∀ t, t ≠ .ps S.lo.length → t ≠ .lv → D t = S.dat b t) →
      D = ({S with tp := {S.tp with ps := S.tp.ps ++ [p], pv := .slice (some ⟨gg, 0, none⟩) (l + 1) cap2}} : Sn).dat b := fun {D p} h1 h2 h3 => by
    refine dat_eq (S := S) rfl ?_ ?_ ?_ ?_ ?_ h1 ?_ (fun i hi => ?_) (fun i hi => ?_)
    · rw [h3 _ (by simp) (by simp)]; rfl
    · rw [h2]
      show Dat.row _ _ _ _ _ = Dat.row 55 5 S.lvv (S.lo.length + 1) _
      rw [hl, flat_set, all_flat]
      rfl
    · rw [h3 _ (by simp) (by simp)]; rfl
    · rw [h3 _ (by simp) (by simp)]; rfl
    · rw [h3 _ (by simp) (by simp)]; rfl
    · rw [h3 _ (by simp) (by simp), dat_li]
    · exact h3 _ (by simpa using hi) (by simp)
    · exact h3 _ (by simp) (by simp)
  have hm : ∀ p : Prt, (S.tp.ps ++ [p]).length = l + 1 := fun p => by simp [hps]
  constructor
  · have s2 := Stp.appP s1.1 (t := .ps S.lo.length) (dat_ps S b) (kg (W5.kept w2 gg (l * 5) (.int .i64 k) (.string tx) (.string op) kv (.slice cb cm cc))) (W5.own own2 _ _ _ _ _)
      (L' := S.tp.ps ++ [.mk k tx op K cm]) ((rd2 (hvs.app (Rds.one hkv))).kept (W5.kept _ _ _ _ _ _ _ _) (fun k' hk' => ⟨fun e => cg (by have e' : k' = gg := e; rw [← e']; exact hk'), by have := (cC k' hk').2; have := k2.size; omega⟩)) (hm _) ls1 (by have := (W5.kept w2 gg (l * 5) (.int .i64 k) (.string tx) (.string op) kv (.slice cb cm cc)).size; omega) (by omega)
    have s3 := Stp.setRow s2.1 (t := .lv) (by rw [upd_ne (by simp)]; exact hlv) (S.lo.length * 5 + 1) (.slice (some ⟨gg, 0, none⟩) (l + 1) cap2)
    refine ⟨.slice (some ⟨gg, 0, none⟩) (l + 1) cap2, ?_⟩
    have s := (s1.trans s2).trans s3
    refine Eq.mp (congrArg (fun D => Stp B w C (S.dat b) _ C D) (fin (p := .mk k tx op K cm) ?_ ?_ ?_)) s
    · rw [upd_ne (by simp), upd_at]
    · rw [upd_at]
    · intro t h1 h2; rw [upd_ne h2, upd_ne h1]
  · have s2 := Stp.appP s1.1 (t := .ps S.lo.length) (dat_ps S b) k2 own2 (L' := S.tp.ps ++ [.mk 0 ⟨#[]⟩ ⟨#[]⟩ [] 0]) ((rd2 hvs).app (Rds.bare .nil)) (hm _) ls1 lt2 (by omega)
    have s3 := Stp.setRow s2.1 (t := .lv) (by rw [upd_ne (by simp)]; exact hlv) (S.lo.length * 5 + 1) (.slice (some ⟨gg, 0, none⟩) (l + 1) cap2)
    have hgn : gg ≠ g := fun e => by
      have e1 : ((upd (S.dat b) (.ps S.lo.length) (.prow 49 (.slice (some ⟨gg, 0, none⟩) (l + 1) cap2) (S.tp.ps ++ [.mk 0 ⟨#[]⟩ ⟨#[]⟩ [] 0]))) (.ps S.lo.length)).blk = some gg := by rw [upd_at]; rfl
      have e2 : ((upd (S.dat b) (.ps S.lo.length) (.prow 49 (.slice (some ⟨gg, 0, none⟩) (l + 1) cap2) (S.tp.ps ++ [.mk 0 ⟨#[]⟩ ⟨#[]⟩ [] 0]))) .lv).blk = some gg := by rw [upd_ne (by simp), hlv, e]; rfl
      have := s2.1.inj _ _ _ e1 e2
      simp at this
    have own3 := own_kept (Kept.setCell w2 ⟨g, S.lo.length * 5 + 1, none⟩ (.slice (some ⟨gg, 0, none⟩) (l + 1) cap2)) own2 (fun k' hk' e => hgn (by
      have e1 : gg = k' := by simpa [Value.ownBlock] using hk'
      rw [e1]; exact e))
    have s4 := Stp.appP s3.1 (t := .ps S.lo.length) (by rw [upd_ne (by simp), upd_at]) ((W5.kept (w2.setCell ⟨g, S.lo.length * 5 + 1, none⟩ (.slice (some ⟨gg, 0, none⟩) (l + 1) cap2)) gg (l * 5) (.int .i64 k) (.string tx) (.string op) kv (.slice cb cm cc)).mono (fun k' _ e => by rw [e]; rfl)) (W5.own own3 _ _ _ _ _)
      (L' := S.tp.ps ++ [.mk k tx op K cm]) (((rd2 (hvs.app (Rds.one hkv))).kept (Kept.setCell w2 ⟨g, S.lo.length * 5 + 1, none⟩ (.slice (some ⟨gg, 0, none⟩) (l + 1) cap2)) (fun k' hk' => ⟨fun e => h.cold k' .lv hk' (by rw [hlv]; show some g = some k'; rw [show k' = g from e]), by have := (cC k' hk').2; have := k2.size; omega⟩)).kept (W5.kept _ _ _ _ _ _ _ _) (fun k' hk' => ⟨fun e => cg (by have e' : k' = gg := e; rw [← e']; exact hk'), by have := (cC k' hk').2; have := k2.size; simp [World.setCell]; omega⟩)) (hm _) (.inl rfl) (by have := (W5.kept (w2.setCell ⟨g, S.lo.length * 5 + 1, none⟩ (.slice (some ⟨gg, 0, none⟩) (l + 1) cap2)) gg (l * 5) (.int .i64 k) (.string tx) (.string op) kv (.slice cb cm cc)).size; simp [World.setCell] at this ⊢; simp [W5, World.setCell]; omega) (by have := s3.2.1.size; have := s2.2.1.size; omega)
    refine ⟨.slice (some ⟨gg, 0, none⟩) (l + 1) cap2, ?_⟩
    have s := ((s1.trans s2).trans s3).trans s4
    refine Eq.mp (congrArg (fun D => Stp B w C (S.dat b) _ C D) (fin (p := .mk k tx op K cm) ?_ ?_ ?_)) s
    · rw [upd_at]
    · rw [upd_ne (by simp), upd_at]
    · intro t h1 h2; rw [upd_ne h1, upd_ne h2, upd_ne h1]
theorem grow_mid' {B : Nat} {w w2 : World} {b : Nat} {C : Nat → Prop} {S : Sn} {g cap gg cap2 l n : Nat} {vs : List Value} {o : Obj} {k : Int} {tx op : ByteArray} {kv : Value} {K : List Prt} {cb : Option Addr} {cm cc : Nat} (h : Fam B w C (S.dat b)) (hl : S.lvv = .slice (some ⟨g, 0, none⟩) (S.lo.length + 1) cap) (hn : S.lo.length = n) (hps : S.tp.ps.length = l) (hvs : Rds w C vs S.tp.ps)
    {pv : Value} (hpv : S.tp.pv = pv) (own2 : w2.ownsRow B 49 5 (.slice (some ⟨gg, 0, none⟩) (l + 1) cap2) (l + 1) (vs ++ zcells.toList)) (gr2 : ((w.alloc o).drew).grownBy w2 pv.ownBlock) (ls2 : pv.ownBlock = some gg ∨ gg = w.heap.size + 1) (lt2 : gg < w2.heap.size)
    (hkv : Cold w C kv K) :
    Mid B w b C S (.mk k tx op K cm) ((W5 w2 gg (l * 5) (.int .i64 k) (.string tx) (.string op) kv (.slice cb cm cc)).setCell ⟨g, n * 5 + 1, none⟩ (.slice (some ⟨gg, 0, none⟩) (l + 1) cap2)) ∧
    Mid B w b C S (.mk k tx op K cm) (W5 (w2.setCell ⟨g, n * 5 + 1, none⟩ (.slice (some ⟨gg, 0, none⟩) (l + 1) cap2)) gg (l * 5) (.int .i64 k) (.string tx) (.string op) kv (.slice cb cm cc)) := by
  subst hn; subst hpv
  exact grow_mid h hl hps hvs own2 gr2 ls2 lt2 hkv
end Go.Proofs.Ytbmapjgajecgfaa

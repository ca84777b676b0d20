/-
  What is proved: the memory side of pop. Conditions: those of each theorem.
-/
import Derived.Test.YtbmapjgajecgfaaW8
set_option linter.unusedVariables false
set_option linter.unusedSimpArgs false
namespace Go.Proofs.Ytbmapjgajecgfaa
open Go.RowKit
/-- What is written to a block that is new and nobody's. -/
theorem Stp.out {τ : Type} {B : Nat} {T : Nat → Prop} {w w1 w2 : World} {C C1 : Nat → Prop} {D D1 : τ → Dat} (h : Stp B w C D w1 C1 D1) (hK : Kept T w1 w2) (hT : ∀ k, T k → w.heap.size ≤ k ∧ ¬ Foot C1 D1 k) : Stp B w C D w2 C1 D1 :=
  ⟨h.1.frame hK (fun k hf ht => (hT k ht).2 hf), h.2.1.trans hK (fun i hi ht => by have := (hT i ht).1; omega), h.2.2.1, h.2.2.2.1, h.2.2.2.2⟩
theorem own_shrink {w : World} {base : Nat} {e : TypeId} {size g n cap : Nat} {xs ys : List Value} (h : w.ownsRow base e size (.slice (some ⟨g, 0, none⟩) (n + 1) cap) (n + 1) (xs ++ ys)) (hx : xs.length = n * size) :
    w.ownsRow base e size (.slice (some ⟨g, 0, none⟩) n cap) n xs := by
  refine ⟨hx, .inr ?_⟩
  rcases h.2 with ⟨h1, _⟩ | ⟨g', cap', cur, h1, h2, h3, h4, h5, h6, h7⟩
  · simp at h1
  · obtain ⟨rfl, rfl⟩ : g = g' ∧ cap = cap' := by simpa using h1
    refine ⟨g, cap, cur, rfl, h2, h3, by omega, h5, h6, ?_⟩
    have e : n * size ≤ (n + 1) * size := Nat.mul_le_mul_right _ (by omega)
    have := congrArg (List.take (n * size)) h7
    rw [List.take_take, Nat.min_eq_left e] at this
    rw [this, ← hx]
    simp
theorem pop_dat {S : Sn} {b : Nat} {lo' : List LvM} {t' : LvM} {v : Value} {D : Tag → Dat} (hlo : S.lo = lo' ++ [t']) (h1 : D .hd = .head b 53 (({S with lo := lo', tp := t', lvv := v} : Sn).head b (nextv b S.kd))) (h2 : D .lv = .row 55 5 v S.lo.length (S.lo.flatMap LvM.cells))
    (h3 : D (.ps S.lo.length) = .nothing) (h4 : D (.li S.lo.length) = .nothing) (h5 : ∀ t, t ≠ .hd → t ≠ .lv → t ≠ .ps S.lo.length → t ≠ .li S.lo.length → D t = S.dat b t) :
    D = ({S with lo := lo', tp := t', lvv := v} : Sn).dat b := by
  have hall : ({S with lo := lo', tp := t', lvv := v} : Sn).all = S.lo := by simp [Sn.all, hlo]
  have hno : S.lo[S.lo.length]? = none := List.getElem?_eq_none (Nat.le_refl _)
  funext t
  cases t with
  | hd => rw [h1]; rfl
  | lv =>
    rw [h2]
    show _ = Dat.row 55 5 v (lo'.length + 1) (List.flatMap LvM.cells (Sn.all _))
    rw [hall, hlo]
    simp
  | tk => rw [h5 _ (by simp) (by simp) (by simp) (by simp)]; rfl
  | pl => rw [h5 _ (by simp) (by simp) (by simp) (by simp)]; rfl
  | bu => rw [h5 _ (by simp) (by simp) (by simp) (by simp)]; rfl
  | ps i =>
    show _ = match (Sn.all _)[i]? with | some l => Dat.prow 49 l.pv l.ps | none => .nothing
    rw [hall]
    by_cases e : i = S.lo.length
    · subst e
      rw [h3, hno]
    · rw [h5 _ (by simp) (by simp) (by simpa using e) (by simp)]
      show (match S.all[i]? with | some l => Dat.prow 49 l.pv l.ps | none => .nothing) = _
      rw [all_at S i e]
  | li i =>
    show _ = match (Sn.all _)[i]? with | some l => Dat.row 5 1 l.tv l.li.length (bv l.li) | none => .nothing
    rw [hall]
    by_cases e : i = S.lo.length
    · subst e
      rw [h4, hno]
    · rw [h5 _ (by simp) (by simp) (by simp) (by simpa using e)]
      show (match S.all[i]? with | some l => Dat.row 5 1 l.tv l.li.length (bv l.li) | none => .nothing) = _
      rw [all_at S i e]
/-- The last level goes; its parts are left alone from now on. -/
theorem pop_step {B : Nat} {w : World} {b : Nat} {C : Nat → Prop} {S : Sn} {g cap : Nat} {lo' : List LvM} {t' : LvM} (h : Fam B w C (S.dat b)) (hl : S.lvv = .slice (some ⟨g, 0, none⟩) (S.lo.length + 1) cap) (hlo : S.lo = lo' ++ [t']) :
    Stp B w C (S.dat b) (w.setCell ⟨b, 0, none⟩ (.slice (some ⟨g, 0, none⟩) S.lo.length cap)) (fun k => C k ∨ (S.dat b (.ps S.lo.length)).blk = some k) (({S with lo := lo', tp := t', lvv := .slice (some ⟨g, 0, none⟩) S.lo.length cap} : Sn).dat b) := by
  have hBw : B ≤ w.heap.size := by have := h.bnd b (.inr ⟨.hd, rfl⟩); omega
  have s1 := Stp.cool h (.ps S.lo.length)
  have s2 := Stp.one s1.1 (.li S.lo.length) .nothing (Kept.refl _ _) trivial (fun k hk => by cases hk) hBw
  have hlv : (upd (upd (S.dat b) (.ps S.lo.length) .nothing) (.li S.lo.length) .nothing) .lv = .row 55 5 (.slice (some ⟨g, 0, none⟩) (S.lo.length + 1) cap) (S.lo.length + 1) (S.all.flatMap LvM.cells) := by
    rw [upd_ne (by simp), upd_ne (by simp)]
    show Dat.row 55 5 S.lvv (S.lo.length + 1) _ = _
    rw [hl]
  have hown := s2.1.comp .lv
  rw [hlv, all_flat] at hown
  have s3 := Stp.one s2.1 .lv (.row 55 5 (.slice (some ⟨g, 0, none⟩) S.lo.length cap) S.lo.length (S.lo.flatMap LvM.cells)) (Kept.refl _ _) (own_shrink hown (flat_len _)) (fun k hk => by
    obtain rfl : g = k := by simpa [Dat.blk, Value.ownBlock] using hk
    have e : ((upd (upd (S.dat b) (.ps S.lo.length) .nothing) (.li S.lo.length) .nothing) .lv).blk = some g := by rw [hlv]; rfl
    exact ⟨.inl e, (s2.1.bnd g (.inr ⟨.lv, e⟩)).2⟩) hBw
  have s4 := Stp.setHead s3.1 (t := .hd) (b := b) (ty := 53) (cs := S.head b (nextv b S.kd)) (by rw [upd_ne (by simp), upd_ne (by simp), upd_ne (by simp)]; rfl) 0 (.slice (some ⟨g, 0, none⟩) S.lo.length cap)
  refine Eq.mp (congrArg (fun D => Stp B w C (S.dat b) _ _ D) (pop_dat hlo ?_ ?_ ?_ ?_ ?_)) (((s1.trans s2).trans s3).trans s4)
  · rw [upd_at]; rfl
  · rw [upd_ne (by simp), upd_at]
  · rw [upd_ne (by simp), upd_ne (by simp), upd_ne (by simp), upd_at]
  · rw [upd_ne (by simp), upd_ne (by simp), upd_at]
  · intro t h1 h2 h3 h4; rw [upd_ne h1, upd_ne h2, upd_ne h4, upd_ne h3]
/-- What the last level's parts read as when it has gone. -/
theorem pop_cold {B : Nat} {w : World} {b : Nat} {C : Nat → Prop} {S : Sn} (h : Fam B w C (S.dat b)) : Cold w (fun k => C k ∨ (S.dat b (.ps S.lo.length)).blk = some k) S.tp.pv S.tp.ps := by
  have hc := h.comp (.ps S.lo.length)
  rw [dat_ps] at hc ⊢
  obtain ⟨vs, ho, hr⟩ := hc
  have hlen := hr.len
  rcases ho.2 with ⟨e1, e2⟩ | ⟨g, cap, cur, e1, _⟩
  · exact .inl ⟨none, 0, e1, List.eq_nil_of_length_eq_zero e2⟩
  · refine .inr ⟨g, 0, cap, vs, e1, .inr (by show S.tp.pv.ownBlock = _; rw [e1]; rfl), fun j hj => ?_, hr.mono (fun k hk => .inl hk)⟩
    rw [e1] at ho
    rw [Nat.zero_add, own_cell ho (by omega)]

theorem pop_all {B : Nat} {w : World} {b : Nat} {C : Nat → Prop} {S : Sn} {g cap n : Nat} {lo' : List LvM} {t' : LvM} (h : Fam B w C (S.dat b)) (hl : S.lvv = .slice (some ⟨g, 0, none⟩) (S.lo.length + 1) cap) (hlo : S.lo = lo' ++ [t']) (hn : S.lo.length = n) (o : Obj) :
    ∃ C' : Nat → Prop, Stp B w C (S.dat b) (((w.alloc o).setCell ⟨b, 0, none⟩ (.slice (some ⟨g, 0, none⟩) n cap)).drew) C' (({S with lo := lo', tp := t', lvv := .slice (some ⟨g, 0, none⟩) n cap} : Sn).dat b) ∧ Cold (((w.alloc o).setCell ⟨b, 0, none⟩ (.slice (some ⟨g, 0, none⟩) n cap)).drew) C' S.tp.pv S.tp.ps := by
  subst hn
  have s1 := Stp.nob h (Kept.alloc w o nob)
  have s2 := pop_step s1.1 hl hlo
  have s3 := (s1.trans s2).trans (Stp.nob s2.1 (Kept.drew _ nob))
  refine ⟨_, s3, ?_⟩
  refine (pop_cold s1.1).kept (S := ib b) ((Kept.setCell (w.alloc o) ⟨b, 0, none⟩ _).trans (Kept.drew _ nob) (fun _ _ h => h.elim)) (fun k hk => ?_)
  have hb : (S.dat b .hd).blk = some b := rfl
  rcases hk with hk | hk
  · exact ⟨fun e => h.cold k .hd hk (by rw [hb, show k = b from e]), (s1.1.bnd k (.inl hk)).2⟩
  · refine ⟨fun e => ?_, (s1.1.bnd k (.inr ⟨_, hk⟩)).2⟩
    have := h.inj _ _ _ hk (by rw [hb, show k = b from e])
    simp at this
end Go.Proofs.Ytbmapjgajecgfaa

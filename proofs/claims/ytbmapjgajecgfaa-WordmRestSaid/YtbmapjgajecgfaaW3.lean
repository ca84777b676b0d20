/-
  What is proved: what goes, wrong and top do; writes to a machine. Conditions: those of each theorem.
-/
import Derived.Test.YtbmapjgajecgfaaW2
set_option linter.unusedVariables false
set_option linter.unusedSimpArgs false
namespace Go.Proofs.Ytbmapjgajecgfaa
open Go.RowKit
theorem goes_any {B : Nat} {w : World} {b : Nat} {C : Nat → Prop} {S : Sn} (h : Fam B w C (S.dat b)) (k : Nat) (hk : k ≤ 17) :
    Calls Try.prog 63 #[.pointer (some ⟨b, 0, none⟩), .int .i64 (k : Int)] w (Turned B w b C S k (.int .i64 0)) := by
  have H := Lib.hid h
  clear h
  go_enter Try.func63, Try.ntmps63
  go_wp2_with fail
  refine (turn_any H.out k hk).mono ?_
  rintro e w' ⟨rfl, hs⟩
  go_wp2
  go_ret
  exact ⟨rfl, hs⟩
theorem wrong_any {B : Nat} {w : World} {b : Nat} {C : Nat → Prop} {S : Sn} (h : Fam B w C (S.dat b)) :
    Calls Try.prog 61 #[.pointer (some ⟨b, 0, none⟩)] w (Turned B w b C S 17 (.int .i64 3)) := by
  have H := Lib.hid h
  clear h
  go_enter Try.func61, Try.ntmps61
  go_wp2_with fail
  refine (turn_any H.out 17 (by omega)).mono ?_
  rintro e w' ⟨rfl, hs⟩
  go_wp2
  go_ret
  exact ⟨rfl, hs⟩
theorem lv_at {B : Nat} {w : World} {b : Nat} {C : Nat → Prop} {S : Sn} (h : Fam B w C (S.dat b)) :
    ∃ g cap cur, S.lvv = .slice (some ⟨g, 0, none⟩) (S.lo.length + 1) cap ∧ B ≤ g ∧ w.heap[g]? = some (.cells cur 55 (0, 0)) ∧ S.lo.length + 1 ≤ cap ∧ cap ≤ maxLen ∧ cur.size = cap * 5 ∧ cur.toList.take ((S.lo.length + 1) * 5) = S.all.flatMap LvM.cells := by
  have := h.comp .lv
  rcases this.2 with ⟨_, h2⟩ | h
  · omega
  · exact h
/-- Where the last level lies. -/
def topA (S : Sn) : Option Addr := match S.lvv with | .slice (some a) _ _ => some ⟨a.block, S.lo.length * 5, none⟩ | _ => none
theorem top_any {B : Nat} {w : World} {b : Nat} {C : Nat → Prop} {S : Sn} (h : Fam B w C (S.dat b)) :
    Calls Try.prog 32 #[.pointer (some ⟨b, 0, none⟩)] w fun e w' => e = .returned (.pointer (topA S)) ∧ ∃ q, w' = w.drewN q := by
  obtain ⟨g, cap, cur, hl, hB, hg, hn, hm, _, _⟩ := lv_at h
  have hb : w.heap[b]? = some (.cells (S.head b (nextv b S.kd)) 53 (0, 0)) := h.comp .hd
  have hc0 : w.cell? ⟨b, 0, none⟩ = some S.lvv := by rw [cell_blk hb]; rfl
  have ht : topA S = some ⟨g, S.lo.length * 5, none⟩ := by rw [topA, hl]
  rw [hl] at hc0
  rw [ht]
  unfold maxLen at hm
  obtain ⟨n, hn'⟩ : ∃ n, S.lo.length = n := ⟨_, rfl⟩
  rw [hn'] at hn hc0 ⊢
  clear h hb hg ht hl hn'
  go_enter Try.func32, Try.ntmps32
  go_wp2
  go_quiet (fail)
  go_wp2
  go_ret
  exact ⟨rfl, _, rfl⟩

theorem own_set {w : World} {base : Nat} {e : TypeId} {size : Nat} {g n cap : Nat} {xs : List Value} (h : w.ownsRow base e size (.slice (some ⟨g, 0, none⟩) n cap) n xs) (j : Nat) (u : Value) :
    (w.setCell ⟨g, j, none⟩ u).ownsRow base e size (.slice (some ⟨g, 0, none⟩) n cap) n (xs.set j u) := by
  refine ⟨by rw [List.length_set]; exact h.1, .inr ?_⟩
  rcases h.2 with ⟨h1, _⟩ | ⟨g', cap', cur, h1, h2, h3, h4, h5, h6, h7⟩
  · simp at h1
  · obtain ⟨rfl, rfl⟩ : g = g' ∧ cap = cap' := by simpa using h1
    refine ⟨g, cap, cur.setIfInBounds j u, rfl, h2, set_blk h3 j u, h4, h5, by simpa using h6, ?_⟩
    rw [← h7]
    simp [List.take_set]
theorem own_cell {w : World} {base : Nat} {e : TypeId} {size : Nat} {g n cap : Nat} {xs : List Value} (h : w.ownsRow base e size (.slice (some ⟨g, 0, none⟩) n cap) n xs) {j : Nat} (hj : j < n * size) : w.cell? ⟨g, j, none⟩ = xs[j]? := by
  rcases h.2 with ⟨h1, _⟩ | ⟨g', cap', cur, h1, h2, h3, h4, h5, h6, h7⟩
  · simp at h1
  · obtain ⟨rfl, rfl⟩ : g = g' ∧ cap = cap' := by simpa using h1
    rw [cell_blk h3, ← h7, List.getElem?_take, if_pos hj]
    simp
theorem own_frz {w : World} {base : Nat} {e : TypeId} {size : Nat} {g n cap : Nat} {xs : List Value} (h : w.ownsRow base e size (.slice (some ⟨g, 0, none⟩) n cap) n xs) (j : Nat) : w.frozen? ⟨g, j, none⟩ = false := by
  rcases h.2 with ⟨h1, _⟩ | ⟨g', cap', cur, h1, h2, h3, h4, h5, h6, h7⟩
  · simp at h1
  · obtain ⟨rfl, rfl⟩ : g = g' ∧ cap = cap' := by simpa using h1
    exact frz_blk h3 j
theorem flat_len (l : List LvM) : (l.flatMap LvM.cells).length = l.length * 5 := by
  induction l with
  | nil => rfl
  | cons x l ih => simp only [List.flatMap_cons, List.length_append, ih, List.length_cons]; show 5 + _ = _; omega
theorem all_flat (S : Sn) : S.all.flatMap LvM.cells = S.lo.flatMap LvM.cells ++ S.tp.cells := by simp [Sn.all]
theorem flat_at (S : Sn) (j : Nat) : (S.all.flatMap LvM.cells)[S.lo.length * 5 + j]? = S.tp.cells[j]? := by
  rw [all_flat, List.getElem?_append_right (by rw [flat_len]; omega), flat_len]
  congr 1
  omega
theorem flat_set (S : Sn) (j : Nat) (u : Value) : (S.all.flatMap LvM.cells).set (S.lo.length * 5 + j) u = S.lo.flatMap LvM.cells ++ S.tp.cells.set j u := by
  rw [all_flat, List.set_append, if_neg (by rw [flat_len]; omega), flat_len]
  congr 2
  omega
theorem all_at (S : Sn) (i : Nat) (h : i ≠ S.lo.length) : S.all[i]? = S.lo[i]? := by
  unfold Sn.all
  by_cases hi : i < S.lo.length
  · rw [List.getElem?_append_left hi]
  · rw [List.getElem?_append_right (by omega), List.getElem?_eq_none (by simp; omega), List.getElem?_eq_none (by omega)]
theorem all_tp (S : Sn) : S.all[S.lo.length]? = some S.tp := by
  unfold Sn.all
  rw [List.getElem?_append_right (Nat.le_refl _)]
  simp
theorem dat_eq {S S' : Sn} {b : Nat} {D : Tag → Dat} (hlo : S'.lo = S.lo) (h1 : D .hd = S'.dat b .hd) (h2 : D .lv = S'.dat b .lv) (h3 : D .tk = S'.dat b .tk) (h4 : D .pl = S'.dat b .pl) (h5 : D .bu = S'.dat b .bu)
    (h6 : D (.ps S.lo.length) = .prow 49 S'.tp.pv S'.tp.ps) (h7 : D (.li S.lo.length) = .row 5 1 S'.tp.tv S'.tp.li.length (bv S'.tp.li))
    (h8 : ∀ i, i ≠ S.lo.length → D (.ps i) = S.dat b (.ps i)) (h9 : ∀ i, i ≠ S.lo.length → D (.li i) = S.dat b (.li i)) : D = S'.dat b := by
  funext t
  cases t with
  | hd => exact h1
  | lv => exact h2
  | tk => exact h3
  | pl => exact h4
  | bu => exact h5
  | ps i =>
    by_cases e : i = S.lo.length
    · subst e
      rw [h6]
      show _ = match S'.all[S.lo.length]? with | some l => Dat.prow 49 l.pv l.ps | none => .nothing
      rw [← hlo, all_tp]
    · rw [h8 i e]
      show (match S.all[i]? with | some l => Dat.prow 49 l.pv l.ps | none => .nothing) = match S'.all[i]? with | some l => Dat.prow 49 l.pv l.ps | none => .nothing
      rw [all_at S i e, all_at S' i (by rw [hlo]; exact e), hlo]
  | li i =>
    by_cases e : i = S.lo.length
    · subst e
      rw [h7]
      show _ = match S'.all[S.lo.length]? with | some l => Dat.row 5 1 l.tv l.li.length (bv l.li) | none => .nothing
      rw [← hlo, all_tp]
    · rw [h9 i e]
      show (match S.all[i]? with | some l => Dat.row 5 1 l.tv l.li.length (bv l.li) | none => .nothing) = match S'.all[i]? with | some l => Dat.row 5 1 l.tv l.li.length (bv l.li) | none => .nothing
      rw [all_at S i e, all_at S' i (by rw [hlo]; exact e), hlo]
theorem dat_ps (S : Sn) (b : Nat) : S.dat b (.ps S.lo.length) = .prow 49 S.tp.pv S.tp.ps := by
  show (match S.all[S.lo.length]? with | some l => Dat.prow 49 l.pv l.ps | none => .nothing) = _
  rw [all_tp]
theorem dat_li (S : Sn) (b : Nat) : S.dat b (.li S.lo.length) = .row 5 1 S.tp.tv S.tp.li.length (bv S.tp.li) := by
  show (match S.all[S.lo.length]? with | some l => Dat.row 5 1 l.tv l.li.length (bv l.li) | none => .nothing) = _
  rw [all_tp]
theorem info_u8 : (Try.prog.info? 5).map (fun i => (i.zero, i.size, i.bytes)) = some (some (.int .u8 0), 1, 1) := by kernel_rfl
theorem bv_one (L : List UInt8) : ∀ u ∈ bv L, u.oneCell' = true := by
  intro u hu
  obtain ⟨_, _, rfl⟩ := List.mem_map.1 hu
  rfl

theorem Stp.setRow {τ : Type} [DecidableEq τ] {B : Nat} {w : World} {C : Nat → Prop} {D : τ → Dat} (h : Fam B w C D) {t : τ} {e : TypeId} {size g n cap : Nat} {xs : List Value} (ht : D t = .row e size (.slice (some ⟨g, 0, none⟩) n cap) n xs) (j : Nat) (u : Value) :
    Stp B w C D (w.setCell ⟨g, j, none⟩ u) C (upd D t (.row e size (.slice (some ⟨g, 0, none⟩) n cap) n (xs.set j u))) := by
  have hc := h.comp t
  rw [ht] at hc
  have hb := h.bnd g (.inr ⟨t, by rw [ht]; rfl⟩)
  refine Stp.one h t _ (by rw [ht]; exact (Kept.setCell w ⟨g, j, none⟩ u).mono (fun k _ e => by rw [e]; rfl)) (own_set hc j u) (fun k hk => ?_) (by omega)
  obtain rfl : g = k := by simpa [Dat.blk, Value.ownBlock] using hk
  exact ⟨.inl (by rw [ht]; rfl), by simp [World.setCell]; exact hb.2⟩
theorem Stp.setHead {τ : Type} [DecidableEq τ] {B : Nat} {w : World} {C : Nat → Prop} {D : τ → Dat} (h : Fam B w C D) {t : τ} {b : Nat} {ty : TypeId} {cs : Array Value} (ht : D t = .head b ty cs) (j : Nat) (u : Value) :
    Stp B w C D (w.setCell ⟨b, j, none⟩ u) C (upd D t (.head b ty (cs.setIfInBounds j u))) := by
  have hc := h.comp t
  rw [ht] at hc
  have hb := h.bnd b (.inr ⟨t, by rw [ht]; rfl⟩)
  refine Stp.one h t _ (by rw [ht]; exact (Kept.setCell w ⟨b, j, none⟩ u).mono (fun k _ e => by rw [e]; rfl)) (set_blk hc j u) (fun k hk => ?_) (by omega)
  obtain rfl : b = k := by simpa [Dat.blk] using hk
  exact ⟨.inl (by rw [ht]; rfl), by simp [World.setCell]; exact hb.2⟩
theorem Stp.app {τ : Type} [DecidableEq τ] {B : Nat} {w w' : World} {C : Nat → Prop} {D : τ → Dat} (h : Fam B w C D) {t : τ} {e : TypeId} {size g n m cap : Nat} {v : Value} {xs ys : List Value} (ht : D t = .row e size v n xs) (gr : w.grownBy w' v.ownBlock)
    (own : w'.ownsRow B e size (.slice (some ⟨g, 0, none⟩) m cap) m ys) (ls : v.ownBlock = some g ∨ g = w.heap.size) (lt : g < w'.heap.size) (hB : B ≤ w.heap.size) :
    Stp B w C D w' C (upd D t (.row e size (.slice (some ⟨g, 0, none⟩) m cap) m ys)) := by
  refine Stp.one h t _ (by rw [ht]; exact (Kept.ofGrown gr).mono (fun k _ e => e.symm)) own (fun k hk => ?_) hB
  obtain rfl : g = k := by simpa [Dat.blk, Value.ownBlock] using hk
  refine ⟨?_, lt⟩
  rcases ls with h | h
  · left; rw [ht]; exact h
  · right; omega
theorem Stp.hB {τ : Type} {B : Nat} {w w' : World} {C C' : Nat → Prop} {D D' : τ → Dat} (h : Stp B w C D w' C' D') (hB : B ≤ w.heap.size) : B ≤ w'.heap.size := Nat.le_trans hB h.2.1.size
end Go.Proofs.Ytbmapjgajecgfaa

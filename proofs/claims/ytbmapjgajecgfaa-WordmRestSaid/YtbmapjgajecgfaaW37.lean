/-
  What is proved: what Word does. Conditions: those of each theorem.
-/
import Derived.Test.YtbmapjgajecgfaaW36
set_option linter.unusedVariables false
set_option linter.unusedSimpArgs false
namespace Go.Proofs.Ytbmapjgajecgfaa
open Go.RowKit
def WordNo (w0 : World) (e : Ending) (w' : World) : Prop := e = .returned (.tuple #[.agg #[.slice none 0 0], .bool false]) ∧ Kept nob w0 w'
def WordOk (w0 : World) (v : Value) (e : Ending) (w' : World) : Prop := e = .returned (.tuple #[.agg #[v], .bool true]) ∧ Kept nob w0 w'
theorem word_nil (w : World) : Calls Try.prog 15 #[.pointer none] w (WordNo w) := by
  go_enter Try.func15, Try.ntmps15
  go_wp2
  exact bodyPost_ret (v := .tuple #[.agg #[.slice none 0 0], .bool false]) (by simp [results, Try.results15, go_sem]) rfl ⟨rfl, Kept.alloc _ _ _⟩
/-- The first level. -/
def Sn.bot (S : Sn) : LvM := S.lo.headD S.tp
theorem all_bot (S : Sn) : ∃ r, S.all = S.bot :: r := by
  unfold Sn.all Sn.bot
  rcases S.lo with _ | ⟨x, t⟩
  · exact ⟨[], rfl⟩
  · exact ⟨_, rfl⟩
theorem word_ok {B : Nat} {w : World} {b : Nat} {C : Nat → Prop} {S : Sn} (h : Fam B w C (S.dat b)) (hk : S.kd = 16) : Calls Try.prog 15 #[.pointer (some ⟨b, 0, none⟩)] w (WordOk w S.bot.pv) := by
  obtain ⟨g, cap, cur, hl, hB, hg, hn, hm, hcs, htk⟩ := lv_at h
  have hb := hd_at h
  have c0 : w.cell? ⟨b, 0, none⟩ = some S.lvv := by rw [cell_blk hb]; rfl
  have c2 : w.cell? ⟨b, 2, none⟩ = some (.int .i64 16) := by rw [cell_blk hb]; show some (Value.int .i64 (S.kd : Int)) = _; rw [hk]; rfl
  have o0 : w.ownsRow B 55 5 (.slice (some ⟨g, 0, none⟩) (S.lo.length + 1) cap) (S.lo.length + 1) (S.all.flatMap LvM.cells) := by
    have := h.comp .lv
    simp only [Sn.dat, Comp, hl] at this
    exact this
  have g1 : w.cell? ⟨g, 1, none⟩ = some S.bot.pv := by
    rw [own_cell o0 (by omega)]
    obtain ⟨r, hr⟩ := all_bot S
    rw [hr]
    rfl
  rw [hl] at c0
  obtain ⟨pa, pn, pc, hpv⟩ : ∃ pa pn pc, S.bot.pv = .slice pa pn pc := by
    obtain ⟨r, hr⟩ := all_bot S
    have := h.comp (.ps 0)
    have e : S.dat b (.ps 0) = .prow 49 S.bot.pv S.bot.ps := by
      show (match S.all[0]? with | some l => Dat.prow 49 l.pv l.ps | none => .nothing) = _
      rw [hr]; rfl
    rw [e] at this
    obtain ⟨vs, h1, h2⟩ := this
    obtain ⟨a, c, e2⟩ := own_slice h1
    exact ⟨_, _, _, e2⟩
  have hbz := lt_blk hb
  have hgz := World.block_lt_of_cell? w _ g1
  have a0 : ∀ o, (w.alloc o).cell? ⟨b, 0, none⟩ = some (.slice (some ⟨g, 0, none⟩) (S.lo.length + 1) cap) := fun o => by rw [World.cell?_alloc_past _ _ _ hbz]; exact c0
  have a2 : ∀ o, (w.alloc o).cell? ⟨b, 2, none⟩ = some (.int .i64 16) := fun o => by rw [World.cell?_alloc_past _ _ _ hbz]; exact c2
  have ag : ∀ o, (w.alloc o).cell? ⟨g, 1, none⟩ = some S.bot.pv := fun o => by rw [World.cell?_alloc_past _ _ _ hgz]; exact g1
  obtain ⟨n, hn'⟩ : ∃ n, S.lo.length = n := ⟨_, rfl⟩
  rw [hn'] at c0 a0
  have hnn : 0 < n + 1 := by omega
  have hnz : (0 : Int) < (n : Int) + 1 := by omega
  clear h hb hg hl hn hcs htk hn' o0 hbz hgz c0 c2 g1
  rw [hpv] at ag ⊢
  go_enter Try.func15, Try.ntmps15
  go_wp2
  exact bodyPost_ret (v := .tuple #[.agg #[.slice pa pn pc], .bool true]) (by simp [results, Try.results15, go_sem]) rfl ⟨rfl, Kept.alloc _ _ _⟩
theorem word_no {B : Nat} {w : World} {b : Nat} {C : Nat → Prop} {S : Sn} (h : Fam B w C (S.dat b)) (hk : S.kd ≠ 16) : Calls Try.prog 15 #[.pointer (some ⟨b, 0, none⟩)] w (WordNo w) := by
  have hb := hd_at h
  have c2 : w.cell? ⟨b, 2, none⟩ = some (.int .i64 (S.kd : Int)) := by rw [cell_blk hb]; rfl
  have hbz := lt_blk hb
  obtain ⟨k, hk'⟩ : ∃ k : Int, (S.kd : Int) = k := ⟨_, rfl⟩
  rw [hk'] at c2
  have a2 : ∀ o, (w.alloc o).cell? ⟨b, 2, none⟩ = some (.int .i64 k) := fun o => by rw [World.cell?_alloc_past _ _ _ hbz]; exact c2
  have k1 : (k == 16) = false := by simp only [beq_eq_false_iff_ne, ne_eq]; omega
  have k2 : (k != 16) = true := by simp only [bne, k1]; rfl
  clear h hb hk hk' hbz c2
  go_enter Try.func15, Try.ntmps15
  go_wp2
  exact bodyPost_ret (v := .tuple #[.agg #[.slice none 0 0], .bool false]) (by simp [results, Try.results15, go_sem]) rfl ⟨rfl, Kept.alloc _ _ _⟩
end Go.Proofs.Ytbmapjgajecgfaa

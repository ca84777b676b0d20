/-
  What is proved: what Rest gives ends a machine's word, in states alone. Conditions: those of each theorem.
-/
import Derived.Test.YtbmapjgajecgfaaW49
set_option linter.unusedVariables false
set_option linter.unusedSimpArgs false
namespace Go.Proofs.Ytbmapjgajecgfaa
open Go.RowKit
def St.whs (s : St) : List Int := s.all.map Lvl.wh
def whEnd (w : Int) : UInt8 := if w = 1 then 34 else 125
def ends (l : List Int) : List UInt8 := l.tail.reverse.map whEnd
theorem ends_eq (s : St) : s.all.tail.reverse.map lvEnd = ends s.whs := by
  unfold ends St.whs
  rw [← List.map_tail, ← List.map_reverse, List.map_map]
  rfl
theorem feed_of {s t : St} {c : UInt8} (h : stNext s c = (0, t)) : stFeed s c = (0, {t with pl := t.pl ++ [c]}) := by
  unfold stFeed
  rw [h]
  rfl
theorem whs_eq (s : St) : s.whs = s.lo.map Lvl.wh ++ [s.tp.wh] := by simp [St.whs, St.all]
theorem whs_add (s : St) (p : Prt) : (s.add p).whs = s.whs := by
  rw [whs_eq, whs_eq]
  show _ ++ [s.tp.flush.wh] = _
  rw [flush_wh]
  rfl
theorem whs_lit (s : St) (bs : List UInt8) : (s.lit bs).whs = s.whs := by rw [whs_eq, whs_eq]; rfl
theorem whs_push (s : St) (wh : Int) (nm op : ByteArray) : (s.push wh nm op).whs = s.whs ++ [wh] := by
  rw [whs_eq, whs_eq]
  show (s.lo ++ [s.tp]).map _ ++ [wh] = _
  simp
theorem whs_pop {s : St} (hne : s.lo ≠ []) : s.whs = s.pop.whs ++ [s.tp.wh] := by
  have hd : s.lo.dropLast ++ [s.lo.getLastD s.tp] = s.lo := by
    rw [List.getLastD_eq_getLast?, List.getLast?_eq_some_getLast hne]
    exact List.dropLast_concat_getLast hne
  have e : s.pop.whs = (({s with lo := s.lo.dropLast, tp := s.lo.getLastD s.tp} : St).add s.tp.flush.part).whs := rfl
  rw [e, whs_add, whs_eq, whs_eq]
  show _ = (s.lo.dropLast.map _ ++ [(s.lo.getLastD s.tp).wh]) ++ _
  have := congrArg (fun l : List Lvl => l.map Lvl.wh) hd
  simp only [List.map_append, List.map_cons, List.map_nil] at this
  rw [this]
/-- The last byte of all: a blank. -/
theorem text_blank {s : St} (hlo : s.lo = []) (hw : s.wf) : ∃ x, stText s 32 = (1, x) ∧ x.kd = 16 := by
  have h0 : s.tp.wh = 0 := by
    obtain ⟨l, r, h1, h2, _⟩ := hw
    unfold St.all at h1
    rw [hlo] at h1
    simp at h1
    rw [h1.1, h2]
  refine ⟨{s with tp := s.tp.flush, kd := 16}, ?_, rfl⟩
  unfold stText
  rw [if_neg (by decide), if_pos ⟨h0, by decide⟩]
theorem text_end {s : St} (hne : s.lo ≠ []) (hw : s.wf) : stText s (whEnd s.tp.wh) = (0, s.pop) := by
  have h12 : s.tp.wh = 1 ∨ s.tp.wh = 2 := by
    obtain ⟨l, r, h1, h2, h3⟩ := hw
    unfold St.all at h1
    obtain ⟨x, t, hs⟩ := List.exists_cons_of_ne_nil hne
    rw [hs] at h1
    simp at h1
    exact h3 s.tp (by rw [← h1.2]; simp)
  unfold stText whEnd
  rcases h12 with h | h
  · rw [h]; simp
  · rw [h]; simp
theorem close_text (n : Nat) : ∀ (s : St) (i : Nat), s.lo.length = n → s.kd = 0 → s.wf → ∃ x, run s (ends s.whs ++ [32]) i = (x, i + (ends s.whs).length, 1) ∧ x.kd = 16 := by
  induction n with
  | zero =>
    intro s i hl hk hw
    have hlo : s.lo = [] := List.eq_nil_of_length_eq_zero hl
    obtain ⟨x, h1, h2⟩ := text_blank hlo hw
    have he : ends s.whs = [] := by rw [whs_eq, hlo]; rfl
    rw [he]
    have hn : stNext s 32 = (1, x) := by unfold stNext; rw [hk]; exact h1
    have hf : stFeed s 32 = (1, x) := by unfold stFeed; rw [hn]; rfl
    refine ⟨x, ?_, h2⟩
    show run s [32] i = _
    rw [run_cons, hf]
    rfl
  | succ n ih =>
    intro s i hl hk hw
    have hne : s.lo ≠ [] := by intro e; rw [e] at hl; cases hl
    have hp := whs_pop hne
    have hlo : s.pop.lo.length = n := by show s.lo.dropLast.length = n; simp; omega
    have hpw : s.pop.wf := by
      obtain ⟨l, r, h1, h2, h3⟩ := hw
      have hd : s.lo.dropLast ++ [s.lo.getLastD s.tp] = s.lo := by
        rw [List.getLastD_eq_getLast?, List.getLast?_eq_some_getLast hne]
        exact List.dropLast_concat_getLast hne
      have h0 : ({s with lo := s.lo.dropLast, tp := s.lo.getLastD s.tp} : St).wf := by
        obtain ⟨x, t, hs⟩ := List.exists_cons_of_ne_nil hne
        unfold St.all at h1
        rw [hs] at h1
        simp at h1
        have e : ({s with lo := s.lo.dropLast, tp := s.lo.getLastD s.tp} : St).all = s.lo := hd
        exact ⟨l, t, e.trans (hs.trans (by rw [h1.1])), h2, fun y hy => h3 y (by rw [← h1.2]; simp [hy])⟩
      exact add_wf h0 _
    have hwne : s.pop.whs ≠ [] := by rw [whs_eq]; simp
    have he : ends s.whs = whEnd s.tp.wh :: ends s.pop.whs := by
      rw [hp]
      unfold ends
      obtain ⟨a, b, hab⟩ := List.exists_cons_of_ne_nil hwne
      rw [hab]
      simp
    have hn : stNext s (whEnd s.tp.wh) = (0, s.pop) := by unfold stNext; rw [hk]; exact text_end hne hw
    obtain ⟨x, h1, h2⟩ := ih {s.pop with pl := s.pop.pl ++ [whEnd s.tp.wh]} (i + 1) hlo rfl hpw
    refine ⟨x, ?_, h2⟩
    rw [he, List.cons_append, run_goes (feed_of hn)]
    have e2 : ({s.pop with pl := s.pop.pl ++ [whEnd s.tp.wh]} : St).whs = s.pop.whs := rfl
    rw [e2] at h1
    rw [h1]
    simp only [List.length_cons]
    congr 2
    omega
/-- What text does with a byte that ends a level, or the word, another state does too. -/
theorem close_as {s t : St} (h : ∀ c, c = 34 ∨ c = 125 ∨ c = 32 → stNext s c = stNext t c) (hw : t.whs = s.whs) (hk : t.kd = 0) (hwf : t.wf) (i : Nat) : ∃ x, run s (ends s.whs ++ [32]) i = (x, i + (ends s.whs).length, 1) ∧ x.kd = 16 := by
  obtain ⟨x, h1, h2⟩ := close_text _ t i rfl hk hwf
  rw [hw] at h1
  refine ⟨x, ?_, h2⟩
  rw [← h1]
  have hf : ∀ c, c = 34 ∨ c = 125 ∨ c = 32 → stFeed s c = stFeed t c := fun c hc => by unfold stFeed; rw [h c hc]
  have hrun : ∀ c r, c = 34 ∨ c = 125 ∨ c = 32 → run s (c :: r) i = run t (c :: r) i := fun c r hc => by rw [run_cons, run_cons, hf c hc]
  rcases he : ends s.whs with _ | ⟨c, r⟩
  · exact hrun 32 [] (.inr (.inr rfl))
  · refine hrun c _ ?_
    have : c ∈ ends s.whs := by rw [he]; simp
    unfold ends at this
    obtain ⟨w, _, hw⟩ := List.mem_map.1 this
    unfold whEnd at hw
    split at hw
    · exact .inl hw.symm
    · exact .inr (.inl hw.symm)
end Go.Proofs.Ytbmapjgajecgfaa

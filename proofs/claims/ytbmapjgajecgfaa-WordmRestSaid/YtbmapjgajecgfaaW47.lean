/-
  What is proved: a machine's parts are short lists of short parts. Conditions: those of each theorem.
-/
import Derived.Test.YtbmapjgajecgfaaW46
set_option linter.unusedVariables false
set_option linter.unusedSimpArgs false
namespace Go.Proofs.Ytbmapjgajecgfaa
open Go.RowKit
def St.sh (s : St) : Prop := ∀ l ∈ s.all, shortAll l.ps
theorem short_one {p : Prt} (h : p.short) : shortAll [p] := by simp only [shortAll]; exact ⟨h, trivial⟩
theorem short_bare (k : Int) (tx op : ByteArray) (cm : Nat) : (Prt.mk k tx op [] cm).short := by simp only [Prt.short, shortAll]; exact ⟨by simp, trivial⟩
theorem flush_sh {l : Lvl} (h : shortAll l.ps) : shortAll l.flush.ps := by
  unfold Lvl.flush
  split
  · exact h
  · exact short_app h (short_one (short_bare _ _ _ _))
theorem sh_tp {s t : St} (h : s.sh) (h1 : t.lo = s.lo) (h2 : shortAll t.tp.ps) : t.sh := by
  intro l hl
  have : l ∈ t.lo ∨ l = t.tp := by simpa [St.all] using hl
  rcases this with h3 | rfl
  · exact h l (by rw [h1] at h3; simp [St.all, h3])
  · exact h2
theorem sh_same {s t : St} (h : s.sh) (h1 : t.lo = s.lo) (h2 : t.tp.ps = s.tp.ps) : t.sh := sh_tp h h1 (by rw [h2]; exact h s.tp (by simp [St.all]))
theorem add_sh {s : St} (h : s.sh) {p : Prt} (hp : p.short) : (s.add p).sh :=
  sh_tp h rfl (short_app (flush_sh (h s.tp (by simp [St.all]))) (short_one hp))
theorem push_sh {s : St} (h : s.sh) (wh : Int) (nm op : ByteArray) : (s.push wh nm op).sh := by
  intro l hl
  have : l ∈ (s.lo ++ [s.tp]) ++ [(⟨wh, [], [], nm, op⟩ : Lvl)] := hl
  rcases List.mem_append.1 this with h3 | h3
  · exact h l h3
  · obtain rfl : l = _ := by simpa using h3
    trivial
theorem part_sh {l : Lvl} (h : shortAll l.ps) (hl : l.ps.length ≤ 100000) : l.part.short := by
  unfold Lvl.part
  split
  · simp only [Prt.short]; exact ⟨hl, h⟩
  · simp only [Prt.short]; exact ⟨hl, h⟩
theorem pop_sh {s : St} (h : s.sh) (hg : s.good 70000) (hne : s.lo ≠ []) : s.pop.sh := by
  have hd : s.lo.dropLast ++ [s.lo.getLastD s.tp] = s.lo := by
    rw [List.getLastD_eq_getLast?, List.getLast?_eq_some_getLast hne]
    exact List.dropLast_concat_getLast hne
  have h0 : ({s with lo := s.lo.dropLast, tp := s.lo.getLastD s.tp} : St).sh := by
    intro l hl
    have : l ∈ s.lo := by
      have : l ∈ s.lo.dropLast ++ [s.lo.getLastD s.tp] := hl
      rwa [hd] at this
    exact h l (by simp [St.all, this])
  have hf : s.tp.flush.ps.length ≤ 100000 := by
    have := hg.lim.2.2.2.2.1 s.tp (by simp [St.all])
    unfold Lvl.flush
    split
    · omega
    · simp; omega
  exact add_sh h0 (part_sh (flush_sh (h s.tp (by simp [St.all]))) hf)
theorem text_sh {s : St} (h : s.sh) (hg : s.good 70000) (c : UInt8) : (stText s c).2.sh := by
  unfold stText
  split
  · exact sh_same h rfl rfl
  split
  · exact sh_tp h rfl (flush_sh (h s.tp (by simp [St.all])))
  split
  · rename_i hx
    exact pop_sh h hg (wf_ne hg.wf (by rcases hx with h | h <;> simp [h.1]))
  split
  · exact sh_same h rfl rfl
  split
  · exact sh_same h rfl rfl
  split
  · exact push_sh (s := {s with qu := true}) h _ _ _
  split
  · exact sh_same h rfl rfl
  · exact sh_same h rfl rfl
theorem turn_add_sh {s : St} (h : s.sh) (k : Int) (tx op : ByteArray) (cm : Nat) : ((s.add (.mk k tx op [] cm)).turn 0).sh := sh_same (add_sh h (short_bare k tx op cm)) rfl rfl
theorem behind_sh {s : St} (h : s.sh) (c : UInt8) : (stBehind s c).2.sh := by
  unfold stBehind
  split
  · exact turn_add_sh h _ _ _ _
  split
  · exact sh_same h rfl rfl
  split
  · exact sh_same h rfl rfl
  split
  · exact sh_same h rfl rfl
  split
  · exact push_sh h _ _ _
  · exact sh_same h rfl rfl
theorem parameter_sh {s : St} (h : s.sh) (c : UInt8) : (stParameter s c).2.sh := by
  unfold stParameter
  simp only
  split
  · exact sh_same h rfl rfl
  split
  · exact sh_same h rfl rfl
  split
  · exact sh_same h rfl rfl
  · exact sh_same h rfl rfl
theorem name_sh {s : St} (h : s.sh) (c : UInt8) : (stName s c).2.sh := by
  unfold stName
  split
  · exact sh_same h rfl rfl
  · exact behind_sh (s := s.turn 9) h c
theorem next_sh {s : St} (h : s.sh) (hg : s.good 60000) (c : UInt8) : (stNext s c).2.sh := by
  have hg' := hg.mono (show 60000 ≤ 70000 by omega)
  unfold stNext
  split
  · exact text_sh h hg' c
  · unfold stEscaped
    split
    · exact sh_same h rfl rfl
    split
    · exact sh_same h rfl rfl
    · exact turn_add_sh (s := {s with tk := s.tk ++ [c]}) h _ _ _ _
  · unfold stDollar
    split
    · exact sh_same h rfl rfl
    split
    · exact sh_same h rfl rfl
    split
    · exact sh_same h rfl rfl
    split
    · exact turn_add_sh (s := {s with ex := true}) h _ _ _ _
    · exact text_sh (s := (s.lit [36]).turn 0) (sh_same h rfl rfl) (good_turn ((good_lit hg [36] (by simp)).mono (by omega)) 0 (by omega)) c
  · unfold stOpened
    split
    · exact sh_same h rfl rfl
    · exact sh_same h rfl rfl
  · unfold stBare
    split
    · exact sh_same h rfl rfl
    · exact text_sh (s := (s.add _).turn 0) (turn_add_sh h _ _ _ _) (good_turn ((good_add hg _).mono (by omega)) 0 (by omega)) c
  · unfold stHead
    split
    · exact sh_same h rfl rfl
    · exact parameter_sh (s := {s with ln := false}) h c
  · unfold stHash
    split
    · exact turn_add_sh h _ _ _ _
    · exact parameter_sh h c
  · exact name_sh h c
  · exact name_sh h c
  · exact behind_sh h c
  · unfold stColon
    split
    · exact push_sh h _ _ _
    · exact sh_same h rfl rfl
  · unfold stDouble
    split
    · exact push_sh h _ _ _
    · exact text_sh (push_sh h _ _ _) ((good_push hg (.inr rfl) _ _).mono (by omega)) c
  · unfold stSingle
    split
    · exact sh_same h rfl rfl
    split
    · exact turn_add_sh h _ _ _ _
    · exact sh_same h rfl rfl
  · unfold stArith
    split
    · exact sh_same h rfl rfl
    split
    · exact sh_same h rfl rfl
    · exact sh_same h rfl rfl
  · unfold stArithEnd
    split
    · exact turn_add_sh h _ _ _ _
    · exact sh_same h rfl rfl
  · exact h
  · exact h
theorem feed_sh {s : St} (h : s.sh) (hg : s.good 60000) (c : UInt8) : (stFeed s c).2.sh := by
  unfold stFeed
  split
  · exact sh_same (next_sh h hg c) rfl rfl
  · exact next_sh h hg c
theorem init_sh : St.init.sh := by
  intro l hl
  obtain rfl : l = _ := by simpa [St.all, St.init] using hl
  trivial
theorem bot_mem (s : St) : s.bot ∈ s.all := by
  unfold St.bot St.all
  rcases s.lo with _ | ⟨x, t⟩ <;> simp
theorem bot_short {s : St} (h : s.sh) (hg : s.good 70000) : Short s.bot.ps := ⟨by have := hg.lim.2.2.2.2.1 s.bot (bot_mem s); omega, h _ (bot_mem s)⟩
end Go.Proofs.Ytbmapjgajecgfaa

/-
  What is proved: which commands a machine's parts hold, and that no byte changes them. Conditions: those of each theorem.
-/
import Derived.Test.YtbmapjgajecgfaaW44
set_option linter.unusedVariables false
set_option linter.unusedSimpArgs false
namespace Go.Proofs.Ytbmapjgajecgfaa
open Go.RowKit
mutual
/-- How many commands each part of commands holds. -/
def Prt.cmds : Prt → List Nat
  | .mk k _ _ kids cm => (if k = 6 then [cm] else []) ++ cmdsOf kids
def cmdsOf : List Prt → List Nat
  | [] => []
  | p :: r => p.cmds ++ cmdsOf r
end
theorem cmdsOf_app (a b : List Prt) : cmdsOf (a ++ b) = cmdsOf a ++ cmdsOf b := by
  induction a with
  | nil => simp [cmdsOf]
  | cons p r ih => simp only [List.cons_append, cmdsOf, ih, List.append_assoc]
theorem cmdsOf_one (p : Prt) : cmdsOf [p] = p.cmds := by simp [cmdsOf]
theorem flush_cms (l : Lvl) : cmdsOf l.flush.ps = cmdsOf l.ps := by
  unfold Lvl.flush
  split
  · rfl
  · show cmdsOf (l.ps ++ _) = _
    rw [cmdsOf_app, cmdsOf_one]
    simp [Prt.cmds, cmdsOf]
def St.cms (s : St) : List Nat := (s.all.flatMap fun l => cmdsOf l.ps)
theorem cms_eq (s : St) : s.cms = (s.lo.flatMap fun l => cmdsOf l.ps) ++ cmdsOf s.tp.ps := by simp [St.cms, St.all]
theorem cms_tp {s t : St} (h1 : t.lo = s.lo) (h2 : cmdsOf t.tp.ps = cmdsOf s.tp.ps) : t.cms = s.cms := by rw [cms_eq, cms_eq, h1, h2]
theorem add_cms (s : St) (p : Prt) : (s.add p).cms = s.cms ++ p.cmds := by
  rw [cms_eq, cms_eq]
  show (s.lo.flatMap _) ++ cmdsOf (s.tp.flush.ps ++ [p]) = _
  rw [cmdsOf_app, flush_cms, cmdsOf_one, List.append_assoc]
theorem add_none (s : St) {p : Prt} (h : p.cmds = []) : (s.add p).cms = s.cms := by rw [add_cms, h, List.append_nil]
theorem turn_add (s : St) {p : Prt} (h : p.cmds = []) : ((s.add p).turn 0).cms = s.cms := add_none s h
theorem lit_cms (s : St) (bs : List UInt8) : (s.lit bs).cms = s.cms := cms_tp rfl rfl
theorem push_cms (s : St) (wh : Int) (nm op : ByteArray) : (s.push wh nm op).cms = s.cms := by
  rw [cms_eq, cms_eq]
  show ((s.lo ++ [s.tp]).flatMap _) ++ cmdsOf [] = _
  simp [cmdsOf]
theorem part_cms (l : Lvl) : l.part.cmds = cmdsOf l.ps := by
  unfold Lvl.part
  split <;> simp [Prt.cmds]
theorem pop_cms {s : St} (hne : s.lo ≠ []) : s.pop.cms = s.cms := by
  have hd : s.lo.dropLast ++ [s.lo.getLastD s.tp] = s.lo := by
    rw [List.getLastD_eq_getLast?, List.getLast?_eq_some_getLast hne]
    exact List.dropLast_concat_getLast hne
  have e : s.pop.cms = (({s with lo := s.lo.dropLast, tp := s.lo.getLastD s.tp} : St).add s.tp.flush.part).cms := rfl
  rw [e, add_cms, part_cms, flush_cms]
  rw [cms_eq, cms_eq]
  congr 1
  show (s.lo.dropLast.flatMap _) ++ cmdsOf (s.lo.getLastD s.tp).ps = _
  have := congrArg (fun l : List Lvl => l.flatMap fun l => cmdsOf l.ps) hd
  simpa using this
theorem c0 (k : Int) (hk : k ≠ 6) (tx op : ByteArray) (cm : Nat) : (Prt.mk k tx op [] cm).cmds = [] := by simp [Prt.cmds, cmdsOf, hk]
theorem text_cms {s : St} (h : s.wf) (c : UInt8) : (stText s c).2.cms = s.cms := by
  unfold stText
  split
  · rfl
  split
  · exact cms_tp rfl (flush_cms _)
  split
  · rename_i hx
    exact pop_cms (wf_ne h (by rcases hx with h | h <;> simp [h.1]))
  split
  · rfl
  split
  · rfl
  split
  · exact push_cms _ _ _ _
  split
  · rfl
  · exact lit_cms _ _
theorem behind_cms (s : St) (c : UInt8) : (stBehind s c).2.cms = s.cms := by
  unfold stBehind
  split
  · exact turn_add s (c0 5 (by decide) _ _ _)
  split
  · rfl
  split
  · rfl
  split
  · rfl
  split
  · exact push_cms _ _ _ _
  · rfl
theorem parameter_cms (s : St) (c : UInt8) : (stParameter s c).2.cms = s.cms := by
  unfold stParameter
  simp only
  split
  · rfl
  split
  · rfl
  split
  · rfl
  · rfl
theorem name_cms (s : St) (c : UInt8) : (stName s c).2.cms = s.cms := by
  unfold stName
  split
  · rfl
  · exact behind_cms (s.turn 9) c
theorem next_cms {s : St} (h : s.wf) (c : UInt8) : (stNext s c).2.cms = s.cms := by
  unfold stNext
  split
  · exact text_cms h c
  · unfold stEscaped
    split
    · rfl
    split
    · exact (lit_cms s [92, c] :)
    · exact turn_add {s with tk := s.tk ++ [c]} (c0 2 (by decide) _ _ _)
  · unfold stDollar
    split
    · rfl
    split
    · rfl
    split
    · rfl
    split
    · exact turn_add {s with ex := true} (c0 5 (by decide) _ _ _)
    · exact (text_cms (s := (s.lit [36]).turn 0) (lit_wf h [36]) c).trans (lit_cms s [36])
  · unfold stOpened
    split <;> rfl
  · unfold stBare
    split
    · rfl
    · have := text_cms (s := (s.add (.mk 5 ⟨s.bu.toArray⟩ ⟨#[]⟩ [] 0)).turn 0) (add_wf h _) c
      exact this.trans (turn_add s (c0 5 (by decide) _ _ _))
  · unfold stHead
    split
    · rfl
    · exact parameter_cms {s with ln := false} c
  · unfold stHash
    split
    · exact turn_add s (c0 5 (by decide) _ _ _)
    · exact parameter_cms s c
  · exact name_cms s c
  · exact name_cms s c
  · exact behind_cms s c
  · unfold stColon
    split
    · exact push_cms _ _ _ _
    · rfl
  · unfold stDouble
    split
    · exact push_cms _ _ _ _
    · have := text_cms (s := s.push 2 ⟨s.bu.toArray⟩ ⟨#[s.cu.toNat.toUInt8]⟩) (push_wf h (.inr rfl) _ _) c
      exact this.trans (push_cms _ _ _ _)
  · unfold stSingle
    split
    · rfl
    split
    · exact turn_add s (c0 3 (by decide) _ _ _)
    · rfl
  · unfold stArith
    split
    · rfl
    split
    · rfl
    · rfl
  · unfold stArithEnd
    split
    · exact turn_add s (c0 7 (by decide) _ _ _)
    · rfl
  · rfl
  · rfl
theorem feed_cms {s : St} (h : s.wf) (c : UInt8) : (stFeed s c).2.cms = s.cms := by
  unfold stFeed
  split
  · exact next_cms h c
  · exact next_cms h c
/-- A machine that is over has one level. -/
def St.fin (s : St) : Prop := s.kd = 16 → s.lo = []
theorem text_fin {s : St} (h : s.wf) (hk : s.kd = 0) (c : UInt8) : (stText s c).2.fin := by
  intro h16
  unfold stText at h16 ⊢
  split at h16
  · exact absurd h16 (by show ¬ (17 = 16); omega)
  rename_i h1
  rw [if_neg h1]
  split at h16
  · rename_i h2
    rw [if_pos h2]
    obtain ⟨l, r, e1, e2, e3⟩ := h
    by_cases hn : s.lo = []
    · exact hn
    · obtain ⟨x, t, hlo⟩ := List.exists_cons_of_ne_nil hn
      have : s.tp ∈ r := by
        unfold St.all at e1
        rw [hlo] at e1
        simp at e1
        rw [← e1.2]; simp
      have := e3 _ this
      rw [h2.1] at this
      omega
  rename_i h2
  rw [if_neg h2]
  split at h16
  · exact absurd h16 (by show ¬ (0 = 16); omega)
  rename_i h3
  rw [if_neg h3]
  split at h16
  · exact absurd h16 (by show ¬ (1 = 16); omega)
  rename_i h4
  rw [if_neg h4]
  split at h16
  · exact absurd h16 (by show ¬ (12 = 16); omega)
  rename_i h5
  rw [if_neg h5]
  split at h16
  · exact absurd h16 (by show ¬ (0 = 16); omega)
  rename_i h6
  rw [if_neg h6]
  split at h16
  · exact absurd h16 (by show ¬ (2 = 16); omega)
  · exact absurd h16 (by show ¬ (s.kd = 16); omega)
theorem fin_of {s : St} (k : Nat) (h : s.kd = k) (hk : k ≠ 16) : s.fin := fun e => absurd (h.symm.trans e) hk
theorem behind_fin (s : St) (c : UInt8) : (stBehind s c).2.fin := by
  unfold stBehind
  split
  · exact fin_of 0 rfl (by decide)
  split
  · exact fin_of 17 rfl (by decide)
  split
  · exact fin_of 10 rfl (by decide)
  split
  · exact fin_of 11 rfl (by decide)
  split
  · exact fin_of 0 rfl (by decide)
  · exact fin_of 17 rfl (by decide)
theorem parameter_fin (s : St) (c : UInt8) : (stParameter s c).2.fin := by
  unfold stParameter
  simp only
  split
  · exact fin_of 7 rfl (by decide)
  split
  · exact fin_of 8 rfl (by decide)
  split
  · exact fin_of 9 rfl (by decide)
  · exact fin_of 17 rfl (by decide)
theorem name_fin {s : St} (hk : s.kd = 7 ∨ s.kd = 8) (c : UInt8) : (stName s c).2.fin := by
  unfold stName
  split
  · exact fin_of s.kd rfl (by omega)
  · exact behind_fin (s.turn 9) c
theorem next_fin {s : St} (h : s.wf) (hf : s.fin) (c : UInt8) : (stNext s c).2.fin := by
  unfold stNext
  split
  · exact text_fin h (by assumption) c
  · unfold stEscaped
    split
    · exact fin_of 17 rfl (by decide)
    split
    · exact fin_of 0 rfl (by decide)
    · exact fin_of 0 rfl (by decide)
  · unfold stDollar
    split
    · exact fin_of 5 rfl (by decide)
    split
    · exact fin_of 3 rfl (by decide)
    split
    · exact fin_of 4 rfl (by decide)
    split
    · exact fin_of 0 rfl (by decide)
    · exact text_fin (s := (s.lit [36]).turn 0) (lit_wf h [36]) rfl c
  · unfold stOpened
    split
    · exact fin_of 13 rfl (by decide)
    · exact fin_of 15 rfl (by decide)
  · unfold stBare
    split
    · rename_i hk _
      exact fin_of s.kd rfl (by omega)
    · exact text_fin (s := (s.add _).turn 0) (add_wf h _) rfl c
  · unfold stHead
    split
    · exact fin_of 6 rfl (by decide)
    · exact parameter_fin {s with ln := false} c
  · unfold stHash
    split
    · exact fin_of 0 rfl (by decide)
    · exact parameter_fin s c
  · exact name_fin (.inl (by assumption)) c
  · exact name_fin (.inr (by assumption)) c
  · exact behind_fin s c
  · unfold stColon
    split
    · exact fin_of 0 rfl (by decide)
    · exact fin_of 17 rfl (by decide)
  · unfold stDouble
    split
    · exact fin_of 0 rfl (by decide)
    · exact text_fin (push_wf h (.inr rfl) _ _) rfl c
  · unfold stSingle
    split
    · exact fin_of 17 rfl (by decide)
    split
    · exact fin_of 0 rfl (by decide)
    · rename_i hk _ _
      exact fin_of s.kd rfl (by omega)
  · unfold stArith
    split
    · exact fin_of 17 rfl (by decide)
    split
    · exact fin_of 14 rfl (by decide)
    · rename_i hk _ _
      exact fin_of s.kd rfl (by omega)
  · unfold stArithEnd
    split
    · exact fin_of 0 rfl (by decide)
    · exact fin_of 17 rfl (by decide)
  · exact hf
  · exact hf
theorem feed_fin {s : St} (h : s.wf) (hf : s.fin) (c : UInt8) : (stFeed s c).2.fin := by
  unfold stFeed
  split
  · exact next_fin h hf c
  · exact next_fin h hf c
theorem init_fin : St.init.fin := fun _ => rfl
theorem init_cms : St.init.cms = [] := by simp [cms_eq, St.init, cmdsOf]
/-- Over: its parts are all that there is. -/
theorem fin_cms {s : St} (hf : s.fin) (hk : s.kd = 16) : cmdsOf s.bot.ps = s.cms := by
  rw [cms_eq, hf hk]
  unfold St.bot
  rw [hf hk]
  rfl
end Go.Proofs.Ytbmapjgajecgfaa

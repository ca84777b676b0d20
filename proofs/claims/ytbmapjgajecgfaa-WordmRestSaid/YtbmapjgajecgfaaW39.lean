/-
  What is proved: a machine that was fed few bytes has short lists. Conditions: those of each theorem.
-/
import Derived.Test.YtbmapjgajecgfaaW38
set_option linter.unusedVariables false
set_option linter.unusedSimpArgs false
namespace Go.Proofs.Ytbmapjgajecgfaa
open Go.RowKit
theorem St.good.mono {n m : Nat} {s : St} (h : s.good n) (hm : n ≤ m) : s.good m := ⟨h.lim.mono hm, h.wf, h.cok, h.kd⟩
theorem good_turn {n : Nat} {s : St} (h : s.good n) (k : Nat) (hk : k ≤ 17) : (s.turn k).good n := ⟨h.lim, h.wf, h.cok, hk⟩
theorem good_lit {n : Nat} {s : St} (h : s.good n) (bs : List UInt8) (hb : bs.length ≤ 2) : (s.lit bs).good (n + 2) := by
  refine ⟨?_, lit_wf h.wf bs, h.cok, h.kd⟩
  obtain ⟨h1, h2, h3, h4, h5, h6, h7⟩ := h.lim
  refine ⟨by show s.lo.length ≤ _; omega, by simp [St.lit]; omega, by show s.pl.length ≤ _; omega, by show s.bu.length ≤ _; omega, fun l hl => ?_, h6, by show s.dp ≤ _; omega⟩
  have hx : l ∈ s.lo ∨ l = {s.tp with li := s.tp.li ++ bs} := by simpa [St.all, St.lit] using hl
  rcases hx with hx | rfl
  · have := h5 l (by simp [St.all, hx]); omega
  · have := h5 s.tp (by simp [St.all])
    exact ⟨by simp; omega, by show s.tp.ps.length ≤ _; omega⟩
theorem good_add {n : Nat} {s : St} (h : s.good n) (p : Prt) : (s.add p).good (n + 2) := ⟨add_lim h.lim p, add_wf h.wf p, h.cok, h.kd⟩
theorem good_push {n : Nat} {s : St} (h : s.good n) {wh : Int} (hw : wh = 1 ∨ wh = 2) (nm op : ByteArray) : (s.push wh nm op).good (n + 1) := ⟨push_lim h.lim _ _ _, push_wf h.wf hw _ _, h.cok, by show 0 ≤ 17; omega⟩
/-- Some lists are other ones. -/
theorem good_set {n : Nat} {s s' : St} (h : s.good n) (h1 : s'.lo = s.lo) (h2 : s'.tp = s.tp) (h3 : s'.tk.length ≤ n + 1) (h4 : s'.pl = s.pl) (h5 : s'.bu.length ≤ n + 1) (h6 : 0 ≤ s'.dp ∧ s'.dp ≤ n + 1) (h7 : 0 ≤ s'.cu ∧ s'.cu ≤ 255) (h8 : s'.kd ≤ 17) : s'.good (n + 1) := by
  obtain ⟨g1, g2, g3, g4, g5, g6, g7⟩ := h.lim
  have ha : s'.all = s.all := by unfold St.all; rw [h1, h2]
  refine ⟨⟨by rw [h1]; omega, h3, by rw [h4]; omega, h5, fun l hl => ?_, h6.1, by have := h6.2; omega⟩, ?_, h7, h8⟩
  · rw [ha] at hl
    have := g5 l hl
    omega
  · unfold St.wf
    rw [ha]
    exact h.wf
theorem good_flush {n : Nat} {s : St} (h : s.good n) (k : Nat) (hk : k ≤ 17) : ({s with tp := s.tp.flush, kd := k} : St).good (n + 2) := by
  refine ⟨?_, wf_tp h.wf rfl (flush_wh _), h.cok, hk⟩
  obtain ⟨h1, h2, h3, h4, h5, h6, h7⟩ := h.lim
  have hf : s.tp.flush.li.length ≤ n ∧ s.tp.flush.ps.length ≤ n + 1 := by
    have := h5 s.tp (by simp [St.all])
    unfold Lvl.flush
    split
    · omega
    · simp; omega
  refine ⟨by show s.lo.length ≤ _; omega, by show s.tk.length ≤ _; omega, by show s.pl.length ≤ _; omega, by show s.bu.length ≤ _; omega, fun l hl => ?_, h6, by show s.dp ≤ _; omega⟩
  have hx : l ∈ s.lo ∨ l = s.tp.flush := by simpa [St.all] using hl
  rcases hx with hx | rfl
  · have := h5 l (by simp [St.all, hx]); omega
  · omega
theorem wf_ne {s : St} (h : s.wf) (hw : s.tp.wh = 1 ∨ s.tp.wh = 2) : s.lo ≠ [] := by
  obtain ⟨l, r, h1, h2, _⟩ := h
  intro e
  unfold St.all at h1
  rw [e] at h1
  simp at h1
  rw [h1.1, h2] at hw
  omega
theorem good_pop {n : Nat} {s : St} (h : s.good n) (hne : s.lo ≠ []) : s.pop.good (n + 2) := by
  have hd : s.lo.dropLast ++ [s.lo.getLastD s.tp] = s.lo := by
    rw [List.getLastD_eq_getLast?, List.getLast?_eq_some_getLast hne]
    exact List.dropLast_concat_getLast hne
  have hg : ({s with lo := s.lo.dropLast, tp := s.lo.getLastD s.tp} : St).good n := by
    refine ⟨?_, ?_, h.cok, h.kd⟩
    · obtain ⟨h1, h2, h3, h4, h5, h6, h7⟩ := h.lim
      refine ⟨by simp; omega, h2, h3, h4, fun l hl => ?_, h6, h7⟩
      have hl' : l ∈ s.lo := by
        have : l ∈ s.lo.dropLast ++ [s.lo.getLastD s.tp] := hl
        rwa [hd] at this
      exact h5 l (by simp [St.all, hl'])
    · obtain ⟨l, r, h1, h2, h3⟩ := h.wf
      have e : ({s with lo := s.lo.dropLast, tp := s.lo.getLastD s.tp} : St).all = s.lo := hd
      obtain ⟨x, t, hs⟩ := List.exists_cons_of_ne_nil hne
      unfold St.all at h1
      rw [hs] at h1
      simp at h1
      exact ⟨l, t, e.trans (hs.trans (by rw [h1.1])), h2, fun y hy => h3 y (by rw [← h1.2]; simp [hy])⟩
  exact good_turn (good_add hg _) 0 (by omega)
theorem text_good {n : Nat} {s : St} (h : s.good n) (c : UInt8) : (stText s c).2.good (n + 2) := by
  unfold stText
  split
  · exact (good_turn h 17 (by omega)).mono (by omega)
  split
  · exact good_flush h 16 (by omega)
  split
  · rename_i hx
    exact good_pop h (wf_ne h.wf (by rcases hx with h | h <;> simp [h.1]))
  obtain ⟨g1, g2, g3, g4, g5, g6, g7⟩ := h.lim
  have hq : ({s with qu := true} : St).good n := ⟨h.lim, h.wf, h.cok, h.kd⟩
  split
  · exact (good_turn hq 1 (by omega)).mono (by omega)
  split
  · exact (good_set h (s' := {s with qu := true, bu := [], kd := 12}) rfl rfl (by show s.tk.length ≤ _; omega) rfl (by simp) ⟨g6, by show s.dp ≤ _; omega⟩ h.cok (by show 12 ≤ 17; omega)).mono (by omega)
  split
  · exact (good_push hq (.inl rfl) _ _).mono (by omega)
  split
  · exact (good_turn h 2 (by omega)).mono (by omega)
  · exact good_lit h [c] (by simp)
theorem behind_good {n : Nat} {s : St} (h : s.good n) (c : UInt8) : (stBehind s c).2.good (n + 2) := by
  obtain ⟨g1, g2, g3, g4, g5, g6, g7⟩ := h.lim
  unfold stBehind
  split
  · exact good_turn (good_add h _) 0 (by omega)
  split
  · exact (good_turn h 17 (by omega)).mono (by omega)
  split
  · exact (good_turn h 10 (by omega)).mono (by omega)
  split
  · have := c.toNat_lt
    exact (good_set h (s' := {s with cu := c.toNat, kd := 11}) rfl rfl (by show s.tk.length ≤ _; omega) rfl (by show s.bu.length ≤ _; omega) ⟨g6, by show s.dp ≤ _; omega⟩ (by show 0 ≤ (c.toNat : Int) ∧ (c.toNat : Int) ≤ 255; omega) (by show 11 ≤ 17; omega)).mono (by omega)
  split
  · exact (good_push h (.inr rfl) _ _).mono (by omega)
  · exact (good_turn h 17 (by omega)).mono (by omega)
theorem parameter_good {n : Nat} {s : St} (h : s.good n) (c : UInt8) : (stParameter s c).2.good (n + 1) := by
  obtain ⟨g1, g2, g3, g4, g5, g6, g7⟩ := h.lim
  have hk : ∀ k, k ≤ 17 → (({s with bu := [c]} : St).turn k).good (n + 1) := fun k hk => good_set h (s' := ({s with bu := [c]} : St).turn k) rfl rfl (by show s.tk.length ≤ _; omega) rfl (by show 1 ≤ _; omega) ⟨g6, by show s.dp ≤ _; omega⟩ h.cok hk
  unfold stParameter
  simp only
  split
  · exact hk 7 (by omega)
  split
  · exact hk 8 (by omega)
  split
  · exact hk 9 (by omega)
  · exact hk 17 (by omega)
theorem good_ln {n : Nat} {s : St} (h : s.good n) (v : Bool) : ({s with ln := v} : St).good n := ⟨h.lim, h.wf, h.cok, h.kd⟩
theorem good_ex {n : Nat} {s : St} (h : s.good n) : ({s with ex := true} : St).good n := ⟨h.lim, h.wf, h.cok, h.kd⟩
theorem next_good {n : Nat} {s : St} (h : s.good n) (c : UInt8) : (stNext s c).2.good (n + 10) := by
  obtain ⟨g1, g2, g3, g4, g5, g6, g7⟩ := h.lim
  have hbu : ∀ k, k ≤ 17 → (({s with bu := s.bu ++ [c]} : St).turn k).good (n + 1) := fun k hk => good_set h (s' := ({s with bu := s.bu ++ [c]} : St).turn k) rfl rfl (by show s.tk.length ≤ _; omega) rfl (by show (s.bu ++ [c]).length ≤ _; simp; omega) ⟨g6, by show s.dp ≤ _; omega⟩ h.cok hk
  have hname : (stName s c).2.good (n + 10) := by
    unfold stName
    split
    · exact (hbu s.kd h.kd).mono (by omega)
    · exact (behind_good (good_turn h 9 (by omega)) c).mono (by omega)
  unfold stNext
  split
  · exact (text_good h c).mono (by omega)
  · unfold stEscaped
    split
    · exact (good_turn h 17 (by omega)).mono (by omega)
    split
    · exact (good_turn (good_lit h [92, c] (by simp)) 0 (by omega)).mono (by omega)
    · have := good_set h (s' := {s with tk := s.tk ++ [c]}) rfl rfl (by simp; omega) rfl (by show s.bu.length ≤ _; omega) ⟨g6, by show s.dp ≤ _; omega⟩ h.cok h.kd
      exact (good_turn (good_add this _) 0 (by omega)).mono (by omega)
  · unfold stDollar
    split
    · exact (good_turn (good_ex h) 5 (by omega)).mono (by omega)
    split
    · exact (good_turn (good_ex h) 3 (by omega)).mono (by omega)
    split
    · exact (good_set h (s' := {s with ex := true, bu := [c], kd := 4}) rfl rfl (by show s.tk.length ≤ _; omega) rfl (by simp) ⟨g6, by show s.dp ≤ _; omega⟩ h.cok (by show 4 ≤ 17; omega)).mono (by omega)
    split
    · exact (good_turn (good_add (good_ex h) _) 0 (by omega)).mono (by omega)
    · exact (text_good (good_turn (good_lit h [36] (by simp)) 0 (by omega)) c).mono (by omega)
  · unfold stOpened
    split
    · exact (good_set h (s' := {s with bu := [], dp := 0, kd := 13}) rfl rfl (by show s.tk.length ≤ _; omega) rfl (by simp) ⟨by simp, by simp; omega⟩ h.cok (by show 13 ≤ 17; omega)).mono (by omega)
    · exact (good_turn h 15 (by omega)).mono (by omega)
  · unfold stBare
    split
    · exact (hbu s.kd h.kd).mono (by omega)
    · exact (text_good (good_turn (good_add h _) 0 (by omega)) c).mono (by omega)
  · unfold stHead
    split
    · exact (good_turn (good_ln h true) 6 (by omega)).mono (by omega)
    · exact (parameter_good (good_ln h false) c).mono (by omega)
  · unfold stHash
    split
    · exact (good_turn (good_add h _) 0 (by omega)).mono (by omega)
    · exact (parameter_good h c).mono (by omega)
  · exact hname
  · exact hname
  · exact (behind_good h c).mono (by omega)
  · unfold stColon
    split
    · exact (good_push h (.inr rfl) _ _).mono (by omega)
    · exact (good_turn h 17 (by omega)).mono (by omega)
  · unfold stDouble
    split
    · exact (good_push h (.inr rfl) _ _).mono (by omega)
    · exact (text_good (good_push h (.inr rfl) _ _) c).mono (by omega)
  · unfold stSingle
    split
    · exact (good_turn h 17 (by omega)).mono (by omega)
    split
    · exact (good_turn (good_add h _) 0 (by omega)).mono (by omega)
    · exact (good_set h (s' := {s with bu := s.bu ++ [c], tk := s.tk ++ [c]}) rfl rfl (by simp; omega) rfl (by simp; omega) ⟨g6, by show s.dp ≤ _; omega⟩ h.cok h.kd).mono (by omega)
  · unfold stArith
    split
    · exact (good_turn h 17 (by omega)).mono (by omega)
    split
    · exact (good_turn h 14 (by omega)).mono (by omega)
    · rename_i hx
      refine (good_set h (s' := {s with bu := s.bu ++ [c], dp := if c = 41 then s.dp - 1 else if c = 40 then s.dp + 1 else s.dp}) rfl rfl (by show s.tk.length ≤ _; omega) rfl (by simp; omega) ?_ h.cok h.kd).mono (by omega)
      show 0 ≤ (if c = 41 then s.dp - 1 else if c = 40 then s.dp + 1 else s.dp) ∧ (if c = 41 then s.dp - 1 else if c = 40 then s.dp + 1 else s.dp) ≤ _
      by_cases h41 : c = 41
      · have : s.dp ≠ 0 := fun e => hx ⟨h41, e⟩
        rw [if_pos h41]
        omega
      · rw [if_neg h41]
        split <;> omega
  · unfold stArithEnd
    split
    · exact (good_turn (good_add h _) 0 (by omega)).mono (by omega)
    · exact (good_turn h 17 (by omega)).mono (by omega)
  · exact h.mono (by omega)
  · exact h.mono (by omega)
theorem good_pl {n : Nat} {s : St} (h : s.good n) (c : UInt8) : ({s with pl := s.pl ++ [c]} : St).good (n + 1) := by
  obtain ⟨g1, g2, g3, g4, g5, g6, g7⟩ := h.lim
  exact ⟨⟨by show s.lo.length ≤ _; omega, by show s.tk.length ≤ _; omega, by simp; omega, by show s.bu.length ≤ _; omega, fun l hl => by have := g5 l hl; omega, g6, by show s.dp ≤ _; omega⟩, h.wf, h.cok, h.kd⟩
theorem feed_good {n : Nat} {s : St} (h : s.good n) (c : UInt8) : (stFeed s c).2.good (n + 11) := by
  unfold stFeed
  split
  · exact (good_pl (next_good h c) c).mono (by omega)
  · exact (next_good h c).mono (by omega)
theorem init_good : St.init.good 0 := ⟨⟨by simp [St.init], by simp [St.init], by simp [St.init], by simp [St.init], fun l hl => by
  have : l = ⟨0, [], [], ⟨#[]⟩, ⟨#[]⟩⟩ := by simpa [St.all, St.init] using hl
  rw [this]; simp, by simp [St.init], by simp [St.init]⟩, ⟨_, [], rfl, rfl, fun x hx => by cases hx⟩, ⟨by simp [St.init], by simp [St.init]⟩, by simp [St.init]⟩
/-- Feed, for a machine that is good. -/
theorem feed_ok {B : Nat} {w : World} {b : Nat} {C : Nat → Prop} {S : Sn} (c : UInt8) (h : Fam B w C (S.dat b)) (hg : S.abs.good 70000) :
    Calls Try.prog 12 #[.pointer (some ⟨b, 0, none⟩), .int .u8 (c.toNat : Int)] w (Ret B w b C S (stFeed S.abs c)) :=
  feed_any h hg (by have := (next_good hg c).lim.2.2.1; omega)
end Go.Proofs.Ytbmapjgajecgfaa

/-
  What is proved: the calls of the document's leaf functions, in terms of the right-predicates; a machine's parts hold short texts; conchref24.one answers true for right parts of kinds 2, 3, 4, 7. Conditions: those of each theorem.
-/
import Derived.Test.YtbmapjgajecgfaaJ9
import Derived.Test.YtbmapjgajecgfaaJ10
set_option linter.unusedVariables false
set_option linter.unusedSimpArgs false
namespace Go.Proofs.Ytbmapjgajecgfaa
open Go.RowKit Go.Proofs.YtbmapjgajecgfaaW.PrintWords Go.Proofs.YtbmapjgajecgfaaW.PrintLast Go.Proofs.YtbmapjgajecgfaaW.PrintMore
open PWordmRight
theorem lit_l0 (tx : ByteArray) (pl : Int) (hz : tx.size ≤ 100000) : ∀ (n i k : Nat), i + n = tx.size → 20 + 5 * n ≤ k → litB pl (tx.data.toList.drop i) = true → conchref24_literal.l0 k tx pl (i : Int) = some (tx.toList != ([] : List UInt8))
  | 0, i, k, hi, hk, h => by
    obtain ⟨k, rfl⟩ : ∃ j, k = j + 1 := ⟨k - 1, by omega⟩
    rw [conchref24_literal.l0, if_neg (by omega)]
  | n + 1, i, k, hi, hk, h => by
    obtain ⟨k, rfl⟩ : ∃ j, k = j + 1 + 1 + 1 + 1 + 1 := ⟨k - 5, by omega⟩
    obtain ⟨c, r, hd⟩ := drop_size hi
    obtain ⟨hb, hlt, hr⟩ := bt_get hd
    rw [hd] at h
    simp only [litB, Bool.and_eq_true] at h
    obtain ⟨⟨hby, hnx⟩, hre⟩ := h
    have IH : conchref24_literal.l0 k tx pl (wrap64 ((i : Int) + 1)) = some (tx.toList != ([] : List UInt8)) := by
      rw [wr_succ (by omega)]
      exact lit_l0 tx pl hz n (i + 1) k (by omega) (by omega) (by rw [hr]; exact hre)
    have IH1 : conchref24_literal.l0 (k + 1) tx pl (wrap64 ((i : Int) + 1)) = some (tx.toList != ([] : List UInt8)) := by
      rw [wr_succ (by omega)]
      exact lit_l0 tx pl hz n (i + 1) (k + 1) (by omega) (by omega) (by rw [hr]; exact hre)
    unfold byteOK at hby
    simp only [Bool.and_eq_true, Bool.or_eq_true, decide_eq_true_eq] at hby
    unfold nextOK at hnx
    simp only [Bool.and_eq_true, Bool.or_eq_true, decide_eq_true_eq] at hnx
    obtain ⟨⟨⟨b0, b1⟩, b2⟩, b3⟩ := hby
    have e36 : (c.toNat : Int) = 36 ↔ c = 36 := tn c 36
    have e125 : (c.toNat : Int) = 125 ↔ c = 125 := tn c 125
    have e34 : (c.toNat : Int) = 34 ↔ c = 34 := tn c 34
    have e96 : (c.toNat : Int) = 96 ↔ c = 96 := tn c 96
    have e92 : (c.toNat : Int) = 92 ↔ c = 92 := tn c 92
    have hpos : (0 : Int) ≤ (i : Int) := by omega
    have hlt' : (i : Int) < (tx.size : Int) := by omega
    have J4 : pl = 1 → conchref24_literal.j4 (k + 1) tx pl (i : Int) false = some (tx.toList != ([] : List UInt8)) := by
      intro hp
      rw [conchref24_literal.j4, if_neg (by decide), if_pos hpos, if_pos hlt', hb]
      by_cases c92 : c = 92
      · rw [if_pos (e92.2 c92)]
        have hx := hnx.2
        rcases hx with (hx | hx) | hx
        · exact absurd hp hx
        · exact absurd c92 hx
        · rcases r with _ | ⟨d, r'⟩
          · cases hx
          · obtain ⟨hb2, hlt2, _⟩ := bt_get hr
            simp only [Bool.and_eq_true, decide_eq_true_eq, Bool.not_eq_true'] at hx
            have e10 : (d.toNat : Int) = 10 ↔ d = 10 := tn d 10
            rw [wr_succ (by omega)] at IH ⊢
            rw [if_neg (by omega), if_pos (by omega), if_pos (by omega), hb2, special_f, Option.bind_some, hx.1, if_neg (by decide), if_neg (fun e => hx.2 (e10.1 e))]
            exact IH
      · rw [if_neg (fun e => c92 (e92.1 e))]
        exact IH
    have J3 : conchref24_literal.j3 (k + 1 + 1) tx pl (i : Int) false = some (tx.toList != ([] : List UInt8)) := by
      rw [conchref24_literal.j3, if_neg (by decide)]
      by_cases hp : pl = 1
      · have hq : c ≠ 34 ∧ c ≠ 96 := by
          rcases b3 with h | h
          · exact absurd hp h
          · exact h
        rw [if_pos hp, if_pos hpos, if_pos hlt', hb, if_neg (fun e => hq.1 (e34.1 e)), beq_eq_false_iff_ne.2 (fun e => hq.2 (e96.1 e))]
        exact J4 hp
      · rw [if_neg hp]
        exact IH1
    have J2 : conchref24_literal.j2 (k + 1 + 1 + 1) tx pl (i : Int) (cls c.toNat) false = some (tx.toList != ([] : List UInt8)) := by
      rw [conchref24_literal.j2, if_neg (by decide)]
      by_cases hp : pl = 2
      · have hq : c ≠ 125 ∧ cls c.toNat ≠ 6 := by
          rcases b2 with h | h
          · exact absurd hp h
          · exact h
        rw [if_pos hp, if_pos hpos, if_pos hlt', hb, if_neg (fun e => hq.1 (e125.1 e)), beq_eq_false_iff_ne.2 hq.2]
        exact J3
      · rw [if_neg hp]
        exact J3
    have J1 : conchref24_literal.j1 (k + 1 + 1 + 1 + 1) tx pl (i : Int) (cls c.toNat) false = some (tx.toList != ([] : List UInt8)) := by
      rw [conchref24_literal.j1, if_neg (by decide)]
      by_cases hp : pl = 0
      · rw [if_pos hp]
        have hq : cls c.toNat = 3 ∨ cls c.toNat = 4 ∨ cls c.toNat = 8 ∨ cls c.toNat = 7 := by
          rcases b1 with h | h
          · exact absurd hp h
          · exact h
        by_cases q3 : cls c.toNat = 3
        · rw [if_pos q3]; exact J2
        rw [if_neg q3]
        by_cases q4 : cls c.toNat = 4
        · rw [if_pos q4]; exact J2
        rw [if_neg q4]
        by_cases q8 : cls c.toNat = 8
        · rw [if_pos q8]; exact J2
        rw [if_neg q8]
        have q7 : cls c.toNat = 7 := by
          rcases hq with h | h | h | h
          · exact absurd h q3
          · exact absurd h q4
          · exact absurd h q8
          · exact h
        have : (cls c.toNat != 7) = false := by rw [q7]; rfl
        rw [this]
        exact J2
      · rw [if_neg hp]
        exact J2
    rw [conchref24_literal.l0, if_pos hlt', if_pos hpos, hb, class_f c (by omega), Option.bind_some, if_neg b0]
    by_cases c36 : c = 36
    · rw [if_pos (e36.2 c36)]
      rcases r with _ | ⟨d, r'⟩
      · have hsz : i + 1 = tx.size := by
          have := List.drop_eq_nil_iff.1 hr
          have e : tx.data.toList.length = tx.size := by simp
          omega
        rw [wr_succ (by omega), if_neg (by omega)]
        exact J1
      · obtain ⟨hb2, hlt2, _⟩ := bt_get hr
        have hdo : dolOK d = true := by
          rcases hnx.1 with h | h
          · exact absurd c36 h
          · exact h
        rw [wr_succ (by omega), if_pos (by omega), if_pos (by omega), hb2, dollar_f d (by omega), Option.bind_some, hdo]
        exact J1
    · rw [if_neg (fun e => c36 (e36.1 e))]
      exact J1
def nobK (w w' : World) : Prop := Kept nob w w'
theorem kept_below {w w' : World} (h : Below w.heap.size w w') : Kept nob w w' := Kept.ofBelow h _
theorem bne_nil {tx : ByteArray} (h : tx.data.toList ≠ []) : (tx.toList != ([] : List UInt8)) = true := by
  rw [bne_iff_ne, ByteArray.toList_eq]; exact h
theorem lit_leaf (tx : ByteArray) (pl : Int) (hz : tx.size ≤ 100000) (hne : tx.data.toList ≠ []) (h : litB pl tx.data.toList = true) (w : World) : Calls Try.prog 75 #[.string tx, .int .i64 pl] w fun e w' => e = .returned (.bool true) ∧ Kept nob w w' := by
  have h1 := lit_l0 tx pl hz tx.size 0 (20 + 5 * tx.size) (by omega) (by omega) h
  rw [bne_nil hne] at h1
  exact (conchref24_literal.calls _ tx pl true w h1).mono (fun e w' h => ⟨h.1, kept_below h.2.below⟩)
theorem spec_leaf (c : UInt8) (w : World) : Calls Try.prog 76 #[.int .u8 (c.toNat : Int)] w fun e w' => e = .returned (.bool (specB c)) ∧ Kept nob w w' :=
  (conchref24_special.calls _ _ w (special_f c)).mono (fun e w' h => ⟨h.1, kept_below h.2.below⟩)
theorem clear_leaf (tx : ByteArray) (hz : tx.size ≤ 100000) (h : clearB tx.data.toList = true) (w : World) : Calls Try.prog 77 #[.string tx, .int .u8 39] w fun e w' => e = .returned (.bool true) ∧ Kept nob w w' :=
  (conchref24_clear.calls _ tx 39 true w (clear_l0 tx hz tx.size 0 (20 + tx.size) (by omega) (by omega) h)).mono (fun e w' h => ⟨h.1, kept_below h.2.below⟩)
theorem arith_leaf (tx : ByteArray) (hz : tx.size ≤ 100000) (h : arithB tx.data.toList 0 = true) (w : World) : Calls Try.prog 79 #[.string tx] w fun e w' => e = .returned (.bool true) ∧ Kept nob w w' :=
  (conchref24_arith.calls _ tx true w (arith_l0 tx hz tx.size 0 (20 + 2 * tx.size) 0 (by omega) (by omega) (by omega) (by omega) h)).mono (fun e w' h => ⟨h.1, kept_below h.2.below⟩)
theorem name_leaf (tx : ByteArray) (hz : tx.size ≤ 100000) : ∃ b, (nameB tx.data.toList = true → b = true) ∧ ∀ (w : World), Calls Try.prog 89 #[.string tx] w fun e w' => e = .returned (.bool b) ∧ Kept nob w w' := by
  obtain ⟨b, h1, h2⟩ := name_l0 tx hz tx.size 0 (20 + tx.size) (by omega) (by omega)
  refine ⟨b, fun h => ?_, fun w => (conchref01_Name.calls _ tx b w h1).mono (fun e w' h => ⟨h.1, kept_below h.2.below⟩)⟩
  have h3 : ∃ c r, tx.data.toList = c :: r := by
    rcases e : tx.data.toList with _ | ⟨c, r⟩
    · rw [e] at h; cases h
    · exact ⟨c, r, rfl⟩
  obtain ⟨c, r, e⟩ := h3
  rw [e] at h
  simp only [nameB, Bool.and_eq_true, decide_eq_true_eq] at h
  have hs : 0 < tx.size := by
    have := congrArg List.length e
    simp at this
    omega
  rw [h2 (fun _ c' r' e' => by
    rw [List.drop_zero, e] at e'
    obtain ⟨rfl, rfl⟩ : c = c' ∧ r = r' := by simpa using e'
    exact h.1) (by
    rw [List.drop_zero, e, List.all_cons, Bool.and_eq_true]
    exact ⟨by simp [h.1], h.2⟩)]
  simp; omega
theorem digits_leaf (tx : ByteArray) (hz : tx.size ≤ 100000) : ∃ b, (digB tx.data.toList = true → b = true) ∧ ∀ (w : World), Calls Try.prog 90 #[.string tx] w fun e w' => e = .returned (.bool b) ∧ Kept nob w w' := by
  obtain ⟨b, h1, h2⟩ := digits_l0 tx hz tx.size 0 (20 + tx.size) (by omega) (by omega)
  refine ⟨b, fun h => ?_, fun w => (conchref01_Digits.calls _ tx b w h1).mono (fun e w' h => ⟨h.1, kept_below h.2.below⟩)⟩
  simp only [digB, Bool.and_eq_true, decide_eq_true_eq] at h
  have hs : 0 < tx.size := by
    have := List.length_pos_iff.2 h.1
    simp at this
    omega
  rw [h2 (by rw [List.drop_zero]; exact h.2)]
  simp; omega
theorem Spec_leaf (c : UInt8) (w : World) : Calls Try.prog 91 #[.int .u8 (c.toNat : Int)] w fun e w' => e = .returned (.bool (spc c.toNat)) ∧ Kept nob w w' :=
  (conchref01_Special.calls _ _ w (Special_f c)).mono (fun e w' h => ⟨h.1, kept_below h.2.below⟩)
theorem op_f {op : ByteArray} (h : op ∈ opsL) : conchref24_op.f 20 op = some true := by
  have : ∀ o ∈ opsL, conchref24_op.f 20 o = some true := by decide +kernel
  exact this op h
theorem op_leaf {op : ByteArray} (h : op ∈ opsL) (w : World) : Calls Try.prog 92 #[.string op] w fun e w' => e = .returned (.bool true) ∧ Kept nob w w' :=
  (conchref24_op.calls _ op true w (op_f h)).mono (fun e w' h => ⟨h.1, kept_below h.2⟩)
end Go.Proofs.Ytbmapjgajecgfaa
set_option linter.unusedVariables false
set_option linter.unusedSimpArgs false
namespace Go.Proofs.Ytbmapjgajecgfaa
open Go.RowKit
mutual
def Prt.tz : Prt → Prop
  | .mk _ tx _ kids _ => tx.size ≤ 100000 ∧ tzAll kids
def tzAll : List Prt → Prop
  | [] => True
  | p :: r => p.tz ∧ tzAll r
end
theorem tz_at {K : List Prt} (h : tzAll K) {k : Nat} {p : Prt} (hk : K[k]? = some p) : p.tz := by
  induction K generalizing k with
  | nil => simp at hk
  | cons q r ih =>
    simp only [tzAll] at h
    rcases k with _ | k
    · obtain rfl : q = p := by simpa using hk
      exact h.1
    · exact ih h.2 (by simpa using hk)
theorem tz_app {K L : List Prt} (h : tzAll K) (h' : tzAll L) : tzAll (K ++ L) := by
  induction K with
  | nil => exact h'
  | cons q r ih =>
    simp only [tzAll] at h
    simp only [List.cons_append, tzAll]
    exact ⟨h.1, ih h.2⟩
def St.tz (s : St) : Prop := ∀ l ∈ s.all, tzAll l.ps ∧ l.nm.size ≤ 100000
theorem tz_one {p : Prt} (h : p.tz) : tzAll [p] := by simp only [tzAll]; exact ⟨h, trivial⟩
theorem tz_bare (k : Int) (tx op : ByteArray) (cm : Nat) (ht : tx.size ≤ 100000) : (Prt.mk k tx op [] cm).tz := by simp only [Prt.tz, tzAll]; exact ⟨ht, trivial⟩
theorem flush_tz {l : Lvl} (h : tzAll l.ps) (hl : l.li.length ≤ 100000) : tzAll l.flush.ps := by
  unfold Lvl.flush
  split
  · exact h
  · exact tz_app h (tz_one (tz_bare _ _ _ _ (by simpa [ByteArray.size] using hl)))
theorem flush_nm1 (l : Lvl) : l.flush.nm = l.nm := by
  unfold Lvl.flush
  split <;> rfl
theorem tz_tp {s t : St} (h : s.tz) (h1 : t.lo = s.lo) (h2 : tzAll t.tp.ps) (h3 : t.tp.nm = s.tp.nm) : t.tz := by
  intro l hl
  have : l ∈ t.lo ∨ l = t.tp := by simpa [St.all] using hl
  rcases this with h4 | rfl
  · exact h l (by rw [h1] at h4; simp [St.all, h4])
  · exact ⟨h2, by rw [h3]; exact (h s.tp (by simp [St.all])).2⟩
theorem tz_same {s t : St} (h : s.tz) (h1 : t.lo = s.lo) (h2 : t.tp.ps = s.tp.ps) (h3 : t.tp.nm = s.tp.nm) : t.tz := tz_tp h h1 (by rw [h2]; exact (h s.tp (by simp [St.all])).1) h3
theorem add_tz {s : St} (h : s.tz) (hl : s.tp.li.length ≤ 100000) {p : Prt} (hp : p.tz) : (s.add p).tz :=
  tz_tp h rfl (tz_app (flush_tz (h s.tp (by simp [St.all])).1 hl) (tz_one hp)) (flush_nm1 _)
theorem push_tz {s : St} (h : s.tz) (wh : Int) (nm op : ByteArray) (hn : nm.size ≤ 100000) : (s.push wh nm op).tz := by
  intro l hl
  have : l ∈ (s.lo ++ [s.tp]) ++ [(⟨wh, [], [], nm, op⟩ : Lvl)] := hl
  rcases List.mem_append.1 this with h3 | h3
  · exact h l h3
  · obtain rfl : l = _ := by simpa using h3
    exact ⟨trivial, hn⟩
theorem part_tz {l : Lvl} (h : tzAll l.ps) (hn : l.nm.size ≤ 100000) : l.part.tz := by
  unfold Lvl.part
  split
  · simp only [Prt.tz]; exact ⟨hn, h⟩
  · simp only [Prt.tz]; exact ⟨by decide, h⟩
theorem pop_tz {s : St} (h : s.tz) (hg : s.good 70000) (hne : s.lo ≠ []) : s.pop.tz := by
  have hd : s.lo.dropLast ++ [s.lo.getLastD s.tp] = s.lo := by
    rw [List.getLastD_eq_getLast?, List.getLast?_eq_some_getLast hne]
    exact List.dropLast_concat_getLast hne
  have hm : ∀ l, l ∈ s.lo.dropLast ++ [s.lo.getLastD s.tp] → l ∈ s.all := fun l hl => by
    rw [hd] at hl
    simp [St.all, hl]
  have h0 : ({s with lo := s.lo.dropLast, tp := s.lo.getLastD s.tp} : St).tz := by
    intro l hl
    exact h l (hm l hl)
  have hl1 := (hg.lim.2.2.2.2.1 s.tp (by simp [St.all])).1
  have hl2 := (hg.lim.2.2.2.2.1 (s.lo.getLastD s.tp) (hm _ (by simp))).1
  exact tz_same (add_tz h0 (by show (s.lo.getLastD s.tp).li.length ≤ _; omega) (part_tz (flush_tz (h s.tp (by simp [St.all])).1 (by omega)) (by rw [flush_nm1]; exact (h s.tp (by simp [St.all])).2))) rfl rfl rfl
theorem text_tz {s : St} (h : s.tz) (hg : s.good 70000) (c : UInt8) : (stText s c).2.tz := by
  unfold stText
  split
  · exact tz_same h rfl rfl rfl
  split
  · exact tz_tp h rfl (flush_tz (h s.tp (by simp [St.all])).1 (by have := (hg.lim.2.2.2.2.1 s.tp (by simp [St.all])).1; omega)) (flush_nm1 _)
  split
  · rename_i hx
    exact pop_tz h hg (wf_ne hg.wf (by rcases hx with h | h <;> simp [h.1]))
  split
  · exact tz_same h rfl rfl rfl
  split
  · exact tz_same h rfl rfl rfl
  split
  · exact push_tz (s := {s with qu := true}) h _ _ _ (by decide)
  split
  · exact tz_same h rfl rfl rfl
  · exact tz_same h rfl rfl rfl
theorem turn_add_tz {s : St} (h : s.tz) (hl : s.tp.li.length ≤ 100000) (k : Int) (tx op : ByteArray) (cm : Nat) (ht : tx.size ≤ 100000) : ((s.add (.mk k tx op [] cm)).turn 0).tz := tz_same (add_tz h hl (tz_bare k tx op cm ht)) rfl rfl rfl
theorem behind_tz {s : St} (h : s.tz) (hL : s.tp.li.length ≤ 100000) (hT : s.tk.length ≤ 90000) (hB : s.bu.length ≤ 90000) (c : UInt8) : (stBehind s c).2.tz := by
  unfold stBehind
  split
  · exact turn_add_tz h hL _ _ _ _ (by first | decide | (simp [bs, ByteArray.size]; done) | (simp [bs, ByteArray.size]; omega) | omega)
  split
  · exact tz_same h rfl rfl rfl
  split
  · exact tz_same h rfl rfl rfl
  split
  · exact tz_same h rfl rfl rfl
  split
  · exact push_tz h _ _ _ (by first | decide | (simp [bs, ByteArray.size]; done) | (simp [bs, ByteArray.size]; omega) | omega)
  · exact tz_same h rfl rfl rfl
theorem parameter_tz {s : St} (h : s.tz) (hL : s.tp.li.length ≤ 100000) (hT : s.tk.length ≤ 90000) (hB : s.bu.length ≤ 90000) (c : UInt8) : (stParameter s c).2.tz := by
  unfold stParameter
  simp only
  split
  · exact tz_same h rfl rfl rfl
  split
  · exact tz_same h rfl rfl rfl
  split
  · exact tz_same h rfl rfl rfl
  · exact tz_same h rfl rfl rfl
theorem name_tz {s : St} (h : s.tz) (hL : s.tp.li.length ≤ 100000) (hT : s.tk.length ≤ 90000) (hB : s.bu.length ≤ 90000) (c : UInt8) : (stName s c).2.tz := by
  unfold stName
  split
  · exact tz_same h rfl rfl rfl
  · exact behind_tz (s := s.turn 9) h hL hT hB c
theorem next_tz {s : St} (h : s.tz) (hg : s.good 60000) (c : UInt8) : (stNext s c).2.tz := by
  have hg' := hg.mono (show 60000 ≤ 70000 by omega)
  have hL : s.tp.li.length ≤ 100000 := by have := (hg.lim.2.2.2.2.1 s.tp (by simp [St.all])).1; omega
  have hT : s.tk.length ≤ 90000 := by have := hg.lim.2.1; omega
  have hB : s.bu.length ≤ 90000 := by have := hg.lim.2.2.2.1; omega
  unfold stNext
  split
  · exact text_tz h hg' c
  · unfold stEscaped
    split
    · exact tz_same h rfl rfl rfl
    split
    · exact tz_same h rfl rfl rfl
    · exact turn_add_tz (s := {s with tk := s.tk ++ [c]}) h hL _ _ _ _ (by first | decide | (simp [bs, ByteArray.size]; done) | (simp [bs, ByteArray.size]; omega) | omega)
  · unfold stDollar
    split
    · exact tz_same h rfl rfl rfl
    split
    · exact tz_same h rfl rfl rfl
    split
    · exact tz_same h rfl rfl rfl
    split
    · exact turn_add_tz (s := {s with ex := true}) h hL _ _ _ _ (by first | decide | (simp [bs, ByteArray.size]; done) | (simp [bs, ByteArray.size]; omega) | omega)
    · exact text_tz (s := (s.lit [36]).turn 0) (tz_same h rfl rfl rfl) (good_turn ((good_lit hg [36] (by simp)).mono (by omega)) 0 (by omega)) c
  · unfold stOpened
    split
    · exact tz_same h rfl rfl rfl
    · exact tz_same h rfl rfl rfl
  · unfold stBare
    split
    · exact tz_same h rfl rfl rfl
    · exact text_tz (s := (s.add _).turn 0) (turn_add_tz h hL _ _ _ _ (by first | decide | (simp [bs, ByteArray.size]; done) | (simp [bs, ByteArray.size]; omega) | omega)) (good_turn ((good_add hg _).mono (by omega)) 0 (by omega)) c
  · unfold stHead
    split
    · exact tz_same h rfl rfl rfl
    · exact parameter_tz (s := {s with ln := false}) h hL hT hB c
  · unfold stHash
    split
    · exact turn_add_tz h hL _ _ _ _ (by first | decide | (simp [bs, ByteArray.size]; done) | (simp [bs, ByteArray.size]; omega) | omega)
    · exact parameter_tz h hL hT hB c
  · exact name_tz h hL hT hB c
  · exact name_tz h hL hT hB c
  · exact behind_tz h hL hT hB c
  · unfold stColon
    split
    · exact push_tz h _ _ _ (by first | decide | (simp [bs, ByteArray.size]; done) | (simp [bs, ByteArray.size]; omega) | omega)
    · exact tz_same h rfl rfl rfl
  · unfold stDouble
    split
    · exact push_tz h _ _ _ (by first | decide | (simp [bs, ByteArray.size]; done) | (simp [bs, ByteArray.size]; omega) | omega)
    · exact text_tz (push_tz h _ _ _ (by first | decide | (simp [bs, ByteArray.size]; done) | (simp [bs, ByteArray.size]; omega) | omega)) ((good_push hg (.inr rfl) _ _).mono (by omega)) c
  · unfold stSingle
    split
    · exact tz_same h rfl rfl rfl
    split
    · exact turn_add_tz h hL _ _ _ _ (by first | decide | (simp [bs, ByteArray.size]; done) | (simp [bs, ByteArray.size]; omega) | omega)
    · exact tz_same h rfl rfl rfl
  · unfold stArith
    split
    · exact tz_same h rfl rfl rfl
    split
    · exact tz_same h rfl rfl rfl
    · exact tz_same h rfl rfl rfl
  · unfold stArithEnd
    split
    · exact turn_add_tz h hL _ _ _ _ (by first | decide | (simp [bs, ByteArray.size]; done) | (simp [bs, ByteArray.size]; omega) | omega)
    · exact tz_same h rfl rfl rfl
  · exact h
  · exact h
theorem feed_tz {s : St} (h : s.tz) (hg : s.good 60000) (c : UInt8) : (stFeed s c).2.tz := by
  unfold stFeed
  split
  · exact tz_same (next_tz h hg c) rfl rfl rfl
  · exact next_tz h hg c
theorem init_tz : St.init.tz := by
  intro l hl
  obtain rfl : l = _ := by simpa [St.all, St.init] using hl
  exact ⟨trivial, by decide⟩
theorem run_tz (l : List UInt8) : ∀ (s : St) (i n : Nat), s.inv n → s.tz → n + 11 * l.length ≤ 60000 → (run s l i).1.tz := by
  induction l with
  | nil => intro s i n _ h _; exact h
  | cons c r ih =>
    intro s i n h ht hn
    have hl : (c :: r).length = r.length + 1 := rfl
    rw [hl] at hn
    have h1 := feed_inv h (by omega) c
    have h2 := feed_tz ht (h.good.mono (show n ≤ 60000 by omega)) c
    unfold run
    split
    · exact ih _ (i + 1) _ h1 h2 (by omega)
    · exact h2
end Go.Proofs.Ytbmapjgajecgfaa
set_option linter.unusedVariables false
set_option linter.unusedSimpArgs false
namespace Go.Proofs.Ytbmapjgajecgfaa
open Go.RowKit
def TrueW (w0 : World) (e : Ending) (w' : World) : Prop := e = .returned (.bool true) ∧ Kept nob w0 w'
set_option maxRecDepth 100000 in
set_option maxHeartbeats 8000000 in
theorem one_3 (w : World) (tx : ByteArray) (ka ca : Option Addr) (kc cc : Nat) (pl : Int) (hz : tx.size ≤ 100000) (hp : pl ≠ 1) (h : clearB tx.data.toList = true) : Calls Try.prog 52 #[.agg #[.int .i64 3, .string tx, .string ⟨#[]⟩, .slice ka 0 kc, .slice ca 0 cc], .int .i64 pl] w (TrueW w) := by
  have HX := Lib.hid (clear_leaf tx hz h)
  have p1 : (pl != 1) = true := by simpa using hp
  clear hz hp h
  go_enter Try.func52, Try.ntmps52
  go_wp2_with fail
  refine (HX.out _).mono ?_
  rintro e w2 ⟨rfl, hk⟩
  have HK := Lib.hid ((Kept.alloc w _ nob).trans hk (fun _ _ h => h))
  clear hk
  go_wp2
  go_ret
  exact ⟨rfl, HK.out⟩
set_option maxRecDepth 100000 in
set_option maxHeartbeats 8000000 in
theorem one_7 (w : World) (tx : ByteArray) (ka ca : Option Addr) (kc cc : Nat) (pl : Int) (hz : tx.size ≤ 100000) (h : arithB tx.data.toList 0 = true) : Calls Try.prog 52 #[.agg #[.int .i64 7, .string tx, .string ⟨#[]⟩, .slice ka 0 kc, .slice ca 0 cc], .int .i64 pl] w (TrueW w) := by
  have HX := Lib.hid (arith_leaf tx hz h)
  clear hz h
  go_enter Try.func52, Try.ntmps52
  go_wp2_with fail
  refine (HX.out _).mono ?_
  rintro e w2 ⟨rfl, hk⟩
  have HK := Lib.hid ((Kept.alloc w _ nob).trans hk (fun _ _ h => h))
  clear hk
  go_wp2
  go_ret
  exact ⟨rfl, HK.out⟩
set_option maxRecDepth 100000 in
set_option maxHeartbeats 8000000 in
theorem one_4 (w : World) (ka ca : Option Addr) (n kc cc : Nat) (pl : Int) (hp : pl ≠ 1) (hall : ∀ w', Kept nob w w' → Calls Try.prog 29 #[.slice ka n kc, .int .i64 1] w' (TrueW w')) : Calls Try.prog 52 #[.agg #[.int .i64 4, .string ⟨#[]⟩, .string ⟨#[]⟩, .slice ka n kc, .slice ca 0 cc], .int .i64 pl] w (TrueW w) := by
  have HX := Lib.hid hall
  have p1 : (pl != 1) = true := by simpa using hp
  clear hp hall
  go_enter Try.func52, Try.ntmps52
  go_wp2_with fail
  refine (HX.out _ (Kept.alloc w _ nob)).mono ?_
  rintro e w2 ⟨rfl, hk⟩
  have HK := Lib.hid ((Kept.alloc w _ nob).trans hk (fun _ _ h => h))
  clear hk
  go_wp2
  go_ret
  exact ⟨rfl, HK.out⟩
set_option maxRecDepth 100000 in
set_option maxHeartbeats 8000000 in
theorem one_2 (w : World) (c : UInt8) (ka ca : Option Addr) (kc cc : Nat) (pl : Int) (h0 : c ≠ 0) (h10 : c ≠ 10) (hs : pl = 1 → specB c = true) : Calls Try.prog 52 #[.agg #[.int .i64 2, .string ⟨#[c]⟩, .string ⟨#[]⟩, .slice ka 0 kc, .slice ca 0 cc], .int .i64 pl] w (TrueW w) := by
  have HX := Lib.hid (fun w' => spec_leaf c w')
  obtain ⟨Y, hY⟩ : ∃ Y : ByteArray, (⟨#[c]⟩ : ByteArray) = Y := ⟨_, rfl⟩
  have hsz : Y.size = 1 := by rw [← hY]; rfl
  have hlt : 0 < Y.size := by omega
  have hix : ((Y[0]'hlt).toNat : Int) = (c.toNat : Int) := by subst hY; rfl
  have e0 : ¬ (c.toNat : Int) = 0 := fun e => h0 ((tn c 0).1 e)
  have e10 : ¬ (c.toNat : Int) = 10 := fun e => h10 ((tn c 10).1 e)
  rw [hY]
  obtain ⟨z, hzc⟩ : ∃ z : Int, (c.toNat : Int) = z := ⟨_, rfl⟩
  rw [hzc] at hix e0 e10
  have z0 : (z != 0) = true := by simpa using e0
  have z10 : (z != 10) = true := by simpa using e10
  have y1 : ((Y.size : Int) == 1) = true := by rw [hsz]; rfl
  have HZ := Lib.hid hzc
  have HS := Lib.hid hs
  clear hY hsz e0 e10 hzc hs h0 h10
  by_cases hp : pl = 1
  · subst hp
    go_enter Try.func52, Try.ntmps52
    go_wp2_with fail
    rw [← HZ.out]
    refine (HX.out _).mono ?_
    rintro e w2 ⟨rfl, hk⟩
    rw [HS.out trivial]
    have HK := Lib.hid ((Kept.alloc w _ nob).trans hk (fun _ _ h => h))
    clear hk
    go_wp2
    go_ret
    exact ⟨rfl, HK.out⟩
  · have p1 : (pl != 1) = true := by simpa using hp
    clear hp
    have HK := Lib.hid (Kept.alloc w (.cells #[.int .i64 2, .string Y, .string ⟨#[]⟩, .slice ka 0 kc, .slice ca 0 cc] 49) nob)
    go_enter Try.func52, Try.ntmps52
    go_wp2
    go_ret
    exact ⟨rfl, HK.out⟩
set_option maxRecDepth 100000 in
set_option maxHeartbeats 8000000 in
theorem one_1 (w : World) (tx : ByteArray) (ka ca : Option Addr) (kc cc : Nat) (pl : Int) (hz : tx.size ≤ 100000) (hne : tx.data.toList ≠ []) (h : litB pl tx.data.toList = true) : Calls Try.prog 52 #[.agg #[.int .i64 1, .string tx, .string ⟨#[]⟩, .slice ka 0 kc, .slice ca 0 cc], .int .i64 pl] w (TrueW w) := by
  have HX := Lib.hid (lit_leaf tx pl hz hne h)
  clear hz hne h
  go_enter Try.func52, Try.ntmps52
  go_wp2_with fail
  refine (HX.out _).mono ?_
  rintro e w2 ⟨rfl, hk⟩
  have HK := Lib.hid ((Kept.alloc w _ nob).trans hk (fun _ _ h => h))
  clear hk
  go_wp2
  go_ret
  exact ⟨rfl, HK.out⟩
set_option maxRecDepth 100000 in
set_option maxHeartbeats 8000000 in
theorem one_5 (w : World) (tx op : ByteArray) (ka ca : Option Addr) (n kc cc : Nat) (pl : Int) (hall : ∀ w', Kept nob w w' → Calls Try.prog 78 #[.agg #[.int .i64 5, .string tx, .string op, .slice ka n kc, .slice ca 0 cc]] w' (TrueW w')) : Calls Try.prog 52 #[.agg #[.int .i64 5, .string tx, .string op, .slice ka n kc, .slice ca 0 cc], .int .i64 pl] w (TrueW w) := by
  have HX := Lib.hid hall
  clear hall
  go_enter Try.func52, Try.ntmps52
  go_wp2_with fail
  refine (HX.out _ (Kept.alloc w _ nob)).mono ?_
  rintro e w2 ⟨rfl, hk⟩
  have HK := Lib.hid ((Kept.alloc w _ nob).trans hk (fun _ _ h => h))
  clear hk
  go_wp2
  go_ret
  exact ⟨rfl, HK.out⟩
end Go.Proofs.Ytbmapjgajecgfaa

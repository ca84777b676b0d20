/-
  What is proved: what the functions over operators compute. No condition but that the table holds its texts.
-/
import Derived.Test.YthncceffgncagaaDoorRow
import Derived.Deep.AppendLies
import Derived.Deep.MidRow
import Derived.Lib.MinMax
set_option linter.unusedVariables false
set_option linter.unusedSimpArgs false
namespace Go.Proofs.YthncceffgncagaaDoor
open Go.RowKit
def pre (t s : ByteArray) : Bool := decide (s.size ≤ t.size) && decide (t.extract 0 s.size = s)

theorem pre21_any (t s : ByteArray) (w : World) (ht : t.size ≤ 9223372036854775807) (hs : s.size ≤ 9223372036854775807) :
    Calls Tryd.prog 21 #[.string t, .string s] w fun e w' => e = .returned (.bool (pre t s)) ∧ w = w' := by
  by_cases h : s.size ≤ t.size
  · have he : ((t.extract 0 s.size).toList == s.toList) = pre t s := by rw [toList_eq]; simp [pre, h]
    have HE := Lib.hid he
    clear he
    go_enter Tryd.func21, Tryd.ntmps21
    go_wp2
    go_ret
    exact ⟨ret_bool HE.out, rfl⟩
  · have he : pre t s = false := by simp [pre]; omega
    have HE := Lib.hid he
    clear he
    go_enter Tryd.func21, Tryd.ntmps21
    go_wp2
    go_ret
    exact ⟨ret_bool HE.out.symm, rfl⟩

theorem pre20_any (t s : ByteArray) (w : World) (ht : t.size ≤ 9223372036854775807) (hs : s.size ≤ 9223372036854775807) :
    Calls Tryd.prog 20 #[.string t, .string s] w fun e w' => e = .returned (.bool (pre t s)) ∧ w = w' := by
  by_cases h : s.size ≤ t.size
  · have he : ((t.extract 0 s.size).toList == s.toList) = pre t s := by rw [toList_eq]; simp [pre, h]
    have HE := Lib.hid he
    clear he
    go_enter Tryd.func20, Tryd.ntmps20
    go_wp2
    go_ret
    exact ⟨ret_bool HE.out, rfl⟩
  · have he : pre t s = false := by simp [pre]; omega
    have HE := Lib.hid he
    clear he
    go_enter Tryd.func20, Tryd.ntmps20
    go_wp2
    go_ret
    exact ⟨ret_bool HE.out.symm, rfl⟩

theorem pre19_any (t s : ByteArray) (w : World) (ht : t.size ≤ 9223372036854775807) (hs : s.size ≤ 9223372036854775807) :
    Calls Tryd.prog 19 #[.string t, .string s] w fun e w' => e = .returned (.bool (pre t s)) ∧ w = w' := by
  go_enter Tryd.func19, Tryd.ntmps19
  go_wp2_with fail
  refine (pre21_any t s _ ht hs).mono ?_
  rintro e w' ⟨rfl, rfl⟩
  go_wp2
  go_ret
  exact ⟨rfl, rfl⟩

def txs : Array ByteArray := #[⟨#[]⟩, ⟨#[38, 38]⟩, ⟨#[124, 124]⟩, ⟨#[59, 59]⟩, ⟨#[59]⟩, ⟨#[38]⟩, ⟨#[124]⟩, ⟨#[40]⟩, ⟨#[41]⟩, ⟨#[60]⟩, ⟨#[62]⟩, ⟨#[62, 62]⟩, ⟨#[60, 60]⟩, ⟨#[60, 60, 45]⟩, ⟨#[60, 38]⟩, ⟨#[62, 38]⟩, ⟨#[60, 62]⟩, ⟨#[62, 124]⟩]
def tx (k : Nat) : ByteArray := txs.getD k ⟨#[]⟩
def TB (w : World) : Prop := ∀ k, k < 18 → w.cell? ⟨0, k, none⟩ = some (.string (tx k))
def txt (op : Int) : ByteArray := if 0 ≤ op ∧ op < 18 then tx op.toNat else ⟨#[]⟩
theorem text_any (op : Int) (w : World) (hb : TB w) (h : -9223372036854775808 ≤ op ∧ op ≤ 9223372036854775807) :
    Calls Tryd.prog 6 #[.int .i64 op] w fun e w' => e = .returned (.string (txt op)) ∧ w = w' := by
  rcases (by omega : op < 0 ∨ (0 ≤ op ∧ 18 ≤ op) ∨ (0 ≤ op ∧ op < 18)) with h1 | ⟨h1, h2⟩ | ⟨h1, h2⟩
  · have e : txt op = ⟨#[]⟩ := by unfold txt; rw [if_neg (by omega)]
    rw [e]
    go_enter Tryd.func6, Tryd.ntmps6
    go_wp2
    go_ret
    exact ⟨rfl, rfl⟩
  · have e : txt op = ⟨#[]⟩ := by unfold txt; rw [if_neg (by omega)]
    rw [e]
    go_enter Tryd.func6, Tryd.ntmps6
    go_wp2
    go_ret
    exact ⟨rfl, rfl⟩
  · obtain ⟨q, rfl⟩ : ∃ q : Nat, op = (q : Int) := ⟨op.toNat, by omega⟩
    have e : txt (q : Int) = tx q := by unfold txt; rw [if_pos (by omega)]; simp
    have hc := hb q (by omega)
    rw [e]
    clear hb e
    obtain ⟨t, ht⟩ : ∃ t, tx q = t := ⟨_, rfl⟩
    rw [ht] at hc ⊢
    clear ht
    go_enter Tryd.func6, Tryd.ntmps6
    go_wp2
    go_ret
    exact ⟨rfl, rfl⟩

def tvs : List Value := txs.toList.map Value.string
theorem TB.mid {w : World} (h : TB w) : w.rangeAt 0 0 tvs := by
  intro j v hj
  have hl : j < 18 := by
    have := (List.getElem?_eq_some_iff.1 hj).1
    simpa [tvs, txs] using this
  rw [Nat.zero_add, h j hl, ← hj]
  simp [tvs, tx, List.getElem?_map, Array.getD_eq_getD_getElem?, show j < txs.size from hl]

theorem run_index (k : Nat) (hk : k < 18) (w : World) : (Instr.index 32 (.agg tvs.toArray) (.int .i64 (k : Int))).run Tryd.prog w = .ok (.string (tx k)) w := by
  have h1 : tvs.toArray[k]? = some (Value.string (tx k)) := by simp [tvs, tx, Array.getD_eq_getD_getElem?, show k < txs.size from hk]
  have hn : (0 : Int) ≤ (k : Int) ∧ (k : Int) < ((18 : Nat) : Int) := by omega
  simp [Instr.index, run_underlying (show Tryd.prog.underlying 32 = some (.array 18 9) by kernel_rfl), asIntOf, hn, go_sem]
  have h2 : tvs[k]? = some (Value.string (tx k)) := by simpa using h1
  rw [if_pos hk, h2]
  rfl
theorem tx_size (k : Nat) : (tx k).size ≤ 3 := by
  have : ∀ k, k < 18 → (tx k).size ≤ 3 := by decide
  by_cases h : k < 18
  · exact this k h
  · have h' : ¬ k < txs.size := h
    simp [tx, Array.getD_eq_getD_getElem?, h']
    decide
theorem txt_size (op : Int) : (txt op).size ≤ 3 := by
  unfold txt
  split
  · exact tx_size _
  · decide
theorem tx_ne (k : Nat) (h0 : 0 < k) (hk : k < 18) : tx k ≠ tx 0 := by
  have : ∀ k, k < 18 → 0 < k → (tx k).size ≠ (tx 0).size := by decide
  intro e
  exact this k hk h0 (by rw [e])
def fnd (s : ByteArray) : Nat := ((List.range 18).find? (fun k => decide (tx k = s))).getD 0
theorem fnd_at {s : ByteArray} {k : Nat} (hk : k < 18) (h : tx k = s) (hn : ∀ j, j < k → tx j ≠ s) : fnd s = k := by
  have : (List.range 18).find? (fun k => decide (tx k = s)) = some k := by
    rw [List.find?_range_eq_some]
    refine ⟨by simpa using h, List.mem_range.2 hk, fun j hj => ?_⟩
    simpa using hn j hj
  simp [fnd, this]
theorem fnd_none {s : ByteArray} (hn : ∀ j, 0 < j → j < 18 → tx j ≠ s) : fnd s = 0 := by
  by_cases h : tx 0 = s
  · exact fnd_at (by omega) h (fun j hj => by omega)
  · have : (List.range 18).find? (fun k => decide (tx k = s)) = none := by
      rw [List.find?_eq_none]
      intro j hj
      have hj' := List.mem_range.1 hj
      by_cases e : j = 0
      · subst e; simpa using h
      · simpa using hn j (by omega) hj'
    simp [fnd, this]
theorem fnd_at1 {s : ByteArray} {k : Nat} (h0 : 0 < k) (hk : k < 18) (h : tx k = s) (hn : ∀ j, 0 < j → j < k → tx j ≠ s) : fnd s = k :=
  fnd_at hk h fun j hj => by
    by_cases e : j = 0
    · subst e; intro e; exact tx_ne k h0 hk (h.trans e.symm)
    · exact hn j (by omega) hj
theorem ret_nat {a b : Nat} (h : a = b) : Ending.returned (.int .i64 (a : Int)) = .returned (.int .i64 (b : Int)) := by rw [h]
theorem find_any (s : ByteArray) (w : World) (hb : TB w) :
    Calls Tryd.prog 8 #[.string s] w fun e w' => e = .returned (.int .i64 (fnd s : Int)) ∧ w = w' := by
  have hm := hb.mid
  obtain ⟨tv, htv⟩ : ∃ tv, tvs.toArray = tv := ⟨_, rfl⟩
  have hix := run_index
  rw [htv] at hix
  have HIX := Lib.hid hix
  clear hix
  go_enter Tryd.func8, Tryd.ntmps8
  go_wp2_with (refine wpList_load_mid rfl 32 (.global 0) rfl 0 0 rfl tvs (.array 18 9) hm (by kernel_rfl) rfl (by kernel_rfl) ?_; rw [htv])
  go_loop [6] (fun i => ∃ k : Nat, i = .int .i64 (k : Int) ∧ k ≤ 18 ∧ Hid (∀ j, j < k → tx j ≠ s)) (fun i => 18 - (intOf i).toNat)
  case atStart => exact ⟨0, rfl, by omega, fun j h => by omega⟩
  case round =>
    obtain ⟨k, rfl, hk, hno⟩ := hrel
    by_cases hlt : k < 18
    · have hix1 := HIX.out k hlt
      by_cases he : tx k = s
      · have hb1 : ((tx k).toList == s.toList) = true := by rw [toList_eq]; simpa using he
        have HE := Lib.hid (fnd_at hlt he hno.out)
        clear he
        go_wp2
        go_ret
        exact ⟨ret_nat HE.out.symm, rfl⟩
      · have hb1 : ((tx k).toList == s.toList) = false := by rw [toList_eq]; simpa using he
        have HE := Lib.hid he
        clear he
        go_wp2
        go_round
        case rel => exact ⟨k + 1, by go_num, by omega, fun j hj => by
          by_cases e : j = k
          · rw [e]; exact HE.out
          · exact hno.out j (by omega)⟩
        case measure => simp [intOf]; omega
    · have HE := Lib.hid (fnd_none (s := s) (fun j _ hj => hno.out j (by omega)))
      go_wp2
      go_ret
      exact ⟨ret_nat (a := 0) HE.out.symm, rfl⟩

theorem text2_any (op : Int) (w : World) (h : -9223372036854775808 ≤ op ∧ op ≤ 9223372036854775807) :
    Calls Tryd.prog 7 #[.int .i64 op] w fun e w' => e = .returned (.string (txt op)) ∧ w = w' := by
  by_cases hr : 1 ≤ op ∧ op ≤ 17
  · obtain ⟨q, rfl⟩ : ∃ q : Nat, op = (q : Int) := ⟨op.toNat, by omega⟩
    have e : txt (q : Int) = tx q := by unfold txt; rw [if_pos (by omega)]; simp
    have hq : 1 ≤ q ∧ q ≤ 17 := by omega
    rw [e]
    clear e h hr
    have key : q = 1 ∨ q = 2 ∨ q = 3 ∨ q = 4 ∨ q = 5 ∨ q = 6 ∨ q = 7 ∨ q = 8 ∨ q = 9 ∨ q = 10 ∨ q = 11 ∨ q = 12 ∨ q = 13 ∨ q = 14 ∨ q = 15 ∨ q = 16 ∨ q = 17 := by omega
    clear hq
    rcases key with rfl | rfl | rfl | rfl | rfl | rfl | rfl | rfl | rfl | rfl | rfl | rfl | rfl | rfl | rfl | rfl | rfl
    all_goals
      go_enter Tryd.func7, Tryd.ntmps7
      go_wp2
      go_ret
      exact ⟨rfl, rfl⟩
  · have e : txt op = ⟨#[]⟩ := by
      unfold txt
      split
      · have : op = 0 := by omega
        subst this
        rfl
      · rfl
    have n1 : (op == 1) = false := by simp; omega
    have n2 : (op == 2) = false := by simp; omega
    have n3 : (op == 3) = false := by simp; omega
    have n4 : (op == 4) = false := by simp; omega
    have n5 : (op == 5) = false := by simp; omega
    have n6 : (op == 6) = false := by simp; omega
    have n7 : (op == 7) = false := by simp; omega
    have n8 : (op == 8) = false := by simp; omega
    have n9 : (op == 9) = false := by simp; omega
    have n10 : (op == 10) = false := by simp; omega
    have n11 : (op == 11) = false := by simp; omega
    have n12 : (op == 12) = false := by simp; omega
    have n13 : (op == 13) = false := by simp; omega
    have n14 : (op == 14) = false := by simp; omega
    have n15 : (op == 15) = false := by simp; omega
    have n16 : (op == 16) = false := by simp; omega
    have n17 : (op == 17) = false := by simp; omega
    rw [e]
    clear e hr
    go_enter Tryd.func7, Tryd.ntmps7
    go_wp2
    go_ret
    exact ⟨rfl, rfl⟩
theorem txt_nat {k : Nat} (hk : k < 18) : txt (k : Int) = tx k := by unfold txt; rw [if_pos (by omega)]; simp
theorem find2_any (s : ByteArray) (w : World) :
    Calls Tryd.prog 9 #[.string s] w fun e w' => e = .returned (.int .i64 (fnd s : Int)) ∧ w = w' := by
  go_enter Tryd.func9, Tryd.ntmps9
  go_wp2
  go_loop [3] (fun i => ∃ k : Nat, i = .int .i64 (k : Int) ∧ 1 ≤ k ∧ k ≤ 18 ∧ Hid (∀ j, 0 < j → j < k → tx j ≠ s)) (fun i => 18 - (intOf i).toNat)
  case atStart => exact ⟨1, rfl, by omega, by omega, fun j h h' => by omega⟩
  case round =>
    obtain ⟨k, rfl, hk1, hk, hno⟩ := hrel
    by_cases hlt : k < 18
    · go_wp2_with fail
      refine (text2_any (k : Int) w (by omega)).mono ?_
      rintro e w' ⟨rfl, rfl⟩
      rw [txt_nat hlt]
      by_cases he : tx k = s
      · have hb1 : ((tx k).toList == s.toList) = true := by rw [toList_eq]; simpa using he
        have HE := Lib.hid (fnd_at1 hk1 hlt he hno.out)
        clear he
        go_wp2
        go_ret
        exact ⟨ret_nat HE.out.symm, rfl⟩
      · have hb1 : ((tx k).toList == s.toList) = false := by rw [toList_eq]; simpa using he
        have HE := Lib.hid he
        clear he
        go_wp2
        go_round
        case rel => exact ⟨k + 1, by go_num, by omega, by omega, fun j h0 hj => by
          by_cases e : j = k
          · rw [e]; exact HE.out
          · exact hno.out j h0 (by omega)⟩
        case measure => simp [intOf]; omega
    · have HE := Lib.hid (fnd_none (s := s) (fun j h0 hj => hno.out j h0 (by omega)))
      go_wp2
      go_ret
      exact ⟨ret_nat (a := 0) HE.out.symm, rfl⟩

def mf (s : ByteArray) (k : Nat) : Bool := decide (0 < k) && pre (tx k) s
def mor (s : ByteArray) : List Nat := lst 18 (mf s)
def MRel (w0 : World) (s : ByteArray) (v i : Value) (wr : World) : Prop :=
  ∃ k : Nat, i = .int .i64 (k : Int) ∧ k ≤ 18 ∧ wr.ownsRow w0.heap.size 3 1 v (lst k (mf s)).length (ivals (lst k (mf s))) ∧ Kept nob w0 wr
theorem tx_size' (k : Nat) : (tx k).size ≤ 9223372036854775807 := by have := tx_size k; omega
def MRel1 (w0 : World) (s : ByteArray) (v i : Value) (wr : World) : Prop :=
  ∃ k : Nat, i = .int .i64 (k : Int) ∧ 1 ≤ k ∧ k ≤ 18 ∧ wr.ownsRow w0.heap.size 3 1 v (lst k (mf s)).length (ivals (lst k (mf s))) ∧ Kept nob w0 wr

set_option maxHeartbeats 1000000 in
theorem more_any (s : ByteArray) (w : World) (hb : TB w) (hs : s.size ≤ 9223372036854775807) :
    Calls Tryd.prog 11 #[.string s] w (RetRow w 3 (ivals (mor s))) := by
  obtain ⟨ti, hi, hz0, hz1, hz2⟩ := info_parts info_int
  have hm := hb.mid
  obtain ⟨tv, htv⟩ : ∃ tv, tvs.toArray = tv := ⟨_, rfl⟩
  have hix := run_index
  rw [htv] at hix
  have HIX := Lib.hid hix
  clear hix hb
  go_enter Tryd.func11, Tryd.ntmps11
  go_wp2_with (refine wpList_load_mid rfl 32 (.global 0) rfl 0 0 rfl tvs (.array 18 9) hm (by kernel_rfl) rfl (by kernel_rfl) ?_; rw [htv])
  go_loopw [3, 7] (fun v i wr => MRel w s v i wr) (fun _ i _ => 18 - (intOf i).toNat)
  case atStart => exact ⟨0, rfl, by omega, World.ownsRow_nil _ _ _ _, Kept.refl _ _⟩
  case round =>
    obtain ⟨k, rfl, hk, hown, hK⟩ := hrel
    have hll := lst_len k (mf s)
    by_cases hlt : k < 18
    · have hix1 := HIX.out k hlt
      cases hp : mf s k with
      | false =>
        have hL : lst (k + 1) (mf s) = lst k (mf s) := by unfold lst; rw [List.range_succ, List.filter_append]; simp [hp]
        have HL := Lib.hid hL
        have HO := Lib.hid hown
        clear hL hown
        by_cases h0 : k = 0
        · have h1 : ((k : Int) != 0) = false := by simp; omega
          clear h0
          go_wp2
          go_roundw
          case rel => exact ⟨k + 1, by go_num, by omega, by have := HO.out; rw [← HL.out] at this; exact this, hK⟩
          case measure => simp [intOf]; omega
        · have h1 : ((k : Int) != 0) = true := by simp; omega
          have hpp : pre (tx k) s = false := by simpa [mf, show 0 < k by omega] using hp
          go_wp2_with fail
          refine (pre19_any (tx k) s _ (tx_size' k) hs).mono ?_
          rintro e w' ⟨rfl, rfl⟩
          rw [hpp]
          go_wp2
          go_roundw
          case rel => exact ⟨k + 1, by go_num, by omega, by have := HO.out; rw [← HL.out] at this; exact this, hK⟩
          case measure => simp [intOf]; omega
      | true =>
        have hL : lst (k + 1) (mf s) = lst k (mf s) ++ [k] := by unfold lst; rw [List.range_succ, List.filter_append]; simp [hp]
        have HL := Lib.hid hL
        have h0 : 0 < k ∧ pre (tx k) s = true := by simpa [mf] using hp
        have h1 : ((k : Int) != 0) = true := by simp; omega
        clear hL
        go_wp2_with fail
        refine (pre19_any (tx k) s _ (tx_size' k) hs).mono ?_
        rintro e w' ⟨rfl, rfl⟩
        rw [h0.2]
        go_wp2_with (at_builtin; refine wpList_append_own _ rfl _ _ 26 rfl w.heap.size 3 ti (.int .i64 0) 1 8 Tryd.underlying26 hi hz0 hz1 hz2 rfl (by decide) _ _ _ rfl (hown.alloc _) ⟨wr.heap.size, 0, none⟩ 1 1 [.int .i64 (k : Int)] rfl rfl ?c1 ?c2 ?c3 ?c4 ?c5 ?_)
        case c1 => exact cell_one_new _ _ _
        case c2 => intro u hu; simp at hu; subst hu; rfl
        case c3 => unfold maxLen; omega
        case c4 => omega
        case c5 => have := hK.size; simp; omega
        intro v' w1 hown1 hgrow _
        have hK1 : Kept nob w w1 := (hK.trans (Kept.alloc wr _ nob) (fun i hi h => h)).trans (Kept.ofGrown hgrow) (fun i hi h => by
          have := (hown.lt i h.symm).1
          omega)
        have HO1 := Lib.hid hown1
        have HG := Lib.hid hgrow
        clear hown1 hgrow hown
        go_wp2
        go_roundw
        case rel =>
          refine ⟨k + 1, by go_num, by omega, ?_, hK1⟩
          have := HO1.out
          rw [HL.out]
          simpa [ivals] using this
        case measure => simp [intOf]; omega
    · have e : k = 18 := by omega
      subst e
      have HO := Lib.hid hown
      clear hown
      go_wp2
      go_ret
      exact RetRow.mk HO.out hK

set_option maxHeartbeats 1000000 in
theorem more2_any (s : ByteArray) (w : World) (hs : s.size ≤ 9223372036854775807) :
    Calls Tryd.prog 12 #[.string s] w (RetRow w 3 (ivals (mor s))) := by
  obtain ⟨ti, hi, hz0, hz1, hz2⟩ := info_parts info_int
  go_enter Tryd.func12, Tryd.ntmps12
  go_wp2
  go_loopw [3, 4] (fun v i wr => MRel1 w s v i wr) (fun _ i _ => 18 - (intOf i).toNat)
  case atStart => exact ⟨1, rfl, by omega, by omega, World.ownsRow_nil _ _ _ _, Kept.refl _ _⟩
  case round =>
    obtain ⟨k, rfl, hk1, hk, hown, hK⟩ := hrel
    have hll := lst_len k (mf s)
    by_cases hlt : k < 18
    · skip
      cases hp : mf s k with
      | false =>
        have hL : lst (k + 1) (mf s) = lst k (mf s) := by unfold lst; rw [List.range_succ, List.filter_append]; simp [hp]
        have HL := Lib.hid hL
        have HO := Lib.hid hown
        clear hL hown
        have hpp : pre (tx k) s = false := by simpa [mf, show 0 < k by omega] using hp
        go_wp2_with fail
        refine (text2_any (k : Int) _ (by omega)).mono ?_
        rintro e w' ⟨rfl, rfl⟩
        rw [txt_nat hlt]
        go_wp2_with fail
        refine (pre20_any (tx k) s _ (tx_size' k) hs).mono ?_
        rintro e w' ⟨rfl, rfl⟩
        rw [hpp]
        go_wp2
        go_roundw
        case rel => exact ⟨k + 1, by go_num, by omega, by omega, by have := HO.out; rw [← HL.out] at this; exact this, hK⟩
        case measure => simp [intOf]; omega
      | true =>
        have hL : lst (k + 1) (mf s) = lst k (mf s) ++ [k] := by unfold lst; rw [List.range_succ, List.filter_append]; simp [hp]
        have HL := Lib.hid hL
        have h0 : 0 < k ∧ pre (tx k) s = true := by simpa [mf] using hp
        clear hL
        go_wp2_with fail
        refine (text2_any (k : Int) _ (by omega)).mono ?_
        rintro e w' ⟨rfl, rfl⟩
        rw [txt_nat hlt]
        go_wp2_with fail
        refine (pre20_any (tx k) s _ (tx_size' k) hs).mono ?_
        rintro e w' ⟨rfl, rfl⟩
        rw [h0.2]
        go_wp2_with (at_builtin; refine wpList_append_own _ rfl _ _ 26 rfl w.heap.size 3 ti (.int .i64 0) 1 8 Tryd.underlying26 hi hz0 hz1 hz2 rfl (by decide) _ _ _ rfl (hown.alloc _) ⟨wr.heap.size, 0, none⟩ 1 1 [.int .i64 (k : Int)] rfl rfl ?c1 ?c2 ?c3 ?c4 ?c5 ?_)
        case c1 => exact cell_one_new _ _ _
        case c2 => intro u hu; simp at hu; subst hu; rfl
        case c3 => unfold maxLen; omega
        case c4 => omega
        case c5 => have := hK.size; simp; omega
        intro v' w1 hown1 hgrow _
        have hK1 : Kept nob w w1 := (hK.trans (Kept.alloc wr _ nob) (fun i hi h => h)).trans (Kept.ofGrown hgrow) (fun i hi h => by
          have := (hown.lt i h.symm).1
          omega)
        have HO1 := Lib.hid hown1
        have HG := Lib.hid hgrow
        clear hown1 hgrow hown
        go_wp2
        go_roundw
        case rel =>
          refine ⟨k + 1, by go_num, by omega, by omega, ?_, hK1⟩
          have := HO1.out
          rw [HL.out]
          simpa [ivals] using this
        case measure => simp [intOf]; omega
    · have e : k = 18 := by omega
      subst e
      have HO := Lib.hid hown
      clear hown
      go_wp2
      go_ret
      exact RetRow.mk HO.out hK

/-- With the longest text of which a text begins. -/
def lng (s : ByteArray) : Nat :=
  if 3 ≤ s.size ∧ fnd (s.extract 0 3) ≠ 0 then fnd (s.extract 0 3)
  else if 2 ≤ s.size ∧ fnd (s.extract 0 2) ≠ 0 then fnd (s.extract 0 2)
  else if 1 ≤ s.size ∧ fnd (s.extract 0 1) ≠ 0 then fnd (s.extract 0 1) else 0
theorem fnd_lt (s : ByteArray) : fnd s < 18 := by
  unfold fnd
  cases h : (List.range 18).find? (fun k => decide (tx k = s)) with
  | none => simp
  | some k => simpa using List.mem_range.1 (List.mem_of_find?_eq_some h)
theorem fnd_tx {s : ByteArray} (h : fnd s ≠ 0) : tx (fnd s) = s := by
  unfold fnd at h ⊢
  cases h' : (List.range 18).find? (fun k => decide (tx k = s)) with
  | none => simp [h'] at h
  | some k => simpa using List.find?_some h'
theorem tx_inj : ∀ i, i < 18 → ∀ j, j < 18 → tx i = tx j → i = j := by
  have : ∀ i, i < 18 → ∀ j, j < 18 → (tx i).data.toList = (tx j).data.toList → i = j := by decide
  exact fun i hi j hj e => this i hi j hj (by rw [e])
theorem fnd_of_tx {k : Nat} (hk : k < 18) : fnd (tx k) = k :=
  fnd_at hk rfl fun j hj e => absurd (tx_inj j (by omega) k hk e) (by omega)
theorem tx_pos {k : Nat} (h0 : 0 < k) (hk : k < 18) : 1 ≤ (tx k).size := by
  have : ∀ k, k < 18 → 0 < k → 1 ≤ (tx k).size := by decide
  exact this k hk h0
theorem pre_iff {t s : ByteArray} : pre t s = true ↔ s.size ≤ t.size ∧ t.extract 0 s.size = s := by simp [pre]
theorem lng_best {s : ByteArray} {b : Nat} (hb : b < 18) (h : b = 0 ∨ pre s (tx b) = true) (hm : ∀ j, 0 < j → j < 18 → pre s (tx j) = true → (tx j).size ≤ (tx b).size) : lng s = b := by
  have key : ∀ n, 1 ≤ n → n ≤ s.size → fnd (s.extract 0 n) ≠ 0 → n ≤ (tx b).size ∧ (n = (tx b).size → fnd (s.extract 0 n) = b) := by
    intro n h1 hn hf
    have ht := fnd_tx hf
    have hl := fnd_lt (s.extract 0 n)
    have hz : (s.extract 0 n).size = n := by simp; omega
    have hp : pre s (tx (fnd (s.extract 0 n))) = true := by rw [pre_iff, ht, hz]; exact ⟨hn, rfl⟩
    have := hm _ (by omega) hl hp
    rw [ht, hz] at this
    refine ⟨this, fun e => ?_⟩
    rcases h with rfl | h
    · have : (tx 0).size = 0 := by decide
      omega
    · have := (pre_iff.1 h).2
      rw [← e] at this
      rw [this, fnd_of_tx hb]
  have hit : b ≠ 0 → (tx b).size ≤ s.size ∧ fnd (s.extract 0 (tx b).size) = b := by
    intro h0
    rcases h with h | h
    · exact absurd h h0
    · have := pre_iff.1 h
      exact ⟨this.1, by rw [this.2, fnd_of_tx hb]⟩
  have hz := tx_size b
  unfold lng
  by_cases h0 : b = 0
  · subst h0
    have z0 : (tx 0).size = 0 := by decide
    rw [if_neg (fun h => by have := (key 3 (by omega) h.1 h.2).1; omega), if_neg (fun h => by have := (key 2 (by omega) h.1 h.2).1; omega), if_neg (fun h => by have := (key 1 (by omega) h.1 h.2).1; omega)]
  · obtain ⟨h1, h2⟩ := hit h0
    have h3 := tx_pos (by omega) hb
    rcases (by omega : (tx b).size = 3 ∨ (tx b).size = 2 ∨ (tx b).size = 1) with e | e | e
    · rw [e] at h1 h2
      rw [if_pos ⟨h1, by rw [h2]; exact h0⟩, h2]
    · rw [e] at h1 h2
      rw [if_neg (fun h => by have := (key 3 (by omega) h.1 h.2).1; omega), if_pos ⟨h1, by rw [h2]; exact h0⟩, h2]
    · rw [e] at h1 h2
      rw [if_neg (fun h => by have := (key 3 (by omega) h.1 h.2).1; omega), if_neg (fun h => by have := (key 2 (by omega) h.1 h.2).1; omega), if_pos ⟨h1, by rw [h2]; exact h0⟩, h2]
theorem lng_lt (s : ByteArray) : lng s < 18 := by
  unfold lng
  split
  · exact fnd_lt _
  · split
    · exact fnd_lt _
    · split
      · exact fnd_lt _
      · omega

theorem lng_at {s : ByteArray} {n : Nat} (h1 : 1 ≤ n ∧ n ≤ 3) (hn : n ≤ s.size) (hf : fnd (s.extract 0 n) ≠ 0) (hno : ∀ m, n < m → m ≤ 3 → m ≤ s.size → fnd (s.extract 0 m) = 0) : lng s = fnd (s.extract 0 n) := by
  unfold lng
  rcases (by omega : n = 3 ∨ n = 2 ∨ n = 1) with e | e | e <;> subst e
  · rw [if_pos ⟨hn, hf⟩]
  · rw [if_neg (fun h => h.2 (hno 3 (by omega) (by omega) h.1)), if_pos ⟨hn, hf⟩]
  · rw [if_neg (fun h => h.2 (hno 3 (by omega) (by omega) h.1)), if_neg (fun h => h.2 (hno 2 (by omega) (by omega) h.1)), if_pos ⟨hn, hf⟩]
theorem lng_none {s : ByteArray} (hno : ∀ m, 0 < m → m ≤ 3 → m ≤ s.size → fnd (s.extract 0 m) = 0) : lng s = 0 := by
  unfold lng
  rw [if_neg (fun h => h.2 (hno 3 (by omega) (by omega) h.1)), if_neg (fun h => h.2 (hno 2 (by omega) (by omega) h.1)), if_neg (fun h => h.2 (hno 1 (by omega) (by omega) h.1))]
theorem longest_any (s : ByteArray) (w : World) (hb : TB w) (hs : s.size ≤ 9223372036854775807) :
    Calls Tryd.prog 13 #[.string s] w fun e w' => e = .returned (.int .i64 (lng s : Int)) ∧ w = w' := by
  have HB := Lib.hid hb
  clear hb
  go_enter Tryd.func13, Tryd.ntmps13
  go_wp2
  go_loop [3] (fun i => ∃ n : Nat, i = .int .i64 (n : Int) ∧ n ≤ 3 ∧ n ≤ s.size ∧ Hid (∀ m, n < m → m ≤ 3 → m ≤ s.size → fnd (s.extract 0 m) = 0)) (fun i => (intOf i).toNat)
  case atStart =>
    refine ⟨min 3 s.size, ?_, by omega, by omega, fun m h1 h2 h3 => by omega⟩
    congr 1; omega
  case round =>
    obtain ⟨n, rfl, h3, hn, hno⟩ := hrel
    by_cases h0 : 0 < n
    · go_wp2_with fail
      refine (find_any (s.extract 0 n) w HB.out).mono ?_
      rintro e w' ⟨rfl, rfl⟩
      obtain ⟨f, hf⟩ : ∃ f, fnd (s.extract 0 n) = f := ⟨_, rfl⟩
      rw [hf]
      have HF := Lib.hid hf
      clear hf
      by_cases hf0 : f = 0
      · have h1 : ((f : Int) != 0) = false := by simp; omega
        have HF0 := Lib.hid hf0
        clear hf0
        go_wp2
        go_round
        case rel => exact ⟨n - 1, by go_num, by omega, by omega, fun m m1 m2 m3 => by
          by_cases e : m = n
          · rw [e, HF.out, HF0.out]
          · exact hno.out m (by omega) m2 m3⟩
        case measure => simp [intOf]; omega
      · have h1 : ((f : Int) != 0) = true := by simp; omega
        have HE := Lib.hid (lng_at ⟨h0, h3⟩ hn (by rw [HF.out]; exact hf0) hno.out)
        clear hf0
        go_wp2
        go_ret
        exact ⟨ret_nat (HF.out.symm.trans HE.out.symm), rfl⟩
    · have HE := Lib.hid (lng_none (s := s) (fun m m1 m2 m3 => hno.out m (by omega) m2 m3))
      go_wp2
      go_ret
      exact ⟨ret_nat (a := 0) HE.out.symm, rfl⟩
theorem longest2_any (s : ByteArray) (w : World) (hs : s.size ≤ 9223372036854775807) :
    Calls Tryd.prog 14 #[.string s] w fun e w' => e = .returned (.int .i64 (lng s : Int)) ∧ w = w' := by
  go_enter Tryd.func14, Tryd.ntmps14
  go_wp2
  go_loop [3, 4] (fun v i => ∃ b k : Nat, v = .int .i64 (b : Int) ∧ i = .int .i64 (k : Int) ∧ 1 ≤ k ∧ k ≤ 18 ∧ b < 18 ∧ Hid ((b = 0 ∨ pre s (tx b) = true) ∧ ∀ j, 0 < j → j < k → pre s (tx j) = true → (tx j).size ≤ (tx b).size)) (fun _ i => 18 - (intOf i).toNat)
  case atStart => exact ⟨0, 1, rfl, rfl, by omega, by omega, by omega, .inl rfl, fun j h h' => by omega⟩
  case round =>
    obtain ⟨b, k, rfl, rfl, hk1, hk, hb, hinv⟩ := hrel
    by_cases hlt : k < 18
    · go_wp2_with fail
      refine (text2_any (k : Int) _ (by omega)).mono ?_
      rintro e w' ⟨rfl, rfl⟩
      rw [txt_nat hlt]
      go_wp2_with fail
      refine (pre20_any s (tx k) _ hs (tx_size' k)).mono ?_
      rintro e w' ⟨rfl, rfl⟩
      cases hp : pre s (tx k) with
      | false =>
        have HP := Lib.hid hp
        clear hp
        go_wp2
        go_round
        case rel => exact ⟨b, k + 1, rfl, by go_num, by omega, by omega, hb, hinv.out.1, fun j h0 hj hpj => by
          by_cases e : j = k
          · rw [e, HP.out] at hpj; exact absurd hpj (by simp)
          · exact hinv.out.2 j h0 (by omega) hpj⟩
        case measure => simp [intOf]; omega
      | true =>
        have HP := Lib.hid hp
        clear hp
        go_wp2_with fail
        refine (text2_any (k : Int) _ (by omega)).mono ?_
        rintro e w' ⟨rfl, rfl⟩
        rw [txt_nat hlt]
        go_wp2_with fail
        refine (text2_any (b : Int) _ (by omega)).mono ?_
        rintro e w' ⟨rfl, rfl⟩
        rw [txt_nat hb]
        have t1 := tx_size k
        have t2 := tx_size b
        obtain ⟨tk, htk⟩ : ∃ t, tx k = t := ⟨_, rfl⟩
        obtain ⟨tb, htb⟩ : ∃ t, tx b = t := ⟨_, rfl⟩
        rw [htk] at t1 ⊢
        rw [htb] at t2 ⊢
        have HTK := Lib.hid htk
        have HTB := Lib.hid htb
        clear htk htb
        by_cases hsz : tb.size < tk.size
        · go_wp2
          go_round
          case rel => exact ⟨k, k + 1, rfl, by go_num, by omega, by omega, hlt, .inr HP.out, fun j h0 hj hpj => by
            by_cases e : j = k
            · rw [e]; exact Nat.le_refl _
            · have := hinv.out.2 j h0 (by omega) hpj
              rw [HTB.out] at this
              rw [HTK.out]
              omega⟩
          case measure => simp [intOf]; omega
        · go_wp2
          go_round
          case rel => exact ⟨b, k + 1, rfl, by go_num, by omega, by omega, hb, hinv.out.1, fun j h0 hj hpj => by
            by_cases e : j = k
            · rw [e, HTK.out, HTB.out]; omega
            · exact hinv.out.2 j h0 (by omega) hpj⟩
          case measure => simp [intOf]; omega
    · have HE := Lib.hid (lng_best (s := s) hb hinv.out.1 (fun j h0 hj => hinv.out.2 j h0 (by omega)))
      go_wp2
      go_ret
      exact ⟨ret_nat HE.out.symm, rfl⟩

theorem TB.kept {w w' : World} (h : TB w) (k : Kept nob w w') : TB w' := fun i hi => by
  rw [← h i hi]
  exact World.cell?_of_block (k.block 0 (World.block_lt_of_cell? w _ (h i hi)) (fun h => h))
def RetB (w0 : World) (b : Bool) (e : Ending) (w' : World) : Prop := e = .returned (.bool b) ∧ Kept nob w0 w'
def whl (s : ByteArray) : Bool := decide (fnd s ≠ 0) && decide ((mor s).length = 1)
theorem whl_nil {s : ByteArray} (h : s = ⟨#[]⟩) : whl s = false := by subst h; decide
theorem mor_len (s : ByteArray) : (mor s).length ≤ 18 := lst_len 18 (mf s)
theorem whole_any (s : ByteArray) (w : World) (hb : TB w) (hs : s.size ≤ 9223372036854775807) :
    Calls Tryd.prog 15 #[.string s] w (RetB w (whl s)) := by
  have HB := Lib.hid hb
  clear hb
  by_cases h0 : s = ⟨#[]⟩
  · have HE := Lib.hid (whl_nil h0)
    have hb0 : (s.toList == (⟨#[]⟩ : ByteArray).toList) = true := by rw [toList_eq]; simpa using h0
    have hb1 : s.toList.isEmpty = true := by rw [h0, ba_toList]; rfl
    subst h0
    go_enter Tryd.func15, Tryd.ntmps15
    go_wp2
    go_ret
    exact ⟨ret_bool HE.out.symm, Kept.refl _ _⟩
  · have hb0 : (s.toList == (⟨#[]⟩ : ByteArray).toList) = false := by rw [toList_eq]; simpa using h0
    have hb1 : s.toList.isEmpty = false := by
      cases h : s.toList.isEmpty with
      | false => rfl
      | true =>
        rw [List.isEmpty_iff] at h
        rw [h] at hb0
        have e : (⟨#[]⟩ : ByteArray).toList = [] := by rw [ba_toList]
        rw [e] at hb0
        simp at hb0
    clear h0 hb0
    obtain ⟨f, hf⟩ : ∃ f, fnd s = f := ⟨_, rfl⟩
    by_cases hf0 : f = 0
    · have h1 : ((f : Int) != 0) = false := by simp; omega
      have HE : Hid (whl s = false) := Lib.hid (by simp [whl, hf, hf0])
      have HF := Lib.hid hf
      clear hf hf0
      go_enter Tryd.func15, Tryd.ntmps15
      go_wp2_with fail
      refine (find_any s w HB.out).mono ?_
      rintro e w' ⟨rfl, rfl⟩
      rw [HF.out]
      go_wp2
      go_ret
      exact ⟨ret_bool HE.out.symm, Kept.refl _ _⟩
    · have h1 : ((f : Int) != 0) = true := by simp; omega
      have HE : Hid (whl s = decide ((mor s).length = 1)) := Lib.hid (by simp [whl, hf, hf0])
      have HF := Lib.hid hf
      clear hf hf0
      go_enter Tryd.func15, Tryd.ntmps15
      go_wp2_with fail
      refine (find_any s w HB.out).mono ?_
      rintro e w' ⟨rfl, rfl⟩
      rw [HF.out]
      go_wp2_with fail
      refine (more_any s w HB.out hs).mono ?_
      rintro e w1 ⟨a, cap, rfl, ho, hk⟩
      have hl := mor_len s
      rw [ivals_len]
      obtain ⟨n, hn⟩ : ∃ n, (mor s).length = n := ⟨_, rfl⟩
      rw [hn] at hl ⊢
      have HN := Lib.hid hn
      clear hn ho
      go_wp2
      go_ret
      exact ⟨ret_bool (by rw [HE.out, HN.out, Bool.eq_iff_iff]; simp; omega), hk⟩
theorem whole2_any (s : ByteArray) (w : World) (hs : s.size ≤ 9223372036854775807) :
    Calls Tryd.prog 16 #[.string s] w (RetB w (whl s)) := by
  obtain ⟨f, hf⟩ : ∃ f, fnd s = f := ⟨_, rfl⟩
  by_cases hf0 : f = 0
  · have h1 : ((f : Int) != 0) = false := by simp; omega
    have HE : Hid (whl s = false) := Lib.hid (by simp [whl, hf, hf0])
    have HF := Lib.hid hf
    clear hf hf0
    go_enter Tryd.func16, Tryd.ntmps16
    go_wp2_with fail
    refine (find2_any s w).mono ?_
    rintro e w' ⟨rfl, rfl⟩
    rw [HF.out]
    go_wp2
    go_ret
    exact ⟨ret_bool HE.out.symm, Kept.refl _ _⟩
  · have h1 : ((f : Int) != 0) = true := by simp; omega
    have HE : Hid (whl s = decide ((mor s).length = 1)) := Lib.hid (by simp [whl, hf, hf0])
    have HF := Lib.hid hf
    clear hf hf0
    go_enter Tryd.func16, Tryd.ntmps16
    go_wp2_with fail
    refine (find2_any s w).mono ?_
    rintro e w' ⟨rfl, rfl⟩
    rw [HF.out]
    go_wp2_with fail
    refine (more2_any s w hs).mono ?_
    rintro e w1 ⟨a, cap, rfl, ho, hk⟩
    have hl := mor_len s
    rw [ivals_len]
    obtain ⟨n, hn⟩ : ∃ n, (mor s).length = n := ⟨_, rfl⟩
    rw [hn] at hl ⊢
    have HN := Lib.hid hn
    clear hn ho
    go_wp2
    go_ret
    exact ⟨ret_bool (by rw [HE.out, HN.out, Bool.eq_iff_iff]; simp; omega), hk⟩
def rdr (op : Int) : Bool := decide (9 ≤ op ∧ op ≤ 17)
theorem redir_any (op : Int) (w : World) (h : -9223372036854775808 ≤ op ∧ op ≤ 9223372036854775807) :
    Calls Tryd.prog 17 #[.int .i64 op] w fun e w' => e = .returned (.bool (rdr op)) ∧ w = w' := by
  rcases (by omega : op < 9 ∨ (9 ≤ op ∧ op ≤ 17) ∨ (9 ≤ op ∧ 17 < op)) with h1 | ⟨h1, h2⟩ | ⟨h1, h2⟩
  all_goals
    go_enter Tryd.func17, Tryd.ntmps17
    go_wp2
    go_ret
    exact ⟨ret_bool (by rw [Bool.eq_iff_iff]; simp [rdr]; omega), rfl⟩
theorem redir2_any (op : Int) (w : World) (h : -9223372036854775808 ≤ op ∧ op ≤ 9223372036854775807) :
    Calls Tryd.prog 18 #[.int .i64 op] w fun e w' => e = .returned (.bool (rdr op)) ∧ w = w' := by
  rcases (by omega : op < 9 ∨ (9 ≤ op ∧ op ≤ 17) ∨ (9 ≤ op ∧ 17 < op)) with h1 | ⟨h1, h2⟩ | ⟨h1, h2⟩
  all_goals
    go_enter Tryd.func18, Tryd.ntmps18
    go_wp2
    go_ret
    exact ⟨ret_bool (by rw [Bool.eq_iff_iff]; simp [rdr]; omega), rfl⟩

end Go.Proofs.YthncceffgncagaaDoor

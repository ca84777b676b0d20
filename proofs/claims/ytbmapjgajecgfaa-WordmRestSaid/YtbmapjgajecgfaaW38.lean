/-
  What is proved: what missing and Rest do. Conditions: those of each theorem.
-/
import Derived.Test.YtbmapjgajecgfaaW37
set_option linter.unusedVariables false
set_option linter.unusedSimpArgs false
namespace Go.Proofs.Ytbmapjgajecgfaa
open Go.RowKit
def bs (L : List UInt8) : ByteArray := ⟨L.toArray⟩
theorem bs_app (L K : List UInt8) : bs L ++ bs K = bs (L ++ K) := by
  apply ByteArray.ext
  simp [bs, ByteArray.data_append]
def stMissing (s : St) : List UInt8 :=
  match s.kd with
  | 1 => [120]
  | 3 => [40, 48, 41, 41]
  | 5 => [120, 125]
  | 6 => [125]
  | 7 => [125]
  | 8 => [125]
  | 9 => [125]
  | 10 => [45, 125]
  | 11 => [125]
  | 12 => [39]
  | 13 => List.replicate s.dp.toNat 41 ++ [41, 41]
  | 14 => [41]
  | _ => []
theorem missing_len {s : St} (h : s.lim 90000) : (stMissing s).length ≤ 90002 := by
  have hd := h.2.2.2.2.2
  unfold stMissing
  split <;> simp <;> omega
def lvEnd (l : Lvl) : UInt8 := if l.wh = 1 then 34 else 125
def stRest (s : St) : List UInt8 := if s.kd = 16 ∨ s.kd = 17 then [] else stMissing s ++ (s.all.tail.reverse.map lvEnd)
def GotS (w0 : World) (L : List UInt8) (e : Ending) (w' : World) : Prop := e = .returned (.string (bs L)) ∧ Kept nob w0 w'
set_option maxHeartbeats 4000000 in
theorem missing_no {B : Nat} {w : World} {b : Nat} {C : Nat → Prop} {S : Sn} (h : Fam B w C (S.dat b)) (hk : S.kd ≤ 17) (h13 : S.kd ≠ 13) : Calls Try.prog 25 #[.pointer (some ⟨b, 0, none⟩)] w (GotS w (stMissing S.abs)) := by
  have hb := hd_at h
  have c2 : w.cell? ⟨b, 2, none⟩ = some (.int .i64 (S.kd : Int)) := by rw [cell_blk hb]; rfl
  obtain ⟨k, hk'⟩ : ∃ k, S.kd = k := ⟨_, rfl⟩
  have hka : S.abs.kd = k := hk'
  unfold stMissing
  rw [hka]
  rw [hk'] at c2 hk h13
  clear hb h hk' hka
  have key : k = 0 ∨ k = 1 ∨ k = 2 ∨ k = 3 ∨ k = 4 ∨ k = 5 ∨ k = 6 ∨ k = 7 ∨ k = 8 ∨ k = 9 ∨ k = 10 ∨ k = 11 ∨ k = 12 ∨ k = 14 ∨ k = 15 ∨ k = 16 ∨ k = 17 := by omega
  clear hk h13
  rcases key with rfl | rfl | rfl | rfl | rfl | rfl | rfl | rfl | rfl | rfl | rfl | rfl | rfl | rfl | rfl | rfl | rfl
  all_goals
    go_enter Try.func25, Try.ntmps25
    go_wp2
    go_ret
    exact ⟨rfl, Kept.refl _ _⟩
theorem rest_nil (w : World) : Calls Try.prog 11 #[.pointer none] w (GotS w []) := by
  go_enter Try.func11, Try.ntmps11
  go_wp2
  go_ret
  exact ⟨rfl, Kept.refl _ _⟩
theorem drop_end {S : Sn} {k : Nat} (hk : k < S.all.length) {l : LvM} (hl : S.all[k]? = some l) : ((S.abs.all.drop k).reverse.map lvEnd) = ((S.abs.all.drop (k + 1)).reverse.map lvEnd) ++ [lvEnd l.abs] := by
  have hd : S.abs.all.drop k = l.abs :: S.abs.all.drop (k + 1) := by
    rw [List.drop_eq_getElem_cons (by rw [abs_all]; simpa using hk)]
    congr 1
    have := List.getElem?_eq_some_iff.1 hl
    obtain ⟨_, h⟩ := this
    simp [abs_all, h]
  rw [hd]
  simp
theorem lv_cell (L : List LvM) (k : Nat) (l : LvM) (hl : L[k]? = some l) (j : Nat) (hj : j < 5) : (L.flatMap LvM.cells)[k * 5 + j]? = l.cells[j]? := by
  induction L generalizing k with
  | nil => simp at hl
  | cons x L ih =>
    rw [List.flatMap_cons]
    rcases k with _ | k
    · simp at hl
      subst hl
      rw [List.getElem?_append_left (by show 0 * 5 + j < 5; omega)]
      simp
    · rw [List.getElem?_append_right (by show 5 ≤ _; omega)]
      have := ih k (by simpa using hl)
      rw [← this]
      congr 1
      show (k + 1) * 5 + j - 5 = _
      omega
set_option maxHeartbeats 4000000 in
theorem rest_of {B : Nat} {w : World} {b : Nat} {C : Nat → Prop} {S : Sn} (h : Fam B w C (S.dat b)) (hk : S.kd ≤ 17) (hlm : S.abs.lim 90000) (hm : Calls Try.prog 25 #[.pointer (some ⟨b, 0, none⟩)] w (GotS w (stMissing S.abs))) : Calls Try.prog 11 #[.pointer (some ⟨b, 0, none⟩)] w (GotS w (stRest S.abs)) := by
  have hb := hd_at h
  have c2 : w.cell? ⟨b, 2, none⟩ = some (.int .i64 (S.kd : Int)) := by rw [cell_blk hb]; rfl
  by_cases hx : S.kd = 16 ∨ S.kd = 17
  · have e : stRest S.abs = [] := if_pos hx
    rw [e]
    obtain ⟨k, hk'⟩ : ∃ k, S.kd = k := ⟨_, rfl⟩
    rw [hk'] at c2 hx
    clear e hb h hk hm hk'
    rcases hx with rfl | rfl
    all_goals
      go_enter Try.func11, Try.ntmps11
      go_wp2
      go_ret
      exact ⟨rfl, Kept.refl _ _⟩
  · have e : stRest S.abs = stMissing S.abs ++ (S.abs.all.tail.reverse.map lvEnd) := if_neg hx
    have HE := Lib.hid e
    have H := Lib.hid h
    have HMS0 := Lib.hid (missing_len hlm)
    have HNN0 : Hid (S.lo.length ≤ 90000) := Lib.hid (by have := hlm.1; simpa [Sn.abs] using this)
    clear hlm
    have HM := Lib.hid hm
    obtain ⟨k, hk'⟩ : ∃ k : Int, (S.kd : Int) = k := ⟨_, rfl⟩
    have k16 : (k == 16) = false := by simp only [beq_eq_false_iff_ne, ne_eq]; omega
    have k17 : (k == 17) = false := by simp only [beq_eq_false_iff_ne, ne_eq]; omega
    rw [hk'] at c2
    clear e h hk hm hx hk' hb
    go_enter Try.func11, Try.ntmps11
    go_wp2_with fail
    refine HM.out.mono ?_
    rintro e w1 ⟨rfl, hk1⟩
    have F1 := Lib.hid (H.out.frame hk1 (fun _ _ h => h))
    obtain ⟨g, cap, cur, hl, hB, hg, hn, hmm, hcs, htk⟩ := lv_at F1.out
    have hb1 := hd_at F1.out
    have c0 : w1.cell? ⟨b, 0, none⟩ = some S.lvv := by rw [cell_blk hb1]; rfl
    have o0 : w1.ownsRow B 55 5 (.slice (some ⟨g, 0, none⟩) (S.lo.length + 1) cap) (S.lo.length + 1) (S.all.flatMap LvM.cells) := by
      have := F1.out.comp .lv
      simp only [Sn.dat, Comp, hl] at this
      exact this
    rw [hl] at c0
    have HK1 := Lib.hid hk1
    have HO := Lib.hid o0
    obtain ⟨n, hn'⟩ : ∃ n, S.lo.length = n := ⟨_, rfl⟩
    rw [hn'] at c0 hn HO
    have hz : S.all.length = n + 1 := by simp [Sn.all, hn']
    have HZ := Lib.hid hz
    unfold maxLen at hmm
    obtain ⟨ms, hms⟩ : ∃ ms, stMissing S.abs = ms := ⟨_, rfl⟩
    rw [hms] at HE ⊢
    have HMS : Hid (ms.length ≤ 90002) := Lib.hid (by rw [← hms]; exact HMS0.out)
    have HNN : Hid (n ≤ 90000) := Lib.hid (by rw [← hn']; exact HNN0.out)
    clear hk1 hb1 hg hcs htk hl hn' hz o0 hms c2 k16 k17
    go_wp2
    obtain ⟨X0, hX0⟩ : ∃ X0, bs ms = X0 := ⟨_, rfl⟩
    rw [hX0]
    have HX0 := Lib.hid hX0
    clear hX0
    go_loop [3, 4] (fun s i => ∃ (k : Nat) (X : ByteArray), k ≤ n ∧ i = .int .i64 k ∧ s = .string X ∧ Hid (X = bs (ms ++ ((S.abs.all.drop (k + 1)).reverse.map lvEnd)))) (fun _ i => (intOf i).toNat)
    case atStart =>
      refine ⟨n, X0, Nat.le_refl _, rfl, rfl, Lib.hid ?_⟩
      rw [List.drop_eq_nil_of_le (by rw [abs_all]; simp [HZ.out]), ← HX0.out]
      simp
    case round =>
      obtain ⟨k, X, hkn, rfl, rfl, HX⟩ := hrel
      rcases Nat.eq_zero_or_pos k with rfl | hpos
      · have HE2 : Hid (bs (stRest S.abs) = X) := Lib.hid (by rw [HE.out, HX.out]; simp)
        clear HE
        go_wp2
        go_ret
        exact ⟨by rw [HE2.out]; rfl, HK1.out⟩
      · obtain ⟨l, hl⟩ : ∃ l, S.all[k]? = some l := ⟨_, List.getElem?_eq_getElem (by rw [HZ.out]; omega)⟩
        have hde := drop_end (S := S) (by rw [HZ.out]; omega) hl
        have cw : w1.cell? ⟨g, k * 5, none⟩ = some (.int .i64 l.wh) := by
          rw [own_cell HO.out (by omega)]
          have := lv_cell S.all k l hl 0
          exact this (by omega)
        have HDE := Lib.hid hde
        clear hde hl
        have hpi : (0 : Int) < (k : Int) := by omega
        have hki : (k : Int) < (n : Int) + 1 := by omega
        have hkc : k < n + 1 := by omega
        have hXs : X.size ≤ 200000 := by
          rw [HX.out]
          show (ms ++ _).toArray.size ≤ _
          have h1 := HMS.out
          have h2 := HZ.out
          have h3 := HNN.out
          simp only [List.size_toArray, List.length_append, List.length_map, List.length_reverse, List.length_drop, abs_all, h2]
          omega
        have hw : Hid (∀ u : UInt8, (Op.stringOp .add X ⟨#[u]⟩).run Try.prog w1 = .ok (.string (X ++ ⟨#[u]⟩)) w1) := Lib.hid (fun u => run_string_add_sum w1 X ⟨#[u]⟩ (by show X.size + 1 ≤ _; omega))
        have hw34 := hw.out 34
        have hw125 := hw.out 125
        obtain ⟨Y34, hY34⟩ : ∃ Y, X ++ ⟨#[34]⟩ = Y := ⟨_, rfl⟩
        obtain ⟨Y125, hY125⟩ : ∃ Y, X ++ ⟨#[125]⟩ = Y := ⟨_, rfl⟩
        rw [hY34] at hw34
        rw [hY125] at hw125
        have HY34 : Hid (l.wh = 1 → Y34 = bs (ms ++ ((S.abs.all.drop k).reverse.map lvEnd))) := Lib.hid (fun e => by
          rw [← hY34, HX.out, HDE.out, ← List.append_assoc, ← bs_app _ [lvEnd l.abs]]
          have : lvEnd l.abs = 34 := if_pos e
          rw [this]; rfl)
        have HY125 : Hid (l.wh ≠ 1 → Y125 = bs (ms ++ ((S.abs.all.drop k).reverse.map lvEnd))) := Lib.hid (fun e => by
          rw [← hY125, HX.out, HDE.out, ← List.append_assoc, ← bs_app _ [lvEnd l.abs]]
          have : lvEnd l.abs = 125 := if_neg e
          rw [this]; rfl)
        obtain ⟨wh, hwh⟩ : ∃ wh, l.wh = wh := ⟨_, rfl⟩
        rw [hwh] at cw HY34 HY125
        clear hwh hY34 hY125 hXs
        obtain ⟨j, rfl⟩ : ∃ j, k = j + 1 := ⟨k - 1, by omega⟩
        by_cases h1 : wh = 1
        · have w1' : (wh == 1) = true := by simpa using h1
          have HF : Hid (Y34 = bs (ms ++ ((S.abs.all.drop (j + 1)).reverse.map lvEnd))) := Lib.hid (HY34.out h1)
          clear h1
          go_wp2
          go_round
          case rel => exact ⟨j, Y34, by omega, by go_num, rfl, HF⟩
          case measure => simp [intOf]
        · have w1' : (wh == 1) = false := by simpa using h1
          have HF : Hid (Y125 = bs (ms ++ ((S.abs.all.drop (j + 1)).reverse.map lvEnd))) := Lib.hid (HY125.out h1)
          clear h1
          go_wp2
          go_round
          case rel => exact ⟨j, Y125, by omega, by go_num, rfl, HF⟩
          case measure => simp [intOf]
end Go.Proofs.Ytbmapjgajecgfaa

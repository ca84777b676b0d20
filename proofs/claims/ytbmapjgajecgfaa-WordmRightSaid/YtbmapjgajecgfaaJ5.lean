/-
  What is proved: what Raw, Deep and Close do; what Word does; what missing and Rest do; a machine that was fed few bytes has short lists; the law package function awake returns true; what strings.Repeat does (laid by the kit's shelf); what missing and Rest do, in every state; which parts are right, as the document says it, and lemmas on it. Conditions: those of each theorem.
-/
import Derived.Test.YtbmapjgajecgfaaJ4
import Derived.Shelf.Strings.Repeat
import Derived.Shelf.Strings.Builder2
import Derived.Test.YtbmapjgajecgfaaProg
set_option linter.unusedVariables false
set_option linter.unusedSimpArgs false
namespace Go.Proofs.Ytbmapjgajecgfaa
open Go.RowKit
def stRaw (s : St) : Bool := decide (s.kd = 1 ∨ s.kd = 12 ∨ s.kd = 13 ∨ s.kd = 14)
theorem raw_nil (w : World) : Calls Try.prog 10 #[.pointer none] w fun e w' => e = .returned (.bool false) ∧ w = w' := by
  go_enter Try.func10, Try.ntmps10
  go_wp2
  go_ret
  exact ⟨rfl, rfl⟩
theorem raw_any {B : Nat} {w : World} {b : Nat} {C : Nat → Prop} {S : Sn} (h : Fam B w C (S.dat b)) : Calls Try.prog 10 #[.pointer (some ⟨b, 0, none⟩)] w fun e w' => e = .returned (.bool (stRaw S.abs)) ∧ w = w' := by
  have hb := hd_at h
  have c2 : w.cell? ⟨b, 2, none⟩ = some (.int .i64 (S.kd : Int)) := by rw [cell_blk hb]; rfl
  obtain ⟨k, hk⟩ : ∃ k : Int, (S.kd : Int) = k := ⟨_, rfl⟩
  have e : stRaw S.abs = decide (k = 1 ∨ k = 12 ∨ k = 13 ∨ k = 14) := by
    unfold stRaw
    rw [Bool.eq_iff_iff]
    simp only [decide_eq_true_eq, ← hk]
    show (S.kd = 1 ∨ S.kd = 12 ∨ S.kd = 13 ∨ S.kd = 14) ↔ _
    omega
  rw [e]
  rw [hk] at c2
  clear e hk hb h
  have key : (k == 1) = true ∨ ((k == 1) = false ∧ (k == 12) = true) ∨ ((k == 1) = false ∧ (k == 12) = false ∧ (k == 13) = true) ∨ ((k == 1) = false ∧ (k == 12) = false ∧ (k == 13) = false ∧ (k == 14) = true) ∨ ((k == 1) = false ∧ (k == 12) = false ∧ (k == 13) = false ∧ (k == 14) = false) := by
    simp only [beq_iff_eq, beq_eq_false_iff_ne, ne_eq]
    omega
  rcases key with k1 | ⟨k1, k2⟩ | ⟨k1, k2, k3⟩ | ⟨k1, k2, k3, k4⟩ | ⟨k1, k2, k3, k4⟩
  all_goals
    go_enter Try.func10, Try.ntmps10
    go_wp2
    go_ret
    refine ⟨ret_bool ?_, rfl⟩
    simp_all
theorem deep_nil (w : World) : Calls Try.prog 14 #[.pointer none] w fun e w' => e = .returned (.int .i64 0) ∧ w = w' := by
  go_enter Try.func14, Try.ntmps14
  go_wp2
  go_ret
  exact ⟨rfl, rfl⟩
theorem deep_any {B : Nat} {w : World} {b : Nat} {C : Nat → Prop} {S : Sn} (h : Fam B w C (S.dat b)) : Calls Try.prog 14 #[.pointer (some ⟨b, 0, none⟩)] w fun e w' => e = .returned (.int .i64 (S.abs.lo.length : Int)) ∧ w = w' := by
  obtain ⟨g, cap, cur, hl, hB, hg, hn, hm, hcs, htk⟩ := lv_at h
  have hb := hd_at h
  have c0 : w.cell? ⟨b, 0, none⟩ = some S.lvv := by rw [cell_blk hb]; rfl
  rw [hl] at c0
  have e : S.abs.lo.length = S.lo.length := by simp [Sn.abs]
  rw [e]
  unfold maxLen at hm
  obtain ⟨n, hn'⟩ : ∃ n, S.lo.length = n := ⟨_, rfl⟩
  rw [hn'] at c0 hn ⊢
  have hi : IntKind.i64.wrap ((n : Int) + 1 - 1) = n := by
    rw [show (n : Int) + 1 - 1 = n by omega]; exact IntWalk.i64_in _ (by omega)
  clear h hb hg hl e hn' htk
  go_enter Try.func14, Try.ntmps14
  go_wp2
  go_ret
  refine ⟨ret_int ?_, rfl⟩
  first | rfl | omega | simp
def stClose (s : St) (cm : Nat) : Bool × St := if s.kd = 15 then (true, (s.add (.mk 6 ⟨#[]⟩ ⟨#[]⟩ [] cm)).turn 0) else (false, s)
def RetB (B : Nat) (w0 : World) (b : Nat) (C : Nat → Prop) (S : Sn) (r : Bool × St) (e : Ending) (w' : World) : Prop :=
  ∃ (C' : Nat → Prop) (S' : Sn), e = .returned (.bool r.1) ∧ Stp B w0 C (S.dat b) w' C' (S'.dat b) ∧ S'.abs = r.2
theorem close_nil (v : Value) (w : World) : Calls Try.prog 13 #[.pointer none, v] w fun e w' => e = .returned (.bool false) ∧ w = w' := by
  go_enter Try.func13, Try.ntmps13
  go_wp2
  go_ret
  exact ⟨rfl, rfl⟩
theorem close_any {B : Nat} {w : World} {b : Nat} {C : Nat → Prop} {S : Sn} (h : Fam B w C (S.dat b)) (hok : S.ok) (ca : Option Addr) (cm cc : Nat) :
    Calls Try.prog 13 #[.pointer (some ⟨b, 0, none⟩), .slice ca cm cc] w (RetB B w b C S (stClose S.abs cm)) := by
  have hb := hd_at h
  have c2 : w.cell? ⟨b, 2, none⟩ = some (.int .i64 (S.kd : Int)) := by rw [cell_blk hb]; rfl
  obtain ⟨k, hk⟩ : ∃ k : Int, (S.kd : Int) = k := ⟨_, rfl⟩
  have e : stClose S.abs cm = if k = 15 then (true, (S.abs.add (.mk 6 ⟨#[]⟩ ⟨#[]⟩ [] cm)).turn 0) else (false, S.abs) := by
    unfold stClose
    have : (S.abs.kd = 15) = (k = 15) := propext (by rw [← hk]; show S.kd = 15 ↔ _; omega)
    simp only [this]
  have HE := Lib.hid e
  have H := Lib.hid h
  have HOT := Lib.hid hok.tp
  rw [hk] at c2
  clear e hk hb h hok
  by_cases h15 : k = 15
  · have k15 : (k == 15) = true := by simpa using h15
    have n15 : (k != 15) = false := by simpa using h15
    have HE2 := Lib.hid (HE.out.trans (if_pos h15))
    clear HE h15
    go_enter Try.func13, Try.ntmps13
    go_wp2_with fail
    refine (add_any H.out (by have := HOT.out; omega) (by have := HOT.out; omega) 6 ⟨#[]⟩ ⟨#[]⟩ none 0 0 [] ca cm cc (.inl ⟨none, 0, rfl, rfl⟩)).mono ?_
    rintro e w' ⟨v1, v2, rfl, hs⟩
    have HS := Lib.hid hs
    clear hs
    go_wp2_with fail
    refine (turn_any HS.out.1 0 (by omega)).mono ?_
    rintro e w' ⟨rfl, hs⟩
    go_wp2
    go_ret
    rw [HE2.out]
    exact ⟨C, _, rfl, HS.out.trans hs, congrArg (fun s => St.turn s 0) (added_abs S (.mk 6 ⟨#[]⟩ ⟨#[]⟩ [] cm) v1 v2)⟩
  · have k15 : (k == 15) = false := by simpa using h15
    have n15 : (k != 15) = true := by simpa using h15
    have HE2 := Lib.hid (HE.out.trans (if_neg h15))
    clear HE h15
    go_enter Try.func13, Try.ntmps13
    go_wp2_with fail
    go_ret
    rw [HE2.out]
    exact ⟨C, S, rfl, Stp.refl H.out, rfl⟩
end Go.Proofs.Ytbmapjgajecgfaa
set_option linter.unusedVariables false
set_option linter.unusedSimpArgs false
namespace Go.Proofs.Ytbmapjgajecgfaa
open Go.RowKit
def WordNo (w0 : World) (e : Ending) (w' : World) : Prop := e = .returned (.tuple #[.agg #[.slice none 0 0], .bool false]) ∧ Kept nob w0 w'
def WordOk (w0 : World) (v : Value) (e : Ending) (w' : World) : Prop := e = .returned (.tuple #[.agg #[v], .bool true]) ∧ Kept nob w0 w'
theorem word_nil (w : World) : Calls Try.prog 15 #[.pointer none] w (WordNo w) := by
  go_enter Try.func15, Try.ntmps15
  go_wp2
  exact bodyPost_ret (v := .tuple #[.agg #[.slice none 0 0], .bool false]) (by simp [results, Try.results15, go_sem]) rfl ⟨rfl, Kept.alloc _ _ _⟩
/-- The first level. -/
def Sn.bot (S : Sn) : LvM := S.lo.headD S.tp
theorem all_bot (S : Sn) : ∃ r, S.all = S.bot :: r := by
  unfold Sn.all Sn.bot
  rcases S.lo with _ | ⟨x, t⟩
  · exact ⟨[], rfl⟩
  · exact ⟨_, rfl⟩
theorem word_ok {B : Nat} {w : World} {b : Nat} {C : Nat → Prop} {S : Sn} (h : Fam B w C (S.dat b)) (hk : S.kd = 16) : Calls Try.prog 15 #[.pointer (some ⟨b, 0, none⟩)] w (WordOk w S.bot.pv) := by
  obtain ⟨g, cap, cur, hl, hB, hg, hn, hm, hcs, htk⟩ := lv_at h
  have hb := hd_at h
  have c0 : w.cell? ⟨b, 0, none⟩ = some S.lvv := by rw [cell_blk hb]; rfl
  have c2 : w.cell? ⟨b, 2, none⟩ = some (.int .i64 16) := by rw [cell_blk hb]; show some (Value.int .i64 (S.kd : Int)) = _; rw [hk]; rfl
  have o0 : w.ownsRow B 55 5 (.slice (some ⟨g, 0, none⟩) (S.lo.length + 1) cap) (S.lo.length + 1) (S.all.flatMap LvM.cells) := by
    have := h.comp .lv
    simp only [Sn.dat, Comp, hl] at this
    exact this
  have g1 : w.cell? ⟨g, 1, none⟩ = some S.bot.pv := by
    rw [own_cell o0 (by omega)]
    obtain ⟨r, hr⟩ := all_bot S
    rw [hr]
    rfl
  rw [hl] at c0
  obtain ⟨pa, pn, pc, hpv⟩ : ∃ pa pn pc, S.bot.pv = .slice pa pn pc := by
    obtain ⟨r, hr⟩ := all_bot S
    have := h.comp (.ps 0)
    have e : S.dat b (.ps 0) = .prow 49 S.bot.pv S.bot.ps := by
      show (match S.all[0]? with | some l => Dat.prow 49 l.pv l.ps | none => .nothing) = _
      rw [hr]; rfl
    rw [e] at this
    obtain ⟨vs, h1, h2⟩ := this
    obtain ⟨a, c, e2⟩ := own_slice h1
    exact ⟨_, _, _, e2⟩
  have hbz := lt_blk hb
  have hgz := World.block_lt_of_cell? w _ g1
  have a0 : ∀ o, (w.alloc o).cell? ⟨b, 0, none⟩ = some (.slice (some ⟨g, 0, none⟩) (S.lo.length + 1) cap) := fun o => by rw [World.cell?_alloc_past _ _ _ hbz]; exact c0
  have a2 : ∀ o, (w.alloc o).cell? ⟨b, 2, none⟩ = some (.int .i64 16) := fun o => by rw [World.cell?_alloc_past _ _ _ hbz]; exact c2
  have ag : ∀ o, (w.alloc o).cell? ⟨g, 1, none⟩ = some S.bot.pv := fun o => by rw [World.cell?_alloc_past _ _ _ hgz]; exact g1
  obtain ⟨n, hn'⟩ : ∃ n, S.lo.length = n := ⟨_, rfl⟩
  rw [hn'] at c0 a0
  have hnn : 0 < n + 1 := by omega
  have hnz : (0 : Int) < (n : Int) + 1 := by omega
  clear h hb hg hl hn hcs htk hn' o0 hbz hgz c0 c2 g1
  rw [hpv] at ag ⊢
  go_enter Try.func15, Try.ntmps15
  go_wp2
  exact bodyPost_ret (v := .tuple #[.agg #[.slice pa pn pc], .bool true]) (by simp [results, Try.results15, go_sem]) rfl ⟨rfl, Kept.alloc _ _ _⟩
theorem word_no {B : Nat} {w : World} {b : Nat} {C : Nat → Prop} {S : Sn} (h : Fam B w C (S.dat b)) (hk : S.kd ≠ 16) : Calls Try.prog 15 #[.pointer (some ⟨b, 0, none⟩)] w (WordNo w) := by
  have hb := hd_at h
  have c2 : w.cell? ⟨b, 2, none⟩ = some (.int .i64 (S.kd : Int)) := by rw [cell_blk hb]; rfl
  have hbz := lt_blk hb
  obtain ⟨k, hk'⟩ : ∃ k : Int, (S.kd : Int) = k := ⟨_, rfl⟩
  rw [hk'] at c2
  have a2 : ∀ o, (w.alloc o).cell? ⟨b, 2, none⟩ = some (.int .i64 k) := fun o => by rw [World.cell?_alloc_past _ _ _ hbz]; exact c2
  have k1 : (k == 16) = false := by simp only [beq_eq_false_iff_ne, ne_eq]; omega
  have k2 : (k != 16) = true := by simp only [bne, k1]; rfl
  clear h hb hk hk' hbz c2
  go_enter Try.func15, Try.ntmps15
  go_wp2
  exact bodyPost_ret (v := .tuple #[.agg #[.slice none 0 0], .bool false]) (by simp [results, Try.results15, go_sem]) rfl ⟨rfl, Kept.alloc _ _ _⟩
end Go.Proofs.Ytbmapjgajecgfaa
set_option linter.unusedVariables false
set_option linter.unusedSimpArgs false
namespace Go.Proofs.Ytbmapjgajecgfaa
open Go.RowKit
def bs (L : List UInt8) : ByteArray := ⟨L.toArray⟩
theorem bs_app (L K : List UInt8) : bs L ++ bs K = bs (L ++ K) := by
  apply ByteArray.ext
  simp [bs, ByteArray.data_append]
def stMissing (s : St) : List UInt8 :=
  match s.kd with
  | 1 => [120]
  | 3 => [40, 48, 41, 41]
  | 5 => [120, 125]
  | 6 => [125]
  | 7 => [125]
  | 8 => [125]
  | 9 => [125]
  | 10 => [45, 125]
  | 11 => [125]
  | 12 => [39]
  | 13 => List.replicate s.dp.toNat 41 ++ [41, 41]
  | 14 => [41]
  | _ => []
theorem missing_len {s : St} (h : s.lim 90000) : (stMissing s).length ≤ 90002 := by
  have hd := h.2.2.2.2.2
  unfold stMissing
  split <;> simp <;> omega
def lvEnd (l : Lvl) : UInt8 := if l.wh = 1 then 34 else 125
def stRest (s : St) : List UInt8 := if s.kd = 16 ∨ s.kd = 17 then [] else stMissing s ++ (s.all.tail.reverse.map lvEnd)
def GotS (w0 : World) (L : List UInt8) (e : Ending) (w' : World) : Prop := e = .returned (.string (bs L)) ∧ Kept nob w0 w'
set_option maxHeartbeats 4000000 in
theorem missing_no {B : Nat} {w : World} {b : Nat} {C : Nat → Prop} {S : Sn} (h : Fam B w C (S.dat b)) (hk : S.kd ≤ 17) (h13 : S.kd ≠ 13) : Calls Try.prog 25 #[.pointer (some ⟨b, 0, none⟩)] w (GotS w (stMissing S.abs)) := by
  have hb := hd_at h
  have c2 : w.cell? ⟨b, 2, none⟩ = some (.int .i64 (S.kd : Int)) := by rw [cell_blk hb]; rfl
  obtain ⟨k, hk'⟩ : ∃ k, S.kd = k := ⟨_, rfl⟩
  have hka : S.abs.kd = k := hk'
  unfold stMissing
  rw [hka]
  rw [hk'] at c2 hk h13
  clear hb h hk' hka
  have key : k = 0 ∨ k = 1 ∨ k = 2 ∨ k = 3 ∨ k = 4 ∨ k = 5 ∨ k = 6 ∨ k = 7 ∨ k = 8 ∨ k = 9 ∨ k = 10 ∨ k = 11 ∨ k = 12 ∨ k = 14 ∨ k = 15 ∨ k = 16 ∨ k = 17 := by omega
  clear hk h13
  rcases key with rfl | rfl | rfl | rfl | rfl | rfl | rfl | rfl | rfl | rfl | rfl | rfl | rfl | rfl | rfl | rfl | rfl
  all_goals
    go_enter Try.func25, Try.ntmps25
    go_wp2
    go_ret
    exact ⟨rfl, Kept.refl _ _⟩
theorem rest_nil (w : World) : Calls Try.prog 11 #[.pointer none] w (GotS w []) := by
  go_enter Try.func11, Try.ntmps11
  go_wp2
  go_ret
  exact ⟨rfl, Kept.refl _ _⟩
theorem drop_end {S : Sn} {k : Nat} (hk : k < S.all.length) {l : LvM} (hl : S.all[k]? = some l) : ((S.abs.all.drop k).reverse.map lvEnd) = ((S.abs.all.drop (k + 1)).reverse.map lvEnd) ++ [lvEnd l.abs] := by
  have hd : S.abs.all.drop k = l.abs :: S.abs.all.drop (k + 1) := by
    rw [List.drop_eq_getElem_cons (by rw [abs_all]; simpa using hk)]
    congr 1
    have := List.getElem?_eq_some_iff.1 hl
    obtain ⟨_, h⟩ := this
    simp [abs_all, h]
  rw [hd]
  simp
theorem lv_cell (L : List LvM) (k : Nat) (l : LvM) (hl : L[k]? = some l) (j : Nat) (hj : j < 5) : (L.flatMap LvM.cells)[k * 5 + j]? = l.cells[j]? := by
  induction L generalizing k with
  | nil => simp at hl
  | cons x L ih =>
    rw [List.flatMap_cons]
    rcases k with _ | k
    · simp at hl
      subst hl
      rw [List.getElem?_append_left (by show 0 * 5 + j < 5; omega)]
      simp
    · rw [List.getElem?_append_right (by show 5 ≤ _; omega)]
      have := ih k (by simpa using hl)
      rw [← this]
      congr 1
      show (k + 1) * 5 + j - 5 = _
      omega
set_option maxHeartbeats 4000000 in
theorem rest_of {B : Nat} {w : World} {b : Nat} {C : Nat → Prop} {S : Sn} (h : Fam B w C (S.dat b)) (hk : S.kd ≤ 17) (hlm : S.abs.lim 90000) (hm : Calls Try.prog 25 #[.pointer (some ⟨b, 0, none⟩)] w (GotS w (stMissing S.abs))) : Calls Try.prog 11 #[.pointer (some ⟨b, 0, none⟩)] w (GotS w (stRest S.abs)) := by
  have hb := hd_at h
  have c2 : w.cell? ⟨b, 2, none⟩ = some (.int .i64 (S.kd : Int)) := by rw [cell_blk hb]; rfl
  by_cases hx : S.kd = 16 ∨ S.kd = 17
  · have e : stRest S.abs = [] := if_pos hx
    rw [e]
    obtain ⟨k, hk'⟩ : ∃ k, S.kd = k := ⟨_, rfl⟩
    rw [hk'] at c2 hx
    clear e hb h hk hm hk'
    rcases hx with rfl | rfl
    all_goals
      go_enter Try.func11, Try.ntmps11
      go_wp2
      go_ret
      exact ⟨rfl, Kept.refl _ _⟩
  · have e : stRest S.abs = stMissing S.abs ++ (S.abs.all.tail.reverse.map lvEnd) := if_neg hx
    have HE := Lib.hid e
    have H := Lib.hid h
    have HMS0 := Lib.hid (missing_len hlm)
    have HNN0 : Hid (S.lo.length ≤ 90000) := Lib.hid (by have := hlm.1; simpa [Sn.abs] using this)
    clear hlm
    have HM := Lib.hid hm
    obtain ⟨k, hk'⟩ : ∃ k : Int, (S.kd : Int) = k := ⟨_, rfl⟩
    have k16 : (k == 16) = false := by simp only [beq_eq_false_iff_ne, ne_eq]; omega
    have k17 : (k == 17) = false := by simp only [beq_eq_false_iff_ne, ne_eq]; omega
    rw [hk'] at c2
    clear e h hk hm hx hk' hb
    go_enter Try.func11, Try.ntmps11
    go_wp2_with fail
    refine HM.out.mono ?_
    rintro e w1 ⟨rfl, hk1⟩
    have F1 := Lib.hid (H.out.frame hk1 (fun _ _ h => h))
    obtain ⟨g, cap, cur, hl, hB, hg, hn, hmm, hcs, htk⟩ := lv_at F1.out
    have hb1 := hd_at F1.out
    have c0 : w1.cell? ⟨b, 0, none⟩ = some S.lvv := by rw [cell_blk hb1]; rfl
    have o0 : w1.ownsRow B 55 5 (.slice (some ⟨g, 0, none⟩) (S.lo.length + 1) cap) (S.lo.length + 1) (S.all.flatMap LvM.cells) := by
      have := F1.out.comp .lv
      simp only [Sn.dat, Comp, hl] at this
      exact this
    rw [hl] at c0
    have HK1 := Lib.hid hk1
    have HO := Lib.hid o0
    obtain ⟨n, hn'⟩ : ∃ n, S.lo.length = n := ⟨_, rfl⟩
    rw [hn'] at c0 hn HO
    have hz : S.all.length = n + 1 := by simp [Sn.all, hn']
    have HZ := Lib.hid hz
    unfold maxLen at hmm
    obtain ⟨ms, hms⟩ : ∃ ms, stMissing S.abs = ms := ⟨_, rfl⟩
    rw [hms] at HE ⊢
    have HMS : Hid (ms.length ≤ 90002) := Lib.hid (by rw [← hms]; exact HMS0.out)
    have HNN : Hid (n ≤ 90000) := Lib.hid (by rw [← hn']; exact HNN0.out)
    clear hk1 hb1 hg hcs htk hl hn' hz o0 hms c2 k16 k17
    go_wp2
    obtain ⟨X0, hX0⟩ : ∃ X0, bs ms = X0 := ⟨_, rfl⟩
    rw [hX0]
    have HX0 := Lib.hid hX0
    clear hX0
    go_loop [3, 4] (fun s i => ∃ (k : Nat) (X : ByteArray), k ≤ n ∧ i = .int .i64 k ∧ s = .string X ∧ Hid (X = bs (ms ++ ((S.abs.all.drop (k + 1)).reverse.map lvEnd)))) (fun _ i => (intOf i).toNat)
    case atStart =>
      refine ⟨n, X0, Nat.le_refl _, rfl, rfl, Lib.hid ?_⟩
      rw [List.drop_eq_nil_of_le (by rw [abs_all]; simp [HZ.out]), ← HX0.out]
      simp
    case round =>
      obtain ⟨k, X, hkn, rfl, rfl, HX⟩ := hrel
      rcases Nat.eq_zero_or_pos k with rfl | hpos
      · have HE2 : Hid (bs (stRest S.abs) = X) := Lib.hid (by rw [HE.out, HX.out]; simp)
        clear HE
        go_wp2
        go_ret
        exact ⟨by rw [HE2.out]; rfl, HK1.out⟩
      · obtain ⟨l, hl⟩ : ∃ l, S.all[k]? = some l := ⟨_, List.getElem?_eq_getElem (by rw [HZ.out]; omega)⟩
        have hde := drop_end (S := S) (by rw [HZ.out]; omega) hl
        have cw : w1.cell? ⟨g, k * 5, none⟩ = some (.int .i64 l.wh) := by
          rw [own_cell HO.out (by omega)]
          have := lv_cell S.all k l hl 0
          exact this (by omega)
        have HDE := Lib.hid hde
        clear hde hl
        have hpi : (0 : Int) < (k : Int) := by omega
        have hki : (k : Int) < (n : Int) + 1 := by omega
        have hkc : k < n + 1 := by omega
        have hXs : X.size ≤ 200000 := by
          rw [HX.out]
          show (ms ++ _).toArray.size ≤ _
          have h1 := HMS.out
          have h2 := HZ.out
          have h3 := HNN.out
          simp only [List.size_toArray, List.length_append, List.length_map, List.length_reverse, List.length_drop, abs_all, h2]
          omega
        have hw : Hid (∀ u : UInt8, (Op.stringOp .add X ⟨#[u]⟩).run Try.prog w1 = .ok (.string (X ++ ⟨#[u]⟩)) w1) := Lib.hid (fun u => run_string_add_sum w1 X ⟨#[u]⟩ (by show X.size + 1 ≤ _; omega))
        have hw34 := hw.out 34
        have hw125 := hw.out 125
        obtain ⟨Y34, hY34⟩ : ∃ Y, X ++ ⟨#[34]⟩ = Y := ⟨_, rfl⟩
        obtain ⟨Y125, hY125⟩ : ∃ Y, X ++ ⟨#[125]⟩ = Y := ⟨_, rfl⟩
        rw [hY34] at hw34
        rw [hY125] at hw125
        have HY34 : Hid (l.wh = 1 → Y34 = bs (ms ++ ((S.abs.all.drop k).reverse.map lvEnd))) := Lib.hid (fun e => by
          rw [← hY34, HX.out, HDE.out, ← List.append_assoc, ← bs_app _ [lvEnd l.abs]]
          have : lvEnd l.abs = 34 := if_pos e
          rw [this]; rfl)
        have HY125 : Hid (l.wh ≠ 1 → Y125 = bs (ms ++ ((S.abs.all.drop k).reverse.map lvEnd))) := Lib.hid (fun e => by
          rw [← hY125, HX.out, HDE.out, ← List.append_assoc, ← bs_app _ [lvEnd l.abs]]
          have : lvEnd l.abs = 125 := if_neg e
          rw [this]; rfl)
        obtain ⟨wh, hwh⟩ : ∃ wh, l.wh = wh := ⟨_, rfl⟩
        rw [hwh] at cw HY34 HY125
        clear hwh hY34 hY125 hXs
        obtain ⟨j, rfl⟩ : ∃ j, k = j + 1 := ⟨k - 1, by omega⟩
        by_cases h1 : wh = 1
        · have w1' : (wh == 1) = true := by simpa using h1
          have HF : Hid (Y34 = bs (ms ++ ((S.abs.all.drop (j + 1)).reverse.map lvEnd))) := Lib.hid (HY34.out h1)
          clear h1
          go_wp2
          go_round
          case rel => exact ⟨j, Y34, by omega, by go_num, rfl, HF⟩
          case measure => simp [intOf]
        · have w1' : (wh == 1) = false := by simpa using h1
          have HF : Hid (Y125 = bs (ms ++ ((S.abs.all.drop (j + 1)).reverse.map lvEnd))) := Lib.hid (HY125.out h1)
          clear h1
          go_wp2
          go_round
          case rel => exact ⟨j, Y125, by omega, by go_num, rfl, HF⟩
          case measure => simp [intOf]
end Go.Proofs.Ytbmapjgajecgfaa
set_option linter.unusedVariables false
set_option linter.unusedSimpArgs false
namespace Go.Proofs.Ytbmapjgajecgfaa
open Go.RowKit
theorem St.good.mono {n m : Nat} {s : St} (h : s.good n) (hm : n ≤ m) : s.good m := ⟨h.lim.mono hm, h.wf, h.cok, h.kd⟩
theorem good_turn {n : Nat} {s : St} (h : s.good n) (k : Nat) (hk : k ≤ 17) : (s.turn k).good n := ⟨h.lim, h.wf, h.cok, hk⟩
theorem good_lit {n : Nat} {s : St} (h : s.good n) (bs : List UInt8) (hb : bs.length ≤ 2) : (s.lit bs).good (n + 2) := by
  refine ⟨?_, lit_wf h.wf bs, h.cok, h.kd⟩
  obtain ⟨h1, h2, h3, h4, h5, h6, h7⟩ := h.lim
  refine ⟨by show s.lo.length ≤ _; omega, by simp [St.lit]; omega, by show s.pl.length ≤ _; omega, by show s.bu.length ≤ _; omega, fun l hl => ?_, h6, by show s.dp ≤ _; omega⟩
  have hx : l ∈ s.lo ∨ l = {s.tp with li := s.tp.li ++ bs} := by simpa [St.all, St.lit] using hl
  rcases hx with hx | rfl
  · have := h5 l (by simp [St.all, hx]); omega
  · have := h5 s.tp (by simp [St.all])
    exact ⟨by simp; omega, by show s.tp.ps.length ≤ _; omega⟩
theorem good_add {n : Nat} {s : St} (h : s.good n) (p : Prt) : (s.add p).good (n + 2) := ⟨add_lim h.lim p, add_wf h.wf p, h.cok, h.kd⟩
theorem good_push {n : Nat} {s : St} (h : s.good n) {wh : Int} (hw : wh = 1 ∨ wh = 2) (nm op : ByteArray) : (s.push wh nm op).good (n + 1) := ⟨push_lim h.lim _ _ _, push_wf h.wf hw _ _, h.cok, by show 0 ≤ 17; omega⟩
/-- Some lists are other ones. -/
theorem good_set {n : Nat} {s s' : St} (h : s.good n) (h1 : s'.lo = s.lo) (h2 : s'.tp = s.tp) (h3 : s'.tk.length ≤ n + 1) (h4 : s'.pl = s.pl) (h5 : s'.bu.length ≤ n + 1) (h6 : 0 ≤ s'.dp ∧ s'.dp ≤ n + 1) (h7 : 0 ≤ s'.cu ∧ s'.cu ≤ 255) (h8 : s'.kd ≤ 17) : s'.good (n + 1) := by
  obtain ⟨g1, g2, g3, g4, g5, g6, g7⟩ := h.lim
  have ha : s'.all = s.all := by unfold St.all; rw [h1, h2]
  refine ⟨⟨by rw [h1]; omega, h3, by rw [h4]; omega, h5, fun l hl => ?_, h6.1, by have := h6.2; omega⟩, ?_, h7, h8⟩
  · rw [ha] at hl
    have := g5 l hl
    omega
  · unfold St.wf
    rw [ha]
    exact h.wf
theorem good_flush {n : Nat} {s : St} (h : s.good n) (k : Nat) (hk : k ≤ 17) : ({s with tp := s.tp.flush, kd := k} : St).good (n + 2) := by
  refine ⟨?_, wf_tp h.wf rfl (flush_wh _), h.cok, hk⟩
  obtain ⟨h1, h2, h3, h4, h5, h6, h7⟩ := h.lim
  have hf : s.tp.flush.li.length ≤ n ∧ s.tp.flush.ps.length ≤ n + 1 := by
    have := h5 s.tp (by simp [St.all])
    unfold Lvl.flush
    split
    · omega
    · simp; omega
  refine ⟨by show s.lo.length ≤ _; omega, by show s.tk.length ≤ _; omega, by show s.pl.length ≤ _; omega, by show s.bu.length ≤ _; omega, fun l hl => ?_, h6, by show s.dp ≤ _; omega⟩
  have hx : l ∈ s.lo ∨ l = s.tp.flush := by simpa [St.all] using hl
  rcases hx with hx | rfl
  · have := h5 l (by simp [St.all, hx]); omega
  · omega
theorem wf_ne {s : St} (h : s.wf) (hw : s.tp.wh = 1 ∨ s.tp.wh = 2) : s.lo ≠ [] := by
  obtain ⟨l, r, h1, h2, _⟩ := h
  intro e
  unfold St.all at h1
  rw [e] at h1
  simp at h1
  rw [h1.1, h2] at hw
  omega
theorem good_pop {n : Nat} {s : St} (h : s.good n) (hne : s.lo ≠ []) : s.pop.good (n + 2) := by
  have hd : s.lo.dropLast ++ [s.lo.getLastD s.tp] = s.lo := by
    rw [List.getLastD_eq_getLast?, List.getLast?_eq_some_getLast hne]
    exact List.dropLast_concat_getLast hne
  have hg : ({s with lo := s.lo.dropLast, tp := s.lo.getLastD s.tp} : St).good n := by
    refine ⟨?_, ?_, h.cok, h.kd⟩
    · obtain ⟨h1, h2, h3, h4, h5, h6, h7⟩ := h.lim
      refine ⟨by simp; omega, h2, h3, h4, fun l hl => ?_, h6, h7⟩
      have hl' : l ∈ s.lo := by
        have : l ∈ s.lo.dropLast ++ [s.lo.getLastD s.tp] := hl
        rwa [hd] at this
      exact h5 l (by simp [St.all, hl'])
    · obtain ⟨l, r, h1, h2, h3⟩ := h.wf
      have e : ({s with lo := s.lo.dropLast, tp := s.lo.getLastD s.tp} : St).all = s.lo := hd
      obtain ⟨x, t, hs⟩ := List.exists_cons_of_ne_nil hne
      unfold St.all at h1
      rw [hs] at h1
      simp at h1
      exact ⟨l, t, e.trans (hs.trans (by rw [h1.1])), h2, fun y hy => h3 y (by rw [← h1.2]; simp [hy])⟩
  exact good_turn (good_add hg _) 0 (by omega)
theorem text_good {n : Nat} {s : St} (h : s.good n) (c : UInt8) : (stText s c).2.good (n + 2) := by
  unfold stText
  split
  · exact (good_turn h 17 (by omega)).mono (by omega)
  split
  · exact good_flush h 16 (by omega)
  split
  · rename_i hx
    exact good_pop h (wf_ne h.wf (by rcases hx with h | h <;> simp [h.1]))
  obtain ⟨g1, g2, g3, g4, g5, g6, g7⟩ := h.lim
  have hq : ({s with qu := true} : St).good n := ⟨h.lim, h.wf, h.cok, h.kd⟩
  split
  · exact (good_turn hq 1 (by omega)).mono (by omega)
  split
  · exact (good_set h (s' := {s with qu := true, bu := [], kd := 12}) rfl rfl (by show s.tk.length ≤ _; omega) rfl (by simp) ⟨g6, by show s.dp ≤ _; omega⟩ h.cok (by show 12 ≤ 17; omega)).mono (by omega)
  split
  · exact (good_push hq (.inl rfl) _ _).mono (by omega)
  split
  · exact (good_turn h 2 (by omega)).mono (by omega)
  · exact good_lit h [c] (by simp)
theorem behind_good {n : Nat} {s : St} (h : s.good n) (c : UInt8) : (stBehind s c).2.good (n + 2) := by
  obtain ⟨g1, g2, g3, g4, g5, g6, g7⟩ := h.lim
  unfold stBehind
  split
  · exact good_turn (good_add h _) 0 (by omega)
  split
  · exact (good_turn h 17 (by omega)).mono (by omega)
  split
  · exact (good_turn h 10 (by omega)).mono (by omega)
  split
  · have := c.toNat_lt
    exact (good_set h (s' := {s with cu := c.toNat, kd := 11}) rfl rfl (by show s.tk.length ≤ _; omega) rfl (by show s.bu.length ≤ _; omega) ⟨g6, by show s.dp ≤ _; omega⟩ (by show 0 ≤ (c.toNat : Int) ∧ (c.toNat : Int) ≤ 255; omega) (by show 11 ≤ 17; omega)).mono (by omega)
  split
  · exact (good_push h (.inr rfl) _ _).mono (by omega)
  · exact (good_turn h 17 (by omega)).mono (by omega)
theorem parameter_good {n : Nat} {s : St} (h : s.good n) (c : UInt8) : (stParameter s c).2.good (n + 1) := by
  obtain ⟨g1, g2, g3, g4, g5, g6, g7⟩ := h.lim
  have hk : ∀ k, k ≤ 17 → (({s with bu := [c]} : St).turn k).good (n + 1) := fun k hk => good_set h (s' := ({s with bu := [c]} : St).turn k) rfl rfl (by show s.tk.length ≤ _; omega) rfl (by show 1 ≤ _; omega) ⟨g6, by show s.dp ≤ _; omega⟩ h.cok hk
  unfold stParameter
  simp only
  split
  · exact hk 7 (by omega)
  split
  · exact hk 8 (by omega)
  split
  · exact hk 9 (by omega)
  · exact hk 17 (by omega)
theorem good_ln {n : Nat} {s : St} (h : s.good n) (v : Bool) : ({s with ln := v} : St).good n := ⟨h.lim, h.wf, h.cok, h.kd⟩
theorem good_ex {n : Nat} {s : St} (h : s.good n) : ({s with ex := true} : St).good n := ⟨h.lim, h.wf, h.cok, h.kd⟩
theorem next_good {n : Nat} {s : St} (h : s.good n) (c : UInt8) : (stNext s c).2.good (n + 10) := by
  obtain ⟨g1, g2, g3, g4, g5, g6, g7⟩ := h.lim
  have hbu : ∀ k, k ≤ 17 → (({s with bu := s.bu ++ [c]} : St).turn k).good (n + 1) := fun k hk => good_set h (s' := ({s with bu := s.bu ++ [c]} : St).turn k) rfl rfl (by show s.tk.length ≤ _; omega) rfl (by show (s.bu ++ [c]).length ≤ _; simp; omega) ⟨g6, by show s.dp ≤ _; omega⟩ h.cok hk
  have hname : (stName s c).2.good (n + 10) := by
    unfold stName
    split
    · exact (hbu s.kd h.kd).mono (by omega)
    · exact (behind_good (good_turn h 9 (by omega)) c).mono (by omega)
  unfold stNext
  split
  · exact (text_good h c).mono (by omega)
  · unfold stEscaped
    split
    · exact (good_turn h 17 (by omega)).mono (by omega)
    split
    · exact (good_turn (good_lit h [92, c] (by simp)) 0 (by omega)).mono (by omega)
    · have := good_set h (s' := {s with tk := s.tk ++ [c]}) rfl rfl (by simp; omega) rfl (by show s.bu.length ≤ _; omega) ⟨g6, by show s.dp ≤ _; omega⟩ h.cok h.kd
      exact (good_turn (good_add this _) 0 (by omega)).mono (by omega)
  · unfold stDollar
    split
    · exact (good_turn (good_ex h) 5 (by omega)).mono (by omega)
    split
    · exact (good_turn (good_ex h) 3 (by omega)).mono (by omega)
    split
    · exact (good_set h (s' := {s with ex := true, bu := [c], kd := 4}) rfl rfl (by show s.tk.length ≤ _; omega) rfl (by simp) ⟨g6, by show s.dp ≤ _; omega⟩ h.cok (by show 4 ≤ 17; omega)).mono (by omega)
    split
    · exact (good_turn (good_add (good_ex h) _) 0 (by omega)).mono (by omega)
    · exact (text_good (good_turn (good_lit h [36] (by simp)) 0 (by omega)) c).mono (by omega)
  · unfold stOpened
    split
    · exact (good_set h (s' := {s with bu := [], dp := 0, kd := 13}) rfl rfl (by show s.tk.length ≤ _; omega) rfl (by simp) ⟨by simp, by simp; omega⟩ h.cok (by show 13 ≤ 17; omega)).mono (by omega)
    · exact (good_turn h 15 (by omega)).mono (by omega)
  · unfold stBare
    split
    · exact (hbu s.kd h.kd).mono (by omega)
    · exact (text_good (good_turn (good_add h _) 0 (by omega)) c).mono (by omega)
  · unfold stHead
    split
    · exact (good_turn (good_ln h true) 6 (by omega)).mono (by omega)
    · exact (parameter_good (good_ln h false) c).mono (by omega)
  · unfold stHash
    split
    · exact (good_turn (good_add h _) 0 (by omega)).mono (by omega)
    · exact (parameter_good h c).mono (by omega)
  · exact hname
  · exact hname
  · exact (behind_good h c).mono (by omega)
  · unfold stColon
    split
    · exact (good_push h (.inr rfl) _ _).mono (by omega)
    · exact (good_turn h 17 (by omega)).mono (by omega)
  · unfold stDouble
    split
    · exact (good_push h (.inr rfl) _ _).mono (by omega)
    · exact (text_good (good_push h (.inr rfl) _ _) c).mono (by omega)
  · unfold stSingle
    split
    · exact (good_turn h 17 (by omega)).mono (by omega)
    split
    · exact (good_turn (good_add h _) 0 (by omega)).mono (by omega)
    · exact (good_set h (s' := {s with bu := s.bu ++ [c], tk := s.tk ++ [c]}) rfl rfl (by simp; omega) rfl (by simp; omega) ⟨g6, by show s.dp ≤ _; omega⟩ h.cok h.kd).mono (by omega)
  · unfold stArith
    split
    · exact (good_turn h 17 (by omega)).mono (by omega)
    split
    · exact (good_turn h 14 (by omega)).mono (by omega)
    · rename_i hx
      refine (good_set h (s' := {s with bu := s.bu ++ [c], dp := if c = 41 then s.dp - 1 else if c = 40 then s.dp + 1 else s.dp}) rfl rfl (by show s.tk.length ≤ _; omega) rfl (by simp; omega) ?_ h.cok h.kd).mono (by omega)
      show 0 ≤ (if c = 41 then s.dp - 1 else if c = 40 then s.dp + 1 else s.dp) ∧ (if c = 41 then s.dp - 1 else if c = 40 then s.dp + 1 else s.dp) ≤ _
      by_cases h41 : c = 41
      · have : s.dp ≠ 0 := fun e => hx ⟨h41, e⟩
        rw [if_pos h41]
        omega
      · rw [if_neg h41]
        split <;> omega
  · unfold stArithEnd
    split
    · exact (good_turn (good_add h _) 0 (by omega)).mono (by omega)
    · exact (good_turn h 17 (by omega)).mono (by omega)
  · exact h.mono (by omega)
  · exact h.mono (by omega)
theorem good_pl {n : Nat} {s : St} (h : s.good n) (c : UInt8) : ({s with pl := s.pl ++ [c]} : St).good (n + 1) := by
  obtain ⟨g1, g2, g3, g4, g5, g6, g7⟩ := h.lim
  exact ⟨⟨by show s.lo.length ≤ _; omega, by show s.tk.length ≤ _; omega, by simp; omega, by show s.bu.length ≤ _; omega, fun l hl => by have := g5 l hl; omega, g6, by show s.dp ≤ _; omega⟩, h.wf, h.cok, h.kd⟩
theorem feed_good {n : Nat} {s : St} (h : s.good n) (c : UInt8) : (stFeed s c).2.good (n + 11) := by
  unfold stFeed
  split
  · exact (good_pl (next_good h c) c).mono (by omega)
  · exact (next_good h c).mono (by omega)
theorem init_good : St.init.good 0 := ⟨⟨by simp [St.init], by simp [St.init], by simp [St.init], by simp [St.init], fun l hl => by
  have : l = ⟨0, [], [], ⟨#[]⟩, ⟨#[]⟩⟩ := by simpa [St.all, St.init] using hl
  rw [this]; simp, by simp [St.init], by simp [St.init]⟩, ⟨_, [], rfl, rfl, fun x hx => by cases hx⟩, ⟨by simp [St.init], by simp [St.init]⟩, by simp [St.init]⟩
/-- Feed, for a machine that is good. -/
theorem feed_ok {B : Nat} {w : World} {b : Nat} {C : Nat → Prop} {S : Sn} (c : UInt8) (h : Fam B w C (S.dat b)) (hg : S.abs.good 70000) :
    Calls Try.prog 12 #[.pointer (some ⟨b, 0, none⟩), .int .u8 (c.toNat : Int)] w (Ret B w b C S (stFeed S.abs c)) :=
  feed_any h hg (by have := (next_good hg c).lim.2.2.1; omega)
end Go.Proofs.Ytbmapjgajecgfaa
set_option linter.unusedVariables false
set_option linter.unusedSimpArgs false
namespace Go.Proofs.Ytbmapjgajecgfaa
open Go.RowKit
/-- A machine that a call has made, in a state; what was there before is as it was. -/
def Mac (W w : World) (b : Nat) (s : St) : Prop := ∃ (C : Nat → Prop) (S : Sn), Fam W.heap.size w C (S.dat b) ∧ S.abs = s ∧ Kept nob W w
theorem Mac.kept {W w : World} {b : Nat} {s : St} (h : Mac W w b s) : Kept nob W w := by
  obtain ⟨C, S, h1, h2, h3⟩ := h
  exact h3
theorem Mac.step {W w w' : World} {b : Nat} {C C' : Nat → Prop} {S S' : Sn} (h : Fam W.heap.size w C (S.dat b)) (hk : Kept nob W w) (hs : Stp W.heap.size w C (S.dat b) w' C' (S'.dat b)) : Mac W w' b S'.abs :=
  ⟨C', S', hs.1, rfl, hk.trans hs.2.1 (fun i hi ⟨t, ht⟩ => by have := (h.bnd i (.inr ⟨t, ht⟩)).1; omega)⟩
theorem Mac.frame {W w w' : World} {b : Nat} {s : St} (h : Mac W w b s) (hk : Kept nob w w') : Mac W w' b s := by
  obtain ⟨C, S, h1, h2, h3⟩ := h
  exact ⟨C, S, h1.frame hk (fun _ _ h => h), h2, h3.trans hk (fun _ _ h => h)⟩
def NewM (W : World) (e : Ending) (w' : World) : Prop := ∃ b, e = .returned (.pointer (some ⟨b, 0, none⟩)) ∧ Mac W w' b St.init
def FeedM (W : World) (b : Nat) (r : Int × St) (e : Ending) (w' : World) : Prop := e = .returned (.int .i64 r.1) ∧ Mac W w' b r.2
theorem mac_new (W w : World) (hk : Kept nob W w) : Calls Try.prog 24 #[] w (NewM W) := by
  refine (new_any W.heap.size w hk.size).mono ?_
  rintro e w' ⟨b, S, rfl, h1, h2, h3, h4⟩
  exact ⟨b, rfl, _, S, h1, h4, hk.trans h2 (fun _ _ h => h)⟩
theorem mac_feed {W w : World} {b : Nat} {s : St} (h : Mac W w b s) (hg : s.good 70000) (c : UInt8) : Calls Try.prog 12 #[.pointer (some ⟨b, 0, none⟩), .int .u8 (c.toNat : Int)] w (FeedM W b (stFeed s c)) := by
  obtain ⟨C, S, h1, rfl, h3⟩ := h
  refine (feed_ok c h1 hg).mono ?_
  rintro e w' ⟨C', S', rfl, h4, h5⟩
  exact ⟨rfl, by rw [← h5]; exact Mac.step h1 h3 h4⟩
def RestM (W w : World) (b : Nat) (s : St) (L : List UInt8) (e : Ending) (w' : World) : Prop := e = .returned (.string (bs L)) ∧ Mac W w' b s
theorem mac_rest_no {W w : World} {b : Nat} {s : St} (h : Mac W w b s) (hg : s.good 70000) (h13 : s.kd ≠ 13) : Calls Try.prog 11 #[.pointer (some ⟨b, 0, none⟩)] w (RestM W w b s (stRest s)) := by
  obtain ⟨C, S, h1, rfl, h3⟩ := h
  refine (rest_of h1 hg.kd (hg.lim.mono (by omega)) (missing_no h1 hg.kd h13)).mono ?_
  rintro e w' ⟨rfl, h4⟩
  exact ⟨rfl, C, S, h1.frame h4 (fun _ _ h => h), rfl, h3.trans h4 (fun _ _ h => h)⟩
/-- What a word reads as. -/
def Wd (w : World) (v : Value) (L : List Prt) : Prop := ∃ (C : Nat → Prop), Cold w C v L ∧ ∀ k, C k → k < w.heap.size
def WordM (W : World) (b : Nat) (s : St) (L : List Prt) (e : Ending) (w' : World) : Prop := ∃ v, e = .returned (.tuple #[.agg #[v], .bool true]) ∧ Mac W w' b s ∧ Wd w' v L
def St.bot (s : St) : Lvl := s.lo.headD s.tp
theorem bot_abs (S : Sn) : S.bot.abs = S.abs.bot := by
  unfold Sn.bot St.bot Sn.abs
  rcases S.lo with _ | ⟨x, t⟩ <;> rfl
theorem mac_word {W w : World} {b : Nat} {s : St} (h : Mac W w b s) (hk : s.kd = 16) : Calls Try.prog 15 #[.pointer (some ⟨b, 0, none⟩)] w (WordM W b s s.bot.ps) := by
  obtain ⟨C, S, h1, rfl, h3⟩ := h
  refine (word_ok h1 hk).mono ?_
  rintro e w' ⟨rfl, h4⟩
  have h1' := h1.frame h4 (fun _ _ h => h)
  refine ⟨_, rfl, ⟨C, S, h1', rfl, h3.trans h4 (fun _ _ h => h)⟩, fun k => C k ∨ (S.dat b (.ps 0)).blk = some k, ?_, fun k hk => ?_⟩
  · rw [← bot_abs]
    obtain ⟨r, hr⟩ := all_bot S
    have e : S.dat b (.ps 0) = .prow 49 S.bot.pv S.bot.ps := by
      show (match S.all[0]? with | some l => Dat.prow 49 l.pv l.ps | none => .nothing) = _
      rw [hr]; rfl
    have hc := h1'.comp (.ps 0)
    rw [e] at hc ⊢
    obtain ⟨vs, ho, hr⟩ := hc
    have hlen := hr.len
    rcases ho.2 with ⟨e1, e2⟩ | ⟨g, cap, cur, e1, _⟩
    · exact .inl ⟨none, 0, e1, List.eq_nil_of_length_eq_zero e2⟩
    · refine .inr ⟨g, 0, cap, vs, e1, .inr (by show S.bot.pv.ownBlock = _; rw [e1]; rfl), fun j hj => ?_, hr.mono (fun k hk => .inl hk)⟩
      rw [e1] at ho
      rw [Nat.zero_add, own_cell ho (by omega)]
  · rcases hk with hk | hk
    · exact (h1'.bnd k (.inl hk)).2
    · exact (h1'.bnd k (.inr ⟨_, hk⟩)).2
def aw1 : St := (stFeed St.init 97).2
def aw2 : St := (stFeed aw1 34).2
def aw3 : St := (stFeed aw2 36).2
def aw4 : St := (stFeed aw3 120).2
def aw5 : St := (stFeed aw4 34).2
def aw6 : St := (stFeed aw5 32).2
theorem aw_sig : (stFeed St.init 97).1 = 0 ∧ (stFeed aw1 34).1 = 0 ∧ (stFeed aw2 36).1 = 0 ∧ (stFeed aw3 120).1 = 0 ∧ (stFeed aw4 34).1 = 0 ∧ (stFeed aw5 32).1 = 1 := by decide
theorem aw_kd : aw6.kd = 16 := by decide
theorem aw_kd3 : aw3.kd = 2 := by decide
theorem aw_rest : stRest aw3 = [34] := by rfl
theorem aw_bot : aw6.bot.ps = [.mk 1 ⟨#[97]⟩ ⟨#[]⟩ [] 0, .mk 4 ⟨#[]⟩ ⟨#[]⟩ [.mk 5 ⟨#[120]⟩ ⟨#[]⟩ [] 0] 0] := rfl
theorem Rds.inv {w : World} {C : Nat → Prop} {vs : List Value} {k : Int} {tx op : ByteArray} {K L : List Prt} {cm : Nat} (h : Rds w C vs (.mk k tx op K cm :: L)) :
    ∃ a cap ca cc vs', vs = .int .i64 k :: .string tx :: .string op :: .slice a K.length cap :: .slice ca cm cc :: vs' ∧ Rds w C vs' L ∧ Cold w C (.slice a K.length cap) K := by
  cases h with
  | bare h => exact ⟨_, _, _, _, _, rfl, h, .inl ⟨_, _, rfl, rfl⟩⟩
  | kids hg hc hk h => exact ⟨_, _, _, _, _, rfl, h, .inr ⟨_, _, _, _, rfl, hg, hc, hk⟩⟩
theorem Cold.inv {w : World} {C : Nat → Prop} {v : Value} {p : Prt} {L : List Prt} (h : Cold w C v (p :: L)) : ∃ g o cap us, v = .slice (some ⟨g, o, none⟩) (L.length + 1) cap ∧ C g ∧ (∀ j, j < us.length → w.cell? ⟨g, o + j, none⟩ = us[j]?) ∧ Rds w C us (p :: L) := by
  rcases h with ⟨_, _, _, e⟩ | h
  · cases e
  · exact h
theorem aw_cells {w : World} {v : Value} (h : Wd w v [.mk 1 ⟨#[97]⟩ ⟨#[]⟩ [] 0, .mk 4 ⟨#[]⟩ ⟨#[]⟩ [.mk 5 ⟨#[120]⟩ ⟨#[]⟩ [] 0] 0]) :
    ∃ g o c g2 o2 c2, v = .slice (some ⟨g, o, none⟩) 2 c ∧ w.cell? ⟨g, o + 8, none⟩ = some (.slice (some ⟨g2, o2, none⟩) 1 c2) ∧ w.cell? ⟨g2, o2 + 1, none⟩ = some (.string ⟨#[120]⟩) ∧ g < w.heap.size ∧ g2 < w.heap.size := by
  obtain ⟨C, h, hC⟩ := h
  obtain ⟨g, o, c, us, rfl, hg, hc, hr⟩ := h.inv
  obtain ⟨_, _, _, _, v1, rfl, hr, _⟩ := hr.inv
  obtain ⟨_, _, _, _, v2, rfl, hr, hk⟩ := hr.inv
  obtain ⟨g2, o2, c2, us2, e2, hg2, hc2, hr2⟩ := hk.inv
  obtain ⟨_, _, _, _, v3, rfl, _, _⟩ := hr2.inv
  rw [e2] at hc
  exact ⟨g, o, c, g2, o2, c2, rfl, hc 8 (by simp), hc2 1 (by simp), hC _ hg, hC _ hg2⟩
set_option maxRecDepth 100000 in
set_option maxHeartbeats 4000000 in
theorem awake_any (w : World) : Calls Try.prog 8 #[] w fun e w' => e = .returned (.bool true) ∧ Kept nob w w' := by
  have M1 := fun b w1 (h : Mac w w1 b St.init) => mac_feed h (init_good.mono (by omega)) 97
  have M2 := fun b w1 (h : Mac w w1 b aw1) => mac_feed h ((feed_good init_good 97).mono (by omega)) 34
  have M3 := fun b w1 (h : Mac w w1 b aw2) => mac_feed h ((feed_good (feed_good init_good 97) 34).mono (by omega)) 36
  have MR := fun b w1 (h : Mac w w1 b aw3) => mac_rest_no h ((feed_good (feed_good (feed_good init_good 97) 34) 36).mono (by omega)) (by decide)
  have M4 := fun b w1 (h : Mac w w1 b aw3) => mac_feed h ((feed_good (feed_good (feed_good init_good 97) 34) 36).mono (by omega)) 120
  have M5 := fun b w1 (h : Mac w w1 b aw4) => mac_feed h ((feed_good (feed_good (feed_good (feed_good init_good 97) 34) 36) 120).mono (by omega)) 34
  have M6 := fun b w1 (h : Mac w w1 b aw5) => mac_feed h ((feed_good (feed_good (feed_good (feed_good (feed_good init_good 97) 34) 36) 120) 34).mono (by omega)) 32
  have N1 := Lib.hid M1
  have N2 := Lib.hid M2
  have N3 := Lib.hid M3
  have NR := Lib.hid MR
  have N4 := Lib.hid M4
  have N5 := Lib.hid M5
  have N6 := Lib.hid M6
  clear M1 M2 M3 MR M4 M5 M6
  go_enter Try.func8, Try.ntmps8
  go_wp2_with fail
  refine (mac_new w w (Kept.refl _ _)).mono ?_
  rintro e w0 ⟨b, rfl, h⟩
  have H0 := Lib.hid h
  clear h
  go_wp2_with fail
  refine (N1.out b _ H0.out).mono ?_
  rintro e w1 ⟨rfl, h⟩
  rw [aw_sig.1]
  have H1 := Lib.hid h
  clear h
  go_wp2_with fail
  refine (N2.out b _ H1.out).mono ?_
  rintro e w2 ⟨rfl, h⟩
  rw [aw_sig.2.1]
  have H2 := Lib.hid h
  clear h
  go_wp2_with fail
  refine (N3.out b _ H2.out).mono ?_
  rintro e w3 ⟨rfl, h⟩
  rw [aw_sig.2.2.1]
  have H3 := Lib.hid h
  clear h
  go_wp2_with fail
  refine (NR.out b _ H3.out).mono ?_
  rintro e w4 ⟨rfl, h⟩
  rw [aw_rest, show bs [34] = ⟨#[34]⟩ from rfl]
  have H4 := Lib.hid h
  clear h
  go_wp2_with fail
  refine (N4.out b _ H4.out).mono ?_
  rintro e w5 ⟨rfl, h⟩
  rw [aw_sig.2.2.2.1]
  have H5 := Lib.hid h
  clear h
  go_wp2_with fail
  refine (N5.out b _ H5.out).mono ?_
  rintro e w6 ⟨rfl, h⟩
  rw [aw_sig.2.2.2.2.1]
  have H6 := Lib.hid h
  clear h
  go_wp2_with fail
  refine (N6.out b _ H6.out).mono ?_
  rintro e w7 ⟨rfl, h⟩
  rw [aw_sig.2.2.2.2.2]
  have H7 := Lib.hid h
  clear h
  go_wp2_with fail
  refine (mac_word H7.out aw_kd).mono ?_
  rintro e w8 ⟨v, rfl, h, hw⟩
  have H8 := Lib.hid h
  rw [show (stFeed aw5 32).2.bot.ps = _ from aw_bot] at hw
  obtain ⟨g, o, c, g2, o2, c2, rfl, d1, d2, l1, l2⟩ := aw_cells hw
  have a1 : ∀ x, (w8.alloc x).cell? ⟨g, o + 8, none⟩ = some (.slice (some ⟨g2, o2, none⟩) 1 c2) := fun x => by rw [World.cell?_alloc_past _ _ _ l1]; exact d1
  have a2 : ∀ x, (w8.alloc x).cell? ⟨g2, o2 + 1, none⟩ = some (.string ⟨#[120]⟩) := fun x => by rw [World.cell?_alloc_past _ _ _ l2]; exact d2
  have HK := Lib.hid (h.kept.trans (Kept.alloc w8 (.cells #[.slice (some ⟨g, o, none⟩) 2 c] 33) nob) (fun _ _ h => h))
  clear h hw d1 d2 l1 l2
  go_wp2
  go_ret
  exact ⟨rfl, HK.out⟩
end Go.Proofs.Ytbmapjgajecgfaa
namespace Go.Proofs
open Go.Shelf
def Try.lays105_ren : Go.Shelf.Ren := ⟨fun | 105 => 31 | 212 => 54 | 99 => 55 | 165 => 56 | 166 => 57 | 170 => 58 | 169 => 59 | 263 => 80 | 264 => 81 | 206 => 82 | 240 => 83 | 241 => 84 | 276 => 93 | 277 => 94 | n => n, fun | 9 => 9 | 3 => 3 | 4 => 4 | 20 => 20 | 0 => 0 | 46 => 69 | 109 => 70 | 5 => 5 | 72 => 75 | 76 => 79 | 51 => 90 | 146 => 91 | 53 => 93 | 148 => 94 | 70 => 73 | 37 => 51 | 75 => 78 | 127 => 96 | 164 => 97 | 80 => 26 | n => n, fun | n => n⟩
theorem Try.lays105 : Go.Proofs.Lays.n105 Try.prog Try.lays105_ren := {
  mixed := by kernel_rfl
  f99 := Try.func55.trans (congrArg some (by kernel_rfl))
  f105 := Try.func31.trans (congrArg some (by kernel_rfl))
  f165 := Try.func56.trans (congrArg some (by kernel_rfl))
  f166 := Try.func57.trans (congrArg some (by kernel_rfl))
  f169 := Try.func59.trans (congrArg some (by kernel_rfl))
  f170 := Try.func58.trans (congrArg some (by kernel_rfl))
  f206 := Try.func82.trans (congrArg some (by kernel_rfl))
  f212 := Try.func54.trans (congrArg some (by kernel_rfl))
  f240 := Try.func83.trans (congrArg some (by kernel_rfl))
  f241 := Try.func84.trans (congrArg some (by kernel_rfl))
  f263 := Try.func80.trans (congrArg some (by kernel_rfl))
  f264 := Try.func81.trans (congrArg some (by kernel_rfl))
  f276 := Try.func93.trans (congrArg some (by kernel_rfl))
  f277 := Try.func94.trans (congrArg some (by kernel_rfl))
  t0 := Try.underlying0
  a0 := Try.isAgg0
  z0 := Try.sizeOf0
  v0 := Try.zeroValue0
  t3 := Try.underlying3
  a3 := Try.isAgg3
  z3 := Try.sizeOf3
  v3 := Try.zeroValue3
  t4 := Try.underlying4
  a4 := Try.isAgg4
  z4 := Try.sizeOf4
  v4 := Try.zeroValue4
  t5 := Try.underlying5
  a5 := Try.isAgg5
  z5 := Try.sizeOf5
  v5 := Try.zeroValue5
  t9 := Try.underlying9
  a9 := Try.isAgg9
  z9 := Try.sizeOf9
  v9 := Try.zeroValue9
  t20 := Try.underlying20
  a20 := Try.isAgg20
  z20 := Try.sizeOf20
  v20 := Try.zeroValue20
  t37 := Try.underlying51
  a37 := Try.isAgg51
  z37 := Try.sizeOf51
  v37 := Try.zeroValue51
  t46 := Try.underlying69
  a46 := Try.isAgg69
  z46 := Try.sizeOf69
  v46 := Try.zeroValue69
  t51 := Try.underlying90
  a51 := Try.isAgg90
  z51 := Try.sizeOf90
  v51 := Try.zeroValue90
  t53 := Try.underlying93
  a53 := Try.isAgg93
  z53 := Try.sizeOf93
  v53 := Try.zeroValue93
  t70 := Try.underlying73
  a70 := Try.isAgg73
  z70 := Try.sizeOf73
  v70 := Try.zeroValue73
  t72 := Try.underlying75
  a72 := Try.isAgg75
  z72 := Try.sizeOf75
  v72 := Try.zeroValue75
  t75 := Try.underlying78
  a75 := Try.isAgg78
  z75 := Try.sizeOf78
  v75 := Try.zeroValue78
  t76 := Try.underlying79
  a76 := Try.isAgg79
  z76 := Try.sizeOf79
  v76 := Try.zeroValue79
  t109 := Try.underlying70
  a109 := Try.isAgg70
  z109 := Try.sizeOf70
  v109 := Try.zeroValue70
  t127 := Try.underlying96
  a127 := Try.isAgg96
  z127 := Try.sizeOf96
  v127 := Try.zeroValue96
  t146 := Try.underlying91
  a146 := Try.isAgg91
  z146 := Try.sizeOf91
  v146 := Try.zeroValue91
  t148 := Try.underlying94
  a148 := Try.isAgg94
  z148 := Try.sizeOf94
  v148 := Try.zeroValue94
  t164 := Try.underlying97
  a164 := Try.isAgg97
  z164 := Try.sizeOf97
  v164 := Try.zeroValue97 }
theorem Try.Builder_Extra_105 : Builder.Extra Try.prog Try.lays105_ren := {
  sizeBuilder := by kernel_rfl
  liesBuilder := by kernel_rfl
  t5 := Try.underlying5
  a5 := Try.isAgg5
  z5 := Try.sizeOf5
  v5 := Try.zeroValue5
  infoByte := by kernel_rfl
  cellsByte := by kernel_rfl
  sizeByte := by kernel_rfl
  neB5 := by decide }
open Go.RowKit Go.Lib in
/-- **strings.Repeat: count ≥ 0, the result within one allocation: count copies of s.** (LAID: no walk: one application.) -/
theorem Try.strings_Repeat (s : ByteArray) (c : Nat) (w : World) (hc : c ≤ 9223372036854775807) (hlen : s.size * c ≤ 140737488355328) :
    Calls Try.prog 31 #[.string s, .int .i64 c] w fun e w' => e = .returned (.string ⟨(Lib.repeatL s.data.toList c).toArray⟩) ∧ Below w.heap.size w w' := Any.strings_Repeat Try.lays105 Try.Builder_Extra_105 s c w hc hlen
end Go.Proofs
set_option linter.unusedVariables false
set_option linter.unusedSimpArgs false
namespace Go.Proofs.Ytbmapjgajecgfaa
open Go.RowKit
theorem repl_one (c : UInt8) (n : Nat) : Lib.repeatL [c] n = List.replicate n c := by
  induction n with
  | zero => rfl
  | succ n ih => show [c] ++ Lib.repeatL [c] n = _; rw [ih]; rfl
theorem repeat_any (n : Nat) (w : World) (hn : n ≤ 90000) : Calls Try.prog 31 #[.string ⟨#[41]⟩, .int .i64 (n : Int)] w (GotS w (List.replicate n 41)) := by
  refine (Try.strings_Repeat ⟨#[41]⟩ n w (by omega) (by show 1 * n ≤ _; omega)).mono ?_
  rintro e w' ⟨rfl, hb⟩
  refine ⟨?_, Kept.ofBelow hb _⟩
  show Ending.returned (.string ⟨(Lib.repeatL [41] n).toArray⟩) = _
  rw [repl_one]
  rfl
theorem missing_13 {B : Nat} {w : World} {b : Nat} {C : Nat → Prop} {S : Sn} (h : Fam B w C (S.dat b)) (hd : 0 ≤ S.dp ∧ S.dp ≤ 90000) (hk : S.kd = 13) : Calls Try.prog 25 #[.pointer (some ⟨b, 0, none⟩)] w (GotS w (stMissing S.abs)) := by
  have hb := hd_at h
  have c2 : w.cell? ⟨b, 2, none⟩ = some (.int .i64 13) := by rw [cell_blk hb]; show some (Value.int .i64 (S.kd : Int)) = _; rw [hk]; rfl
  have c8 : w.cell? ⟨b, 8, none⟩ = some (.int .i64 S.dp) := by rw [cell_blk hb]; rfl
  have hka : S.abs.kd = 13 := hk
  have e : stMissing S.abs = List.replicate S.dp.toNat 41 ++ [41, 41] := by unfold stMissing; rw [hka]; rfl
  rw [e]
  obtain ⟨n, hn⟩ : ∃ n : Nat, S.dp = (n : Int) := ⟨S.dp.toNat, by omega⟩
  rw [hn] at c8 hd ⊢
  rw [Int.toNat_natCast]
  have HR := Lib.hid (repeat_any n w (by omega))
  have hadd : Hid (∀ w', (Op.stringOp .add (bs (List.replicate n 41)) ⟨#[41, 41]⟩).run Try.prog w' = .ok (.string (bs (List.replicate n 41) ++ ⟨#[41, 41]⟩)) w') := Lib.hid (fun w' => run_string_add_sum w' _ _ (by
    show (List.replicate n (41 : UInt8)).toArray.size + 2 ≤ _
    simp
    omega))
  have hx : bs (List.replicate n 41) ++ ⟨#[41, 41]⟩ = bs (List.replicate n 41 ++ [41, 41]) := bs_app _ [41, 41]
  obtain ⟨X, hX⟩ : ∃ X, bs (List.replicate n 41) = X := ⟨_, rfl⟩
  obtain ⟨Y, hY⟩ : ∃ Y, X ++ ⟨#[41, 41]⟩ = Y := ⟨_, rfl⟩
  rw [hX, hY] at hadd
  have HX := Lib.hid hX
  have HY : Hid (Y = bs (List.replicate n 41 ++ [41, 41])) := Lib.hid (by rw [← hY, ← hX, hx])
  have hadd' := hadd.out
  clear h hb e hk hka hn hd hx hX hY
  go_enter Try.func25, Try.ntmps25
  go_wp2_with fail
  refine HR.out.mono ?_
  rintro e w' ⟨rfl, hk⟩
  rw [HX.out]
  have HK := Lib.hid hk
  clear hk
  go_wp2
  go_ret
  exact ⟨by rw [← HY.out]; rfl, HK.out⟩
theorem missing_any {B : Nat} {w : World} {b : Nat} {C : Nat → Prop} {S : Sn} (h : Fam B w C (S.dat b)) (hl : S.abs.lim 90000) (hk : S.kd ≤ 17) : Calls Try.prog 25 #[.pointer (some ⟨b, 0, none⟩)] w (GotS w (stMissing S.abs)) := by
  by_cases h13 : S.kd = 13
  · exact missing_13 h ⟨hl.2.2.2.2.2.1, hl.2.2.2.2.2.2⟩ h13
  · exact missing_no h hk h13
theorem rest_any {B : Nat} {w : World} {b : Nat} {C : Nat → Prop} {S : Sn} (h : Fam B w C (S.dat b)) (hg : S.abs.good 70000) : Calls Try.prog 11 #[.pointer (some ⟨b, 0, none⟩)] w (GotS w (stRest S.abs)) :=
  rest_of h hg.kd (hg.lim.mono (by omega)) (missing_any h (hg.lim.mono (by omega)) hg.kd)
theorem mac_rest {W w : World} {b : Nat} {s : St} (h : Mac W w b s) (hg : s.good 70000) : Calls Try.prog 11 #[.pointer (some ⟨b, 0, none⟩)] w (RestM W w b s (stRest s)) := by
  obtain ⟨C, S, h1, rfl, h3⟩ := h
  refine (rest_any h1 hg).mono ?_
  rintro e w' ⟨rfl, h4⟩
  exact ⟨rfl, C, S, h1.frame h4 (fun _ _ h => h), rfl, h3.trans h4 (fun _ _ h => h)⟩
/-- A text, byte by byte: the state, how many bytes were taken, the last signal. -/
def run (s : St) : List UInt8 → Nat → St × Nat × Int
  | [], i => (s, i, 0)
  | c :: r, i => if (stFeed s c).1 = 0 then run (stFeed s c).2 r (i + 1) else ((stFeed s c).2, i, (stFeed s c).1)
def FedM (W : World) (r : St × Nat × Int) (e : Ending) (w' : World) : Prop := ∃ b, e = .returned (.tuple #[.pointer (some ⟨b, 0, none⟩), .int .i64 (r.2.1 : Int), .int .i64 r.2.2]) ∧ Mac W w' b r.1
set_option maxHeartbeats 4000000 in
theorem fed_any (W w : World) (hk : Kept nob W w) (s : ByteArray) (hs : s.size ≤ 6000) : Calls Try.prog 9 #[.string s] w (FedM W (run St.init s.data.toList 0)) := by
  have HK := Lib.hid hk
  clear hk
  go_enter Try.func9, Try.ntmps9
  go_wp2_with fail
  refine (mac_new W w HK.out).mono ?_
  rintro e w0 ⟨b, rfl, h⟩
  have H0 := Lib.hid h
  clear h
  go_wp2
  go_loopw [6] (fun i wr => ∃ (k : Nat) (σ : St), k ≤ s.size ∧ i = .int .i64 k ∧ Hid (Mac W wr b σ ∧ σ.good (11 * k) ∧ run St.init s.data.toList 0 = run σ (s.data.toList.drop k) k)) (fun i _ => s.size - (intOf i).toNat)
  case atStart => exact ⟨0, St.init, Nat.zero_le _, rfl, Lib.hid ⟨H0.out, init_good, rfl⟩⟩
  case round =>
    obtain ⟨k, σ, hks, rfl, HR⟩ := hrel
    by_cases hlt : k < s.size
    · have hdr : s.data.toList.drop k = s[k] :: s.data.toList.drop (k + 1) := by
        rw [List.drop_eq_getElem_cons (by simpa using hlt)]
        rfl
      have HD := Lib.hid hdr
      obtain ⟨c, hc⟩ : ∃ c, s[k] = c := ⟨_, rfl⟩
      have HC := Lib.hid hc
      clear hdr hc
      have HF := Lib.hid (mac_feed HR.out.1 (HR.out.2.1.mono (by omega)) c)
      have HG := Lib.hid (feed_good HR.out.2.1 c)
      obtain ⟨r, hr⟩ : ∃ r, stFeed σ c = r := ⟨_, rfl⟩
      rw [hr] at HF HG
      have HRR := Lib.hid hr
      clear hr
      go_wp2_with fail
      rw [HC.out]
      refine HF.out.mono ?_
      rintro e w1 ⟨rfl, h⟩
      have H1 := Lib.hid h
      clear h
      obtain ⟨sg, hsg⟩ : ∃ sg, r.1 = sg := ⟨_, rfl⟩
      rw [hsg]
      have HS := Lib.hid hsg
      clear hsg
      have HRUN : Hid (run St.init s.data.toList 0 = if sg = 0 then run r.2 (s.data.toList.drop (k + 1)) (k + 1) else (r.2, k, sg)) := Lib.hid (by
        rw [HR.out.2.2, HD.out, HC.out]
        show (if (stFeed σ c).1 = 0 then _ else _) = _
        rw [HRR.out, HS.out])
      by_cases h0 : sg = 0
      · have s0 : (sg == 0) = true := by simpa using h0
        have s1 : (sg != 0) = false := by simpa using h0
        have HX : Hid (run St.init s.data.toList 0 = run r.2 (s.data.toList.drop (k + 1)) (k + 1)) := Lib.hid (by rw [HRUN.out, if_pos h0])
        clear HRUN h0
        go_wp2
        go_roundw
        case rel => exact ⟨k + 1, r.2, by omega, by go_num, Lib.hid ⟨H1.out, HG.out.mono (by omega), HX.out⟩⟩
        case measure => simp [intOf]; omega
      · have s0 : (sg == 0) = false := by simpa using h0
        have s1 : (sg != 0) = true := by simpa using h0
        have HX : Hid (run St.init s.data.toList 0 = (r.2, k, sg)) := Lib.hid (by rw [HRUN.out, if_neg h0])
        clear HRUN h0
        go_wp2
        go_ret3
        rw [HX.out]
        exact ⟨b, rfl, H1.out⟩
    · have HX : Hid (run St.init s.data.toList 0 = (σ, s.size, 0)) := Lib.hid (by
        rw [HR.out.2.2, List.drop_eq_nil_of_le (by simp; omega)]
        show (σ, k, (0 : Int)) = _
        rw [show k = s.size by omega])
      have HM := Lib.hid HR.out.1
      go_wp2
      go_ret3
      rw [HX.out]
      exact ⟨b, rfl, HM.out⟩
end Go.Proofs.Ytbmapjgajecgfaa
set_option linter.unusedVariables false
set_option linter.unusedSimpArgs false
namespace Go.Proofs.Ytbmapjgajecgfaa
open Go.RowKit
def dolOK (c : UInt8) : Bool := decide (cls c.toNat ≠ 4) && decide (cls c.toNat ≠ 3) && !spc c.toNat && decide (c ≠ 123) && decide (c ≠ 40)
def specB (c : UInt8) : Bool := decide (c = 36 ∨ c = 96 ∨ c = 34 ∨ c = 92)
def byteOK (pl : Int) (c : UInt8) : Bool := decide (cls c.toNat ≠ 0) && (decide (pl ≠ 0) || decide (cls c.toNat = 3 ∨ cls c.toNat = 4 ∨ cls c.toNat = 8 ∨ cls c.toNat = 7)) && (decide (pl ≠ 2) || (decide (c ≠ 125) && decide (cls c.toNat ≠ 6))) && (decide (pl ≠ 1) || decide (c ≠ 34 ∧ c ≠ 96))
/-- What a byte asks of those behind it. -/
def nextOK (pl : Int) (c : UInt8) (r : List UInt8) : Bool :=
  (decide (c ≠ 36) || (match r with | [] => true | d :: _ => dolOK d)) && (decide (pl ≠ 1) || decide (c ≠ 92) || (match r with | [] => false | d :: _ => !specB d && decide (d ≠ 10)))
def litB (pl : Int) : List UInt8 → Bool
  | [] => true
  | c :: r => byteOK pl c && nextOK pl c r && litB pl r
def arithB : List UInt8 → Int → Bool
  | [], n => decide (n = 0)
  | c :: r, n => decide (c ≠ 0) && (if c = 40 then arithB r (n + 1) else if c = 41 then decide (0 < n) && arithB r (n - 1) else arithB r n)
def clearB (l : List UInt8) : Bool := l.all fun c => decide (c ≠ 0 ∧ c ≠ 39)
def nameB : List UInt8 → Bool
  | [] => false
  | c :: r => decide (cls c.toNat = 4) && r.all fun d => decide (cls d.toNat = 4 ∨ cls d.toNat = 3)
def digB (l : List UInt8) : Bool := decide (l ≠ []) && l.all fun d => decide (cls d.toNat = 3)
def spcB : List UInt8 → Bool
  | [c] => spc c.toNat
  | _ => false
/-- May it be a parameter's name? -/
def parB (l : List UInt8) : Bool := nameB l || digB l || spcB l
def lenOp : ByteArray := ⟨#[108, 101, 110]⟩
def opsL : List ByteArray := [⟨#[58, 45]⟩, ⟨#[45]⟩, ⟨#[58, 61]⟩, ⟨#[61]⟩, ⟨#[58, 63]⟩, ⟨#[63]⟩, ⟨#[58, 43]⟩, ⟨#[43]⟩, ⟨#[37]⟩, ⟨#[37, 37]⟩, ⟨#[35]⟩, ⟨#[35, 35]⟩]
def endsDol (l : List UInt8) : Bool := decide (l.getLast? = some 36)
def Prt.k : Prt → Int
  | .mk k _ _ _ _ => k
def Prt.tx : Prt → List UInt8
  | .mk _ tx _ _ _ => tx.data.toList
def adjB (p : Prt) (r : List Prt) : Bool :=
  match r with
  | [] => true
  | q :: _ => decide (p.k ≠ 1) || (decide (q.k ≠ 1) && (!endsDol p.tx || decide (q.k ≠ 5 ∧ q.k ≠ 6 ∧ q.k ≠ 7)))
/-- The first byte of a list's first part, if that is a literal, is another one. -/
def firstB (x : UInt8) : List Prt → Bool
  | [] => true
  | p :: _ => decide (p.k ≠ 1) || decide (p.tx.head? ≠ some x)
mutual
def okP (pl : Int) : Prt → Bool
  | .mk k tx op kids cm =>
    if k = 1 then decide (op = ⟨#[]⟩) && kids.isEmpty && decide (cm = 0) && decide (tx.data.toList ≠ []) && litB pl tx.data.toList
    else if k = 2 then decide (op = ⟨#[]⟩) && kids.isEmpty && decide (cm = 0) && (match tx.data.toList with | [c] => decide (c ≠ 0 ∧ c ≠ 10) && (decide (pl ≠ 1) || specB c) | _ => false)
    else if k = 3 then decide (op = ⟨#[]⟩) && kids.isEmpty && decide (cm = 0) && decide (pl ≠ 1) && clearB tx.data.toList
    else if k = 4 then decide (op = ⟨#[]⟩) && decide (cm = 0) && decide (pl ≠ 1) && decide (tx = ⟨#[]⟩) && okL 1 kids
    else if k = 5 then decide (cm = 0) && parB tx.data.toList && (if op = ⟨#[]⟩ ∨ op = lenOp then kids.isEmpty else opsL.any (fun o => decide (op = o)) && decide (tx ≠ ⟨#[35]⟩) && okL 2 kids && (decide (op ≠ ⟨#[37]⟩) || firstB 37 kids) && (decide (op ≠ ⟨#[35]⟩) || firstB 35 kids))
    else if k = 7 then decide (op = ⟨#[]⟩) && kids.isEmpty && decide (cm = 0) && arithB tx.data.toList 0
    else false
def okL (pl : Int) : List Prt → Bool
  | [] => true
  | p :: r => okP pl p && adjB p r && okL pl r
end
theorem litB_snoc {pl : Int} {c : UInt8} (hc : byteOK pl c = true) (h92 : pl = 1 → c ≠ 92) : ∀ (l : List UInt8), litB pl l = true → (endsDol l = true → dolOK c = true) → litB pl (l ++ [c]) = true
  | [], _, _ => by
    simp only [List.nil_append, litB, hc, nextOK]
    by_cases h1 : pl = 1
    · simp [h1, h92 h1]
    · simp [h1]
  | [d], h, hd => by
    simp only [litB, Bool.and_eq_true] at h
    obtain ⟨⟨h1, h2⟩, _⟩ := h
    have h3 := litB_snoc hc h92 [] rfl (fun e => by simp [endsDol] at e)
    simp only [List.cons_append, List.nil_append, litB, h1, Bool.true_and, Bool.and_eq_true] at h3 ⊢
    refine ⟨?_, h3⟩
    unfold nextOK at h2 ⊢
    simp only [Bool.and_eq_true, Bool.or_eq_true, decide_eq_true_eq] at h2 ⊢
    refine ⟨?_, ?_⟩
    · by_cases e : d = 36
      · right; exact hd (by simp [endsDol, e])
      · left; exact e
    · rcases h2.2 with (h | h) | h
      · exact .inl (.inl h)
      · exact .inl (.inr h)
      · cases h
  | d :: e :: r, h, hd => by
    simp only [litB, Bool.and_eq_true] at h
    obtain ⟨⟨h1, h2⟩, h3⟩ := h
    have h4 : litB pl (e :: r) = true := by simp only [litB, Bool.and_eq_true]; exact h3
    have h5 := litB_snoc hc h92 (e :: r) h4 (fun x => hd (by simpa [endsDol] using x))
    show (byteOK pl d && nextOK pl d (e :: (r ++ [c])) && litB pl (e :: r ++ [c])) = true
    rw [h1, h5]
    have : nextOK pl d (e :: (r ++ [c])) = nextOK pl d (e :: r) := rfl
    rw [this, h2]
    rfl
end Go.Proofs.Ytbmapjgajecgfaa

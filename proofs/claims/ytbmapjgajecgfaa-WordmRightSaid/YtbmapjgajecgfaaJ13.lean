/-
  What is proved: conchref24.param and one answer true for right parts; conchref24.All answers true for right parts; conchref24.All answers true for right parts in memory, at every depth; conchref24.Right answers true for a right word in memory; the law function WordmRight returns true. Conditions: those of each theorem.
-/
import Derived.Test.YtbmapjgajecgfaaJ12
set_option linter.unusedVariables false
set_option linter.unusedSimpArgs false
namespace Go.Proofs.Ytbmapjgajecgfaa
open Go.RowKit
/-- The three ways to a parameter's name. -/
def Head (tx : ByteArray) : Prop := Ans 89 tx true ∨ (Ans 89 tx false ∧ Ans 90 tx true) ∨ (Ans 89 tx false ∧ Ans 90 tx false ∧ ∃ c : UInt8, tx.data.toList = [c] ∧ spc c.toNat = true)
theorem head_of {tx : ByteArray} (hz : tx.size ≤ 100000) (h : parB tx.data.toList = true) : Head tx := by
  obtain ⟨b, h1, h2⟩ := name_leaf tx hz
  obtain ⟨d, h3, h4⟩ := digits_leaf tx hz
  cases b with
  | true => exact .inl h2
  | false =>
    cases d with
    | true => exact .inr (.inl ⟨h2, h4⟩)
    | false =>
      refine .inr (.inr ⟨h2, h4, ?_⟩)
      unfold parB at h
      simp only [Bool.or_eq_true] at h
      rcases h with (h | h) | h
      · exact absurd (h1 h) (by simp)
      · exact absurd (h3 h) (by simp)
      · rcases e : tx.data.toList with _ | ⟨c, _ | ⟨d, r⟩⟩
        · rw [e] at h; cases h
        · rw [e] at h; exact ⟨c, rfl, h⟩
        · rw [e] at h; cases h
theorem first_cell {w : World} {C : Nat → Prop} {ka : Option Addr} {kc : Nat} {k : Int} {tx op : ByteArray} {K' : List Prt} {cm : Nat} {r : List Prt} (hc : Cold w C (.slice ka (r.length + 1) kc) (.mk k tx op K' cm :: r)) (hC : ∀ k, C k → k < w.heap.size) : ∃ g o, ka = some ⟨g, o, none⟩ ∧ ∀ w', Kept nob w w' → w'.cell? ⟨g, o, none⟩ = some (.int .i64 k) ∧ w'.cell? ⟨g, o + 1, none⟩ = some (.string tx) := by
  obtain ⟨g, o, cap, us, e1, hg, hcell, hr⟩ := hc.inv
  obtain ⟨a, cap', ca, cc, vs, rfl, _, _⟩ := hr.inv
  obtain ⟨rfl, rfl⟩ : ka = some ⟨g, o, none⟩ ∧ kc = cap := by simpa using e1
  refine ⟨g, o, rfl, fun w' hk => ?_⟩
  have hb := hk.block g (hC g hg) (fun h => h)
  refine ⟨?_, ?_⟩
  · rw [World.cell?_of_block hb]; exact hcell 0 (by simp)
  · rw [World.cell?_of_block hb]; exact hcell 1 (by simp)
theorem par_any {w : World} {C : Nat → Prop} {tx op : ByteArray} {K : List Prt} {ka ca : Option Addr} {kc cc : Nat} {pl : Int} (hz : tx.size ≤ 100000) (hok : okP pl (.mk 5 tx op K 0) = true) (hc : Cold w C (.slice ka K.length kc) K) (hC : ∀ k, C k → k < w.heap.size)
    (hall : okL 2 K = true → ∀ w', Kept nob w w' → Calls Try.prog 29 #[.slice ka K.length kc, .int .i64 2] w' (TrueW w')) : Calls Try.prog 78 #[.agg #[.int .i64 5, .string tx, .string op, .slice ka K.length kc, .slice ca 0 cc]] w (TrueW w) := by
  unfold okP at hok
  rw [if_neg (by decide), if_neg (by decide), if_neg (by decide), if_neg (by decide), if_pos rfl] at hok
  simp only [Bool.and_eq_true] at hok
  have hh := head_of hz hok.1.2
  have hok2 := hok.2
  split at hok2
  · rename_i hop
    obtain rfl : K = [] := by
      rcases K with _ | ⟨p, r⟩
      · rfl
      · cases hok2
    rcases hop with rfl | rfl
    · rcases hh with h | ⟨h1, h2⟩ | ⟨h1, h2, c, h3, h4⟩
      · exact par_e_A w tx ka ca kc cc h
      · exact par_e_B w tx ka ca kc cc h1 h2
      · exact par_e_C w tx ka ca kc cc h1 h2 c h3 h4
    · rcases hh with h | ⟨h1, h2⟩ | ⟨h1, h2, c, h3, h4⟩
      · exact par_l_A w tx ka ca kc cc h
      · exact par_l_B w tx ka ca kc cc h1 h2
      · exact par_l_C w tx ka ca kc cc h1 h2 c h3 h4
  · simp only [Bool.and_eq_true, Bool.or_eq_true, decide_eq_true_eq, List.any_eq_true] at hok2
    obtain ⟨⟨⟨⟨⟨o, ho, rfl⟩, htx⟩, hK⟩, h37⟩, h35⟩ := hok2
    have HALL := hall hK
    by_cases e37 : op = ⟨#[37]⟩
    · subst e37
      rcases K with _ | ⟨⟨k1, t1, o1, K1, c1⟩, r⟩
      · rcases hh with h | ⟨h1, h2⟩ | ⟨h1, h2, c, h3, h4⟩
        · exact par_n37_A w tx ka ca kc cc h htx HALL
        · exact par_n37_B w tx ka ca kc cc h1 h2 htx HALL
        · exact par_n37_C w tx ka ca kc cc h1 h2 c h3 h4 htx HALL
      · obtain ⟨g, o, rfl, hcell⟩ := first_cell hc hC
        have hf : k1 ≠ 1 ∨ t1.data.toList.head? ≠ some 37 := by
          rcases h37 with h | h
          · exact absurd rfl h
          · simp only [firstB, Prt.k, Prt.tx, Bool.or_eq_true] at h; exact h.imp (fun h => of_decide_eq_true h) (fun h => of_decide_eq_true h)
        by_cases hk1 : k1 = 1
        · subst hk1
          simp only [okL, Bool.and_eq_true] at hK
          have hn := hK.1.1
          unfold okP at hn
          simp only [if_true, Bool.and_eq_true, decide_eq_true_eq] at hn
          obtain ⟨d, hd⟩ : ∃ d, t1.data.toList.head? = some d := by
            rcases e : t1.data.toList with _ | ⟨d, _⟩
            · exact absurd e hn.1.2
            · exact ⟨d, rfl⟩
          have hd37 : d ≠ 37 := by
            intro e
            rcases hf with h | h
            · exact absurd rfl h
            · exact h (by rw [hd, e])
          rcases hh with h | ⟨h1, h2⟩ | ⟨h1, h2, c, h3, h4⟩
          · exact par_f37_A w tx ca g o kc cc h _ (Nat.succ_pos _) htx t1 d hd hd37 hcell HALL
          · exact par_f37_B w tx ca g o kc cc h1 h2 _ (Nat.succ_pos _) htx t1 d hd hd37 hcell HALL
          · exact par_f37_C w tx ca g o kc cc h1 h2 c h3 h4 _ (Nat.succ_pos _) htx t1 d hd hd37 hcell HALL
        · rcases hh with h | ⟨h1, h2⟩ | ⟨h1, h2, c, h3, h4⟩
          · exact par_k37_A w tx ca g o kc cc h _ (Nat.succ_pos _) htx k1 t1 hk1 hcell HALL
          · exact par_k37_B w tx ca g o kc cc h1 h2 _ (Nat.succ_pos _) htx k1 t1 hk1 hcell HALL
          · exact par_k37_C w tx ca g o kc cc h1 h2 c h3 h4 _ (Nat.succ_pos _) htx k1 t1 hk1 hcell HALL
    · by_cases e35 : op = ⟨#[35]⟩
      · subst e35
        rcases K with _ | ⟨⟨k1, t1, o1, K1, c1⟩, r⟩
        · rcases hh with h | ⟨h1, h2⟩ | ⟨h1, h2, c, h3, h4⟩
          · exact par_n35_A w tx ka ca kc cc h htx HALL
          · exact par_n35_B w tx ka ca kc cc h1 h2 htx HALL
          · exact par_n35_C w tx ka ca kc cc h1 h2 c h3 h4 htx HALL
        · obtain ⟨g, o, rfl, hcell⟩ := first_cell hc hC
          have hf : k1 ≠ 1 ∨ t1.data.toList.head? ≠ some 35 := by
            rcases h35 with h | h
            · exact absurd rfl h
            · simp only [firstB, Prt.k, Prt.tx, Bool.or_eq_true] at h; exact h.imp (fun h => of_decide_eq_true h) (fun h => of_decide_eq_true h)
          by_cases hk1 : k1 = 1
          · subst hk1
            simp only [okL, Bool.and_eq_true] at hK
            have hn := hK.1.1
            unfold okP at hn
            simp only [if_true, Bool.and_eq_true, decide_eq_true_eq] at hn
            obtain ⟨d, hd⟩ : ∃ d, t1.data.toList.head? = some d := by
              rcases e : t1.data.toList with _ | ⟨d, _⟩
              · exact absurd e hn.1.2
              · exact ⟨d, rfl⟩
            have hd35 : d ≠ 35 := by
              intro e
              rcases hf with h | h
              · exact absurd rfl h
              · exact h (by rw [hd, e])
            rcases hh with h | ⟨h1, h2⟩ | ⟨h1, h2, c, h3, h4⟩
            · exact par_f35_A w tx ca g o kc cc h _ (Nat.succ_pos _) htx t1 d hd hd35 hcell HALL
            · exact par_f35_B w tx ca g o kc cc h1 h2 _ (Nat.succ_pos _) htx t1 d hd hd35 hcell HALL
            · exact par_f35_C w tx ca g o kc cc h1 h2 c h3 h4 _ (Nat.succ_pos _) htx t1 d hd hd35 hcell HALL
          · rcases hh with h | ⟨h1, h2⟩ | ⟨h1, h2, c, h3, h4⟩
            · exact par_k35_A w tx ca g o kc cc h _ (Nat.succ_pos _) htx k1 t1 hk1 hcell HALL
            · exact par_k35_B w tx ca g o kc cc h1 h2 _ (Nat.succ_pos _) htx k1 t1 hk1 hcell HALL
            · exact par_k35_C w tx ca g o kc cc h1 h2 c h3 h4 _ (Nat.succ_pos _) htx k1 t1 hk1 hcell HALL
      · rcases hh with h | ⟨h1, h2⟩ | ⟨h1, h2, c, h3, h4⟩
        · exact par_o_A w tx op _ ka ca kc cc h ho htx e37 e35 HALL
        · exact par_o_B w tx op _ ka ca kc cc h1 h2 ho htx e37 e35 HALL
        · exact par_o_C w tx op _ ka ca kc cc h1 h2 c h3 h4 ho htx e37 e35 HALL
end Go.Proofs.Ytbmapjgajecgfaa
set_option linter.unusedVariables false
set_option linter.unusedSimpArgs false
namespace Go.Proofs.Ytbmapjgajecgfaa
open Go.RowKit
theorem pcell5 {w : World} {C : Nat → Prop} {va : Option Addr} {vc : Nat} {K : List Prt} (hc : Cold w C (.slice va K.length vc) K) (hC : ∀ k, C k → k < w.heap.size) :
    ∃ g o, ∀ (k : Nat) (kk : Int) (tx op : ByteArray) (K' : List Prt) (cm : Nat), K[k]? = some (.mk kk tx op K' cm) → ∃ ka kc ca cc, va = some ⟨g, o, none⟩ ∧ (∀ w', Kept nob w w' → w'.cell? ⟨g, o + k * 5, none⟩ = some (.int .i64 kk) ∧ w'.cell? ⟨g, o + k * 5 + 1, none⟩ = some (.string tx) ∧ w'.cell? ⟨g, o + k * 5 + 2, none⟩ = some (.string op) ∧ w'.cell? ⟨g, o + k * 5 + 3, none⟩ = some (.slice ka K'.length kc) ∧ w'.cell? ⟨g, o + k * 5 + 4, none⟩ = some (.slice ca cm cc)) ∧ Cold w C (.slice ka K'.length kc) K' := by
  rcases hc with ⟨a, cap, e1, e2⟩ | ⟨g, o, cap, us, e1, hg, hcell, hr⟩
  · exact ⟨0, 0, fun k kk tx op K' cm hk => by rw [e2] at hk; simp at hk⟩
  · refine ⟨g, o, fun k kk tx op K' cm hk => ?_⟩
    obtain ⟨ka, kc, ca, cc, h1, h2⟩ := hr.at k hk
    obtain ⟨rfl, rfl⟩ : va = some ⟨g, o, none⟩ ∧ vc = cap := by simpa using e1
    have hlt : k < K.length := (List.getElem?_eq_some_iff.1 hk).1
    have hul := hr.len
    have hat : ∀ j, j < 5 → w.cell? ⟨g, o + k * 5 + j, none⟩ = ([.int .i64 kk, .string tx, .string op, .slice ka K'.length kc, .slice ca cm cc] : List Value)[j]? := fun j hj => by
      rw [← h1 j hj, ← hcell (k * 5 + j) (by omega), Nat.add_assoc]
    refine ⟨ka, kc, ca, cc, rfl, fun w' hk' => ?_, h2⟩
    have hb := hk'.block g (hC g hg) (fun h => h)
    refine ⟨?_, ?_, ?_, ?_, ?_⟩
    · rw [World.cell?_of_block hb]; exact hat 0 (by omega)
    · rw [World.cell?_of_block hb]; exact hat 1 (by omega)
    · rw [World.cell?_of_block hb]; exact hat 2 (by omega)
    · rw [World.cell?_of_block hb]; exact hat 3 (by omega)
    · rw [World.cell?_of_block hb]; exact hat 4 (by omega)
theorem okL_at {pl : Int} {K : List Prt} (h : okL pl K = true) {k : Nat} {p : Prt} (hk : K[k]? = some p) : okP pl p = true := by
  induction K generalizing k with
  | nil => simp at hk
  | cons q r ih =>
    simp only [okL, Bool.and_eq_true] at h
    rcases k with _ | k
    · obtain rfl : q = p := by simpa using hk
      exact h.1.1
    · exact ih h.2 (by simpa using hk)
theorem okL_adj {pl : Int} {K : List Prt} (h : okL pl K = true) {k : Nat} {p q : Prt} (hk : K[k]? = some p) (hq : K[k + 1]? = some q) : p.k ≠ 1 ∨ (q.k ≠ 1 ∧ (endsDol p.tx = false ∨ (q.k ≠ 5 ∧ q.k ≠ 6 ∧ q.k ≠ 7))) := by
  induction K generalizing k with
  | nil => simp at hk
  | cons x r ih =>
    simp only [okL, Bool.and_eq_true] at h
    rcases k with _ | k
    · obtain rfl : x = p := by simpa using hk
      rcases r with _ | ⟨y, r⟩
      · simp at hq
      · obtain rfl : y = q := by simpa using hq
        have h1 := h.1.2
        simp only [adjB, Bool.or_eq_true, Bool.and_eq_true, decide_eq_true_eq, Bool.not_eq_true'] at h1
        exact h1
    · exact ih h.2 (by simpa using hk) (by simpa using hq)
theorem last_at {tx : ByteArray} {m : Nat} (hm : tx.size = m + 1) (hml : m < tx.size) : endsDol tx.data.toList = decide (((tx[m]'hml).toNat : Int) = 36) := by
  have h1 : tx.data.toList.getLast? = some (tx[m]'hml) := by
    have e : tx.data.toList.length = tx.size := by simp
    rw [List.getLast?_eq_getElem?, e, hm, Nat.add_sub_cancel, List.getElem?_eq_getElem (by omega)]
    rfl
  unfold endsDol
  rw [h1, decide_eq_decide, Option.some.injEq]
  exact (tn (tx[m]'hml) 36).symm
theorem ne_of_ok1 {pl : Int} {tx op : ByteArray} {K : List Prt} {cm : Nat} (h : okP pl (.mk 1 tx op K cm) = true) : tx.data.toList ≠ [] := by
  unfold okP at h
  simp only [if_true, Bool.and_eq_true, decide_eq_true_eq] at h
  exact h.1.2
theorem size_succ {tx : ByteArray} (h : tx.data.toList ≠ []) : ∃ m, tx.size = m + 1 := ⟨tx.size - 1, by
  have := List.length_pos_iff.2 h
  simp at this
  omega⟩
theorem wr_pred {n m : Nat} (hm : n = m + 1) (h : n ≤ 100000) : wrap64 ((n : Int) - 1) = (m : Int) := by unfold wrap64; omega
/-- A part in memory: one answers true for it. -/
def OneT (w : World) (pl : Int) (kk : Int) (tx op : ByteArray) (ka : Option Addr) (n kc : Nat) (ca : Option Addr) (cm cc : Nat) : Prop := ∀ w', Kept nob w w' → Calls Try.prog 52 #[.agg #[.int .i64 kk, .string tx, .string op, .slice ka n kc, .slice ca cm cc], .int .i64 pl] w' (TrueW w')
set_option maxRecDepth 100000 in
set_option maxHeartbeats 8000000 in
theorem all_of (K : List Prt) (pl : Int) (w : World) (C : Nat → Prop) (va : Option Addr) (vc : Nat) (hc : Cold w C (.slice va K.length vc) K) (hC : ∀ k, C k → k < w.heap.size) (hlen : K.length ≤ 100000) (hok : okL pl K = true) (htz : ∀ (k : Nat) (kk : Int) (tx op : ByteArray) (K' : List Prt) (cm : Nat), K[k]? = some (Prt.mk kk tx op K' cm) → tx.size ≤ 100000)
    (hone : ∀ (k : Nat) (kk : Int) (tx op : ByteArray) (K' : List Prt) (cm : Nat) (ka : Option Addr) (kc : Nat) (ca : Option Addr) (cc : Nat), K[k]? = some (Prt.mk kk tx op K' cm) → Cold w C (.slice ka K'.length kc) K' → OneT w pl kk tx op ka K'.length kc ca cm cc) : Calls Try.prog 29 #[.slice va K.length vc, .int .i64 pl] w (TrueW w) := by
  obtain ⟨g, o, hp5⟩ := pcell5 hc hC
  have HP := Lib.hid hp5
  have HO := Lib.hid hone
  have HOK := Lib.hid hok
  have HL := Lib.hid hlen
  have HTZ := Lib.hid htz
  clear hc hC hok hone hp5 hlen htz
  go_enter Try.func29, Try.ntmps29
  go_wp2
  go_loopw [5] (fun i wr => ∃ (k : Nat), k ≤ K.length ∧ i = .int .i64 k ∧ Hid (Kept nob w wr)) (fun i _ => K.length - (intOf i).toNat)
  case atStart => exact ⟨0, Nat.zero_le _, rfl, Lib.hid (Kept.refl _ _)⟩
  case round =>
    obtain ⟨k, hk, rfl, HR⟩ := hrel
    by_cases hlt : k < K.length
    · obtain ⟨q, hq⟩ : ∃ q, K[k]? = some q := ⟨_, List.getElem?_eq_getElem hlt⟩
      obtain ⟨kk, tx, op, K', cm⟩ := q
      obtain ⟨ka, kc, ca, cc, hva, hcell, hcold⟩ := HP.out k kk tx op K' cm hq
      have HONE := Lib.hid (HO.out k kk tx op K' cm ka kc ca cc hq hcold)
      have HCELL := Lib.hid hcell
      have HQ := Lib.hid hq
      subst hva
      have hki : (k : Int) < (K.length : Int) := by omega
      obtain ⟨d0, d1, d2, d3, d4⟩ := hcell wr HR.out
      clear hcell hcold hq
      rcases k with _ | k
      · simp only [Nat.zero_mul, Nat.add_zero] at d0 d1 d2 d3 d4
        go_wp2_with fail
        refine (HONE.out wr HR.out).mono ?_
        rintro e w2 ⟨rfl, hk2⟩
        have HK2 := Lib.hid (HR.out.trans hk2 (fun _ _ h => h))
        clear hk2
        go_wp2
        go_roundw
        case rel => exact ⟨1, by omega, by go_num, HK2⟩
        case measure => simp [intOf]; omega
      · obtain ⟨p, hpp⟩ : ∃ p, K[k]? = some p := ⟨_, List.getElem?_eq_getElem (by omega)⟩
        obtain ⟨pk, ptx, pop, pK, pcm⟩ := p
        obtain ⟨_, _, _, _, _, hcellp, _⟩ := HP.out k pk ptx pop pK pcm hpp
        have hadj := okL_adj HOK.out hpp HQ.out
        have hokp := okL_at HOK.out hpp
        have HCP := Lib.hid hcellp
        have wk : wrap64 (k : Int) = (k : Int) := by unfold wrap64; have := HL.out; omega
        have wk2 : wrap64 ((k : Int) + 1 + 1) = (k : Int) + 1 + 1 := by unfold wrap64; have := HL.out; omega
        have HLE : Hid (k + 1 + 1 ≤ K.length) := Lib.hid (by omega)
        have HNUM : Hid (Value.int .i64 (wrap64 ((k : Int) + 1 + 1)) = Value.int .i64 ((k + 1 + 1 : Nat) : Int)) := Lib.hid (by rw [wk2]; rfl)
        have HMS : Hid (K.length - (intOf (Value.int .i64 (wrap64 ((k : Int) + 1 + 1)))).toNat < K.length - (intOf (Value.int .i64 ((k + 1 : Nat) : Int))).toNat) := Lib.hid (by rw [wk2]; simp [intOf]; omega)
        have nk : ((k : Int) + 1 == 0) = false := by rw [beq_eq_false_iff_ne]; omega
        have kl : (k : Int) < (K.length : Int) := by omega
        go_wp2_with fail
        refine (HONE.out wr HR.out).mono ?_
        rintro e w2 ⟨rfl, hk2⟩
        have HK2 := Lib.hid (HR.out.trans hk2 (fun _ _ h => h))
        obtain ⟨f0, f1, f2, f3, f4⟩ := HCP.out w2 HK2.out
        clear hk2 d0 d1 d2 d3 d4
        obtain ⟨d0, d1, d2, d3, d4⟩ := HCELL.out w2 HK2.out
        by_cases hp1 : pk = 1
        · subst hp1
          have hx : kk ≠ 1 ∧ (endsDol ptx.data.toList = false ∨ (kk ≠ 5 ∧ kk ≠ 6 ∧ kk ≠ 7)) := by
            rcases hadj with h | h
            · exact absurd rfl h
            · exact h
          have hne : ptx.data.toList ≠ [] := ne_of_ok1 hokp
          obtain ⟨m, hm⟩ := size_succ hne
          have HM := Lib.hid hm
          have hml : m < ptx.size := by omega
          obtain ⟨z, hz⟩ : ∃ z : Int, ((ptx[m]'hml).toNat : Int) = z := ⟨_, rfl⟩
          have hlast : endsDol ptx.data.toList = decide (z = 36) := by rw [← hz]; exact last_at hm hml
          rw [hlast] at hx
          have q1 : (kk == 1) = false := beq_eq_false_iff_ne.2 hx.1
          have hms : ptx.size ≤ 100000 := (HTZ.out k _ ptx _ _ _ hpp)
          have wm : wrap64 ((ptx.size : Int) - 1) = (m : Int) := wr_pred hm hms
          have hmi : (m : Int) < (ptx.size : Int) := Int.ofNat_lt.2 hml
          have HX := Lib.hid hx.2
          clear hadj hokp hne hlast hx hms hm
          by_cases hz36 : z = 36
          · have z1 : (z == 36) = true := by simpa using hz36
            have h567 : kk ≠ 5 ∧ kk ≠ 6 ∧ kk ≠ 7 := by
              rcases HX.out with h | h
              · rw [decide_eq_false_iff_not] at h; exact absurd hz36 h
              · exact h
            have q5 : (kk == 5) = false := beq_eq_false_iff_ne.2 h567.1
            have q6 : (kk == 6) = false := beq_eq_false_iff_ne.2 h567.2.1
            have q7 : (kk == 7) = false := beq_eq_false_iff_ne.2 h567.2.2
            clear h567 hz36
            go_wp2_with fail
            go_roundw
            case rel => exact ⟨k + 1 + 1, HLE.out, HNUM.out, HK2⟩
            case measure => exact HMS.out
          · have z1 : (z == 36) = false := by simpa using hz36
            clear hz36
            go_wp2_with fail
            go_roundw
            case rel => exact ⟨k + 1 + 1, HLE.out, HNUM.out, HK2⟩
            case measure => exact HMS.out
        · have p1 : (pk != 1) = true := by simpa using hp1
          clear hadj hokp
          go_wp2_with fail
          go_roundw
          case rel => exact ⟨k + 1 + 1, HLE.out, HNUM.out, HK2⟩
          case measure => exact HMS.out
    · go_wp2
      go_ret
      exact ⟨rfl, HR.out⟩
end Go.Proofs.Ytbmapjgajecgfaa
set_option linter.unusedVariables false
set_option linter.unusedSimpArgs false
namespace Go.Proofs.Ytbmapjgajecgfaa
open Go.RowKit
theorem ba_one {tx : ByteArray} {c : UInt8} (h : tx.data.toList = [c]) : tx = ⟨#[c]⟩ := ByteArray.ext (Array.toList_inj.1 h)
theorem nil_of {K : List Prt} (h : K.isEmpty = true) : K = [] := by
  rcases K with _ | ⟨p, r⟩
  · rfl
  · cases h
theorem all_any (N : Nat) : ∀ (K : List Prt), SizeOf.sizeOf K < N → ∀ (w : World) (C : Nat → Prop) (va : Option Addr) (vc : Nat) (pl : Int), Cold w C (.slice va K.length vc) K → (∀ k, C k → k < w.heap.size) → Short K → tzAll K → okL pl K = true → Calls Try.prog 29 #[.slice va K.length vc, .int .i64 pl] w (TrueW w) := by
  induction N with
  | zero => intro K h; omega
  | succ N ih =>
    intro K hN w C va vc pl hc hC hs ht hok
    refine all_of K pl w C va vc hc hC hs.1 hok (fun k kk tx op K' cm hk => ?_) (fun k kk tx op K' cm ka kc ca cc hk hcold => ?_)
    · have := tz_at ht hk
      simp only [Prt.tz] at this
      exact this.1
    · intro w' hkw
      have hsz := sz_kids hk
      have htp := tz_at ht hk
      simp only [Prt.tz] at htp
      have hsk := short_kids hs.2 hk
      have hp := okL_at hok hk
      have hC' : ∀ j, C j → j < w'.heap.size := fun j hj => Nat.lt_of_lt_of_le (hC j hj) hkw.size
      have hcold' : Cold w' C (.slice ka K'.length kc) K' := hcold.kept hkw (fun j hj => ⟨fun h => h, hC j hj⟩)
      have hall : ∀ pl', okL pl' K' = true → ∀ w2, Kept nob w' w2 → Calls Try.prog 29 #[.slice ka K'.length kc, .int .i64 pl'] w2 (TrueW w2) := fun pl' ho w2 h2 =>
        ih K' (by omega) w2 C ka kc pl' (hcold'.kept h2 (fun j hj => ⟨fun h => h, hC' j hj⟩)) (fun j hj => Nat.lt_of_lt_of_le (hC' j hj) h2.size) hsk htp.2 ho
      have hp0 := hp
      unfold okP at hp
      split at hp
      · rename_i e; subst e
        simp only [Bool.and_eq_true, decide_eq_true_eq] at hp
        obtain ⟨⟨⟨⟨rfl, h2⟩, rfl⟩, h4⟩, h5⟩ := hp
        obtain rfl := nil_of h2
        exact one_1 w' tx ka ca kc cc pl htp.1 h4 h5
      split at hp
      · rename_i e; subst e
        simp only [Bool.and_eq_true, decide_eq_true_eq] at hp
        obtain ⟨⟨⟨rfl, h2⟩, rfl⟩, h4⟩ := hp
        obtain rfl := nil_of h2
        rcases e : tx.data.toList with _ | ⟨c, _ | ⟨d, r⟩⟩
        · rw [e] at h4; cases h4
        · rw [e] at h4
          simp only [Bool.and_eq_true, Bool.or_eq_true, decide_eq_true_eq] at h4
          obtain rfl := ba_one e
          exact one_2 w' c ka ca kc cc pl h4.1.1 h4.1.2 (fun hp => by
            rcases h4.2 with h | h
            · exact absurd hp h
            · exact h)
        · rw [e] at h4; cases h4
      split at hp
      · rename_i e; subst e
        simp only [Bool.and_eq_true, decide_eq_true_eq] at hp
        obtain ⟨⟨⟨⟨rfl, h2⟩, rfl⟩, h4⟩, h5⟩ := hp
        obtain rfl := nil_of h2
        exact one_3 w' tx ka ca kc cc pl htp.1 h4 h5
      split at hp
      · rename_i e; subst e
        simp only [Bool.and_eq_true, decide_eq_true_eq] at hp
        obtain ⟨⟨⟨⟨rfl, rfl⟩, h3⟩, rfl⟩, h5⟩ := hp
        exact one_4 w' ka ca _ kc cc pl h3 (fun w2 h2 => hall 1 h5 w2 h2)
      split at hp
      · rename_i e; subst e
        have hcm : cm = 0 := by
          simp only [Bool.and_eq_true, decide_eq_true_eq] at hp
          exact hp.1.1
        subst hcm
        refine one_5 w' tx op ka ca _ kc cc pl (fun w2 h2 => ?_)
        exact par_any (C := C) htp.1 hp0 (hcold'.kept h2 (fun j hj => ⟨fun h => h, hC' j hj⟩)) (fun j hj => Nat.lt_of_lt_of_le (hC' j hj) h2.size) (fun ho w3 h3 => hall 2 ho w3 (h2.trans h3 (fun _ _ h => h)))
      split at hp
      · rename_i e; subst e
        simp only [Bool.and_eq_true, decide_eq_true_eq] at hp
        obtain ⟨⟨⟨rfl, h2⟩, rfl⟩, h5⟩ := hp
        obtain rfl := nil_of h2
        exact one_7 w' tx ka ca kc cc pl htp.1 h5
      · cases hp
end Go.Proofs.Ytbmapjgajecgfaa
set_option linter.unusedVariables false
set_option linter.unusedSimpArgs false
namespace Go.Proofs.Ytbmapjgajecgfaa
open Go.RowKit
set_option maxRecDepth 100000 in
set_option maxHeartbeats 8000000 in
theorem right_any (w : World) (C : Nat → Prop) (va : Option Addr) (vc : Nat) (p : Prt) (r : List Prt) (hc : Cold w C (.slice va (r.length + 1) vc) (p :: r)) (hC : ∀ k, C k → k < w.heap.size) (hs : Short (p :: r)) (ht : tzAll (p :: r)) (hok : okL 0 (p :: r) = true) (hf : firstB 35 (p :: r) = true) : Calls Try.prog 21 #[.agg #[.slice va (r.length + 1) vc]] w (TrueW w) := by
  obtain ⟨k1, t1, o1, K1, c1⟩ := p
  obtain ⟨g, o, rfl, hcell⟩ := first_cell hc hC
  have HALL := Lib.hid (fun (w' : World) (hk : Kept nob w w') => all_any (SizeOf.sizeOf (Prt.mk k1 t1 o1 K1 c1 :: r) + 1) _ (by omega) w' C _ vc 0 (hc.kept hk (fun j hj => ⟨fun h => h, hC j hj⟩)) (fun j hj => Nat.lt_of_lt_of_le (hC j hj) hk.size) hs ht hok)
  have hf2 : k1 ≠ 1 ∨ t1.data.toList.head? ≠ some 35 := by
    simp only [firstB, Prt.k, Prt.tx, Bool.or_eq_true] at hf
    exact hf.imp (fun h => of_decide_eq_true h) (fun h => of_decide_eq_true h)
  have hn : k1 = 1 → t1.data.toList ≠ [] := fun e => by
    subst e
    exact ne_of_ok1 (okL_at hok (k := 0) rfl)
  have HC := Lib.hid hcell
  obtain ⟨n, hnn⟩ : ∃ n, r.length + 1 = n := ⟨_, rfl⟩
  have hle : (Prt.mk k1 t1 o1 K1 c1 :: r).length = n := hnn
  rw [hle] at HALL
  rw [hnn]
  have n0 : ((n : Int) == 0) = false := by rw [beq_eq_false_iff_ne]; omega
  have n1 : (0 : Int) < (n : Int) := by omega
  clear hcell hc hC hs ht hok hf hnn hle
  by_cases hk1 : k1 = 1
  · subst hk1
    obtain ⟨d, r1, hr1⟩ : ∃ d r1, t1.data.toList = d :: r1 := by
      rcases e : t1.data.toList with _ | ⟨d, r1⟩
      · exact absurd e (hn rfl)
      · exact ⟨d, r1, rfl⟩
    have hd : d ≠ 35 := by
      intro e
      rcases hf2 with h | h
      · exact absurd rfl h
      · exact h (by rw [hr1, e]; rfl)
    have hlt1 : 0 < t1.size := by
      have := congrArg List.length hr1
      simp at this
      omega
    have hix1 : ((t1[0]'hlt1).toNat : Int) = (d.toNat : Int) := by
      have : (t1[0]'hlt1) = d := by
        have h1 : t1.data.toList[0]'(by rw [hr1]; simp) = d := by simp [hr1]
        rw [← h1]; rfl
      rw [this]
    have e1 : ¬ (d.toNat : Int) = 35 := fun e => hd ((tn d 35).1 e)
    obtain ⟨y, hyd⟩ : ∃ y : Int, (d.toNat : Int) = y := ⟨_, rfl⟩
    rw [hyd] at hix1 e1
    have y5 : (y != 35) = true := by simpa using e1
    clear hf2 hn hr1 hyd e1 hd
    go_enter Try.func21, Try.ntmps21
    go_wp2_with fail
    refine (HALL.out _ (Kept.alloc w _ nob)).mono ?_
    rintro e w2 ⟨rfl, hk⟩
    have HK := Lib.hid ((Kept.alloc w _ nob).trans hk (fun _ _ h => h))
    have hb := (hk.block w.heap.size (by simp) (fun h => h)).trans (alloc_blk w _)
    have d0 := cell_blk hb 0
    obtain ⟨f0, f1⟩ := HC.out _ HK.out
    clear hk hb
    go_wp2
    go_ret
    exact ⟨rfl, HK.out⟩
  · have k2 : (k1 != 1) = true := by simpa using hk1
    clear hf2 hn hk1
    go_enter Try.func21, Try.ntmps21
    go_wp2_with fail
    refine (HALL.out _ (Kept.alloc w _ nob)).mono ?_
    rintro e w2 ⟨rfl, hk⟩
    have HK := Lib.hid ((Kept.alloc w _ nob).trans hk (fun _ _ h => h))
    have hb := (hk.block w.heap.size (by simp) (fun h => h)).trans (alloc_blk w _)
    have d0 := cell_blk hb 0
    obtain ⟨f0, f1⟩ := HC.out _ HK.out
    clear hk hb
    go_wp2
    go_ret
    exact ⟨rfl, HK.out⟩
end Go.Proofs.Ytbmapjgajecgfaa
set_option linter.unusedVariables false
set_option linter.unusedSimpArgs false
namespace Go.Proofs.Ytbmapjgajecgfaa
open Go.RowKit
theorem awake_w {W w : World} (hk : Kept nob W w) : Calls Try.prog 8 #[] w (TrueW W) := by
  refine (awake_any w).mono ?_
  rintro e w' ⟨rfl, h⟩
  exact ⟨rfl, hk.trans h (fun _ _ h => h)⟩
theorem right_fin {c : UInt8} {l : List UInt8} (hc : c ≠ 35) (hl : (c :: l).length ≤ 600) (h1 : (run St.init (c :: l) 0).2.2 = 1) (hat : (run St.init (c :: l) 0).2.1 ≠ 0) :
    ∃ p r, (run St.init (c :: l) 0).1.bot.ps = p :: r ∧ Short (p :: r) ∧ tzAll (p :: r) ∧ okL 0 (p :: r) = true ∧ firstB 35 (p :: r) = true := by
  obtain ⟨f1, f2, f3, f4⟩ := word_right hc h1 hat
  have hinv := (run_inv (c :: l) St.init 0 0 init_inv (by omega)).1
  have htz := run_tz (c :: l) St.init 0 0 init_inv init_tz (by omega)
  obtain ⟨x, hx⟩ : ∃ x, (run St.init (c :: l) 0).1 = x := ⟨_, rfl⟩
  rw [hx] at f1 f2 f3 f4 hinv htz ⊢
  have hb : x.bot = x.tp := by unfold St.bot; rw [f1]; rfl
  have hsh := bot_short hinv.sh (hinv.good.mono (by omega))
  rw [hb] at hsh ⊢
  have ht := (htz x.tp (by simp [St.all])).1
  rcases e : x.tp.ps with _ | ⟨p, r⟩
  · exact absurd e f4
  · rw [e] at hsh ht f2 f3
    exact ⟨p, r, rfl, hsh, ht, f2, f3⟩
set_option maxRecDepth 100000 in
set_option maxHeartbeats 8000000 in
theorem right_walk (w : World) (s : ByteArray) (hs : s.size ≤ 9223372036854775807) : Calls Try.prog 6 #[.string s] w (TrueW w) := by
  by_cases hbig : 600 < s.size
  · go_enter Try.func6, Try.ntmps6
    go_wp2_with fail
    refine (awake_w (Kept.refl nob w)).mono ?_
    rintro e w' ⟨rfl, hk⟩
    go_wp2
    go_ret
    exact ⟨rfl, hk⟩
  have hs6 : s.size ≤ 600 := by omega
  clear hbig hs
  rcases hd : s.data.toList with _ | ⟨c, l⟩
  · obtain rfl : s = ⟨#[]⟩ := ByteArray.ext (Array.toList_inj.1 hd)
    clear hd
    go_enter Try.func6, Try.ntmps6
    go_wp2_with fail
    refine (awake_w (Kept.refl nob w)).mono ?_
    rintro e w' ⟨rfl, hk⟩
    go_wp2
    go_ret
    exact ⟨rfl, hk⟩
  have hlt : 0 < s.size := by
    have := congrArg List.length hd
    simp at this
    omega
  have hix : ((s[0]'hlt).toNat : Int) = (c.toNat : Int) := by
    have : (s[0]'hlt) = c := by
      have h1 : s.data.toList[0]'(by rw [hd]; simp) = c := by simp [hd]
      rw [← h1]; rfl
    rw [this]
  have q0 : ¬ s.toList = [] := by rw [ByteArray.toList_eq, hd]; simp
  have q0' : s.toList.isEmpty = false := by simpa using q0
  have HF := Lib.hid (fed_any w w (Kept.refl _ _) s (by omega))
  rw [hd] at HF
  have hll : (c :: l).length ≤ 600 := by rw [← hd]; simpa using hs6
  by_cases hc : c = 35
  · have z1 : ((s[0]'hlt).toNat : Int) = 35 := by rw [hix, hc]; rfl
    clear hix hd hll hc
    go_enter Try.func6, Try.ntmps6
    go_wp2_with fail
    refine (awake_w (Kept.refl nob w)).mono ?_
    rintro e w' ⟨rfl, hk⟩
    go_wp2
    go_ret
    exact ⟨rfl, hk⟩
  have e35 : ¬ (c.toNat : Int) = 35 := fun e => hc ((tn c 35).1 e)
  have HFIN := Lib.hid (right_fin hc hll)
  have H16 := Lib.hid (run_16 (c :: l) St.init 0)
  obtain ⟨y, hy⟩ : ∃ y : Int, (c.toNat : Int) = y := ⟨_, rfl⟩
  rw [hy] at hix e35
  have y1 : (y == 35) = false := by simpa using e35
  obtain ⟨r, hr⟩ : ∃ r, run St.init (c :: l) 0 = r := ⟨_, rfl⟩
  rw [hr] at HF HFIN H16
  clear hr hd hll hc hy e35
  go_enter Try.func6, Try.ntmps6
  go_wp2_with fail
  refine HF.out.mono ?_
  rintro e w1 ⟨b, rfl, hm⟩
  have HM := Lib.hid hm
  clear hm
  obtain ⟨sg, hsg⟩ : ∃ x, r.2.2 = x := ⟨_, rfl⟩
  obtain ⟨ix, hixx⟩ : ∃ x, r.2.1 = x := ⟨_, rfl⟩
  rw [hsg] at HFIN H16 ⊢
  rw [hixx] at HFIN ⊢
  clear hsg hixx
  by_cases h16 : r.1.kd = 16
  · have HW := Lib.hid (mac_wordK HM.out h16)
    clear h16
    go_wp2_with fail
    refine HW.out.mono ?_
    rintro e w4 ⟨v, he, hk4, hwd⟩
    obtain rfl := he
    obtain ⟨va, vc, hv⟩ : ∃ a c, v = .slice a r.1.bot.ps.length c := by
      obtain ⟨C, h, _⟩ := hwd
      rcases h with ⟨a, cap, e1, e2⟩ | ⟨g, o, cap, us, e1, _⟩
      · exact ⟨a, cap, by rw [e1, e2]; rfl⟩
      · exact ⟨_, _, e1⟩
    subst hv
    have HWD := Lib.hid hwd
    have HK4 := Lib.hid (HM.out.kept.trans hk4 (fun _ _ h => h))
    clear hk4 hwd
    by_cases hgo : sg = 1 ∧ ix ≠ 0
    · obtain ⟨p, q, hb, h1, h2, h3, h4⟩ := HFIN.out hgo.1 hgo.2
      have hgo1 : (sg != 1) = false := by simp [hgo.1]
      have hgo2 : ((ix : Int) == 0) = false := by rw [beq_eq_false_iff_ne]; have := hgo.2; omega
      have HRT : Hid (∀ o, Calls Try.prog 21 #[.agg #[.slice va r.1.bot.ps.length vc]] (w4.alloc o) (TrueW (w4.alloc o))) := Lib.hid (fun o => by
        obtain ⟨C, hcold, hC⟩ := HWD.out
        rw [hb] at hcold ⊢
        have hk := Kept.alloc w4 o nob
        exact right_any _ C va vc p q (hcold.kept hk (fun j hj => ⟨fun h => h, hC j hj⟩)) (fun j hj => Nat.lt_of_lt_of_le (hC j hj) hk.size) h1 h2 h3 h4)
      obtain ⟨n, hn⟩ : ∃ n, r.1.bot.ps.length = n := ⟨_, rfl⟩
      rw [hn] at HRT ⊢
      clear hb h1 h2 h3 h4 hgo hn
      go_wp2_with fail
      refine (HRT.out _).mono ?_
      rintro e w5 ⟨rfl, hk⟩
      have HK5 := Lib.hid ((HK4.out.trans (Kept.alloc _ _ nob) (fun _ _ h => h)).trans hk (fun _ _ h => h))
      clear hk
      go_wp2_with fail
      refine (awake_w HK5.out).mono ?_
      rintro e w' ⟨rfl, hk⟩
      go_wp2
      go_ret
      exact ⟨rfl, hk⟩
    · by_cases hs1 : sg = 1
      · have hi0 : ix = 0 := by
          by_cases h : ix = 0
          · exact h
          · exact absurd ⟨hs1, h⟩ hgo
        subst hi0 hs1
        clear hgo
        go_wp2_with fail
        refine (awake_w (HK4.out.trans (Kept.alloc _ _ nob) (fun _ _ h => h))).mono ?_
        rintro e w' ⟨rfl, hk⟩
        go_wp2
        go_ret
        exact ⟨rfl, hk⟩
      · have hgo1 : (sg != 1) = true := by simpa using hs1
        clear hgo hs1
        go_wp2_with fail
        refine (awake_w (HK4.out.trans (Kept.alloc _ _ nob) (fun _ _ h => h))).mono ?_
        rintro e w' ⟨rfl, hk⟩
        go_wp2
        go_ret
        exact ⟨rfl, hk⟩
  · have hs1 : sg ≠ 1 := fun e => h16 (H16.out e)
    have hgo1 : (sg != 1) = true := by simpa using hs1
    have HW := Lib.hid (mac_wordN HM.out h16)
    clear h16 hs1
    go_wp2_with fail
    refine HW.out.mono ?_
    rintro e w4 ⟨rfl, hk4⟩
    have HK4 := Lib.hid (HM.out.kept.trans hk4 (fun _ _ h => h))
    clear hk4
    go_wp2_with fail
    refine (awake_w (HK4.out.trans (Kept.alloc _ _ nob) (fun _ _ h => h))).mono ?_
    rintro e w' ⟨rfl, hk⟩
    go_wp2
    go_ret
    exact ⟨rfl, hk⟩
theorem wordmRight_walk (w : World) (s : ByteArray) (hs : s.size ≤ 9223372036854775807) : Calls Try.prog 6 #[.string s] w fun e w' => e = .returned (.bool true) ∧ Kept nob w w' := right_walk w s hs
end Go.Proofs.Ytbmapjgajecgfaa

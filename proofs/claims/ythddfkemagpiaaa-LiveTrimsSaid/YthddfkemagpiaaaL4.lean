/-
  What is proved: what the generic helpers of package gram answer, for whatever test. Conditions: the arguments can be read; the test is told by a contract.
-/
import Derived.Test.YthddfkemagpiaaaL3
set_option linter.unusedVariables false
set_option linter.unusedSimpArgs false
namespace Go.Proofs.Ythddfkemagpiaaa
open Go.RowKit
theorem any_at {α : Type} {L : List α} {t : α → Bool} {k : Nat} {r : α} (h : L[k]? = some r) (ht : t r = true) : L.any t = true :=
  List.any_eq_true.2 ⟨r, List.mem_of_getElem? h, ht⟩
theorem any_no {α : Type} {L : List α} {t : α → Bool} (h : ∀ (j : Nat) (r : α), L[j]? = some r → t r = false) : L.any t = false := by
  rw [List.any_eq_false]
  intro x hx
  obtain ⟨i, hi, e⟩ := List.mem_iff_getElem.1 hx
  have := h i x (by rw [List.getElem?_eq_getElem hi, e])
  simp [this]
theorem all_not {α : Type} (L : List α) (t : α → Bool) : (!L.any fun x => !t x) = L.all t := by
  induction L with
  | nil => rfl
  | cons x l ih => simp [List.any_cons, List.all_cons, ← ih]
def RetIx (w : World) (b : Bool) (e : Ending) (w' : World) : Prop := ∃ i : Int, e = .returned (.int .i64 i) ∧ Hid (decide (i ≥ 0) = b) ∧ Kept nob w w'
def RetB1 (w : World) (b : Bool) (e : Ending) (w' : World) : Prop := e = .returned (.bool b) ∧ Kept nob w w'
theorem sv_at {w : World} {a : Option Addr} {xs : List ByteArray} (hx : Rd w a (sv xs)) {k : Nat} (hk : k < xs.length) : ∃ b o s, a = some ⟨b, o, none⟩ ∧ xs[k]? = some s ∧ w.cell? ⟨b, o + k, none⟩ = some (.string s) := by
  rcases hx with h | ⟨b, o, rfl, hc⟩
  · have := sv_len xs; rw [h] at this; simp at this; omega
  · refine ⟨b, o, xs[k], rfl, List.getElem?_eq_getElem hk, ?_⟩
    rw [hc k (by rw [sv_len]; exact hk)]
    simp [sv, hk]
theorem iv_at2 {w : World} {a : Option Addr} {xs : List Int} (hx : Rd w a (iv xs)) {k : Nat} (hk : k < xs.length) : ∃ b o s, a = some ⟨b, o, none⟩ ∧ xs[k]? = some s ∧ w.cell? ⟨b, o + k, none⟩ = some (.int .i64 s) := by
  rcases hx with h | ⟨b, o, rfl, hc⟩
  · have := iv_len xs; rw [h] at this; simp at this; omega
  · refine ⟨b, o, xs[k], rfl, List.getElem?_eq_getElem hk, ?_⟩
    rw [hc k (by rw [iv_len]; exact hk)]
    simp [iv, hk]
/-- A function value that tells of each element whether it passes a test. -/
def Test100 (w : World) (q0 : Nat) (P : Rl → Prop) (t : Rl → Bool) : Prop :=
  ∀ (w' : World) (l : Int) (xs : List Int) (ra : Option Addr) (rc : Nat), Kept nob w w' → Rd w' ra (iv xs) → P (l, xs) → Calls Try.prog 100 #[.agg #[.int .i64 l, .slice ra xs.length rc], .pointer (some ⟨q0, 0, none⟩)] w' (RetB1 w' (t (l, xs)))
/-- A function value that tells of each element whether it passes a test. -/
def Test108 (w : World) (q0 q1 q2 : Nat) (P : Rl → Prop) (t : Rl → Bool) : Prop :=
  ∀ (w' : World) (l : Int) (xs : List Int) (ra : Option Addr) (rc : Nat), Kept nob w w' → Rd w' ra (iv xs) → P (l, xs) → Calls Try.prog 108 #[.agg #[.int .i64 l, .slice ra xs.length rc], .pointer (some ⟨q0, 0, none⟩), .pointer (some ⟨q1, 0, none⟩), .pointer (some ⟨q2, 0, none⟩)] w' (RetB1 w' (t (l, xs)))
/-- A function value that tells of each element whether it passes a test. -/
def Test102 (w : World) (q0 : Nat) (P : ByteArray → Prop) (t : ByteArray → Bool) : Prop :=
  ∀ (w' : World) (s : ByteArray), Kept nob w w' → P s → Calls Try.prog 102 #[.string s, .pointer (some ⟨q0, 0, none⟩)] w' (RetB1 w' (t s))
/-- A function value that tells of each element whether it passes a test. -/
def Test127 (w : World) (q0 : Nat) (P : Int → Prop) (t : Int → Bool) : Prop :=
  ∀ (w' : World) (s : Int), Kept nob w w' → P s → Calls Try.prog 127 #[.int .i64 s, .pointer (some ⟨q0, 0, none⟩)] w' (RetB1 w' (t s))
/-- A function value that tells of each element whether it passes a test. -/
def Test57 (w : World) (P : Rl → Prop) (t : Rl → Bool) : Prop :=
  ∀ (w' : World) (l : Int) (xs : List Int) (ra : Option Addr) (rc : Nat), Kept nob w w' → Rd w' ra (iv xs) → P (l, xs) → Calls Try.prog 57 #[.agg #[.int .i64 l, .slice ra xs.length rc]] w' (RetB1 w' (t (l, xs)))
/-- A function value that tells of each element whether it passes a test. -/
def Test64 (w : World) (q0 : Nat) (P : Rl → Prop) (t : Rl → Bool) : Prop :=
  ∀ (w' : World) (l : Int) (xs : List Int) (ra : Option Addr) (rc : Nat), Kept nob w w' → Rd w' ra (iv xs) → P (l, xs) → Calls Try.prog 64 #[.agg #[.int .i64 l, .slice ra xs.length rc], .pointer (some ⟨q0, 0, none⟩)] w' (RetB1 w' (t (l, xs)))
/-- A function value that tells of each element whether it passes a test. -/
def Test60 (w : World) (P : ByteArray → Prop) (t : ByteArray → Bool) : Prop :=
  ∀ (w' : World) (s : ByteArray), Kept nob w w' → P s → Calls Try.prog 60 #[.string s] w' (RetB1 w' (t s))
/-- A function value that tells of each element whether it passes a test. -/
def Test61 (w : World) (P : ByteArray → Prop) (t : ByteArray → Bool) : Prop :=
  ∀ (w' : World) (s : ByteArray), Kept nob w w' → P s → Calls Try.prog 61 #[.string s] w' (RetB1 w' (t s))
/-- A function value that tells of each element whether it passes a test. -/
def Test107 (w : World) (q0 : Nat) (P : Int → Prop) (t : Int → Bool) : Prop :=
  ∀ (w' : World) (s : Int), Kept nob w w' → P s → Calls Try.prog 107 #[.int .i64 s, .pointer (some ⟨q0, 0, none⟩)] w' (RetB1 w' (t s))
set_option maxRecDepth 100000 in
set_option maxHeartbeats 4000000 in
theorem indexR_100 (w : World) (q0 : Nat) (P : Rl → Prop) (t : Rl → Bool) (a : Option Addr) (c : Nat) (L : List Rl) (hL : RdR w a L) (hP : ∀ r, r ∈ L → P r) (hl : L.length ≤ 10000) (ht : Test100 w q0 P t) :
    Calls Try.prog 116 #[.slice a L.length c, .func (.func 100) #[] #[.pointer (some ⟨q0, 0, none⟩)]] w (RetIx w (L.any t)) := by
  have HL := Lib.hid hL
  have HP := Lib.hid hP
  have HT := Lib.hid ht
  clear hL hP ht
  go_enter Try.func116, Try.ntmps116
  go_wp2
  go_loopw [8] (fun i wr => ∃ k : Nat, i = .int .i64 (k : Int) ∧ k ≤ L.length ∧ Hid (∀ j r, j < k → L[j]? = some r → t r = false) ∧ Hid (Kept nob w wr)) (fun i _ => L.length - (intOf i).toNat)
  case atStart => exact ⟨0, rfl, by omega, Lib.hid (fun j r h => by omega), Lib.hid (Kept.refl _ _)⟩
  case round =>
    obtain ⟨k, rfl, hkl, hno, HK⟩ := hrel
    by_cases hlt : k < L.length
    · obtain ⟨b, o, r, ra', rc', rfl, hr, hgd, RA⟩ := rule_at (HL.out.nob HK.out) hlt
      have d0 := RA.c0
      have d1 := RA.c1
      have HC := Lib.hid (HT.out wr r.1 r.2 ra' rc' HK.out RA.rd (HP.out r (List.mem_of_getElem? hr)))
      obtain ⟨l, rr⟩ := r
      have HRR := Lib.hid hr
      simp only at d0 d1 HC
      clear RA hr hgd
      obtain ⟨bb, hb⟩ : ∃ b, t (l, rr) = b := ⟨_, rfl⟩
      rw [hb] at HC
      have HB := Lib.hid hb
      clear hb
      go_wp2_with fail
      refine HC.out.mono ?_
      rintro e w1 ⟨rfl, hk⟩
      have HK1 := Lib.hid (HK.out.trans hk (fun _ _ h => h))
      clear hk
      cases bb
      · go_wp2
        go_roundw
        case rel =>
          refine ⟨k + 1, by go_num, by omega, Lib.hid (fun j r hj hr => ?_), HK1⟩
          by_cases e : j = k
          · subst e
            rw [HRR.out] at hr
            cases hr
            exact HB.out
          · exact hno.out j r (by omega) hr
        case measure => simp [intOf]; omega
      · have HE := Lib.hid (any_at HRR.out HB.out)
        go_wp2
        go_ret
        exact ⟨_, rfl, Lib.hid (by rw [HE.out]; simp), HK1.out⟩
    · have HE : Hid (L.any t = false) := Lib.hid (any_no (fun j r hr => hno.out j r (by have := (List.getElem?_eq_some_iff.1 hr).1; omega) hr))
      go_wp2
      go_ret
      exact ⟨_, rfl, Lib.hid (by rw [HE.out]; simp), HK.out⟩
theorem contR_100 (w : World) (q0 : Nat) (P : Rl → Prop) (t : Rl → Bool) (a : Option Addr) (c : Nat) (L : List Rl) (hL : RdR w a L) (hP : ∀ r, r ∈ L → P r) (hl : L.length ≤ 10000) (ht : Test100 w q0 P t) :
    Calls Try.prog 99 #[.slice a L.length c, .func (.func 100) #[] #[.pointer (some ⟨q0, 0, none⟩)]] w (RetB1 w (L.any t)) := by
  have HI := Lib.hid (indexR_100 w q0 P t a c L hL hP hl ht)
  clear hL hP hl ht
  go_enter Try.func99, Try.ntmps99
  go_wp2_with fail
  refine HI.out.mono ?_
  rintro e w1 ⟨i, rfl, hi, hk⟩
  go_wp2
  go_ret
  exact ⟨ret_bool hi.out, hk⟩
set_option maxRecDepth 100000 in
set_option maxHeartbeats 4000000 in
theorem indexR_108 (w : World) (q0 q1 q2 : Nat) (P : Rl → Prop) (t : Rl → Bool) (a : Option Addr) (c : Nat) (L : List Rl) (hL : RdR w a L) (hP : ∀ r, r ∈ L → P r) (hl : L.length ≤ 10000) (ht : Test108 w q0 q1 q2 P t) :
    Calls Try.prog 116 #[.slice a L.length c, .func (.func 108) #[] #[.pointer (some ⟨q0, 0, none⟩), .pointer (some ⟨q1, 0, none⟩), .pointer (some ⟨q2, 0, none⟩)]] w (RetIx w (L.any t)) := by
  have HL := Lib.hid hL
  have HP := Lib.hid hP
  have HT := Lib.hid ht
  clear hL hP ht
  go_enter Try.func116, Try.ntmps116
  go_wp2
  go_loopw [8] (fun i wr => ∃ k : Nat, i = .int .i64 (k : Int) ∧ k ≤ L.length ∧ Hid (∀ j r, j < k → L[j]? = some r → t r = false) ∧ Hid (Kept nob w wr)) (fun i _ => L.length - (intOf i).toNat)
  case atStart => exact ⟨0, rfl, by omega, Lib.hid (fun j r h => by omega), Lib.hid (Kept.refl _ _)⟩
  case round =>
    obtain ⟨k, rfl, hkl, hno, HK⟩ := hrel
    by_cases hlt : k < L.length
    · obtain ⟨b, o, r, ra', rc', rfl, hr, hgd, RA⟩ := rule_at (HL.out.nob HK.out) hlt
      have d0 := RA.c0
      have d1 := RA.c1
      have HC := Lib.hid (HT.out wr r.1 r.2 ra' rc' HK.out RA.rd (HP.out r (List.mem_of_getElem? hr)))
      obtain ⟨l, rr⟩ := r
      have HRR := Lib.hid hr
      simp only at d0 d1 HC
      clear RA hr hgd
      obtain ⟨bb, hb⟩ : ∃ b, t (l, rr) = b := ⟨_, rfl⟩
      rw [hb] at HC
      have HB := Lib.hid hb
      clear hb
      go_wp2_with fail
      refine HC.out.mono ?_
      rintro e w1 ⟨rfl, hk⟩
      have HK1 := Lib.hid (HK.out.trans hk (fun _ _ h => h))
      clear hk
      cases bb
      · go_wp2
        go_roundw
        case rel =>
          refine ⟨k + 1, by go_num, by omega, Lib.hid (fun j r hj hr => ?_), HK1⟩
          by_cases e : j = k
          · subst e
            rw [HRR.out] at hr
            cases hr
            exact HB.out
          · exact hno.out j r (by omega) hr
        case measure => simp [intOf]; omega
      · have HE := Lib.hid (any_at HRR.out HB.out)
        go_wp2
        go_ret
        exact ⟨_, rfl, Lib.hid (by rw [HE.out]; simp), HK1.out⟩
    · have HE : Hid (L.any t = false) := Lib.hid (any_no (fun j r hr => hno.out j r (by have := (List.getElem?_eq_some_iff.1 hr).1; omega) hr))
      go_wp2
      go_ret
      exact ⟨_, rfl, Lib.hid (by rw [HE.out]; simp), HK.out⟩
theorem contR_108 (w : World) (q0 q1 q2 : Nat) (P : Rl → Prop) (t : Rl → Bool) (a : Option Addr) (c : Nat) (L : List Rl) (hL : RdR w a L) (hP : ∀ r, r ∈ L → P r) (hl : L.length ≤ 10000) (ht : Test108 w q0 q1 q2 P t) :
    Calls Try.prog 99 #[.slice a L.length c, .func (.func 108) #[] #[.pointer (some ⟨q0, 0, none⟩), .pointer (some ⟨q1, 0, none⟩), .pointer (some ⟨q2, 0, none⟩)]] w (RetB1 w (L.any t)) := by
  have HI := Lib.hid (indexR_108 w q0 q1 q2 P t a c L hL hP hl ht)
  clear hL hP hl ht
  go_enter Try.func99, Try.ntmps99
  go_wp2_with fail
  refine HI.out.mono ?_
  rintro e w1 ⟨i, rfl, hi, hk⟩
  go_wp2
  go_ret
  exact ⟨ret_bool hi.out, hk⟩
set_option maxRecDepth 100000 in
set_option maxHeartbeats 4000000 in
theorem indexS_102 (w : World) (q0 : Nat) (P : ByteArray → Prop) (t : ByteArray → Bool) (a : Option Addr) (c : Nat) (L : List ByteArray) (hL : Rd w a (sv L)) (hP : ∀ r, r ∈ L → P r) (hl : L.length ≤ 10000) (ht : Test102 w q0 P t) :
    Calls Try.prog 117 #[.slice a L.length c, .func (.func 102) #[] #[.pointer (some ⟨q0, 0, none⟩)]] w (RetIx w (L.any t)) := by
  have HL := Lib.hid hL
  have HP := Lib.hid hP
  have HT := Lib.hid ht
  clear hL hP ht
  go_enter Try.func117, Try.ntmps117
  go_wp2
  go_loopw [8] (fun i wr => ∃ k : Nat, i = .int .i64 (k : Int) ∧ k ≤ L.length ∧ Hid (∀ j r, j < k → L[j]? = some r → t r = false) ∧ Hid (Kept nob w wr)) (fun i _ => L.length - (intOf i).toNat)
  case atStart => exact ⟨0, rfl, by omega, Lib.hid (fun j r h => by omega), Lib.hid (Kept.refl _ _)⟩
  case round =>
    obtain ⟨k, rfl, hkl, hno, HK⟩ := hrel
    by_cases hlt : k < L.length
    · obtain ⟨b, o, r, rfl, hr, d0⟩ := sv_at (HL.out.nob HK.out) hlt
      have HC := Lib.hid (HT.out wr r HK.out (HP.out r (List.mem_of_getElem? hr)))
      have HRR := Lib.hid hr
      clear hr
      obtain ⟨bb, hb⟩ : ∃ b, t r = b := ⟨_, rfl⟩
      rw [hb] at HC
      have HB := Lib.hid hb
      clear hb
      go_wp2_with fail
      refine HC.out.mono ?_
      rintro e w1 ⟨rfl, hk⟩
      have HK1 := Lib.hid (HK.out.trans hk (fun _ _ h => h))
      clear hk
      cases bb
      · go_wp2
        go_roundw
        case rel =>
          refine ⟨k + 1, by go_num, by omega, Lib.hid (fun j r hj hr => ?_), HK1⟩
          by_cases e : j = k
          · subst e
            rw [HRR.out] at hr
            cases hr
            exact HB.out
          · exact hno.out j r (by omega) hr
        case measure => simp [intOf]; omega
      · have HE := Lib.hid (any_at HRR.out HB.out)
        go_wp2
        go_ret
        exact ⟨_, rfl, Lib.hid (by rw [HE.out]; simp), HK1.out⟩
    · have HE : Hid (L.any t = false) := Lib.hid (any_no (fun j r hr => hno.out j r (by have := (List.getElem?_eq_some_iff.1 hr).1; omega) hr))
      go_wp2
      go_ret
      exact ⟨_, rfl, Lib.hid (by rw [HE.out]; simp), HK.out⟩
theorem contS_102 (w : World) (q0 : Nat) (P : ByteArray → Prop) (t : ByteArray → Bool) (a : Option Addr) (c : Nat) (L : List ByteArray) (hL : Rd w a (sv L)) (hP : ∀ r, r ∈ L → P r) (hl : L.length ≤ 10000) (ht : Test102 w q0 P t) :
    Calls Try.prog 101 #[.slice a L.length c, .func (.func 102) #[] #[.pointer (some ⟨q0, 0, none⟩)]] w (RetB1 w (L.any t)) := by
  have HI := Lib.hid (indexS_102 w q0 P t a c L hL hP hl ht)
  clear hL hP hl ht
  go_enter Try.func101, Try.ntmps101
  go_wp2_with fail
  refine HI.out.mono ?_
  rintro e w1 ⟨i, rfl, hi, hk⟩
  go_wp2
  go_ret
  exact ⟨ret_bool hi.out, hk⟩
set_option maxRecDepth 100000 in
set_option maxHeartbeats 4000000 in
theorem indexI_127 (w : World) (q0 : Nat) (P : Int → Prop) (t : Int → Bool) (a : Option Addr) (c : Nat) (L : List Int) (hL : Rd w a (iv L)) (hP : ∀ r, r ∈ L → P r) (hl : L.length ≤ 10000) (ht : Test127 w q0 P t) :
    Calls Try.prog 132 #[.slice a L.length c, .func (.func 127) #[] #[.pointer (some ⟨q0, 0, none⟩)]] w (RetIx w (L.any t)) := by
  have HL := Lib.hid hL
  have HP := Lib.hid hP
  have HT := Lib.hid ht
  clear hL hP ht
  go_enter Try.func132, Try.ntmps132
  go_wp2
  go_loopw [8] (fun i wr => ∃ k : Nat, i = .int .i64 (k : Int) ∧ k ≤ L.length ∧ Hid (∀ j r, j < k → L[j]? = some r → t r = false) ∧ Hid (Kept nob w wr)) (fun i _ => L.length - (intOf i).toNat)
  case atStart => exact ⟨0, rfl, by omega, Lib.hid (fun j r h => by omega), Lib.hid (Kept.refl _ _)⟩
  case round =>
    obtain ⟨k, rfl, hkl, hno, HK⟩ := hrel
    by_cases hlt : k < L.length
    · obtain ⟨b, o, r, rfl, hr, d0⟩ := iv_at2 (HL.out.nob HK.out) hlt
      have HC := Lib.hid (HT.out wr r HK.out (HP.out r (List.mem_of_getElem? hr)))
      have HRR := Lib.hid hr
      clear hr
      obtain ⟨bb, hb⟩ : ∃ b, t r = b := ⟨_, rfl⟩
      rw [hb] at HC
      have HB := Lib.hid hb
      clear hb
      go_wp2_with fail
      refine HC.out.mono ?_
      rintro e w1 ⟨rfl, hk⟩
      have HK1 := Lib.hid (HK.out.trans hk (fun _ _ h => h))
      clear hk
      cases bb
      · go_wp2
        go_roundw
        case rel =>
          refine ⟨k + 1, by go_num, by omega, Lib.hid (fun j r hj hr => ?_), HK1⟩
          by_cases e : j = k
          · subst e
            rw [HRR.out] at hr
            cases hr
            exact HB.out
          · exact hno.out j r (by omega) hr
        case measure => simp [intOf]; omega
      · have HE := Lib.hid (any_at HRR.out HB.out)
        go_wp2
        go_ret
        exact ⟨_, rfl, Lib.hid (by rw [HE.out]; simp), HK1.out⟩
    · have HE : Hid (L.any t = false) := Lib.hid (any_no (fun j r hr => hno.out j r (by have := (List.getElem?_eq_some_iff.1 hr).1; omega) hr))
      go_wp2
      go_ret
      exact ⟨_, rfl, Lib.hid (by rw [HE.out]; simp), HK.out⟩
theorem contI_127 (w : World) (q0 : Nat) (P : Int → Prop) (t : Int → Bool) (a : Option Addr) (c : Nat) (L : List Int) (hL : Rd w a (iv L)) (hP : ∀ r, r ∈ L → P r) (hl : L.length ≤ 10000) (ht : Test127 w q0 P t) :
    Calls Try.prog 126 #[.slice a L.length c, .func (.func 127) #[] #[.pointer (some ⟨q0, 0, none⟩)]] w (RetB1 w (L.any t)) := by
  have HI := Lib.hid (indexI_127 w q0 P t a c L hL hP hl ht)
  clear hL hP hl ht
  go_enter Try.func126, Try.ntmps126
  go_wp2_with fail
  refine HI.out.mono ?_
  rintro e w1 ⟨i, rfl, hi, hk⟩
  go_wp2
  go_ret
  exact ⟨ret_bool hi.out, hk⟩
theorem closR_57 (w : World) (P : Rl → Prop) (t : Rl → Bool) (p : Nat) (hp : w.cell? ⟨p, 0, none⟩ = some (.func (.func 57) #[] #[])) (ht : Test57 w P t) : Test100 w p P (fun x => !t x) := by
  intro w' l xs ra rc hk hr hP
  have d0 := kcell hk hp
  have HC := Lib.hid (fun o => ht (w'.alloc o) l xs ra rc (hk.trans (Kept.alloc _ _ _) (fun _ _ h => h)) (hr.nob (Kept.alloc _ _ _)) hP)
  have d1 := kcell (Kept.alloc w' (.cells #[.int .i64 l, .slice ra xs.length rc] 40) nob) d0
  clear hp ht hr hk hP
  go_enter Try.func100, Try.ntmps100
  go_wp2_with fail
  refine (HC.out _).mono ?_
  rintro e w1 ⟨rfl, hk⟩
  go_wp2
  go_ret
  exact ⟨rfl, (Kept.alloc _ _ _).trans hk (fun _ _ h => h)⟩
theorem allR_57 (w : World) (P : Rl → Prop) (t : Rl → Bool) (a : Option Addr) (c : Nat) (L : List Rl) (hL : RdR w a L) (hP : ∀ r, r ∈ L → P r) (hl : L.length ≤ 10000) (ht : Test57 w P t) :
    Calls Try.prog 58 #[.slice a L.length c, .func (.func 57) #[] #[]] w (RetB1 w (L.all t)) := by
  have HC := Lib.hid (contR_100 (w.alloc (.cells #[.func (.func 57) #[] #[]] 65)) w.heap.size P (fun x => !t x) a c L (hL.nob (Kept.alloc _ _ _)) hP hl
    (closR_57 _ P t w.heap.size (by rw [cell_blk (alloc_blk _ _)]; rfl) (fun w' l xs ra rc hk => ht w' l xs ra rc ((Kept.alloc _ _ _).trans hk (fun _ _ h => h)))))
  rw [← all_not]
  clear hL hP hl ht
  go_enter Try.func58, Try.ntmps58
  go_wp2_with fail
  refine HC.out.mono ?_
  rintro e w1 ⟨rfl, hk⟩
  go_wp2
  go_ret
  exact ⟨rfl, (Kept.alloc _ _ _).trans hk (fun _ _ h => h)⟩
theorem closR_64 (w : World) (q0 : Nat) (P : Rl → Prop) (t : Rl → Bool) (p : Nat) (hp : w.cell? ⟨p, 0, none⟩ = some (.func (.func 64) #[] #[.pointer (some ⟨q0, 0, none⟩)])) (ht : Test64 w q0 P t) : Test100 w p P (fun x => !t x) := by
  intro w' l xs ra rc hk hr hP
  have d0 := kcell hk hp
  have HC := Lib.hid (fun o => ht (w'.alloc o) l xs ra rc (hk.trans (Kept.alloc _ _ _) (fun _ _ h => h)) (hr.nob (Kept.alloc _ _ _)) hP)
  have d1 := kcell (Kept.alloc w' (.cells #[.int .i64 l, .slice ra xs.length rc] 40) nob) d0
  clear hp ht hr hk hP
  go_enter Try.func100, Try.ntmps100
  go_wp2_with fail
  refine (HC.out _).mono ?_
  rintro e w1 ⟨rfl, hk⟩
  go_wp2
  go_ret
  exact ⟨rfl, (Kept.alloc _ _ _).trans hk (fun _ _ h => h)⟩
theorem allR_64 (w : World) (q0 : Nat) (P : Rl → Prop) (t : Rl → Bool) (a : Option Addr) (c : Nat) (L : List Rl) (hL : RdR w a L) (hP : ∀ r, r ∈ L → P r) (hl : L.length ≤ 10000) (ht : Test64 w q0 P t) :
    Calls Try.prog 58 #[.slice a L.length c, .func (.func 64) #[] #[.pointer (some ⟨q0, 0, none⟩)]] w (RetB1 w (L.all t)) := by
  have HC := Lib.hid (contR_100 (w.alloc (.cells #[.func (.func 64) #[] #[.pointer (some ⟨q0, 0, none⟩)]] 65)) w.heap.size P (fun x => !t x) a c L (hL.nob (Kept.alloc _ _ _)) hP hl
    (closR_64 _ q0 P t w.heap.size (by rw [cell_blk (alloc_blk _ _)]; rfl) (fun w' l xs ra rc hk => ht w' l xs ra rc ((Kept.alloc _ _ _).trans hk (fun _ _ h => h)))))
  rw [← all_not]
  clear hL hP hl ht
  go_enter Try.func58, Try.ntmps58
  go_wp2_with fail
  refine HC.out.mono ?_
  rintro e w1 ⟨rfl, hk⟩
  go_wp2
  go_ret
  exact ⟨rfl, (Kept.alloc _ _ _).trans hk (fun _ _ h => h)⟩
theorem closS_60 (w : World) (P : ByteArray → Prop) (t : ByteArray → Bool) (p : Nat) (hp : w.cell? ⟨p, 0, none⟩ = some (.func (.func 60) #[] #[])) (ht : Test60 w P t) : Test102 w p P (fun x => !t x) := by
  intro w' s hk hP
  have d0 := kcell hk hp
  have HC := Lib.hid (ht w' s hk hP)
  clear hp ht hk hP
  go_enter Try.func102, Try.ntmps102
  go_wp2_with fail
  refine HC.out.mono ?_
  rintro e w1 ⟨rfl, hk⟩
  go_wp2
  go_ret
  exact ⟨rfl, hk⟩
theorem allS_60 (w : World) (P : ByteArray → Prop) (t : ByteArray → Bool) (a : Option Addr) (c : Nat) (L : List ByteArray) (hL : Rd w a (sv L)) (hP : ∀ r, r ∈ L → P r) (hl : L.length ≤ 10000) (ht : Test60 w P t) :
    Calls Try.prog 59 #[.slice a L.length c, .func (.func 60) #[] #[]] w (RetB1 w (L.all t)) := by
  have HC := Lib.hid (contS_102 (w.alloc (.cells #[.func (.func 60) #[] #[]] 68)) w.heap.size P (fun x => !t x) a c L (hL.nob (Kept.alloc _ _ _)) hP hl
    (closS_60 _ P t w.heap.size (by rw [cell_blk (alloc_blk _ _)]; rfl) (fun w' s hk => ht w' s ((Kept.alloc _ _ _).trans hk (fun _ _ h => h)))))
  rw [← all_not]
  clear hL hP hl ht
  go_enter Try.func59, Try.ntmps59
  go_wp2_with fail
  refine HC.out.mono ?_
  rintro e w1 ⟨rfl, hk⟩
  go_wp2
  go_ret
  exact ⟨rfl, (Kept.alloc _ _ _).trans hk (fun _ _ h => h)⟩
theorem closS_61 (w : World) (P : ByteArray → Prop) (t : ByteArray → Bool) (p : Nat) (hp : w.cell? ⟨p, 0, none⟩ = some (.func (.func 61) #[] #[])) (ht : Test61 w P t) : Test102 w p P (fun x => !t x) := by
  intro w' s hk hP
  have d0 := kcell hk hp
  have HC := Lib.hid (ht w' s hk hP)
  clear hp ht hk hP
  go_enter Try.func102, Try.ntmps102
  go_wp2_with fail
  refine HC.out.mono ?_
  rintro e w1 ⟨rfl, hk⟩
  go_wp2
  go_ret
  exact ⟨rfl, hk⟩
theorem allS_61 (w : World) (P : ByteArray → Prop) (t : ByteArray → Bool) (a : Option Addr) (c : Nat) (L : List ByteArray) (hL : Rd w a (sv L)) (hP : ∀ r, r ∈ L → P r) (hl : L.length ≤ 10000) (ht : Test61 w P t) :
    Calls Try.prog 59 #[.slice a L.length c, .func (.func 61) #[] #[]] w (RetB1 w (L.all t)) := by
  have HC := Lib.hid (contS_102 (w.alloc (.cells #[.func (.func 61) #[] #[]] 68)) w.heap.size P (fun x => !t x) a c L (hL.nob (Kept.alloc _ _ _)) hP hl
    (closS_61 _ P t w.heap.size (by rw [cell_blk (alloc_blk _ _)]; rfl) (fun w' s hk => ht w' s ((Kept.alloc _ _ _).trans hk (fun _ _ h => h)))))
  rw [← all_not]
  clear hL hP hl ht
  go_enter Try.func59, Try.ntmps59
  go_wp2_with fail
  refine HC.out.mono ?_
  rintro e w1 ⟨rfl, hk⟩
  go_wp2
  go_ret
  exact ⟨rfl, (Kept.alloc _ _ _).trans hk (fun _ _ h => h)⟩
theorem closI_107 (w : World) (q0 : Nat) (P : Int → Prop) (t : Int → Bool) (p : Nat) (hp : w.cell? ⟨p, 0, none⟩ = some (.func (.func 107) #[] #[.pointer (some ⟨q0, 0, none⟩)])) (ht : Test107 w q0 P t) : Test127 w p P (fun x => !t x) := by
  intro w' s hk hP
  have d0 := kcell hk hp
  have HC := Lib.hid (ht w' s hk hP)
  clear hp ht hk hP
  go_enter Try.func127, Try.ntmps127
  go_wp2_with fail
  refine HC.out.mono ?_
  rintro e w1 ⟨rfl, hk⟩
  go_wp2
  go_ret
  exact ⟨rfl, hk⟩
theorem allI_107 (w : World) (q0 : Nat) (P : Int → Prop) (t : Int → Bool) (a : Option Addr) (c : Nat) (L : List Int) (hL : Rd w a (iv L)) (hP : ∀ r, r ∈ L → P r) (hl : L.length ≤ 10000) (ht : Test107 w q0 P t) :
    Calls Try.prog 106 #[.slice a L.length c, .func (.func 107) #[] #[.pointer (some ⟨q0, 0, none⟩)]] w (RetB1 w (L.all t)) := by
  have HC := Lib.hid (contI_127 (w.alloc (.cells #[.func (.func 107) #[] #[.pointer (some ⟨q0, 0, none⟩)]] 46)) w.heap.size P (fun x => !t x) a c L (hL.nob (Kept.alloc _ _ _)) hP hl
    (closI_107 _ q0 P t w.heap.size (by rw [cell_blk (alloc_blk _ _)]; rfl) (fun w' s hk => ht w' s ((Kept.alloc _ _ _).trans hk (fun _ _ h => h)))))
  rw [← all_not]
  clear hL hP hl ht
  go_enter Try.func106, Try.ntmps106
  go_wp2_with fail
  refine HC.out.mono ?_
  rintro e w1 ⟨rfl, hk⟩
  go_wp2
  go_ret
  exact ⟨rfl, (Kept.alloc _ _ _).trans hk (fun _ _ h => h)⟩
end Go.Proofs.Ythddfkemagpiaaa

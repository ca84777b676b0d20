/-
  What is proved: what the functions of the two lists of names compute. No condition.
-/
import Derived.Test.YthddfkemagpiaaaSetB
import Derived.Lib.MinMax
import Derived.Deep.AppendLies
import Derived.Laws.AppendOwnNone
set_option linter.unusedVariables false
set_option linter.unusedSimpArgs false
namespace Go.Proofs.Ythddfkemagpiaaa
open Go.RowKit

/-- The entries of a map from names to their places. -/
structure Entries (L : List ByteArray) (es : Array MapEntry) : Prop where
  size : es.size = L.length
  key : ∀ i (h : i < L.length) (h' : i < es.size), es[i].key = .string L[i] ∧ es[i].val = .int .i64 (i : Int)

def plc (L : List ByteArray) (s : ByteArray) : Option Nat := L.findIdx? (fun t => s == t)

theorem findNow_entries (s : ByteArray) : ∀ (L : List ByteArray) (es : List MapEntry) (i : Nat), es.length = L.length → (∀ j (h : j < L.length) (h' : j < es.length), es[j].key = .string L[j] ∧ es[j].val = .int .i64 ((i + j : Nat) : Int)) →
    Instr.findNow .string (.string s) es i = some ((plc L s).map fun j => (i + j, .int .i64 ((i + j : Nat) : Int))) := by
  intro L
  induction L with
  | nil =>
    intro es i h _
    obtain rfl : es = [] := List.eq_nil_of_length_eq_zero (by simpa using h)
    simp [Instr.findNow, plc]
  | cons t L ih =>
    intro es i h hk
    cases es with
    | nil => simp at h
    | cons e es =>
      have h0 := hk 0 (by simp) (by simp)
      simp at h0
      have ih' := ih es (i + 1) (by simpa using h) (fun j hj hj' => by
        have := hk (j + 1) (by simp; omega) (by simp; omega)
        simp at this
        refine ⟨this.1, ?_⟩
        rw [this.2]; congr 1; omega)
      simp only [Instr.findNow, h0.1, Instr.sameNow]
      unfold plc at ih' ⊢
      rw [List.findIdx?_cons]
      cases hst : (s == t) with
      | true => simp [h0.2]
      | false =>
        simp only [hst, ih']
        cases List.findIdx? (fun t => s == t) L with
        | none => rfl
        | some j => simp; omega

theorem ba_beq (a b : ByteArray) : (a == b) = decide (a = b) := by
  rw [Bool.eq_iff_iff, decide_eq_true_eq]
  show ByteArray.beq a b = true ↔ a = b
  cases a; cases b
  unfold ByteArray.beq
  simp
theorem ba_toList (a : ByteArray) : a.toList = a.data.toList := by
  exact ByteArray.toList_eq a
theorem toList_eq (a b : ByteArray) : (a.toList == b.toList) = decide (a = b) := by
  rw [ba_toList, ba_toList, Bool.eq_iff_iff]
  simp only [beq_iff_eq, decide_eq_true_eq]
  constructor
  · intro h
    exact ByteArray.ext (Array.ext' h)
  · intro h; rw [h]
theorem run_checkKey_str {P : Program} {k : TypeId} (hk : P.underlying k = some .string) (b : Bool) (n : Nat) (s : ByteArray) (w : World) : (Instr.checkKey b (n + 1) k (.string s)).run P w = .ok () w := by
  simp [Instr.checkKey, run_underlying hk]
theorem run_lookup_names {P : Program} {t k e : TypeId} (ht : P.underlying t = some (.map k e)) (hk : P.underlying k = some .string) (hz : ∀ w : World, (zeroValue e).run P w = .ok (.int .i64 0) w) {w : World} {r : Nat} {es : Array MapEntry} {c : Nat} {L : List ByteArray}
    (hm : w.heap[r]? = some (.map es c)) (hE : Entries L es) (s : ByteArray) :
    (Instr.lookup t (.map (some r)) (.string s) true).run P w = .ok (match plc L s with | some j => .tuple #[.int .i64 (j : Int), .bool true] | none => .tuple #[.int .i64 0, .bool false]) w := by
  have hf := findNow_entries s L es.toList 0 (by simpa using hE.size) (fun j h h' => by have := hE.key j h (by simpa using h'); simpa using this)
  have hck : (Instr.checkKey es.isEmpty 10000 k (.string s)).run P w = .ok () w := run_checkKey_str (P := P) hk es.isEmpty 9999 s w
  unfold Instr.lookup
  simp only [Sem.run_bind, run_underlying ht, Result.andThen_ok]
  simp only [getObj, Sem.run, hm]
  simp only [Sem.run_bind, Sem.run_pure, Result.andThen_ok]
  rw [hck]
  simp only [Result.andThen_ok, Instr.findKey, Sem.run_bind, run_underlying hk, hf, Sem.run_pure]
  cases plc L s with
  | none => simp [hz]
  | some j => simp
theorem run_update_names {P : Program} {t k e : TypeId} (ht : P.underlying t = some (.map k e)) (hk : P.underlying k = some .string) {w : World} {r : Nat} {es : Array MapEntry} {c : Nat} {L : List ByteArray}
    (hm : w.heap[r]? = some (.map es c)) (hE : Entries L es) (s : ByteArray) (v : Value) (hn : plc L s = none) :
    (Instr.mapUpdate t (.map (some r)) (.string s) v).run P w = .ok () { w with heap := w.heap.setIfInBounds r (.map (es.push { key := .string s, val := v, born := c }) (c + 1)) } := by
  have hf := findNow_entries s L es.toList 0 (by simpa using hE.size) (fun j h h' => by have := hE.key j h (by simpa using h'); simpa using this)
  have hck : (Instr.checkKey false 10000 k (.string s)).run P w = .ok () w := run_checkKey_str (P := P) hk false 9999 s w
  unfold Instr.mapUpdate
  simp only [Sem.run_bind, run_underlying ht, Result.andThen_ok]
  simp only [getObj, Sem.run, hm]
  simp only [Result.andThen_ok, Sem.run_bind]
  rw [hck]
  rw [hn] at hf
  simp only [Result.andThen_ok, Instr.findKey, Sem.run_bind, run_underlying hk, hf, Sem.run_pure, Option.map_none]
  simp only [setObj, Sem.run, hm]
theorem Entries.push {L : List ByteArray} {es : Array MapEntry} (h : Entries L es) (s : ByteArray) (c : Nat) : Entries (L ++ [s]) (es.push { key := .string s, val := .int .i64 (L.length : Int), born := c }) := by
  refine ⟨by simp [h.size], fun i hi hi' => ?_⟩
  by_cases e : i < L.length
  · have := h.key i e (by rw [h.size]; exact e)
    rw [Array.getElem_push_lt (by rw [h.size]; exact e), List.getElem_append_left e]
    exact this
  · have : i = L.length := by simp at hi; omega
    subst this
    have e2 : L.length = es.size := h.size.symm
    simp [Array.getElem_push, e2]
theorem Entries.nil : Entries [] #[] := ⟨rfl, fun i h _ => by simp at h⟩


def setObjW (w : World) (r : Nat) (o : Obj) : World := { w with heap := w.heap.setIfInBounds r o }
theorem setObjW_size (w : World) (r : Nat) (o : Obj) : (setObjW w r o).heap.size = w.heap.size := by simp [setObjW]
theorem setObjW_kept (w : World) (r : Nat) (o : Obj) : Kept (ib r) w (setObjW w r o) :=
  ⟨rfl, rfl, rfl, by simp [setObjW], fun k hk hs => by
    have : ¬ r = k := fun h => hs h.symm
    simp [setObjW, Array.getElem?_setIfInBounds, this]⟩
theorem setObjW_at {w : World} {r : Nat} {x : Obj} (h : w.heap[r]? = some x) (o : Obj) : (setObjW w r o).heap[r]? = some o := by
  have := lt_blk h
  simp [setObjW, Array.getElem?_setIfInBounds, this]

def NF (b r : Nat) (av : Value) : Nat → Prop := fun k => k = b ∨ k = r ∨ some k = av.ownBlock
theorem zeroInt (w : World) : (zeroValue 3).run Try.prog w = .ok (.int .i64 0) w := by kernel_rfl
theorem info_str : (Try.prog.info? 9).map (fun i => (i.zero, i.size, i.bytes)) = some (some (.string ⟨#[]⟩), 1, 16) := by kernel_rfl
def findI (L : List ByteArray) (s : ByteArray) : Int := match plc L s with | some j => (j : Int) | none => -1
theorem str_nil {s : ByteArray} (h : s.size = 0) : s.toList = [] := by
  rw [ba_toList]
  exact List.eq_nil_of_length_eq_zero (by rw [Array.length_toList]; exact h)
theorem str_cons {s : ByteArray} (h : s.size ≠ 0) : s.toList.isEmpty = false := by
  rw [ba_toList]
  cases hd : s.data.toList with
  | nil =>
    have := congrArg List.length hd
    rw [Array.length_toList] at this
    exact absurd this h
  | cons a l => rfl
def badName (s : ByteArray) : Bool := decide (s.size = 0) || decide (24 < s.size)
def putV (L : List ByteArray) (most : Nat) (s : ByteArray) : Int × Int :=
  if badName s then (0, 5) else match plc L s with
    | some j => ((j : Int), 0)
    | none => if L.length < most then ((L.length : Int), 0) else (0, 14)
def putL (L : List ByteArray) (most : Nat) (s : ByteArray) : List ByteArray :=
  if badName s then L else match plc L s with
    | some _ => L
    | none => if L.length < most then L ++ [s] else L
def sv (L : List ByteArray) : List Value := L.map Value.string
theorem sv_len (L : List ByteArray) : (sv L).length = L.length := by simp [sv]
theorem sv_get (L : List ByteArray) (j : Nat) (hj : j < L.length) : (sv L)[j]? = some (.string (L.getD j ⟨#[]⟩)) := by simp [sv, hj, List.getD]
theorem sv_one (L : List ByteArray) : ∀ u ∈ sv L, u.oneCell' = true := by
  intro u hu
  obtain ⟨_, _, rfl⟩ := List.mem_map.1 hu
  rfl
theorem plc_some {L : List ByteArray} {s : ByteArray} {k : Nat} (hk : k < L.length) (h : L.getD k ⟨#[]⟩ = s) (hn : ∀ j, j < k → L.getD j ⟨#[]⟩ ≠ s) : plc L s = some k := by
  unfold plc
  rw [List.findIdx?_eq_some_iff_getElem]
  refine ⟨hk, ?_, fun j hj => ?_⟩
  · rw [ba_beq, decide_eq_true_eq]; simp [List.getD, hk] at h; exact h.symm
  · have := hn j hj
    rw [ba_beq]
    simp [List.getD, show j < L.length by omega] at this
    simp; exact fun e => this e.symm
theorem plc_none {L : List ByteArray} {s : ByteArray} (hn : ∀ j, j < L.length → L.getD j ⟨#[]⟩ ≠ s) : plc L s = none := by
  unfold plc
  rw [List.findIdx?_eq_none_iff]
  intro t ht
  obtain ⟨j, hj, rfl⟩ := List.getElem_of_mem ht
  have := hn j hj
  rw [ba_beq]
  simp [List.getD, hj] at this
  simp; exact fun e => this e.symm
theorem plc_spec {L : List ByteArray} {s : ByteArray} {k : Nat} (h : plc L s = some k) : k < L.length ∧ L.getD k ⟨#[]⟩ = s ∧ ∀ j, j < k → L.getD j ⟨#[]⟩ ≠ s := by
  unfold plc at h
  rw [List.findIdx?_eq_some_iff_getElem] at h
  obtain ⟨hk, h1, h2⟩ := h
  rw [ba_beq, decide_eq_true_eq] at h1
  refine ⟨hk, by simp [List.getD, hk, h1], fun j hj => ?_⟩
  have := h2 j hj
  rw [ba_beq] at this
  simp [List.getD, show j < L.length by omega] at this ⊢
  exact fun e => this e.symm
theorem plc_spec_none {L : List ByteArray} {s : ByteArray} (h : plc L s = none) : ∀ j, j < L.length → L.getD j ⟨#[]⟩ ≠ s := by
  unfold plc at h
  rw [List.findIdx?_eq_none_iff] at h
  intro j hj e
  have := h (L[j]) (List.getElem_mem hj)
  rw [ba_beq] at this
  simp [List.getD, hj] at e this
  exact this e.symm

set_option maxHeartbeats 1000000 in
theorem place_any (a : Option Addr) (cap : Nat) (L : List ByteArray) (s : ByteArray) (w : World) (hx : Rd w a (sv L)) (hl : L.length ≤ 9223372036854775807) :
    Calls Try.prog 112 #[.slice a L.length cap, .string s] w fun e w' => e = .returned (.int .i64 (findI L s)) ∧ w = w' := by
  go_enter Try.func112, Try.ntmps112
  go_wp2
  go_loop [5] (fun i => ∃ k : Nat, i = .int .i64 (k : Int) ∧ k ≤ L.length ∧ Hid (∀ j, j < k → L.getD j ⟨#[]⟩ ≠ s)) (fun i => L.length - (intOf i).toNat)
  case atStart => exact ⟨0, rfl, by omega, fun j h => by omega⟩
  case round =>
    obtain ⟨k, rfl, hkl, hno⟩ := hrel
    by_cases hlt : k < L.length
    · rcases hx with h | ⟨b1, o1, rfl, hc1⟩
      · have := sv_len L; rw [h] at this; simp at this; omega
      have d1 : w.cell? ⟨b1, o1 + k, none⟩ = some (.string (L.getD k ⟨#[]⟩)) := by
        rw [← sv_get L k hlt, ← hc1 k (by rw [sv_len]; exact hlt)]
      obtain ⟨x, hx⟩ : ∃ x, x = L.getD k ⟨#[]⟩ := ⟨_, rfl⟩
      rw [← hx] at d1
      have HX := Lib.hid hx
      clear hx hc1
      by_cases hxy : x = s
      · subst hxy
        have HE : Hid (findI L x = (k : Int)) := by
          show findI L x = _
          unfold findI
          rw [plc_some hlt HX.out.symm hno.out]
        go_wp2
        go_ret
        exact ⟨ret_int HE.out.symm, rfl⟩
      · have hb : (x.toList == s.toList) = false := by rw [toList_eq]; simpa using hxy
        have HXY := Lib.hid hxy
        clear hxy
        go_wp2
        go_round
        case rel =>
          refine ⟨k + 1, by go_num, by omega, fun j hj => ?_⟩
          by_cases e : j = k
          · rw [e, ← HX.out]; exact HXY.out
          · exact hno.out j (by omega)
        case measure => simp [intOf]; omega
    · have HE : Hid (findI L s = -1) := by
        show findI L s = _
        unfold findI
        rw [plc_none (fun j hj => hno.out j (by omega))]
      go_wp2
      go_ret
      exact ⟨ret_int HE.out.symm, rfl⟩
def eqs (xs ys : List ByteArray) : Bool := decide (xs = ys)
theorem eqs_len {xs ys : List ByteArray} (h : xs.length ≠ ys.length) : eqs xs ys = false := by
  unfold eqs; rw [decide_eq_false_iff_not]; intro e; rw [e] at h; exact h rfl
theorem eqs_at {xs ys : List ByteArray} (k : Nat) (h : xs.getD k ⟨#[]⟩ ≠ ys.getD k ⟨#[]⟩) : eqs xs ys = false := by
  unfold eqs; rw [decide_eq_false_iff_not]; intro e; rw [e] at h; exact h rfl
theorem eqs_all {xs ys : List ByteArray} (hl : xs.length = ys.length) (h : ∀ j, j < xs.length → xs.getD j ⟨#[]⟩ = ys.getD j ⟨#[]⟩) : eqs xs ys = true := by
  unfold eqs; rw [decide_eq_true_eq]
  apply List.ext_getElem hl
  intro i h1 h2
  have := h i h1
  simpa [List.getD, h1, h2] using this
set_option maxHeartbeats 1000000 in
theorem strsame_any (a1 a2 : Option Addr) (c1 c2 : Nat) (xs ys : List ByteArray) (w : World) (hx : Rd w a1 (sv xs)) (hy : Rd w a2 (sv ys)) (hlx : xs.length ≤ 9223372036854775807) (hly : ys.length ≤ 9223372036854775807) :
    Calls Try.prog 55 #[.slice a1 xs.length c1, .slice a2 ys.length c2] w fun e w' => e = .returned (.bool (eqs xs ys)) ∧ Kept nob w w' := by
  by_cases hl : xs.length = ys.length
  · have hlx0 := hl
    have HLL := Lib.hid hl
    rw [← hl] at hly ⊢
    clear hl hlx0
    go_enter Try.func55, Try.ntmps55
    go_wp2
    go_loopw [5] (fun i wr => ∃ k q : Nat, i = .int .i64 (k : Int) ∧ k ≤ xs.length ∧ wr = w.drewN q ∧ Hid (∀ j, j < k → xs.getD j ⟨#[]⟩ = ys.getD j ⟨#[]⟩)) (fun i _ => xs.length - (intOf i).toNat)
    case atStart => exact ⟨0, 0, rfl, by omega, rfl, fun j h => by omega⟩
    case round =>
      obtain ⟨k, q, rfl, hkl, rfl, hno⟩ := hrel
      by_cases hlt : k < xs.length
      · rcases hx with h | ⟨b1, o1, rfl, hc1⟩
        · have := sv_len xs; rw [h] at this; simp at this; omega
        rcases hy with h | ⟨b2, o2, rfl, hc2⟩
        · have := sv_len ys; rw [h] at this; have := HLL.out; simp at *; omega
        have hlt2 : k < ys.length := by rw [← HLL.out]; exact hlt
        have d1 : w.cell? ⟨b1, o1 + k, none⟩ = some (.string (xs.getD k ⟨#[]⟩)) := by
          rw [← sv_get xs k hlt, ← hc1 k (by rw [sv_len]; exact hlt)]
        have d2 : w.cell? ⟨b2, o2 + k, none⟩ = some (.string (ys.getD k ⟨#[]⟩)) := by
          rw [← sv_get ys k hlt2, ← hc2 k (by rw [sv_len]; exact hlt2)]
        obtain ⟨x, hx⟩ : ∃ x, x = xs.getD k ⟨#[]⟩ := ⟨_, rfl⟩
        obtain ⟨y, hy⟩ : ∃ y, y = ys.getD k ⟨#[]⟩ := ⟨_, rfl⟩
        rw [← hx] at d1
        rw [← hy] at d2
        have HX := Lib.hid hx
        have HY := Lib.hid hy
        clear hx hy hc1 hc2
        by_cases hxy : x = y
        · subst hxy
          go_wp2
          go_quiet (fail)
          go_wp2
          go_roundw
          case rel =>
            refine ⟨k + 1, q + nq, by go_num, by omega, rfl, fun j hj => ?_⟩
            by_cases e : j = k
            · rw [e, ← HX.out, ← HY.out]
            · exact hno.out j (by omega)
          case measure => simp [intOf]; omega
        · have hb : (x.toList == y.toList) = false := by rw [toList_eq]; simpa using hxy
          have HE := Lib.hid (eqs_at (xs := xs) (ys := ys) k (by rw [← HX.out, ← HY.out]; exact hxy))
          clear hxy
          go_wp2
          go_quiet (fail)
          go_wp2
          go_ret
          exact ⟨ret_bool HE.out.symm, by rw [World.drewN_drewN]; exact Kept.drewN _ _ _⟩
      · have HE := Lib.hid (eqs_all HLL.out (fun j hj => hno.out j (by omega)))
        go_wp2
        go_ret
        exact ⟨ret_bool HE.out.symm, Kept.drewN _ _ _⟩
  · have HE := Lib.hid (eqs_len hl)
    have hb : ((xs.length : Int) != ys.length) = true := by simp only [bne_iff_ne, ne_eq]; omega
    clear hl
    go_enter Try.func55, Try.ntmps55
    go_wp2
    go_ret
    exact ⟨ret_bool HE.out.symm, Kept.refl _ _⟩
def RetStrs (w0 : World) (L : List ByteArray) (e : Ending) (w' : World) : Prop := ∃ a cap, e = .returned (.slice a L.length cap) ∧ Rd w' a (sv L) ∧ Kept nob w0 w'
def RF (b : Nat) (av : Value) : Nat → Prop := fun k => k = b ∨ some k = av.ownBlock
theorem Kept.cell {S : Nat → Prop} {w w' : World} (h : Kept S w w') {a : Addr} {v : Value} (hc : w.cell? a = some v) (hs : ¬ S a.block) : w'.cell? a = some v :=
  (World.cell?_of_block (h.block a.block (World.block_lt_of_cell? w a hc) hs)).trans hc
end Go.Proofs.Ythddfkemagpiaaa

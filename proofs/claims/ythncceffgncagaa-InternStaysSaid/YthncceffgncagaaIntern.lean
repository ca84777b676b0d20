/-
  What is proved: what the functions of the two lists of names compute. No condition.
-/
import Derived.Test.YthncceffgncagaaBits
import Derived.Lib.MinMax
import Derived.Deep.AppendLies
import Derived.Laws.AppendOwnNone
set_option linter.unusedVariables false
set_option linter.unusedSimpArgs false
namespace Go.Proofs.Ythncceffgncagaa
open Go.RowKit

/-- The entries of a map from names to their places. -/
structure Entries (L : List ByteArray) (es : Array MapEntry) : Prop where
  size : es.size = L.length
  key : ∀ i (h : i < L.length) (h' : i < es.size), es[i].key = .string L[i] ∧ es[i].val = .int .i64 (i : Int)

def plc (L : List ByteArray) (s : ByteArray) : Option Nat := L.findIdx? (fun t => s == t)

theorem findNow_entries (s : ByteArray) : ∀ (L : List ByteArray) (es : List MapEntry) (i : Nat), es.length = L.length → (∀ j (h : j < L.length) (h' : j < es.length), es[j].key = .string L[j] ∧ es[j].val = .int .i64 ((i + j : Nat) : Int)) →
    Instr.findNow .string (.string s) es i = some ((plc L s).map fun j => (i + j, .int .i64 ((i + j : Nat) : Int))) := by
  intro L
  induction L with
  | nil =>
    intro es i h _
    obtain rfl : es = [] := List.eq_nil_of_length_eq_zero (by simpa using h)
    simp [Instr.findNow, plc]
  | cons t L ih =>
    intro es i h hk
    cases es with
    | nil => simp at h
    | cons e es =>
      have h0 := hk 0 (by simp) (by simp)
      simp at h0
      have ih' := ih es (i + 1) (by simpa using h) (fun j hj hj' => by
        have := hk (j + 1) (by simp; omega) (by simp; omega)
        simp at this
        refine ⟨this.1, ?_⟩
        rw [this.2]; congr 1; omega)
      simp only [Instr.findNow, h0.1, Instr.sameNow]
      unfold plc at ih' ⊢
      rw [List.findIdx?_cons]
      cases hst : (s == t) with
      | true => simp [h0.2]
      | false =>
        simp only [hst, ih']
        cases List.findIdx? (fun t => s == t) L with
        | none => rfl
        | some j => simp; omega

theorem ba_beq (a b : ByteArray) : (a == b) = decide (a = b) := by
  rw [Bool.eq_iff_iff, decide_eq_true_eq]
  show ByteArray.beq a b = true ↔ a = b
  cases a; cases b
  unfold ByteArray.beq
  simp
theorem ba_toList (a : ByteArray) : a.toList = a.data.toList := by
  exact ByteArray.toList_eq a
theorem toList_eq (a b : ByteArray) : (a.toList == b.toList) = decide (a = b) := by
  rw [ba_toList, ba_toList, Bool.eq_iff_iff]
  simp only [beq_iff_eq, decide_eq_true_eq]
  constructor
  · intro h
    exact ByteArray.ext (Array.ext' h)
  · intro h; rw [h]
theorem run_checkKey_str {P : Program} {k : TypeId} (hk : P.underlying k = some .string) (b : Bool) (n : Nat) (s : ByteArray) (w : World) : (Instr.checkKey b (n + 1) k (.string s)).run P w = .ok () w := by
  simp [Instr.checkKey, run_underlying hk]
theorem run_lookup_names {P : Program} {t k e : TypeId} (ht : P.underlying t = some (.map k e)) (hk : P.underlying k = some .string) (hz : ∀ w : World, (zeroValue e).run P w = .ok (.int .i64 0) w) {w : World} {r : Nat} {es : Array MapEntry} {c : Nat} {L : List ByteArray}
    (hm : w.heap[r]? = some (.map es c)) (hE : Entries L es) (s : ByteArray) :
    (Instr.lookup t (.map (some r)) (.string s) true).run P w = .ok (match plc L s with | some j => .tuple #[.int .i64 (j : Int), .bool true] | none => .tuple #[.int .i64 0, .bool false]) w := by
  have hf := findNow_entries s L es.toList 0 (by simpa using hE.size) (fun j h h' => by have := hE.key j h (by simpa using h'); simpa using this)
  have hck : (Instr.checkKey es.isEmpty 10000 k (.string s)).run P w = .ok () w := run_checkKey_str (P := P) hk es.isEmpty 9999 s w
  unfold Instr.lookup
  simp only [Sem.run_bind, run_underlying ht, Result.andThen_ok]
  simp only [getObj, Sem.run, hm]
  simp only [Sem.run_bind, Sem.run_pure, Result.andThen_ok]
  rw [hck]
  simp only [Result.andThen_ok, Instr.findKey, Sem.run_bind, run_underlying hk, hf, Sem.run_pure]
  cases plc L s with
  | none => simp [hz]
  | some j => simp
theorem run_update_names {P : Program} {t k e : TypeId} (ht : P.underlying t = some (.map k e)) (hk : P.underlying k = some .string) {w : World} {r : Nat} {es : Array MapEntry} {c : Nat} {L : List ByteArray}
    (hm : w.heap[r]? = some (.map es c)) (hE : Entries L es) (s : ByteArray) (v : Value) (hn : plc L s = none) :
    (Instr.mapUpdate t (.map (some r)) (.string s) v).run P w = .ok () { w with heap := w.heap.setIfInBounds r (.map (es.push { key := .string s, val := v, born := c }) (c + 1)) } := by
  have hf := findNow_entries s L es.toList 0 (by simpa using hE.size) (fun j h h' => by have := hE.key j h (by simpa using h'); simpa using this)
  have hck : (Instr.checkKey false 10000 k (.string s)).run P w = .ok () w := run_checkKey_str (P := P) hk false 9999 s w
  unfold Instr.mapUpdate
  simp only [Sem.run_bind, run_underlying ht, Result.andThen_ok]
  simp only [getObj, Sem.run, hm]
  simp only [Result.andThen_ok, Sem.run_bind]
  rw [hck]
  rw [hn] at hf
  simp only [Result.andThen_ok, Instr.findKey, Sem.run_bind, run_underlying hk, hf, Sem.run_pure, Option.map_none]
  simp only [setObj, Sem.run, hm]
theorem Entries.push {L : List ByteArray} {es : Array MapEntry} (h : Entries L es) (s : ByteArray) (c : Nat) : Entries (L ++ [s]) (es.push { key := .string s, val := .int .i64 (L.length : Int), born := c }) := by
  refine ⟨by simp [h.size], fun i hi hi' => ?_⟩
  by_cases e : i < L.length
  · have := h.key i e (by rw [h.size]; exact e)
    rw [Array.getElem_push_lt (by rw [h.size]; exact e), List.getElem_append_left e]
    exact this
  · have : i = L.length := by simp at hi; omega
    subst this
    have e2 : L.length = es.size := h.size.symm
    simp [Array.getElem_push, e2]
theorem Entries.nil : Entries [] #[] := ⟨rfl, fun i h _ => by simp at h⟩


def setObjW (w : World) (r : Nat) (o : Obj) : World := { w with heap := w.heap.setIfInBounds r o }
theorem setObjW_size (w : World) (r : Nat) (o : Obj) : (setObjW w r o).heap.size = w.heap.size := by simp [setObjW]
theorem setObjW_kept (w : World) (r : Nat) (o : Obj) : Kept (ib r) w (setObjW w r o) :=
  ⟨rfl, rfl, rfl, by simp [setObjW], fun k hk hs => by
    have : ¬ r = k := fun h => hs h.symm
    simp [setObjW, Array.getElem?_setIfInBounds, this]⟩
theorem setObjW_at {w : World} {r : Nat} {x : Obj} (h : w.heap[r]? = some x) (o : Obj) : (setObjW w r o).heap[r]? = some o := by
  have := lt_blk h
  simp [setObjW, Array.getElem?_setIfInBounds, this]

/-- The names, laid as intern.New and Put lay them. -/
structure NW (B : Nat) (w : World) (b r : Nat) (av : Value) (L : List ByteArray) (most : Nat) : Prop where
  hd : w.heap[b]? = some (.cells #[av, .map (some r), .int .i64 most] 65 (0, 0))
  own : w.ownsRow B 9 1 av L.length (L.map Value.string)
  map : ∃ es c, w.heap[r]? = some (.map es c) ∧ Entries L es
  le : L.length ≤ most
  most : most ≤ 4096
def NF (b r : Nat) (av : Value) : Nat → Prop := fun k => k = b ∨ k = r ∨ some k = av.ownBlock
theorem NW.kept {S : Nat → Prop} {B : Nat} {w w' : World} {b r : Nat} {av : Value} {L : List ByteArray} {most : Nat} (h : NW B w b r av L most) (hk : Kept S w w') (hS : ∀ k, NF b r av k → ¬ S k) : NW B w' b r av L most := by
  obtain ⟨es, c, hm, hE⟩ := h.map
  refine ⟨hk.get h.hd (hS _ (.inl rfl)), ?_, ⟨es, c, hk.get hm (hS _ (.inr (.inl rfl))), hE⟩, h.le, h.most⟩
  refine ⟨h.own.1, ?_⟩
  rcases h.own.2 with h2 | ⟨g, cap, cur, rfl, hb, hg, rest⟩
  · exact .inl h2
  · exact .inr ⟨g, cap, cur, rfl, hb, hk.get hg (hS g (.inr (.inr rfl))), rest⟩
theorem NW.ne {B : Nat} {w : World} {b r : Nat} {av : Value} {L : List ByteArray} {most : Nat} (h : NW B w b r av L most) : b ≠ r ∧ av.ownBlock ≠ some b ∧ av.ownBlock ≠ some r := by
  obtain ⟨es, c, hm, hE⟩ := h.map
  refine ⟨fun e => ?_, fun e => ?_, fun e => ?_⟩
  · have := h.hd; rw [e, hm] at this; simp at this
  · rcases h.own.2 with ⟨rfl, _⟩ | ⟨g, cap, cur, rfl, hb, hg, rest⟩
    · simp [Value.ownBlock] at e
    · simp [Value.ownBlock] at e
      subst e
      have := h.hd; rw [hg] at this; simp at this
  · rcases h.own.2 with ⟨rfl, _⟩ | ⟨g, cap, cur, rfl, hb, hg, rest⟩
    · simp [Value.ownBlock] at e
    · simp [Value.ownBlock] at e
      subst e
      rw [hg] at hm; simp at hm
theorem NW.c0 {B : Nat} {w : World} {b r : Nat} {av : Value} {L : List ByteArray} {most : Nat} (h : NW B w b r av L most) : w.cell? ⟨b, 0, none⟩ = some av := by rw [cell_blk h.hd]; rfl
theorem NW.c1 {B : Nat} {w : World} {b r : Nat} {av : Value} {L : List ByteArray} {most : Nat} (h : NW B w b r av L most) : w.cell? ⟨b, 1, none⟩ = some (.map (some r)) := by rw [cell_blk h.hd]; rfl
theorem NW.c2 {B : Nat} {w : World} {b r : Nat} {av : Value} {L : List ByteArray} {most : Nat} (h : NW B w b r av L most) : w.cell? ⟨b, 2, none⟩ = some (.int .i64 most) := by rw [cell_blk h.hd]; rfl
theorem NW.av {B : Nat} {w : World} {b r : Nat} {av : Value} {L : List ByteArray} {most : Nat} (h : NW B w b r av L most) : ∃ a cap, av = .slice a L.length cap := by
  rcases h.own.2 with ⟨rfl, h0⟩ | ⟨g, cap, cur, rfl, _⟩
  · exact ⟨none, 0, by rw [h0]⟩
  · exact ⟨_, _, rfl⟩
theorem zeroInt (w : World) : (zeroValue 3).run Try.prog w = .ok (.int .i64 0) w := by kernel_rfl
theorem info_str : (Try.prog.info? 9).map (fun i => (i.zero, i.size, i.bytes)) = some (some (.string ⟨#[]⟩), 1, 16) := by kernel_rfl
theorem NW.look {B : Nat} {w : World} {b r : Nat} {av : Value} {L : List ByteArray} {most : Nat} (h : NW B w b r av L most) (s : ByteArray) :
    (Instr.lookup 63 (.map (some r)) (.string s) true).run Try.prog w = .ok (match plc L s with | some j => .tuple #[.int .i64 (j : Int), .bool true] | none => .tuple #[.int .i64 0, .bool false]) w := by
  obtain ⟨es, c, hm, hE⟩ := h.map
  exact run_lookup_names Try.underlying63 Try.underlying9 zeroInt hm hE s

set_option maxHeartbeats 400000 in
theorem nlen_any {B : Nat} {w : World} {b r : Nat} {av : Value} {L : List ByteArray} {most : Nat} (h : NW B w b r av L most) :
    Calls Try.prog 16 #[.pointer (some ⟨b, 0, none⟩)] w fun e w' => e = .returned (.int .i64 (L.length : Int)) ∧ w = w' := by
  obtain ⟨a, cap, rfl⟩ := h.av
  have h0 := h.c0
  clear h
  go_enter Try.func16, Try.ntmps16
  go_wp2
  go_ret
  exact ⟨rfl, rfl⟩
def findI (L : List ByteArray) (s : ByteArray) : Int := match plc L s with | some j => (j : Int) | none => -1
set_option maxHeartbeats 400000 in
theorem nfind_any {B : Nat} {w : World} {b r : Nat} {av : Value} {L : List ByteArray} {most : Nat} (h : NW B w b r av L most) (s : ByteArray) :
    Calls Try.prog 13 #[.pointer (some ⟨b, 0, none⟩), .string s] w fun e w' => e = .returned (.int .i64 (findI L s)) ∧ w = w' := by
  have h1 := h.c1
  have hl := h.look s
  unfold findI
  clear h
  cases hp : plc L s with
  | none =>
    rw [hp] at hl
    clear hp
    go_enter Try.func13, Try.ntmps13
    go_wp2
    go_ret
    exact ⟨rfl, rfl⟩
  | some j =>
    rw [hp] at hl
    clear hp
    go_enter Try.func13, Try.ntmps13
    go_wp2
    go_ret
    exact ⟨rfl, rfl⟩
set_option maxHeartbeats 400000 in
theorem ntext_in {B : Nat} {w : World} {b r : Nat} {av : Value} {L : List ByteArray} {most : Nat} (h : NW B w b r av L most) (k : Nat) (hk : k < L.length) :
    Calls Try.prog 12 #[.pointer (some ⟨b, 0, none⟩), .int .i64 (k : Int)] w fun e w' => e = .returned (.tuple #[.string (L.getD k ⟨#[]⟩), .bool true]) ∧ w = w' := by
  have HL := Lib.hid (nlen_any h)
  obtain ⟨a, cap, rfl⟩ := h.av
  have h0 := h.c0
  have hm := h.most
  have hll := h.le
  rcases h.own.2 with ⟨hn, h0'⟩ | ⟨g, cap', cur, hv, hb, hg, rest⟩
  · omega
  · simp at hv
    obtain ⟨rfl, rfl⟩ := hv
    have hc : w.cell? ⟨g, k, none⟩ = some (.string (L.getD k ⟨#[]⟩)) := by
      rw [h.own.cellAt k (by omega)]; simp [hk, List.getD]
    obtain ⟨x, hx⟩ : ∃ x, x = L.getD k ⟨#[]⟩ := ⟨_, rfl⟩
    rw [← hx] at hc ⊢
    clear hg rest h hx
    go_enter Try.func12, Try.ntmps12
    go_wp2_with (go_at_call 16; refine HL.out.mono ?_; rintro e w' ⟨rfl, rfl⟩)
    go_ret2
    exact ⟨rfl, rfl⟩
set_option maxHeartbeats 400000 in
theorem ntext_out {p : Option Addr} {n : Nat} {w : World} (h : Calls Try.prog 16 #[.pointer p] w fun e w' => e = .returned (.int .i64 (n : Int)) ∧ w = w') (i : Int) (hi : i < 0 ∨ (n : Int) ≤ i) :
    Calls Try.prog 12 #[.pointer p, .int .i64 i] w fun e w' => e = .returned (.tuple #[.string ⟨#[]⟩, .bool false]) ∧ w = w' := by
  have HL := Lib.hid h
  clear h
  rcases Int.lt_or_le i 0 with h1 | h1
  · clear hi
    go_enter Try.func12, Try.ntmps12
    go_wp2
    go_ret2
    exact ⟨rfl, rfl⟩
  · have h2 : (n : Int) ≤ i := by omega
    clear hi
    go_enter Try.func12, Try.ntmps12
    go_wp2_with (go_at_call 16; refine HL.out.mono ?_; rintro e w' ⟨rfl, rfl⟩)
    go_ret2
    exact ⟨rfl, rfl⟩
set_option maxHeartbeats 400000 in
theorem nnew_any (n : Int) (w : World) (B : Nat) :
    Calls Try.prog 10 #[.int .i64 n] w fun e w' => ∃ b r, e = .returned (.pointer (some ⟨b, 0, none⟩)) ∧ NW B w' b r (.slice none 0 0) [] (roomOf n) ∧ Kept nob w w' ∧ w.heap.size ≤ b ∧ w.heap.size ≤ r := by
  have hmm := @run_makeMap Try.prog
  obtain ⟨R, hR⟩ : ∃ R, R = roomOf n := ⟨_, rfl⟩
  have hRn : min (max n 0) 4096 = (R : Int) := by rw [hR]; unfold roomOf; omega
  rw [← hR]
  have hR4 : R ≤ 4096 := by omega
  clear hR
  go_enter Try.func10, Try.ntmps10
  go_wp2
  go_ret
  refine ⟨w.heap.size + 1, w.heap.size, rfl, ⟨?_, World.ownsRow_nil _ _ _ _, ⟨#[], 0, ?_, Entries.nil⟩, by simp, hR4⟩, ?_, by omega, by omega⟩
  · have := alloc_blk (w.alloc (.map #[] 0)) (.cells #[.slice none 0 0, .map (some w.heap.size), .int .i64 R] 65)
    rw [World.size_alloc] at this
    exact this
  · rw [alloc_old (alloc_blk _ _)]
  · exact (Kept.alloc _ _ _).trans (Kept.alloc _ _ nob) (fun i _ h => h)


theorem str_nil {s : ByteArray} (h : s.size = 0) : s.toList = [] := by
  rw [ba_toList]
  exact List.eq_nil_of_length_eq_zero (by rw [Array.length_toList]; exact h)
theorem str_cons {s : ByteArray} (h : s.size ≠ 0) : s.toList.isEmpty = false := by
  rw [ba_toList]
  cases hd : s.data.toList with
  | nil =>
    have := congrArg List.length hd
    rw [Array.length_toList] at this
    exact absurd this h
  | cons a l => rfl
def badName (s : ByteArray) : Bool := decide (s.size = 0) || decide (24 < s.size)
def putV (L : List ByteArray) (most : Nat) (s : ByteArray) : Int × Int :=
  if badName s then (0, 5) else match plc L s with
    | some j => ((j : Int), 0)
    | none => if L.length < most then ((L.length : Int), 0) else (0, 14)
def putL (L : List ByteArray) (most : Nat) (s : ByteArray) : List ByteArray :=
  if badName s then L else match plc L s with
    | some _ => L
    | none => if L.length < most then L ++ [s] else L
def NPut (B : Nat) (w : World) (b r : Nat) (av : Value) (L : List ByteArray) (most : Nat) (s : ByteArray) (e : Ending) (w' : World) : Prop :=
  ∃ av', e = .returned (.tuple #[.int .i64 (putV L most s).1, .int .i64 (putV L most s).2]) ∧ NW B w' b r av' (putL L most s) most ∧ Kept (NF b r av) w w' ∧ (∀ k, NF b r av' k → NF b r av k ∨ w.heap.size ≤ k)

set_option maxHeartbeats 1000000 in
theorem nput_any {B : Nat} {w : World} {b r : Nat} {av : Value} {L : List ByteArray} {most : Nat} (h : NW B w b r av L most) (s : ByteArray) (hB : B ≤ w.heap.size) :
    Calls Try.prog 11 #[.pointer (some ⟨b, 0, none⟩), .string s] w (NPut B w b r av L most s) := by
  have same : ∀ e, e = .returned (.tuple #[.int .i64 (putV L most s).1, .int .i64 (putV L most s).2]) → putL L most s = L → NPut B w b r av L most s e w :=
    fun e he hL => ⟨av, he, by rw [hL]; exact h, Kept.refl _ _, fun k hk => .inl hk⟩
  have SAME := Lib.hid same
  clear same
  by_cases h0 : s.size = 0
  · have hbad : badName s = true := by simp [badName, h0]
    have e1 : putV L most s = (0, 5) := by simp [putV, hbad]
    have e2 : putL L most s = L := by simp [putL, hbad]
    rw [e1] at SAME
    have hs := str_nil h0
    clear hbad e1 h0
    go_enter Try.func11, Try.ntmps11
    go_wp2
    go_ret2
    exact SAME.out _ rfl e2
  · have hs := str_cons h0
    rcases Nat.lt_or_ge 24 s.size with h24 | h24
    · have hbad : badName s = true := by simp [badName, h24]
      have e1 : putV L most s = (0, 5) := by simp [putV, hbad]
      have e2 : putL L most s = L := by simp [putL, hbad]
      rw [e1] at SAME
      clear h0 hbad e1
      go_enter Try.func11, Try.ntmps11
      go_wp2
      go_ret2
      exact SAME.out _ rfl e2
    · have hbad : badName s = false := by simp [badName, h0]; omega
      have hl := h.look s
      have c0 := h.c0
      have c1 := h.c1
      have c2 := h.c2
      have hne := h.ne
      have hle := h.le
      have hmost := h.most
      have H := Lib.hid h
      obtain ⟨a, cap, hav⟩ := h.av
      obtain ⟨ti, hi, hz0, hz1, hz2⟩ := info_parts info_str
      cases hp : plc L s with
      | some j =>
        rw [hp] at hl
        have e1 : putV L most s = ((j : Int), 0) := by simp [putV, hbad, hp]
        have e2 : putL L most s = L := by simp [putL, hbad, hp]
        rw [e1] at SAME
        clear h0 hbad e1 hp h hav hne
        go_enter Try.func11, Try.ntmps11
        go_wp2
        go_ret2
        exact SAME.out _ rfl e2
      | none =>
        rw [hp] at hl
        rcases Nat.lt_or_ge L.length most with hlt | hge
        · have e1 : putV L most s = ((L.length : Int), 0) := by simp [putV, hbad, hp, hlt]
          have e2 : putL L most s = L ++ [s] := by simp [putL, hbad, hp, hlt]
          rw [hav] at c0
          have HAV := Lib.hid hav
          have HP := Lib.hid hp
          have HNE := Lib.hid hne
          have E1 := Lib.hid e1
          have E2 := Lib.hid e2
          clear SAME hbad h0 h hav hp hne e1 e2
          go_enter Try.func11, Try.ntmps11
          go_wp2
          go_quiet (fail)
          have hd : decide ((most : Int) ≤ L.length) = false := by simp; omega
          obtain ⟨w2, hw2⟩ : ∃ w2, w2 = w.drewN (nq + 1) := ⟨_, rfl⟩
          have h2 : NW B w2 b r av L most := by rw [hw2]; exact H.out.kept (Kept.drewN w (nq + 1) nob) (fun _ _ h => h)
          have hz2 : w2.heap.size = w.heap.size := by rw [hw2]; rfl
          have k02 : Kept nob w w2 := by rw [hw2]; exact Kept.drewN w (nq + 1) nob
          obtain ⟨es, c, hm, hE⟩ := h2.map
          have hup := run_update_names (P := Try.prog) Try.underlying63 Try.underlying9 hm hE s (.int .i64 (L.length : Int)) HP.out
          obtain ⟨o, ho⟩ : ∃ o, o = Obj.map (es.push { key := .string s, val := .int .i64 (L.length : Int), born := c }) (c + 1) := ⟨_, rfl⟩
          rw [← ho] at hup
          have hup' : (Instr.mapUpdate 63 (.map (some r)) (.string s) (.int .i64 (L.length : Int))).run Try.prog w2 = .ok () (setObjW w2 r o) := hup
          have k1 := setObjW_kept w2 r o
          have hm1 := setObjW_at hm o
          have sz1 := setObjW_size w2 r o
          have b0 : (setObjW w2 r o).heap[b]? = some (.cells #[av, .map (some r), .int .i64 most] 65 (0, 0)) := k1.get h2.hd HNE.out.1
          have own1 : (setObjW w2 r o).ownsRow B 9 1 av L.length (L.map Value.string) := by
            refine ⟨h2.own.1, ?_⟩
            rcases h2.own.2 with h2 | ⟨g, cap, cur, hav, hb, hg, rest⟩
            · exact .inl h2
            · exact .inr ⟨g, cap, cur, hav, hb, k1.get hg (fun e => HNE.out.2.2 (by rw [hav]; simp only [Value.ownBlock, Option.some.injEq]; exact e)), rest⟩
          have hE2 : Entries (L ++ [s]) (es.push { key := .string s, val := .int .i64 (L.length : Int), born := c }) := hE.push s c
          have HO := Lib.hid ho
          have HE2 := Lib.hid hE2
          have HM1 := Lib.hid hm1
          obtain ⟨w1, hw1⟩ : ∃ w1, w1 = setObjW w2 r o := ⟨_, rfl⟩
          rw [← hw1] at hup' k1 sz1 b0 own1 HM1
          rw [hw2] at hup'
          have d0 : w1.cell? ⟨b, 0, none⟩ = some (.slice a L.length cap) := by rw [cell_blk b0, HAV.out]; rfl
          have f0 : w1.frozen? ⟨b, 0, none⟩ = false := frz_blk b0 0
          have B0 := Lib.hid b0
          have SZ := Lib.hid sz1
          have HZ2 := Lib.hid hz2
          rw [HAV.out] at own1
          clear hup hm hE ho hE2 hm1 hw1 h2 b0 sz1 hz2 hw2
          go_wp2
          go_region
          go_wp2_with (at_builtin; refine wpList_append_lies _ rfl _ _ 22 rfl B 9 ti (.string ⟨#[]⟩) 1 16 Try.underlying22 hi hz0 hz1 hz2 rfl (by decide) _ _ _ rfl (own1.alloc _) ⟨w1.heap.size, 0, none⟩ 1 1 [.string s] rfl rfl ?c1 ?c2 (by decide) ?c3 ?c4 ?c5 _ rfl ?_)
          case c1 => exact cell_one_new _ _ _
          case c2 => intro u hu; simp at hu; subst hu; rfl
          case c3 => unfold maxLen; omega
          case c4 => omega
          case c5 => have := SZ.out; have := HZ2.out; simp; omega
          intro g3 cap3 w3 own3 hgrow hlies hg3
          have OWN3 := Lib.hid own3
          have GR := Lib.hid hgrow
          have LI := Lib.hid hlies
          have blk3 : w3.heap[b]? = some (.cells #[av, .map (some r), .int .i64 most] 65 (0, 0)) := (Kept.ofGrown hgrow).get (alloc_old B0.out _) (fun e => HNE.out.2.1 (by rw [HAV.out]; exact e.symm))
          have x0 : w3.cell? ⟨b, 0, none⟩ = some av := by rw [cell_blk blk3]; rfl
          have y0 : w3.frozen? ⟨b, 0, none⟩ = false := frz_blk blk3 0
          have BLK3 := Lib.hid blk3
          have map3 : w3.heap[r]? = some o := (Kept.ofGrown hgrow).get (alloc_old HM1.out _) (fun e => HNE.out.2.2 (by rw [HAV.out]; exact e.symm))
          have MAP3 := Lib.hid map3
          rw [HAV.out] at x0
          clear hlies own3 hgrow blk3 d0 f0 own1 map3
          go_wp2
          go_ret2
          have hgb : g3 ≠ b := by
            intro e
            rcases OWN3.out.2 with ⟨h1, _⟩ | ⟨g, c', cur, h1, _, h2, _⟩
            · simp at h1
            · simp at h1
              obtain ⟨rfl, rfl⟩ := h1
              rw [e, BLK3.out] at h2
              simp at h2
          refine ⟨.slice (some ⟨g3, 0, none⟩) (L.length + 1) cap3, by rw [E1.out]; rfl, ?_, ?_, ?_⟩
          · rw [E2.out]
            refine ⟨?_, ?_, ⟨es.push { key := .string s, val := .int .i64 (L.length : Int), born := c }, c + 1, ?_, HE2.out⟩, by simp; omega, hmost⟩
            · rw [set_blk BLK3.out]; rfl
            · have := ownsRow_setCell_other OWN3.out (a := ⟨b, 0, none⟩) (by simp [Value.ownBlock]; exact hgb) (.slice (some ⟨g3, 0, none⟩) (L.length + 1) cap3)
              simpa using this
            · rw [Below.heap_setCell _ _ _ _ (Ne.symm HNE.out.1), MAP3.out, HO.out]
          · refine ((((k02.mono (T := NF b r av) (fun _ _ h => h.elim)).trans k1 (fun i _ h => .inr (.inl h))).trans (Kept.alloc w1 _ nob) (fun _ _ h => h.elim)).trans (Kept.ofGrown GR.out) (fun i _ h => .inr (.inr (by rw [HAV.out]; exact h)))).trans (Kept.setCell w3 ⟨b, 0, none⟩ _) (fun i _ h => .inl h)
          · intro k hk
            rcases hk with rfl | rfl | hk
            · exact .inl (.inl rfl)
            · exact .inl (.inr (.inl rfl))
            · have hk : k = g3 := by simpa [Value.ownBlock] using hk
              subst hk
              rcases LI.out with h | h
              · exact .inl (.inr (.inr (by rw [HAV.out]; exact h.symm)))
              · right
                have := SZ.out
                have := HZ2.out
                omega
        · have e1 : putV L most s = (0, 14) := by simp [putV, hbad, hp]; omega
          have e2 : putL L most s = L := by simp [putL, hbad, hp]; omega
          rw [e1] at SAME
          subst hav
          clear h0 hbad e1 hp h hne
          have E2 := Lib.hid e2
          clear e2
          go_enter Try.func11, Try.ntmps11
          go_wp2
          go_quiet (fail)
          go_wp2
          go_ret2
          obtain ⟨av', he, hN, hk, hf⟩ := SAME.out _ rfl E2.out
          exact ⟨av', he, hN.kept (Kept.drewN w nq nob) (fun _ _ h => h), Kept.drewN _ _ _, hf⟩


def sv (L : List ByteArray) : List Value := L.map Value.string
theorem sv_len (L : List ByteArray) : (sv L).length = L.length := by simp [sv]
theorem sv_get (L : List ByteArray) (j : Nat) (hj : j < L.length) : (sv L)[j]? = some (.string (L.getD j ⟨#[]⟩)) := by simp [sv, hj, List.getD]
theorem sv_one (L : List ByteArray) : ∀ u ∈ sv L, u.oneCell' = true := by
  intro u hu
  obtain ⟨_, _, rfl⟩ := List.mem_map.1 hu
  rfl
theorem plc_some {L : List ByteArray} {s : ByteArray} {k : Nat} (hk : k < L.length) (h : L.getD k ⟨#[]⟩ = s) (hn : ∀ j, j < k → L.getD j ⟨#[]⟩ ≠ s) : plc L s = some k := by
  unfold plc
  rw [List.findIdx?_eq_some_iff_getElem]
  refine ⟨hk, ?_, fun j hj => ?_⟩
  · rw [ba_beq, decide_eq_true_eq]; simp [List.getD, hk] at h; exact h.symm
  · have := hn j hj
    rw [ba_beq]
    simp [List.getD, show j < L.length by omega] at this
    simp; exact fun e => this e.symm
theorem plc_none {L : List ByteArray} {s : ByteArray} (hn : ∀ j, j < L.length → L.getD j ⟨#[]⟩ ≠ s) : plc L s = none := by
  unfold plc
  rw [List.findIdx?_eq_none_iff]
  intro t ht
  obtain ⟨j, hj, rfl⟩ := List.getElem_of_mem ht
  have := hn j hj
  rw [ba_beq]
  simp [List.getD, hj] at this
  simp; exact fun e => this e.symm
theorem plc_spec {L : List ByteArray} {s : ByteArray} {k : Nat} (h : plc L s = some k) : k < L.length ∧ L.getD k ⟨#[]⟩ = s ∧ ∀ j, j < k → L.getD j ⟨#[]⟩ ≠ s := by
  unfold plc at h
  rw [List.findIdx?_eq_some_iff_getElem] at h
  obtain ⟨hk, h1, h2⟩ := h
  rw [ba_beq, decide_eq_true_eq] at h1
  refine ⟨hk, by simp [List.getD, hk, h1], fun j hj => ?_⟩
  have := h2 j hj
  rw [ba_beq] at this
  simp [List.getD, show j < L.length by omega] at this ⊢
  exact fun e => this e.symm
theorem plc_spec_none {L : List ByteArray} {s : ByteArray} (h : plc L s = none) : ∀ j, j < L.length → L.getD j ⟨#[]⟩ ≠ s := by
  unfold plc at h
  rw [List.findIdx?_eq_none_iff] at h
  intro j hj e
  have := h (L[j]) (List.getElem_mem hj)
  rw [ba_beq] at this
  simp [List.getD, hj] at e this
  exact this e.symm

set_option maxHeartbeats 1000000 in
theorem place_any (a : Option Addr) (cap : Nat) (L : List ByteArray) (s : ByteArray) (w : World) (hx : Rd w a (sv L)) (hl : L.length ≤ 9223372036854775807) :
    Calls Try.prog 17 #[.slice a L.length cap, .string s] w fun e w' => e = .returned (.int .i64 (findI L s)) ∧ w = w' := by
  go_enter Try.func17, Try.ntmps17
  go_wp2
  go_loop [5] (fun i => ∃ k : Nat, i = .int .i64 (k : Int) ∧ k ≤ L.length ∧ Hid (∀ j, j < k → L.getD j ⟨#[]⟩ ≠ s)) (fun i => L.length - (intOf i).toNat)
  case atStart => exact ⟨0, rfl, by omega, fun j h => by omega⟩
  case round =>
    obtain ⟨k, rfl, hkl, hno⟩ := hrel
    by_cases hlt : k < L.length
    · rcases hx with h | ⟨b1, o1, rfl, hc1⟩
      · have := sv_len L; rw [h] at this; simp at this; omega
      have d1 : w.cell? ⟨b1, o1 + k, none⟩ = some (.string (L.getD k ⟨#[]⟩)) := by
        rw [← sv_get L k hlt, ← hc1 k (by rw [sv_len]; exact hlt)]
      obtain ⟨x, hx⟩ : ∃ x, x = L.getD k ⟨#[]⟩ := ⟨_, rfl⟩
      rw [← hx] at d1
      have HX := Lib.hid hx
      clear hx hc1
      by_cases hxy : x = s
      · subst hxy
        have HE : Hid (findI L x = (k : Int)) := by
          show findI L x = _
          unfold findI
          rw [plc_some hlt HX.out.symm hno.out]
        go_wp2
        go_ret
        exact ⟨ret_int HE.out.symm, rfl⟩
      · have hb : (x.toList == s.toList) = false := by rw [toList_eq]; simpa using hxy
        have HXY := Lib.hid hxy
        clear hxy
        go_wp2
        go_round
        case rel =>
          refine ⟨k + 1, by go_num, by omega, fun j hj => ?_⟩
          by_cases e : j = k
          · rw [e, ← HX.out]; exact HXY.out
          · exact hno.out j (by omega)
        case measure => simp [intOf]; omega
    · have HE : Hid (findI L s = -1) := by
        show findI L s = _
        unfold findI
        rw [plc_none (fun j hj => hno.out j (by omega))]
      go_wp2
      go_ret
      exact ⟨ret_int HE.out.symm, rfl⟩
def eqs (xs ys : List ByteArray) : Bool := decide (xs = ys)
theorem eqs_len {xs ys : List ByteArray} (h : xs.length ≠ ys.length) : eqs xs ys = false := by
  unfold eqs; rw [decide_eq_false_iff_not]; intro e; rw [e] at h; exact h rfl
theorem eqs_at {xs ys : List ByteArray} (k : Nat) (h : xs.getD k ⟨#[]⟩ ≠ ys.getD k ⟨#[]⟩) : eqs xs ys = false := by
  unfold eqs; rw [decide_eq_false_iff_not]; intro e; rw [e] at h; exact h rfl
theorem eqs_all {xs ys : List ByteArray} (hl : xs.length = ys.length) (h : ∀ j, j < xs.length → xs.getD j ⟨#[]⟩ = ys.getD j ⟨#[]⟩) : eqs xs ys = true := by
  unfold eqs; rw [decide_eq_true_eq]
  apply List.ext_getElem hl
  intro i h1 h2
  have := h i h1
  simpa [List.getD, h1, h2] using this
set_option maxHeartbeats 1000000 in
theorem strsame_any (a1 a2 : Option Addr) (c1 c2 : Nat) (xs ys : List ByteArray) (w : World) (hx : Rd w a1 (sv xs)) (hy : Rd w a2 (sv ys)) (hlx : xs.length ≤ 9223372036854775807) (hly : ys.length ≤ 9223372036854775807) :
    Calls Try.prog 18 #[.slice a1 xs.length c1, .slice a2 ys.length c2] w fun e w' => e = .returned (.bool (eqs xs ys)) ∧ Kept nob w w' := by
  by_cases hl : xs.length = ys.length
  · have hlx0 := hl
    have HLL := Lib.hid hl
    rw [← hl] at hly ⊢
    clear hl hlx0
    go_enter Try.func18, Try.ntmps18
    go_wp2
    go_loopw [5] (fun i wr => ∃ k q : Nat, i = .int .i64 (k : Int) ∧ k ≤ xs.length ∧ wr = w.drewN q ∧ Hid (∀ j, j < k → xs.getD j ⟨#[]⟩ = ys.getD j ⟨#[]⟩)) (fun i _ => xs.length - (intOf i).toNat)
    case atStart => exact ⟨0, 0, rfl, by omega, rfl, fun j h => by omega⟩
    case round =>
      obtain ⟨k, q, rfl, hkl, rfl, hno⟩ := hrel
      by_cases hlt : k < xs.length
      · rcases hx with h | ⟨b1, o1, rfl, hc1⟩
        · have := sv_len xs; rw [h] at this; simp at this; omega
        rcases hy with h | ⟨b2, o2, rfl, hc2⟩
        · have := sv_len ys; rw [h] at this; have := HLL.out; simp at *; omega
        have hlt2 : k < ys.length := by rw [← HLL.out]; exact hlt
        have d1 : w.cell? ⟨b1, o1 + k, none⟩ = some (.string (xs.getD k ⟨#[]⟩)) := by
          rw [← sv_get xs k hlt, ← hc1 k (by rw [sv_len]; exact hlt)]
        have d2 : w.cell? ⟨b2, o2 + k, none⟩ = some (.string (ys.getD k ⟨#[]⟩)) := by
          rw [← sv_get ys k hlt2, ← hc2 k (by rw [sv_len]; exact hlt2)]
        obtain ⟨x, hx⟩ : ∃ x, x = xs.getD k ⟨#[]⟩ := ⟨_, rfl⟩
        obtain ⟨y, hy⟩ : ∃ y, y = ys.getD k ⟨#[]⟩ := ⟨_, rfl⟩
        rw [← hx] at d1
        rw [← hy] at d2
        have HX := Lib.hid hx
        have HY := Lib.hid hy
        clear hx hy hc1 hc2
        by_cases hxy : x = y
        · subst hxy
          go_wp2
          go_quiet (fail)
          go_wp2
          go_roundw
          case rel =>
            refine ⟨k + 1, q + nq, by go_num, by omega, rfl, fun j hj => ?_⟩
            by_cases e : j = k
            · rw [e, ← HX.out, ← HY.out]
            · exact hno.out j (by omega)
          case measure => simp [intOf]; omega
        · have hb : (x.toList == y.toList) = false := by rw [toList_eq]; simpa using hxy
          have HE := Lib.hid (eqs_at (xs := xs) (ys := ys) k (by rw [← HX.out, ← HY.out]; exact hxy))
          clear hxy
          go_wp2
          go_quiet (fail)
          go_wp2
          go_ret
          exact ⟨ret_bool HE.out.symm, by rw [World.drewN_drewN]; exact Kept.drewN _ _ _⟩
      · have HE := Lib.hid (eqs_all HLL.out (fun j hj => hno.out j (by omega)))
        go_wp2
        go_ret
        exact ⟨ret_bool HE.out.symm, Kept.drewN _ _ _⟩
  · have HE := Lib.hid (eqs_len hl)
    have hb : ((xs.length : Int) != ys.length) = true := by simp only [bne_iff_ne, ne_eq]; omega
    clear hl
    go_enter Try.func18, Try.ntmps18
    go_wp2
    go_ret
    exact ⟨ret_bool HE.out.symm, Kept.refl _ _⟩
set_option maxHeartbeats 400000 in
theorem clone_strs (g m c : Nat) (xs : List ByteArray) (w : World) (hm : m ≤ 4096) (hx : xs.length = m) (hg : g < w.heap.size) (hc : ∀ j, j < m → w.cell? ⟨g, j, none⟩ = some (.string (xs.getD j ⟨#[]⟩))) :
    Calls Try.prog 44 #[.slice (some ⟨g, 0, none⟩) m c] w fun e w' => ∃ g' cap, e = .returned (.slice (some ⟨g', 0, none⟩) m cap) ∧ w'.ownsRow w.heap.size 9 1 (.slice (some ⟨g', 0, none⟩) m cap) m (sv xs) ∧ Kept nob w w' := by
  obtain ⟨i, hi, hz0, hz1, hz2⟩ := info_parts info_str
  have hown : (w.alloc (.cells #[] 9)).ownsRow w.heap.size 9 1 (.slice (some ⟨w.heap.size, 0, none⟩) 0 0) 0 [] := own_zero (alloc_blk _ _) (Nat.le_refl _)
  have hnews : ∀ j u, (sv xs)[j]? = some u → (w.alloc (.cells #[] 9)).cell? ((⟨g, 0, none⟩ : Addr).add j) = some u := by
    intro j u hu
    have hj : j < xs.length := by
      have := (List.getElem?_eq_some_iff.1 hu).1
      simpa [sv] using this
    rw [sv_get _ _ hj] at hu
    rw [add_pl, World.cell?_alloc_past _ _ _ hg, hc j (by omega)]
    exact hu
  have hne := fun (w : World) => Lib.run_eql_slice_nil (P := Try.prog) w 22 9 (some ⟨g, 0, none⟩) m c 0 0 Try.underlying22
  have HN := Lib.hid hnews
  have HXL := Lib.hid hx
  clear hc hx hnews
  go_enter Try.func44, Try.ntmps44
  go_wp2_with (at_builtin; refine wpList_append_own _ rfl _ _ 22 rfl w.heap.size 9 i (.string ⟨#[]⟩) 1 16 Try.underlying22 hi hz0 hz1 hz2 rfl (by decide) _ _ _ rfl hown ⟨g, 0, none⟩ m c (sv xs) rfl ?c1 HN.out (sv_one xs) ?c3 ?c4 ?c5 ?_)
  case c1 => rw [sv_len, HXL.out]; omega
  case c3 => unfold maxLen; omega
  case c4 => omega
  case c5 => simp
  intro v' w1 hown1 hg1 hnil
  obtain ⟨g', cap, hv⟩ : ∃ g' cap, v' = .slice (some ⟨g', 0, none⟩) m cap := own_some hown1 (by simp) (fun h => by simp [h] at hnil)
  rw [hv] at hown1 ⊢
  clear hnil hv
  go_wp2
  go_ret
  refine ⟨_, _, rfl, by simpa using hown1, ?_⟩
  refine (Kept.alloc w _ nob).trans ((Kept.ofGrown hg1)) (fun k hk h => ?_)
  simp [Value.ownBlock] at h
  omega
set_option maxHeartbeats 400000 in
theorem clone_strs_nil (w : World) :
    Calls Try.prog 44 #[.slice none 0 0] w fun e w' => e = .returned (.slice none 0 0) ∧ w = w' := by
  have hne := fun (w : World) => Lib.run_eql_slice_nil (P := Try.prog) w 22 9 none 0 0 0 0 Try.underlying22
  go_enter Try.func44, Try.ntmps44
  go_wp2
  go_ret
  exact ⟨rfl, rfl⟩
def RetStrs (w0 : World) (L : List ByteArray) (e : Ending) (w' : World) : Prop := ∃ a cap, e = .returned (.slice a L.length cap) ∧ Rd w' a (sv L) ∧ Kept nob w0 w'
set_option maxHeartbeats 400000 in
theorem nall_any {B : Nat} {w : World} {b r : Nat} {av : Value} {L : List ByteArray} {most : Nat} (h : NW B w b r av L most) :
    Calls Try.prog 19 #[.pointer (some ⟨b, 0, none⟩)] w (RetStrs w L) := by
  have h0 := h.c0
  have hle := h.le
  have hm := h.most
  rcases h.own.2 with ⟨rfl, hl⟩ | ⟨g, cap, cur, rfl, hb, hg, rest⟩
  · obtain rfl : L = [] := List.eq_nil_of_length_eq_zero hl
    have HC := Lib.hid (clone_strs_nil w)
    clear h hl
    go_enter Try.func19, Try.ntmps19
    go_wp2_with fail
    refine HC.out.mono ?_
    rintro e w' ⟨rfl, rfl⟩
    go_wp2
    go_ret
    exact ⟨none, 0, rfl, .inl rfl, Kept.refl _ _⟩
  · have HC := Lib.hid (clone_strs g L.length cap L w (by omega) rfl (lt_blk hg) (fun j hj => by rw [h.own.cellAt j (by omega)]; exact sv_get L j hj))
    clear h hg rest
    go_enter Try.func19, Try.ntmps19
    go_wp2_with fail
    refine HC.out.mono ?_
    rintro e w1 ⟨g', cap', rfl, ho, hk⟩
    go_wp2
    go_ret
    exact ⟨_, _, rfl, Rd.own ho, hk⟩


set_option maxHeartbeats 400000 in
theorem nlen_nil (w : World) : Calls Try.prog 16 #[.pointer none] w fun e w' => e = .returned (.int .i64 ((0 : Nat) : Int)) ∧ w = w' := by
  go_enter Try.func16, Try.ntmps16
  go_wp2
  go_ret
  exact ⟨rfl, rfl⟩
set_option maxHeartbeats 400000 in
theorem nput_nil (s : ByteArray) (w : World) : Calls Try.prog 11 #[.pointer none, .string s] w fun e w' => e = .returned (.tuple #[.int .i64 0, .int .i64 13]) ∧ w = w' := by
  go_enter Try.func11, Try.ntmps11
  go_wp2
  go_ret2
  exact ⟨rfl, rfl⟩
set_option maxHeartbeats 400000 in
theorem nfind_nil (s : ByteArray) (w : World) : Calls Try.prog 13 #[.pointer none, .string s] w fun e w' => e = .returned (.int .i64 (-1)) ∧ w = w' := by
  go_enter Try.func13, Try.ntmps13
  go_wp2
  go_ret
  exact ⟨rfl, rfl⟩
set_option maxHeartbeats 400000 in
theorem nall_nil (w : World) : Calls Try.prog 19 #[.pointer none] w fun e w' => e = .returned (.slice none 0 0) ∧ w = w' := by
  go_enter Try.func19, Try.ntmps19
  go_wp2
  go_ret
  exact ⟨rfl, rfl⟩

/-- The document's names. -/
structure RN (B : Nat) (w : World) (b : Nat) (av : Value) (L : List ByteArray) (most : Nat) : Prop where
  hd : w.heap[b]? = some (.cells #[av, .int .i64 most] 37 (0, 0))
  own : w.ownsRow B 9 1 av L.length (sv L)
  nil : L = [] → av = .slice none 0 0
  le : L.length ≤ most
  most : most ≤ 4096
def RF (b : Nat) (av : Value) : Nat → Prop := fun k => k = b ∨ some k = av.ownBlock
theorem RN.kept {S : Nat → Prop} {B : Nat} {w w' : World} {b : Nat} {av : Value} {L : List ByteArray} {most : Nat} (h : RN B w b av L most) (hk : Kept S w w') (hS : ∀ k, RF b av k → ¬ S k) : RN B w' b av L most := by
  refine ⟨hk.get h.hd (hS _ (.inl rfl)), ?_, h.nil, h.le, h.most⟩
  refine ⟨h.own.1, ?_⟩
  rcases h.own.2 with h2 | ⟨g, cap, cur, rfl, hb, hg, rest⟩
  · exact .inl h2
  · exact .inr ⟨g, cap, cur, rfl, hb, hk.get hg (hS g (.inr rfl)), rest⟩
theorem RN.c0 {B : Nat} {w : World} {b : Nat} {av : Value} {L : List ByteArray} {most : Nat} (h : RN B w b av L most) : w.cell? ⟨b, 0, none⟩ = some av := by rw [cell_blk h.hd]; rfl
theorem RN.c1 {B : Nat} {w : World} {b : Nat} {av : Value} {L : List ByteArray} {most : Nat} (h : RN B w b av L most) : w.cell? ⟨b, 1, none⟩ = some (.int .i64 most) := by rw [cell_blk h.hd]; rfl
theorem RN.av {B : Nat} {w : World} {b : Nat} {av : Value} {L : List ByteArray} {most : Nat} (h : RN B w b av L most) : ∃ a cap, av = .slice a L.length cap := by
  rcases h.own.2 with ⟨rfl, h0⟩ | ⟨g, cap, cur, rfl, _⟩
  · exact ⟨none, 0, by rw [h0]⟩
  · exact ⟨_, _, rfl⟩
theorem RN.rd {B : Nat} {w : World} {b : Nat} {a : Option Addr} {cap : Nat} {L : List ByteArray} {most : Nat} (h : RN B w b (.slice a L.length cap) L most) : Rd w a (sv L) := Rd.own h.own
set_option maxHeartbeats 400000 in
theorem rnnew_any (n : Int) (w : World) (B : Nat) :
    Calls Try.prog 14 #[.int .i64 n] w fun e w' => ∃ b, e = .returned (.pointer (some ⟨b, 0, none⟩)) ∧ RN B w' b (.slice none 0 0) [] (roomOf n) ∧ Kept nob w w' ∧ w.heap.size ≤ b := by
  obtain ⟨R, hR⟩ : ∃ R, R = roomOf n := ⟨_, rfl⟩
  have hRn : min (max n 0) 4096 = (R : Int) := by rw [hR]; unfold roomOf; omega
  rw [← hR]
  have hR4 : R ≤ 4096 := by omega
  clear hR
  go_enter Try.func14, Try.ntmps14
  go_wp2
  go_ret
  exact ⟨w.heap.size, rfl, ⟨alloc_blk _ _, World.ownsRow_nil _ _ _ _, fun _ => rfl, by simp, hR4⟩, Kept.alloc _ _ _, Nat.le_refl _⟩
def RNPut (B : Nat) (w : World) (b : Nat) (av : Value) (L : List ByteArray) (most : Nat) (s : ByteArray) (e : Ending) (w' : World) : Prop :=
  ∃ av', e = .returned (.tuple #[.int .i64 (putV L most s).1, .int .i64 (putV L most s).2]) ∧ RN B w' b av' (putL L most s) most ∧ Kept (ib b) w w' ∧ (∀ k, RF b av' k → RF b av k ∨ w.heap.size ≤ k)
theorem Kept.cell {S : Nat → Prop} {w w' : World} (h : Kept S w w') {a : Addr} {v : Value} (hc : w.cell? a = some v) (hs : ¬ S a.block) : w'.cell? a = some v :=
  (World.cell?_of_block (h.block a.block (World.block_lt_of_cell? w a hc) hs)).trans hc
theorem rn_close {B : Nat} {w w3 : World} {b : Nat} {av : Value} {L : List ByteArray} {most : Nat} {s : ByteArray} {g3 cap3 : Nat} (H : RN B w b av L most) (hk : Kept nob w w3) (hB : B ≤ w.heap.size)
    (own3 : w3.ownsRow B 9 1 (.slice (some ⟨g3, 0, none⟩) (L.length + 1) cap3) (L.length + 1) (sv L ++ [.string s])) (hg3 : w.heap.size ≤ g3) (hlt : L.length < most)
    (E1 : putV L most s = ((L.length : Int), 0)) (E2 : putL L most s = L ++ [s]) :
    RNPut B w b av L most s (.returned (.tuple #[.int .i64 (L.length : Int), .int .i64 0])) (w3.setCell ⟨b, 0, none⟩ (.slice (some ⟨g3, 0, none⟩) (L.length + 1) cap3)) := by
  have hbl := lt_blk H.hd
  have blk3 := hk.get H.hd (fun h => h)
  refine ⟨.slice (some ⟨g3, 0, none⟩) (L.length + 1) cap3, by rw [E1], ?_, hk.mono (fun _ _ h => h.elim) |>.trans (Kept.setCell w3 ⟨b, 0, none⟩ _) (fun _ _ h => h), ?_⟩
  · rw [E2]
    refine ⟨?_, ?_, fun h => by simp at h, by simp; omega, H.most⟩
    · rw [set_blk blk3]; rfl
    · have := ownsRow_setCell_other own3 (a := ⟨b, 0, none⟩) (by simp [Value.ownBlock]; omega) (.slice (some ⟨g3, 0, none⟩) (L.length + 1) cap3)
      simpa [sv] using this
  · intro k hk
    rcases hk with rfl | hk
    · exact .inl (.inl rfl)
    · have hk : k = g3 := by simpa [Value.ownBlock] using hk
      subst hk
      exact .inr hg3
set_option maxHeartbeats 1000000 in
theorem rnput_any {B : Nat} {w : World} {b : Nat} {av : Value} {L : List ByteArray} {most : Nat} (h : RN B w b av L most) (s : ByteArray) (hB : B ≤ w.heap.size) :
    Calls Try.prog 15 #[.pointer (some ⟨b, 0, none⟩), .string s] w (RNPut B w b av L most s) := by
  have same : ∀ e, e = .returned (.tuple #[.int .i64 (putV L most s).1, .int .i64 (putV L most s).2]) → putL L most s = L → RNPut B w b av L most s e w :=
    fun e he hL => ⟨av, he, by rw [hL]; exact h, Kept.refl _ _, fun k hk => .inl hk⟩
  have SAME := Lib.hid same
  clear same
  by_cases h0 : s.size = 0
  · have hbad : badName s = true := by simp [badName, h0]
    have e1 : putV L most s = (0, 5) := by simp [putV, hbad]
    have e2 : putL L most s = L := by simp [putL, hbad]
    rw [e1] at SAME
    have hs := str_nil h0
    clear hbad e1 h0
    go_enter Try.func15, Try.ntmps15
    go_wp2
    go_ret2
    exact SAME.out _ rfl e2
  · have hs := str_cons h0
    rcases Nat.lt_or_ge 24 s.size with h24 | h24
    · have hbad : badName s = true := by simp [badName, h24]
      have e1 : putV L most s = (0, 5) := by simp [putV, hbad]
      have e2 : putL L most s = L := by simp [putL, hbad]
      rw [e1] at SAME
      clear h0 hbad e1
      go_enter Try.func15, Try.ntmps15
      go_wp2
      go_ret2
      exact SAME.out _ rfl e2
    · have hbad : badName s = false := by simp [badName, h0]; omega
      have c1 := h.c1
      have hle := h.le
      have hmost := h.most
      have H := Lib.hid h
      obtain ⟨a, cap, hav⟩ := h.av
      have c0 := h.c0
      rw [hav] at c0 h
      have HPL := Lib.hid (place_any a cap L s w h.rd (by omega))
      obtain ⟨ti, hi, hz0, hz1, hz2⟩ := info_parts info_str
      cases hp : plc L s with
      | some j =>
        have e0 : findI L s = (j : Int) := by simp [findI, hp]
        have e1 : putV L most s = ((j : Int), 0) := by simp [putV, hbad, hp]
        have e2 : putL L most s = L := by simp [putL, hbad, hp]
        rw [e1] at SAME
        rw [e0] at HPL
        have E2 := Lib.hid e2
        clear h0 hbad e1 hp h hav e0 e2
        go_enter Try.func15, Try.ntmps15
        go_wp2_with fail
        refine HPL.out.mono ?_
        rintro e w' ⟨rfl, rfl⟩
        go_wp2
        go_ret2
        exact SAME.out _ rfl E2.out
      | none =>
        have e0 : findI L s = -1 := by simp [findI, hp]
        rw [e0] at HPL
        rcases Nat.lt_or_ge L.length most with hlt | hge
        · have e1 : putV L most s = ((L.length : Int), 0) := by simp [putV, hbad, hp, hlt]
          have e2 : putL L most s = L ++ [s] := by simp [putL, hbad, hp, hlt]
          have E1 := Lib.hid e1
          have E2 := Lib.hid e2
          have HAV := Lib.hid hav
          have hbl := lt_blk h.hd
          clear SAME hbad h0 hp e0 e1 e2
          rcases h.own.2 with ⟨hn, hl0⟩ | ⟨g, cap', cur, hv, hbg, hg, rest⟩
          · obtain rfl : L = [] := List.eq_nil_of_length_eq_zero hl0
            obtain ⟨rfl, rfl⟩ : a = none ∧ cap = 0 := by simpa using hn
            clear hn hl0
            go_enter Try.func15, Try.ntmps15
            go_wp2_with fail
            refine HPL.out.mono ?_
            rintro e w' ⟨rfl, rfl⟩
            go_wp2
            go_quiet (fail)
            obtain ⟨w2, hw2⟩ : ∃ w2, w2 = w.drewN nq := ⟨_, rfl⟩
            have k2 : Kept nob w w2 := by rw [hw2]; exact Kept.drewN w nq nob
            have z2 : w2.heap.size = w.heap.size := by rw [hw2]; rfl
            have h2 := h.kept k2 (fun _ _ h => h)
            have c02 := h2.c0
            have hbl2 : b < w2.heap.size := lt_blk h2.hd
            rw [← hw2]
            have own0 : ((w2.alloc (.cells #[] 9)).alloc (.cells #[.string s] 9)).ownsRow B 9 1 (.slice (some ⟨w2.heap.size, 0, none⟩) 0 0) 0 [] := own_zero (alloc_old (alloc_blk _ _) _) (by omega)
            have ownz : (w2.alloc (.cells #[] 9)).ownsRow B 9 1 (.slice (some ⟨w2.heap.size, 0, none⟩) 0 0) 0 [] := own_zero (alloc_blk _ _) (by omega)
            have Z2 := Lib.hid z2
            clear hw2 z2
            go_wp2_with (first | (refine wpList_append_own_none rfl (.tmp 34) (.tmp 38) 22 rfl B 9 ti 1 Try.underlying22 hi (.slice (some ⟨w2.heap.size, 0, none⟩) 0 0) 0 [] rfl ownz rfl ?_) | (at_builtin; refine wpList_append_lies _ rfl (.tmp 39) (.tmp 41) 22 rfl B 9 ti (.string ⟨#[]⟩) 1 16 Try.underlying22 hi hz0 hz1 hz2 rfl (by decide) _ _ _ rfl own0 ⟨w2.heap.size + 1, 0, none⟩ 1 1 [.string s] rfl rfl ?c1 ?c2 (by decide) ?c3 ?c4 ?c5 _ rfl ?_))
            case c1 => have := cell_one_new (w2.alloc (.cells #[] 9)) (.string s) 9; rw [World.size_alloc] at this; exact this
            case c2 => intro u hu; simp at hu; subst hu; rfl
            case c3 => unfold maxLen; omega
            case c4 => omega
            case c5 => have := Z2.out; simp; omega
            intro g3 cap3 w3 own3 hgrow hlies hg3
            have z2 := Z2.out
            have K3 : Kept nob w w3 := ((k2.trans (Kept.alloc w2 _ nob) (fun _ _ h => h)).trans (Kept.alloc _ _ nob) (fun _ _ h => h)).trans (Kept.ofGrown hgrow) (fun i hi h => by simp [Value.ownBlock] at h; omega)
            have G3 : w.heap.size ≤ g3 := by rcases hlies with h | h; (simp [Value.ownBlock] at h; omega); (first | omega | (simp at h; omega))
            have blk3 := K3.get H.out.hd (fun h => h)
            have x0 : w3.cell? ⟨b, 0, none⟩ = some av := by rw [cell_blk blk3]; rfl
            have y0 : w3.frozen? ⟨b, 0, none⟩ = false := frz_blk blk3 0
            have OWN3 := Lib.hid own3
            rw [HAV.out] at x0
            clear hlies own3 hgrow blk3 z2 own0 ownz h2 c02
            go_wp2
            go_ret2
            have := rn_close H.out K3 hB OWN3.out G3 hlt E1.out E2.out
            simpa using this
          · have hl0 : 0 < L.length := by
              rcases Nat.eq_zero_or_pos L.length with h0 | h0
              · have hn := H.out.nil (List.eq_nil_of_length_eq_zero h0)
                rw [HAV.out] at hn
                simp at hn
                rw [hn.1] at hv
                simp at hv
              · exact h0
            obtain ⟨rfl, rfl⟩ : a = some ⟨g, 0, none⟩ ∧ cap = cap' := by simpa using hv
            have hgl := lt_blk hg
            have hcell : ∀ j, j < L.length → w.cell? ⟨g, j, none⟩ = some (.string (L.getD j ⟨#[]⟩)) := fun j hj => by rw [h.own.cellAt j (by omega)]; exact sv_get L j hj
            have HCELL := Lib.hid hcell
            have HG := Lib.hid hg
            clear hv hg rest hcell
            go_enter Try.func15, Try.ntmps15
            go_wp2_with fail
            refine HPL.out.mono ?_
            rintro e w' ⟨rfl, rfl⟩
            go_wp2
            go_quiet (fail)
            obtain ⟨w2, hw2⟩ : ∃ w2, w2 = w.drewN nq := ⟨_, rfl⟩
            have k2 : Kept nob w w2 := by rw [hw2]; exact Kept.drewN w nq nob
            have z2 : w2.heap.size = w.heap.size := by rw [hw2]; rfl
            have h2 := h.kept k2 (fun _ _ h => h)
            have c02 := h2.c0
            have hbl2 : b < w2.heap.size := lt_blk h2.hd
            rw [← hw2]
            have ownz : (w2.alloc (.cells #[] 9)).ownsRow B 9 1 (.slice (some ⟨w2.heap.size, 0, none⟩) 0 0) 0 [] := own_zero (alloc_blk _ _) (by omega)
            have hnews : ∀ j u, (sv L)[j]? = some u → (w2.alloc (.cells #[] 9)).cell? ((⟨g, 0, none⟩ : Addr).add j) = some u := by
              intro j u hu
              have hj : j < L.length := by
                have := (List.getElem?_eq_some_iff.1 hu).1
                simpa [sv] using this
              rw [sv_get _ _ hj] at hu
              rw [add_pl, World.cell?_alloc_past _ _ _ (by omega), k2.cell (HCELL.out j hj) (fun h => h)]
              exact hu
            have HN := Lib.hid hnews
            have Z2 := Lib.hid z2
            clear hw2 z2 hnews
            go_wp2_with (at_builtin; refine wpList_append_lies _ rfl (.tmp 34) (.tmp 38) 22 rfl B 9 ti (.string ⟨#[]⟩) 1 16 Try.underlying22 hi hz0 hz1 hz2 rfl (by decide) _ _ _ rfl ownz ⟨g, 0, none⟩ L.length cap (sv L) rfl ?d0 HN.out (sv_one L) hl0 ?d3 ?d4 ?d5 _ rfl ?_)
            case d0 => rw [sv_len]; omega
            case d3 => unfold maxLen; omega
            case d4 => omega
            case d5 => have := Z2.out; simp; omega
            intro g3 cap3 w3 own3 hgrow hlies hg3
            have z2 := Z2.out
            have K3 : Kept nob w w3 := (k2.trans (Kept.alloc w2 _ nob) (fun _ _ h => h)).trans (Kept.ofGrown hgrow) (fun i hi h => by simp [Value.ownBlock] at h; omega)
            have G3 : w.heap.size ≤ g3 := by rcases hlies with h | h; (simp [Value.ownBlock] at h; omega); (first | omega | (simp at h; omega))
            have Z3 := K3.size
            have own3' : (w3.alloc (.cells #[.string s] 9)).ownsRow B 9 1 (.slice (some ⟨g3, 0, none⟩) L.length cap3) L.length (sv L) := by simpa using own3.alloc _
            clear hlies own3 hgrow z2 ownz h2 c02
            go_wp2_with (at_builtin; refine wpList_append_lies _ rfl (.tmp 39) (.tmp 41) 22 rfl B 9 ti (.string ⟨#[]⟩) 1 16 Try.underlying22 hi hz0 hz1 hz2 rfl (by decide) _ _ _ rfl own3' ⟨w3.heap.size, 0, none⟩ 1 1 [.string s] rfl rfl ?e1 ?e2 (by decide) ?e3 ?e4 ?e5 _ rfl ?_)
            case e1 => exact cell_one_new _ _ _
            case e2 => intro u hu; simp at hu; subst hu; rfl
            case e3 => unfold maxLen; omega
            case e4 => omega
            case e5 => simp; omega
            intro g4 cap4 w4 own4 hgrow4 hlies4 hg4
            have K4 : Kept nob w w4 := (K3.trans (Kept.alloc w3 _ nob) (fun _ _ h => h)).trans (Kept.ofGrown hgrow4) (fun i hi h => by simp [Value.ownBlock] at h; omega)
            have G4 : w.heap.size ≤ g4 := by rcases hlies4 with h | h; (simp [Value.ownBlock] at h; omega); (first | omega | (simp at h; omega))
            have blk4 := K4.get H.out.hd (fun h => h)
            have x0 : w4.cell? ⟨b, 0, none⟩ = some av := by rw [cell_blk blk4]; rfl
            have y0 : w4.frozen? ⟨b, 0, none⟩ = false := frz_blk blk4 0
            have OWN4 := Lib.hid own4
            rw [HAV.out] at x0
            clear hlies4 own4 hgrow4 blk4 own3'
            go_wp2
            go_ret2
            exact rn_close H.out K4 hB OWN4.out G4 hlt E1.out E2.out
        · have e1 : putV L most s = (0, 14) := by simp [putV, hbad, hp]; omega
          have e2 : putL L most s = L := by simp [putL, hbad, hp]; omega
          rw [e1] at SAME
          have E2 := Lib.hid e2
          clear h0 hbad e1 hp h hav e0 e2
          go_enter Try.func15, Try.ntmps15
          go_wp2_with fail
          refine HPL.out.mono ?_
          rintro e w' ⟨rfl, rfl⟩
          go_wp2
          go_quiet (fail)
          go_wp2
          go_ret2
          obtain ⟨av', he, hN, hk, hf⟩ := SAME.out _ rfl E2.out
          exact ⟨av', he, hN.kept (Kept.drewN w nq nob) (fun _ _ h => h), Kept.drewN _ _ _, hf⟩

end Go.Proofs.Ythncceffgncagaa

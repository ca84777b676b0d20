/-
  What is proved: what each function of the document's set (conchref03) does, in any world that holds its sets. Conditions: the sets are laid as New lays them.
-/
import Derived.Test.YthncceffgncagaaBits
set_option linter.unusedVariables false
set_option linter.unusedSimpArgs false
namespace Go.Proofs.Ythncceffgncagaa
open Go.RowKit

def bls (n : Nat) (f : Nat → Bool) : List Value := (List.range n).map fun i => Value.bool (f i)
theorem bls_len (n : Nat) (f : Nat → Bool) : (bls n f).length = n := by simp [bls]
theorem bls_get (n : Nat) (f : Nat → Bool) (j : Nat) (hj : j < n) : (bls n f)[j]? = some (.bool (f j)) := by simp [bls, hj]
theorem bls_set (n : Nat) (f : Nat → Bool) (k : Nat) (v : Bool) : (bls n f).set k (.bool v) = bls n (fun j => if j = k then v else f j) := by
  apply List.ext_getElem?
  intro j
  by_cases hj : j < n
  · rw [bls_get _ _ _ hj, List.getElem?_set]
    by_cases e : k = j
    · subst e; simp [bls_len, hj]
    · rw [if_neg e, bls_get _ _ _ hj, if_neg (fun h => e h.symm)]
  · rw [List.getElem?_eq_none (by simp [bls_len]; omega), List.getElem?_eq_none (by simp [bls_len]; omega)]

/-- The document's set: which numbers are there, as a row of bools. -/
structure RefAt (w : World) (b g n : Nat) (f : Nat → Bool) : Prop where
  hd : w.heap[b]? = some (.cells #[.slice (some ⟨g, 0, none⟩) n n] 76 (0, 0))
  row : w.heap[g]? = some (.cells (bls n f).toArray 4 (0, 0))
  ne : b ≠ g
  le : n ≤ 4096
  zero : ∀ i, n ≤ i → f i = false
theorem RefAt.c0 {w : World} {b g n : Nat} {f : Nat → Bool} (h : RefAt w b g n f) : w.cell? ⟨b, 0, none⟩ = some (.slice (some ⟨g, 0, none⟩) n n) := by rw [cell_blk h.hd]; rfl
theorem RefAt.cw {w : World} {b g n : Nat} {f : Nat → Bool} (h : RefAt w b g n f) (k : Nat) (hk : k < n) : w.cell? ⟨g, k, none⟩ = some (.bool (f k)) := by
  rw [cell_blk h.row, ← bls_get n f k hk]; simp
theorem RefAt.fr {w : World} {b g n : Nat} {f : Nat → Bool} (h : RefAt w b g n f) (k : Nat) : w.frozen? ⟨g, k, none⟩ = false := frz_blk h.row k
theorem RefAt.kept {S : Nat → Prop} {w w' : World} {b g n : Nat} {f : Nat → Bool} (h : RefAt w b g n f) (hk : Kept S w w') (hb : ¬ S b) (hg : ¬ S g) : RefAt w' b g n f :=
  ⟨hk.get h.hd hb, hk.get h.row hg, h.ne, h.le, h.zero⟩
theorem RefAt.lt {w : World} {b g n : Nat} {f : Nat → Bool} (h : RefAt w b g n f) : b < w.heap.size ∧ g < w.heap.size := ⟨lt_blk h.hd, lt_blk h.row⟩
theorem RefAt.congr {w : World} {b g n : Nat} {f f' : Nat → Bool} (h : RefAt w b g n f) (e : ∀ i, f' i = f i) : RefAt w b g n f' := by
  rw [show f' = f from funext e]; exact h
theorem RefAt.set {w : World} {b g n : Nat} {f : Nat → Bool} (h : RefAt w b g n f) (k : Nat) (v : Bool) (hk : k < n) : RefAt (w.setCell ⟨g, k, none⟩ (.bool v)) b g n (fun j => if j = k then v else f j) := by
  refine ⟨?_, ?_, h.ne, h.le, fun i hi => ?_⟩
  · rw [Below.heap_setCell _ _ _ _ h.ne]; exact h.hd
  · rw [set_blk h.row]; simp [← bls_set]
  · rw [if_neg (by omega)]; exact h.zero i hi

theorem info_bool : (Try.prog.info? 4).map (fun i => (i.zero, i.size, i.bytes)) = some (some (.bool false), 1, 1) := by kernel_rfl
set_option maxHeartbeats 400000 in
theorem rnew_any (n : Int) (w : World) :
    Calls Try.prog 27 #[.int .i64 n] w fun e w' => e = .returned (.pointer (some ⟨w.heap.size + 1, 0, none⟩)) ∧
      w' = (w.alloc (.cells (List.replicate (roomOf n) (Value.bool false)).toArray 4)).alloc (.cells #[.slice (some ⟨w.heap.size, 0, none⟩) (roomOf n) (roomOf n)] 76) := by
  have hm : ∀ (m : Nat), m ≤ 4096 → ∀ (w : World), (Instr.makeSlice 74 (.int .i64 (m : Int)) (.int .i64 (m : Int))).run Try.prog w = .ok (.slice (some ⟨w.heap.size, 0, none⟩) m m) (w.alloc (.cells (List.replicate m (Value.bool false)).toArray 4)) :=
    fun m hm w => run_make_eq Try.underlying74 info_bool rfl m (by omega) (by omega) w
  rcases Int.lt_or_le n 0 with h | h
  · have e : roomOf n = 0 := by unfold roomOf; omega
    have hk : ∀ w : World, (Instr.makeSlice 74 (.int .i64 0) (.int .i64 0)).run Try.prog w = .ok (.slice (some ⟨w.heap.size, 0, none⟩) 0 0) (w.alloc (.cells (List.replicate 0 (Value.bool false)).toArray 4)) := fun w => hm 0 (by omega) w
    rw [e]
    clear e hm
    go_enter Try.func27, Try.ntmps27
    go_wp2
    go_ret
    exact ⟨rfl, rfl⟩
  · rcases Int.lt_or_le 4096 n with h2 | h2
    · have e : roomOf n = 4096 := by unfold roomOf; omega
      obtain ⟨L, hL⟩ : ∃ L, L = (List.replicate 4096 (Value.bool false)).toArray := ⟨_, rfl⟩
      have hk : ∀ w : World, (Instr.makeSlice 74 (.int .i64 4096) (.int .i64 4096)).run Try.prog w = .ok (.slice (some ⟨w.heap.size, 0, none⟩) 4096 4096) (w.alloc (.cells L 4)) := fun w => by rw [hL]; exact hm 4096 (by omega) w
      rw [e, ← hL]
      clear e hm hL
      go_enter Try.func27, Try.ntmps27
      go_wp2
      go_ret
      exact ⟨rfl, rfl⟩
    · obtain ⟨k, rfl⟩ : ∃ k : Nat, n = (k : Int) := ⟨n.toNat, by omega⟩
      have e : roomOf k = k := by unfold roomOf; omega
      have hk := hm k (by omega)
      rw [e]
      clear e hm
      go_enter Try.func27, Try.ntmps27
      go_wp2
      go_ret
      exact ⟨rfl, rfl⟩
theorem rnew_set (n : Int) (w : World) :
    Calls Try.prog 27 #[.int .i64 n] w fun e w' => ∃ b g, e = .returned (.pointer (some ⟨b, 0, none⟩)) ∧ RefAt w' b g (roomOf n) (fun _ => false) ∧ Kept nob w w' ∧ w.heap.size ≤ b ∧ w.heap.size ≤ g := by
  refine (rnew_any n w).mono ?_
  rintro e w' ⟨rfl, rfl⟩
  refine ⟨w.heap.size + 1, w.heap.size, rfl, ⟨?_, ?_, by omega, ?_, fun _ _ => rfl⟩, ?_, by omega, by omega⟩
  · have := alloc_blk (w.alloc (.cells (List.replicate (roomOf n) (Value.bool false)).toArray 4)) (.cells #[.slice (some ⟨w.heap.size, 0, none⟩) (roomOf n) (roomOf n)] 76)
    rw [World.size_alloc] at this
    exact this
  · rw [alloc_old (alloc_blk _ _)]
    have : List.replicate (roomOf n) (Value.bool false) = bls (roomOf n) (fun _ => false) := by
      apply List.ext_getElem?
      intro j
      simp only [bls, List.getElem?_replicate, List.getElem?_map, List.getElem?_range']
      by_cases hj : j < roomOf n <;> simp [hj]
    rw [this]
  · unfold roomOf; omega
  · exact (Kept.alloc _ _ _).trans (Kept.alloc _ _ nob) (fun i _ h => h)
set_option maxHeartbeats 400000 in
theorem rin_any {b g n : Nat} {f : Nat → Bool} {w : World} (h : RefAt w b g n f) (i : Int) :
    Calls Try.prog 48 #[.pointer (some ⟨b, 0, none⟩), .int .i64 i] w fun e w' => e = .returned (.bool (inr n i)) ∧ w = w' := by
  have h0 := h.c0
  have hle := h.le
  rcases Int.lt_or_le i 0 with h1 | h1
  · have e : inr n i = false := by unfold inr; simp; omega
    rw [e]; clear e
    go_enter Try.func48, Try.ntmps48
    go_wp2
    go_ret
    exact ⟨rfl, rfl⟩
  · rcases Int.lt_or_le i n with h2 | h2
    · have e : inr n i = true := by unfold inr; simp; omega
      rw [e]; clear e
      go_enter Try.func48, Try.ntmps48
      go_wp2
      go_ret
      exact ⟨rfl, rfl⟩
    · have e : inr n i = false := by unfold inr; simp; omega
      rw [e]; clear e
      go_enter Try.func48, Try.ntmps48
      go_wp2
      go_ret
      refine ⟨ret_bool ?_, rfl⟩
      simp; omega
set_option maxHeartbeats 400000 in
theorem rroom_any {b g n : Nat} {f : Nat → Bool} {w : World} (h : RefAt w b g n f) :
    Calls Try.prog 40 #[.pointer (some ⟨b, 0, none⟩)] w fun e w' => e = .returned (.int .i64 n) ∧ w = w' := by
  have h0 := h.c0
  go_enter Try.func40, Try.ntmps40
  go_wp2
  go_ret
  exact ⟨rfl, rfl⟩
set_option maxHeartbeats 400000 in
theorem rput_any {b g n : Nat} {f : Nat → Bool} {w : World} (h : RefAt w b g n f) (i : Int) :
    Calls Try.prog 29 #[.pointer (some ⟨b, 0, none⟩), .int .i64 i] w fun e w' => e = .returned (.bool (inr n i && !f i.toNat)) ∧ RefAt w' b g n (putf n f i) ∧ Kept (ib g) w w' ∧ w.heap.size = w'.heap.size := by
  have h0 := h.c0
  have hle := h.le
  have HI := Lib.hid (rin_any h i)
  by_cases hin : 0 ≤ i ∧ i < n
  · obtain ⟨k, rfl⟩ : ∃ k : Nat, i = (k : Int) := ⟨i.toNat, by omega⟩
    have hk : k < n := by omega
    have hi : inr n (k : Int) = true := by unfold inr; simp [hk]
    have hc := h.cw k hk
    have hfr := h.fr k
    rw [hi] at HI
    rw [hi, Int.toNat_natCast]
    cases hb : f k with
    | true =>
      rw [hb] at hc
      have hP : RefAt w b g n (putf n f k) := h.congr fun j => by
        unfold putf
        rw [hi, Int.toNat_natCast]
        by_cases e : j = k
        · subst e; rw [hb]; rfl
        · simp [e]
      have HP := Lib.hid hP
      clear hb hP
      go_enter Try.func29, Try.ntmps29
      go_wp2_with (go_at_call 48; refine HI.out.mono ?_; rintro e w' ⟨rfl, rfl⟩)
      go_ret
      exact ⟨rfl, HP.out, Kept.refl _ _, rfl⟩
    | false =>
      rw [hb] at hc
      have hP : RefAt (w.setCell ⟨g, k, none⟩ (.bool true)) b g n (putf n f k) := (h.set k true hk).congr fun j => by
        unfold putf
        rw [hi, Int.toNat_natCast]
        by_cases e : j = k
        · subst e; simp
        · simp [e]
      have HP := Lib.hid hP
      clear hb hP
      go_enter Try.func29, Try.ntmps29
      go_wp2_with (go_at_call 48; refine HI.out.mono ?_; rintro e w' ⟨rfl, rfl⟩)
      go_ret
      exact ⟨rfl, HP.out, Kept.setCell w ⟨g, k, none⟩ _, by simp [World.setCell]⟩
  · have hi : inr n i = false := by unfold inr; simp only [decide_eq_false_iff_not]; exact hin
    have hP : RefAt w b g n (putf n f i) := h.congr fun j => by unfold putf; rw [hi]; simp
    have HP := Lib.hid hP
    rw [hi] at HI
    rw [hi]
    clear hP hin hi
    go_enter Try.func29, Try.ntmps29
    go_wp2_with (go_at_call 48; refine HI.out.mono ?_; rintro e w' ⟨rfl, rfl⟩)
    go_ret
    exact ⟨rfl, HP.out, Kept.refl _ _, rfl⟩
set_option maxHeartbeats 400000 in
theorem rdrop_any {b g n : Nat} {f : Nat → Bool} {w : World} (h : RefAt w b g n f) (i : Int) :
    Calls Try.prog 31 #[.pointer (some ⟨b, 0, none⟩), .int .i64 i] w fun e w' => e = .returned (.bool (inr n i && f i.toNat)) ∧ RefAt w' b g n (dropf n f i) ∧ Kept (ib g) w w' ∧ w.heap.size = w'.heap.size := by
  have h0 := h.c0
  have hle := h.le
  have HI := Lib.hid (rin_any h i)
  by_cases hin : 0 ≤ i ∧ i < n
  · obtain ⟨k, rfl⟩ : ∃ k : Nat, i = (k : Int) := ⟨i.toNat, by omega⟩
    have hk : k < n := by omega
    have hi : inr n (k : Int) = true := by unfold inr; simp [hk]
    have hc := h.cw k hk
    have hfr := h.fr k
    rw [hi] at HI
    rw [hi, Int.toNat_natCast]
    cases hb : f k with
    | false =>
      rw [hb] at hc
      have hP : RefAt w b g n (dropf n f k) := h.congr fun j => by
        unfold dropf
        rw [hi, Int.toNat_natCast]
        by_cases e : j = k
        · subst e; rw [hb]; rfl
        · simp [e]
      have HP := Lib.hid hP
      clear hb hP
      go_enter Try.func31, Try.ntmps31
      go_wp2_with (go_at_call 48; refine HI.out.mono ?_; rintro e w' ⟨rfl, rfl⟩)
      go_ret
      exact ⟨rfl, HP.out, Kept.refl _ _, rfl⟩
    | true =>
      rw [hb] at hc
      have hP : RefAt (w.setCell ⟨g, k, none⟩ (.bool false)) b g n (dropf n f k) := (h.set k false hk).congr fun j => by
        unfold dropf
        rw [hi, Int.toNat_natCast]
        by_cases e : j = k
        · subst e; simp
        · simp [e]
      have HP := Lib.hid hP
      clear hb hP
      go_enter Try.func31, Try.ntmps31
      go_wp2_with (go_at_call 48; refine HI.out.mono ?_; rintro e w' ⟨rfl, rfl⟩)
      go_ret
      exact ⟨rfl, HP.out, Kept.setCell w ⟨g, k, none⟩ _, by simp [World.setCell]⟩
  · have hi : inr n i = false := by unfold inr; simp only [decide_eq_false_iff_not]; exact hin
    have hP : RefAt w b g n (dropf n f i) := h.congr fun j => by unfold dropf; rw [hi]; simp
    have HP := Lib.hid hP
    rw [hi] at HI
    rw [hi]
    clear hP hin hi
    go_enter Try.func31, Try.ntmps31
    go_wp2_with (go_at_call 48; refine HI.out.mono ?_; rintro e w' ⟨rfl, rfl⟩)
    go_ret
    exact ⟨rfl, HP.out, Kept.refl _ _, rfl⟩
set_option maxHeartbeats 400000 in
theorem rhas_any {b g n : Nat} {f : Nat → Bool} {w : World} (h : RefAt w b g n f) (i : Int) :
    Calls Try.prog 34 #[.pointer (some ⟨b, 0, none⟩), .int .i64 i] w fun e w' => e = .returned (.bool (inr n i && f i.toNat)) ∧ w = w' := by
  have h0 := h.c0
  have hle := h.le
  have HI := Lib.hid (rin_any h i)
  by_cases hin : 0 ≤ i ∧ i < n
  · obtain ⟨k, rfl⟩ : ∃ k : Nat, i = (k : Int) := ⟨i.toNat, by omega⟩
    have hk : k < n := by omega
    have hi : inr n (k : Int) = true := by unfold inr; simp [hk]
    have hc := h.cw k hk
    rw [hi] at HI
    rw [hi, Int.toNat_natCast]
    go_enter Try.func34, Try.ntmps34
    go_wp2_with (go_at_call 48; refine HI.out.mono ?_; rintro e w' ⟨rfl, rfl⟩)
    go_ret
    refine ⟨ret_bool ?_, rfl⟩
    simp
  · have hi : inr n i = false := by unfold inr; simp only [decide_eq_false_iff_not]; exact hin
    rw [hi] at HI
    rw [hi]
    clear hin hi
    go_enter Try.func34, Try.ntmps34
    go_wp2_with (go_at_call 48; refine HI.out.mono ?_; rintro e w' ⟨rfl, rfl⟩)
    go_ret
    exact ⟨rfl, rfl⟩


def RRel (b g n : Nat) (f h : Nat → Bool) (w0 : World) (c i : Value) (wr : World) : Prop :=
  ∃ (k : Nat) (ch : Bool), i = .int .i64 (k : Int) ∧ c = .bool ch ∧ RefAt wr b g n (fun j => f j || (h j && decide (j < k) && decide (j < n))) ∧ (ch = true ↔ ∃ j, j < k ∧ j < n ∧ h j = true ∧ f j = false) ∧ Kept (ib g) w0 wr

set_option maxHeartbeats 1000000 in
theorem ror_any {b g n b2 g2 n2 : Nat} {f h : Nat → Bool} {w : World} (hs : RefAt w b g n f) (ht : RefAt w b2 g2 n2 h) (hb : b2 ≠ g) (hg : g2 ≠ g) :
    Calls Try.prog 32 #[.pointer (some ⟨b, 0, none⟩), .pointer (some ⟨b2, 0, none⟩)] w (RetB fun c w' => (c = true ↔ orc n f h) ∧ RefAt w' b g n (orf n f h) ∧ Kept (ib g) w w') := by
  have hn2 := ht.le
  have HS := Lib.hid hs
  have HT := Lib.hid ht
  clear hs ht
  go_enter Try.func32, Try.ntmps32
  go_wp2
  go_loopw [5, 6] (fun c i wr => RRel b g n f h w c i wr) (fun _ i _ => n2 + 1 - (intOf i).toNat)
  case atStart => exact ⟨0, false, rfl, rfl, HS.out.congr (fun j => by simp), by simp, Kept.refl _ _⟩
  case round =>
    obtain ⟨k, ch, rfl, rfl, hr, hc, hK⟩ := hrel
    have ht1 : RefAt wr b2 g2 n2 h := HT.out.kept hK hb hg
    have HC := Lib.hid hc
    have HRM := Lib.hid (rroom_any ht1)
    clear hc
    by_cases hk : k < n2
    · have hcc := ht1.cw k hk
      have hc0 := ht1.c0
      cases hhk : h k with
      | false =>
        have HHK := Lib.hid hhk
        rw [hhk] at hcc
        have hr2 : RefAt wr b g n (fun j => f j || (h j && decide (j < k + 1) && decide (j < n))) := hr.congr fun j => by
          by_cases e : j = k
          · subst e; simp [hhk]
          · rw [show decide (j < k + 1) = decide (j < k) by simp; omega]
        have HR := Lib.hid hr2
        clear hhk ht1 hr hr2
        go_wp2_with (go_at_call 40; refine HRM.out.mono ?_; rintro e w' ⟨rfl, rfl⟩)
        go_roundw
        case rel =>
          refine ⟨k + 1, ch, by go_num, rfl, HR.out, ?_, hK⟩
          rw [HC.out]
          constructor
          · rintro ⟨j, h1, h2, h3, h4⟩; exact ⟨j, by omega, h2, h3, h4⟩
          · rintro ⟨j, h1, h2, h3, h4⟩
            refine ⟨j, ?_, h2, h3, h4⟩
            rcases Nat.lt_or_ge j k with e | e
            · exact e
            · have : j = k := by omega
              subst this; rw [HHK.out] at h3; simp at h3
        case measure => simp [intOf]; omega
      | true =>
        have HHK := Lib.hid hhk
        rw [hhk] at hcc
        have hput := rput_any hr (k : Int)
        rw [Int.toNat_natCast, inr_nat] at hput
        have HP := Lib.hid hput
        have heq : ∀ j, (f j || (h j && decide (j < k + 1) && decide (j < n))) = putf n (fun j => f j || (h j && decide (j < k) && decide (j < n))) (k : Int) j := by
          intro j
          unfold putf
          rw [inr_nat, Int.toNat_natCast]
          by_cases e : j = k
          · subst e; rw [hhk]; simp
          · rw [show decide (j < k + 1) = decide (j < k) by simp; omega]; simp [e]
        have HEQ := Lib.hid heq
        have hpc : (decide (k < n) && !(f k || (h k && decide (k < k) && decide (k < n)))) = (decide (k < n) && !f k) := by simp
        rw [hpc] at HP
        clear hhk ht1 hr hput heq hpc
        by_cases hch : k < n ∧ f k = false
        · have e1 : (decide (k < n) && !f k) = true := by simp [hch.1, hch.2]
          rw [e1] at HP
          have HCH := Lib.hid hch
          clear hch e1
          go_wp2_with (go_at_call 40; refine HRM.out.mono ?_; rintro e w' ⟨rfl, rfl⟩)
          refine HP.out.mono ?_
          rintro e w2 ⟨rfl, hr2, hk2, hsz⟩
          have HR := Lib.hid hr2
          clear hr2 hsz
          go_wp2
          go_roundw
          case rel =>
            refine ⟨k + 1, true, by go_num, rfl, HR.out.congr HEQ.out, ?_, hK.trans hk2 (fun _ _ h => h)⟩
            simp only [true_iff]
            exact ⟨k, by omega, HCH.out.1, HHK.out, HCH.out.2⟩
          case measure => simp [intOf]; omega
        · have e1 : (decide (k < n) && !f k) = false := by
            cases hfk : f k with
            | true => simp
            | false => simp; rcases Nat.lt_or_ge k n with e | e
                       · exact absurd ⟨e, hfk⟩ hch
                       · exact e
          rw [e1] at HP
          have HCH := Lib.hid hch
          clear hch e1
          go_wp2_with (go_at_call 40; refine HRM.out.mono ?_; rintro e w' ⟨rfl, rfl⟩)
          refine HP.out.mono ?_
          rintro e w2 ⟨rfl, hr2, hk2, hsz⟩
          have HR := Lib.hid hr2
          clear hr2 hsz
          go_wp2
          go_roundw
          case rel =>
            refine ⟨k + 1, ch, by go_num, rfl, HR.out.congr HEQ.out, ?_, hK.trans hk2 (fun _ _ h => h)⟩
            rw [HC.out]
            constructor
            · rintro ⟨j, h1, h2, h3, h4⟩; exact ⟨j, by omega, h2, h3, h4⟩
            · rintro ⟨j, h1, h2, h3, h4⟩
              refine ⟨j, ?_, h2, h3, h4⟩
              rcases Nat.lt_or_ge j k with e | e
              · exact e
              · have : j = k := by omega
                subst this; exact absurd ⟨h2, h4⟩ HCH.out
          case measure => simp [intOf]; omega
    · have HR := Lib.hid hr
      clear ht1 hr
      go_wp2_with (go_at_call 40; refine HRM.out.mono ?_; rintro e w' ⟨rfl, rfl⟩)
      go_ret
      have hz := HT.out.zero
      refine ⟨ch, rfl, ?_, HR.out.congr (fun j => ?_), hK⟩
      · rw [HC.out]
        constructor
        · rintro ⟨j, h1, h2, h3, h4⟩; exact ⟨j, h2, h3, h4⟩
        · rintro ⟨j, h2, h3, h4⟩
          refine ⟨j, ?_, h2, h3, h4⟩
          rcases Nat.lt_or_ge j n2 with e | e
          · omega
          · rw [hz j e] at h3; simp at h3
      · unfold orf
        rcases Nat.lt_or_ge j n2 with e | e
        · simp [show j < k by omega]
        · simp [hz j e]
set_option maxHeartbeats 1000000 in
theorem rmeet_any {b g n b2 g2 n2 : Nat} {f h : Nat → Bool} {w : World} (hs : RefAt w b g n f) (ht : RefAt w b2 g2 n2 h) :
    Calls Try.prog 38 #[.pointer (some ⟨b, 0, none⟩), .pointer (some ⟨b2, 0, none⟩)] w (RetB fun c w' => (c = true ↔ metc n f h) ∧ w = w') := by
  have hn2 := ht.le
  have HS := Lib.hid hs
  have HRM := Lib.hid (rroom_any ht)
  have hc0 := ht.c0
  have HCW := Lib.hid ht.cw
  have HZ := Lib.hid ht.zero
  have HHAS := fun i => Lib.hid (rhas_any hs i)
  have HHA := Lib.hid HHAS
  clear hs ht HHAS
  go_enter Try.func38, Try.ntmps38
  go_wp2
  go_loop [5] (fun i => ∃ k : Nat, i = .int .i64 (k : Int) ∧ Hid (∀ j, j < k → (h j && f j) = false)) (fun i => n2 + 1 - (intOf i).toNat)
  case atStart => exact ⟨0, rfl, fun j h => by omega⟩
  case round =>
    obtain ⟨k, rfl, hno⟩ := hrel
    by_cases hk : k < n2
    · have hcc := HCW.out k hk
      cases hhk : h k with
      | false =>
        have HHK := Lib.hid hhk
        rw [hhk] at hcc
        clear hhk
        go_wp2_with (go_at_call 40; refine HRM.out.mono ?_; rintro e w' ⟨rfl, rfl⟩)
        go_round
        case rel =>
          refine ⟨k + 1, by go_num, fun j hj => ?_⟩
          by_cases e : j = k
          · rw [e, HHK.out]; rfl
          · exact hno.out j (by omega)
        case measure => simp [intOf]; omega
      | true =>
        have HHK := Lib.hid hhk
        rw [hhk] at hcc
        have hin := (HHA.out (k : Int)).out
        rw [inr_nat, Int.toNat_natCast] at hin
        clear hhk
        cases hfk : (decide (k < n) && f k) with
        | true =>
          rw [hfk] at hin
          have HI := Lib.hid hin
          have HFK := Lib.hid hfk
          clear hin hfk
          go_wp2_with (go_at_call 40; refine HRM.out.mono ?_; rintro e w' ⟨rfl, rfl⟩)
          refine HI.out.mono ?_
          rintro e w' ⟨rfl, rfl⟩
          go_wp2
          go_ret
          refine ⟨true, rfl, ?_, rfl⟩
          have := HFK.out
          simp only [Bool.and_eq_true, decide_eq_true_eq] at this
          simp only [true_iff]
          exact ⟨k, this.1, HHK.out, this.2⟩
        | false =>
          rw [hfk] at hin
          have HI := Lib.hid hin
          have HFK := Lib.hid hfk
          clear hin hfk
          go_wp2_with (go_at_call 40; refine HRM.out.mono ?_; rintro e w' ⟨rfl, rfl⟩)
          refine HI.out.mono ?_
          rintro e w' ⟨rfl, rfl⟩
          go_wp2
          go_round
          case rel =>
            refine ⟨k + 1, by go_num, fun j hj => ?_⟩
            by_cases e : j = k
            · subst e
              have := HFK.out
              rcases Nat.lt_or_ge j n with e | e
              · simp only [e, decide_true, Bool.true_and] at this; rw [this]; simp
              · rw [HS.out.zero j e]; simp
            · exact hno.out j (by omega)
          case measure => simp [intOf]; omega
    · go_wp2_with (go_at_call 40; refine HRM.out.mono ?_; rintro e w' ⟨rfl, rfl⟩)
      go_ret
      refine ⟨false, rfl, ?_, rfl⟩
      simp only [Bool.false_eq_true, false_iff]
      rintro ⟨j, h1, h2, h3⟩
      rcases Nat.lt_or_ge j n2 with e | e
      · have := hno.out j (by omega)
        rw [h2, h3] at this; simp at this
      · rw [HZ.out j e] at h2; simp at h2
set_option maxHeartbeats 1000000 in
theorem rnext_any {b g n : Nat} {f : Nat → Bool} {w : World} (hs : RefAt w b g n f) (a : Int) (ha : a ≤ 9223372036854775807) :
    Calls Try.prog 36 #[.pointer (some ⟨b, 0, none⟩), .int .i64 a] w fun e w' => ∃ r, e = .returned (.int .i64 r) ∧ IsNext n f a r ∧ w = w' := by
  have hn := hs.le
  have HRM := Lib.hid (rroom_any hs)
  have hc0 := hs.c0
  have HCW := Lib.hid hs.cw
  clear hs
  rcases Int.lt_or_le a 0 with hneg | hpos
  all_goals
    go_enter Try.func36, Try.ntmps36
    go_wp2
    go_loop [5] (fun i => ∃ k : Nat, i = .int .i64 (k : Int) ∧ (k : Int) ≤ 9223372036854775807 ∧ a ≤ k ∧ Hid (∀ j : Nat, a ≤ j → j < k → f j = false)) (fun i => n + 1 - (intOf i).toNat)
    case atStart => exact ⟨a.toNat, by first | (rw [Int.toNat_of_nonneg hpos]) | (rw [show ((a.toNat : Nat) : Int) = 0 by omega]), by omega, by omega, fun j h1 h2 => by omega⟩
    case round =>
      obtain ⟨k, rfl, hk, hak, hno⟩ := hrel
      by_cases hlt : k < n
      · have hcc := HCW.out k hlt
        cases hfk : f k with
        | true =>
          have HFK := Lib.hid hfk
          rw [hfk] at hcc
          clear hfk
          go_wp2_with (go_at_call 40; refine HRM.out.mono ?_; rintro e w' ⟨rfl, rfl⟩)
          go_ret
          exact ⟨_, rfl, .inr ⟨k, rfl, hak, hlt, HFK.out, hno.out⟩, rfl⟩
        | false =>
          have HFK := Lib.hid hfk
          rw [hfk] at hcc
          clear hfk
          go_wp2_with (go_at_call 40; refine HRM.out.mono ?_; rintro e w' ⟨rfl, rfl⟩)
          go_round
          case rel =>
            refine ⟨k + 1, by go_num, by omega, by omega, fun j h1 h2 => ?_⟩
            by_cases e : j = k
            · subst e; exact HFK.out
            · exact hno.out j h1 (by omega)
          case measure => simp [intOf]; omega
      · go_wp2_with (go_at_call 40; refine HRM.out.mono ?_; rintro e w' ⟨rfl, rfl⟩)
        go_ret
        exact ⟨_, rfl, .inl ⟨rfl, fun i h1 h2 => hno.out i h1 (by omega)⟩, rfl⟩
def RLRel (w0 : World) (n : Nat) (f : Nat → Bool) (v i : Value) (wr : World) : Prop :=
  ∃ (k : Nat), i = .int .i64 (k : Int) ∧ k ≤ n ∧ wr.ownsRow w0.heap.size 3 1 v (lst k f).length (ivals (lst k f)) ∧ Kept nob w0 wr
theorem lst_succ (k : Nat) (f : Nat → Bool) : lst (k + 1) f = if f k then lst k f ++ [k] else lst k f := by
  unfold lst
  rw [List.range_succ, List.filter_append]
  cases h : f k <;> simp [h]
set_option maxHeartbeats 1000000 in
theorem rlist_any {b g n : Nat} {f : Nat → Bool} {w : World} (hs : RefAt w b g n f) :
    Calls Try.prog 43 #[.pointer (some ⟨b, 0, none⟩)] w (RetRow w 3 (ivals (lst n f))) := by
  have hs0 := Lib.hid hs
  have hles := hs.le
  obtain ⟨ti, hi, hz0, hz1, hz2⟩ := info_parts info_int
  clear hs
  go_enter Try.func43, Try.ntmps43
  go_wp2
  go_loopw [3, 4] (fun v i wr => RLRel w n f v i wr) (fun _ i _ => n + 1 - (intOf i).toNat)
  case atStart => exact ⟨0, rfl, by omega, World.ownsRow_nil _ _ _ _, Kept.refl _ _⟩
  case round =>
    obtain ⟨k, rfl, hkn, hown, hK⟩ := hrel
    have hs1 : RefAt wr b g n f := hs0.out.kept hK (fun h => h) (fun h => h)
    have HRM := Lib.hid (rroom_any hs1)
    have hc0 := hs1.c0
    by_cases hlt : k < n
    · have hcc := hs1.cw k hlt
      have hll := lst_len k f
      clear hs1
      cases hfk : f k with
      | false =>
        rw [hfk] at hcc
        have hL := lst_succ k f
        rw [hfk] at hL
        have HL := Lib.hid hL
        have HO := Lib.hid hown
        clear hL hown hfk
        go_wp2_with (go_at_call 40; refine HRM.out.mono ?_; rintro e w' ⟨rfl, rfl⟩)
        go_roundw
        case rel =>
          refine ⟨k + 1, by go_num, by omega, ?_, hK⟩
          rw [HL.out]; exact HO.out
        case measure => simp [intOf]; omega
      | true =>
        rw [hfk] at hcc
        have hL := lst_succ k f
        rw [hfk] at hL
        have HL := Lib.hid hL
        clear hL hfk
        go_wp2_with (first | (go_at_call 40; refine HRM.out.mono ?_; rintro e w' ⟨rfl, rfl⟩) | (at_builtin; refine wpList_append_own _ rfl _ _ 43 rfl w.heap.size 3 ti (.int .i64 0) 1 8 Try.underlying43 hi hz0 hz1 hz2 rfl (by decide) _ _ _ rfl (hown.alloc _) ⟨wr.heap.size, 0, none⟩ 1 1 [.int .i64 (k : Int)] rfl rfl ?c1 ?c2 ?c3 ?c4 ?c5 ?_))
        case c1 => exact cell_one_new _ _ _
        case c2 => intro u hu; simp at hu; subst hu; rfl
        case c3 => unfold maxLen; omega
        case c4 => omega
        case c5 => have := hK.size; simp; omega
        intro v' w1 hown1 hgrow _
        have hK1 : Kept nob w w1 := (hK.trans (Kept.alloc wr _ nob) (fun i hi h => h)).trans (Kept.ofGrown hgrow) (fun i hi h => by
          have := (hown.lt i h.symm).1
          omega)
        have HO1 := Lib.hid hown1
        clear hown1 hgrow hown
        go_wp2
        go_roundw
        case rel =>
          refine ⟨k + 1, by go_num, by omega, ?_, hK1⟩
          have := HO1.out
          rw [HL.out]
          simpa [ivals] using this
        case measure => simp [intOf]; omega
    · have hke : k = n := by omega
      have HKE := Lib.hid hke
      have HO := Lib.hid hown
      clear hke hs1 hown
      go_wp2_with (go_at_call 40; refine HRM.out.mono ?_; rintro e w' ⟨rfl, rfl⟩)
      go_ret
      rw [← HKE.out]
      exact RetRow.mk HO.out hK

end Go.Proofs.Ythncceffgncagaa

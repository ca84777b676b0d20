/-
  What is proved: what each function of the package bits does, called in any world that holds its sets, and the two comparisons of lists of ints. Conditions: the sets are laid as bits.New lays them; lists are shorter than 2^63.
-/
import Derived.Test.YthddfkemagpiaaaCore
import Derived.Laws.CopyOwn
set_option linter.unusedVariables false
set_option linter.unusedSimpArgs false
namespace Go.Proofs.Ythddfkemagpiaaa
open Go.RowKit

/-- The words of a set: a header block b, a row g of words. -/
structure SetW (w : World) (b g n : Nat) (ws : List Nat) : Prop where
  hd : w.heap[b]? = some (.cells #[.int .i64 n, .slice (some ⟨g, 0, none⟩) ws.length ws.length] 102 (0, 0))
  row : w.heap[g]? = some (.cells ((ws.map fun (x : Nat) => Value.int .u64 (x : Int)).toArray) 97 (0, 0))
  ne : b ≠ g
  len : ws.length = (n + 63) / 64
  le : n ≤ 4096
  lt : ∀ k, ws.getD k 0 < 18446744073709551616

theorem SetW.c0 {w : World} {b g n : Nat} {ws : List Nat} (h : SetW w b g n ws) : w.cell? ⟨b, 0, none⟩ = some (.int .i64 n) := by rw [cell_blk h.hd]; rfl
theorem SetW.c1 {w : World} {b g n : Nat} {ws : List Nat} (h : SetW w b g n ws) : w.cell? ⟨b, 1, none⟩ = some (.slice (some ⟨g, 0, none⟩) ws.length ws.length) := by rw [cell_blk h.hd]; rfl
theorem SetW.cw {w : World} {b g n : Nat} {ws : List Nat} (h : SetW w b g n ws) (k : Nat) (hk : k < ws.length) : w.cell? ⟨g, k, none⟩ = some (.int .u64 ((ws.getD k 0 : Nat) : Int)) := by
  rw [cell_blk h.row]; simp [hk, List.getD]
theorem SetW.fr {w : World} {b g n : Nat} {ws : List Nat} (h : SetW w b g n ws) (k : Nat) : w.frozen? ⟨g, k, none⟩ = false := frz_blk h.row k

theorem and63 (k : Nat) (hk : k < 4096) : bits .and .i64 (k : Int) 63 = ((k % 64 : Nat) : Int) := by
  have h := bits_mask .i64 63 (by decide) (fun n h0 h1 => by rw [IntKind.wrap_i64]; omega) 6 (by decide) (k : Int) (by omega) (by omega)
  simpa using h
theorem pow_lt (k : Nat) : 2 ^ (k % 64) < 18446744073709551616 := by
  have := Nat.pow_lt_pow_right (a := 2) (by decide) (Nat.mod_lt k (show 64 > 0 by decide))
  simpa using this
def bitp (k : Nat) : Nat := 2 ^ (k % 64)
theorem bitp_lt (k : Nat) : bitp k < 18446744073709551616 := pow_lt k
theorem pow_wrap (k : Nat) : IntKind.u64.wrap (2 ^ (k % 64) : Int) = (bitp k : Int) := by
  show _ = ((2 ^ (k % 64) : Nat) : Int)
  have h2 := pow_lt k
  have h3 : ((2 : Int) ^ (k % 64)) = ((2 ^ (k % 64) : Nat) : Int) := by simp
  rw [h3]
  generalize 2 ^ (k % 64) = p at h2
  rw [IntKind.wrap_u64]; omega

set_option maxHeartbeats 400000 in
theorem room_some (b : Nat) (n : Int) (w : World) (h0 : w.cell? ⟨b, 0, none⟩ = some (.int .i64 n)) :
    Calls Try.prog 115 #[.pointer (some ⟨b, 0, none⟩)] w fun e w' => e = .returned (.int .i64 n) ∧ w = w' := by
  go_enter Try.func115, Try.ntmps115
  go_wp2
  go_ret
  exact ⟨rfl, rfl⟩
set_option maxHeartbeats 400000 in
theorem room_nil (w : World) :
    Calls Try.prog 115 #[.pointer none] w fun e w' => e = .returned (.int .i64 0) ∧ w = w' := by
  go_enter Try.func115, Try.ntmps115
  go_wp2
  go_ret
  exact ⟨rfl, rfl⟩
set_option maxHeartbeats 400000 in
theorem bit_in {b g n : Nat} {ws : List Nat} {w : World} (h : SetW w b g n ws) (k : Nat) (hk : k < n) :
    Calls Try.prog 91 #[.pointer (some ⟨b, 0, none⟩), .int .i64 (k : Int)] w fun e w' => e = .returned (.tuple #[.int .i64 ((k / 64 : Nat) : Int), .int .u64 (bitp k : Int), .bool true]) ∧ w = w' := by
  have h0 := h.c0
  have hle := h.le
  have HA := and63 k (by omega)
  have HP := Lib.hid (pow_wrap k)
  clear h
  go_enter Try.func91, Try.ntmps91
  go_wp2_with (go_at_call 115; refine (room_some b n _ h0).mono ?_; rintro e w' ⟨rfl, rfl⟩)
  go_ret3
  refine ⟨?_, rfl⟩
  rw [← HP.out]
  simp
set_option maxHeartbeats 400000 in
theorem bit_out (p : Option Addr) (n i : Int) (w : World) (hr : Calls Try.prog 115 #[.pointer p] w fun e w' => e = .returned (.int .i64 n) ∧ w = w') (hi : i < 0 ∨ n ≤ i) :
    Calls Try.prog 91 #[.pointer p, .int .i64 i] w fun e w' => e = .returned (.tuple #[.int .i64 0, .int .u64 0, .bool false]) ∧ w = w' := by
  have H := Lib.hid hr
  clear hr
  rcases Decidable.em (i < 0) with hlt | hge
  · clear hi
    go_enter Try.func91, Try.ntmps91
    go_wp2
    go_ret3
    exact ⟨rfl, rfl⟩
  · have h2 : n ≤ i := by omega
    clear hi
    go_enter Try.func91, Try.ntmps91
    go_wp2_with (go_at_call 115; refine H.out.mono ?_; rintro e w' ⟨rfl, rfl⟩)
    go_ret3
    exact ⟨rfl, rfl⟩

theorem and_bitp (x k : Nat) (hx : x < 18446744073709551616) : bits .and .u64 (x : Int) (bitp k : Int) = ((x &&& bitp k : Nat) : Int) := u64_and_nat _ _ hx (bitp_lt k)
theorem or_u64 (x y : Nat) (hx : x < 18446744073709551616) (hy : y < 18446744073709551616) : bits .or .u64 (x : Int) (y : Int) = ((x ||| y : Nat) : Int) := u64_or_nat _ _ hx hy
theorem and_bitp_zero (x k : Nat) : (x &&& bitp k = 0) ↔ x.testBit (k % 64) = false := by
  constructor
  · intro h
    have := congrArg (fun z => z.testBit (k % 64)) h
    simpa [bitp, Nat.testBit_and, Nat.testBit_two_pow_self] using this
  · intro h
    apply Nat.eq_of_testBit_eq
    intro i
    rw [Nat.testBit_and, Nat.zero_testBit, bitp, Nat.testBit_two_pow]
    by_cases e : k % 64 = i
    · subst e; simp [h]
    · simp [e]

set_option maxHeartbeats 400000 in
theorem put_new {b g n : Nat} {ws : List Nat} {w : World} (h : SetW w b g n ws) (k : Nat) (hk : k < n) (x : Nat) (hx : x < 18446744073709551616) (hc : w.cell? ⟨g, k / 64, none⟩ = some (.int .u64 (x : Int))) (hl : k / 64 < ws.length)
    (hbit : x.testBit (k % 64) = false) :
    Calls Try.prog 78 #[.pointer (some ⟨b, 0, none⟩), .int .i64 (k : Int)] w fun e w' => e = .returned (.bool true) ∧ w' = w.setCell ⟨g, k / 64, none⟩ (.int .u64 ((x ||| bitp k : Nat) : Int)) := by
  have h1 := h.c1
  have hf := h.fr (k / 64)
  have hle := h.le
  have hb := Lib.hid (bit_in h k hk)
  have ha : bits .and .u64 (x : Int) (bitp k : Int) = 0 := by
    have := and_bitp x k hx
    rw [(and_bitp_zero x k).2 hbit] at this
    exact this
  have HO := or_u64 x (bitp k) hx (bitp_lt k)
  have hlen : ws.length ≤ 4096 := by rw [h.len]; omega
  clear h hbit
  go_enter Try.func78, Try.ntmps78
  go_wp2_with (go_at_call 91; refine hb.out.mono ?_; rintro e w' ⟨rfl, rfl⟩)
  go_ret
  exact ⟨rfl, rfl⟩


/-- make([]T, n) for a one-cell type, as a run equation. -/
theorem run_make_eq {P : Program} {t e : TypeId} {z : Value} {bytes : Nat} (ht : P.underlying t = some (.slice e)) (hi : (P.info? e).map (fun i => (i.zero, i.size, i.bytes)) = some (some z, 1, bytes))
    (hz1 : z.cells = #[z]) (n : Nat) (hb : bytes * n ≤ 281474976710656) (hn : n ≤ 9223372036854775807) (w : World) :
    (Instr.makeSlice t (.int .i64 (n : Int)) (.int .i64 (n : Int))).run P w = .ok (.slice (some ⟨w.heap.size, 0, none⟩) n n) (w.alloc (.cells (List.replicate n z).toArray e)) := by
  obtain ⟨i, hi, hz, hs, hby⟩ := info_parts hi
  have hb' : (i.bytes : Int) * (n : Int) ≤ 281474976710656 := by
    rw [hby]
    have h : ((bytes * n : Nat) : Int) ≤ 281474976710656 := by omega
    rwa [Int.natCast_mul] at h
  have hr := run_make (P := P) w t e i z ht hi hz .i64 .i64 n n (by omega) (Int.le_refl _) hb' (by omega)
  rw [hr]
  have e1 : madeCells z.cells ((n : Int).toNat * i.size) = (List.replicate n z).toArray := by
    rw [hs, hz1, Int.toNat_natCast, Nat.mul_one, ← toList_madeCells_one z n]
  rw [e1]
  simp
theorem info_u64 : (Try.prog.info? 97).map (fun i => (i.zero, i.size, i.bytes)) = some (some (.int .u64 0), 1, 8) := by kernel_rfl
theorem info_int : (Try.prog.info? 3).map (fun i => (i.zero, i.size, i.bytes)) = some (some (.int .i64 0), 1, 8) := by kernel_rfl

def roomOf (n : Int) : Nat := (min (max n 0) 4096).toNat
def words (n : Nat) : Nat := (n + 63) / 64
set_option maxHeartbeats 400000 in
theorem new_any (n : Int) (w : World) :
    Calls Try.prog 76 #[.int .i64 n] w fun e w' => e = .returned (.pointer (some ⟨w.heap.size + 1, 0, none⟩)) ∧
      w' = (w.alloc (.cells (List.replicate (words (roomOf n)) (Value.int .u64 0)).toArray 97)).alloc (.cells #[.int .i64 (roomOf n : Int), .slice (some ⟨w.heap.size, 0, none⟩) (words (roomOf n)) (words (roomOf n))] 102) := by
  have hm : ∀ (m : Nat), m ≤ 64 → ∀ (w : World), (Instr.makeSlice 100 (.int .i64 (m : Int)) (.int .i64 (m : Int))).run Try.prog w = .ok (.slice (some ⟨w.heap.size, 0, none⟩) m m) (w.alloc (.cells (List.replicate m (Value.int .u64 0)).toArray 97)) :=
    fun m hm w => run_make_eq Try.underlying100 info_u64 rfl m (by omega) (by omega) w
  rcases Int.lt_or_le n 0 with h | h
  · have e : roomOf n = 0 := by unfold roomOf; omega
    have e2 : words 0 = 0 := rfl
    have hk : ∀ w : World, (Instr.makeSlice 100 (.int .i64 0) (.int .i64 0)).run Try.prog w = .ok (.slice (some ⟨w.heap.size, 0, none⟩) 0 0) (w.alloc (.cells (List.replicate 0 (Value.int .u64 0)).toArray 97)) := fun w => hm 0 (by omega) w
    rw [e, e2]
    clear e e2 hm
    go_enter Try.func76, Try.ntmps76
    go_wp2
    go_ret
    exact ⟨rfl, rfl⟩
  · rcases Int.lt_or_le 4096 n with h2 | h2
    · have e : roomOf n = 4096 := by unfold roomOf; omega
      have e2 : words 4096 = 64 := rfl
      have hk : ∀ w : World, (Instr.makeSlice 100 (.int .i64 64) (.int .i64 64)).run Try.prog w = .ok (.slice (some ⟨w.heap.size, 0, none⟩) 64 64) (w.alloc (.cells (List.replicate 64 (Value.int .u64 0)).toArray 97)) := fun w => hm 64 (by omega) w
      rw [e, e2]
      clear e e2 hm
      go_enter Try.func76, Try.ntmps76
      go_wp2
      go_ret
      exact ⟨rfl, rfl⟩
    · obtain ⟨k, rfl⟩ : ∃ k : Nat, n = (k : Int) := ⟨n.toNat, by omega⟩
      have e : roomOf k = k := by unfold roomOf; omega
      have hk : ∀ w : World, (Instr.makeSlice 100 (.int .i64 (((k : Int) + 63) / 64)) (.int .i64 (((k : Int) + 63) / 64))).run Try.prog w = .ok (.slice (some ⟨w.heap.size, 0, none⟩) (words k) (words k)) (w.alloc (.cells (List.replicate (words k) (Value.int .u64 0)).toArray 97)) := by
        intro w
        have := hm (words k) (by unfold words; omega) w
        have e3 : ((words k : Nat) : Int) = ((k : Int) + 63) / 64 := by unfold words; omega
        rw [← e3]
        exact this
      rw [e]
      clear e hm
      go_enter Try.func76, Try.ntmps76
      go_wp2
      go_ret
      exact ⟨rfl, rfl⟩


/-- The set's numbers, told by a function. -/
def SetAt (w : World) (b g n : Nat) (f : Nat → Bool) : Prop :=
  ∃ ws, SetW w b g n ws ∧ (∀ i, f i = (ws.getD (i / 64) 0).testBit (i % 64)) ∧ (∀ i, n ≤ i → f i = false)

/-- The least number from one on that is there. -/
def IsNext (n : Nat) (f : Nat → Bool) (from_ : Int) (r : Int) : Prop :=
  (r = -1 ∧ ∀ i : Nat, from_ ≤ i → i < n → f i = false) ∨ (∃ k : Nat, r = k ∧ from_ ≤ k ∧ k < n ∧ f k = true ∧ ∀ i : Nat, from_ ≤ i → i < k → f i = false)
theorem IsNext.uniq {n : Nat} {f : Nat → Bool} {a r r' : Int} (h : IsNext n f a r) (h' : IsNext n f a r') : r = r' := by
  rcases h with ⟨rfl, h⟩ | ⟨k, rfl, h1, h2, h3, h4⟩
  · rcases h' with ⟨rfl, h'⟩ | ⟨k', rfl, h1', h2', h3', h4'⟩
    · rfl
    · have := h k' h1' h2'; simp [h3'] at this
  · rcases h' with ⟨rfl, h'⟩ | ⟨k', rfl, h1', h2', h3', h4'⟩
    · have := h' k h1 h2; simp [h3] at this
    · have : k = k' := by
        rcases Nat.lt_trichotomy k k' with e | e | e
        · have := h4' k h1 e; simp [h3] at this
        · exact e
        · have := h4 k' h1' e; simp [h3'] at this
      rw [this]

theorem ofInt_i64 (a : Nat) (ha : a < 9223372036854775808) : (BitVec.ofInt 64 (a : Int)).toNat = a := ofInt_u64 a (by omega)
theorem bits_or_nat (k : IntKind) (j : Nat) (hj : j ≤ k.bits) (hk : ∀ n : Int, 0 ≤ n → n < 2 ^ j → k.wrap n = n) (a b : Nat) (ha : a < 2 ^ j) (hb : b < 2 ^ j) :
    bits .or k (a : Int) (b : Int) = ((a ||| b : Nat) : Int) := by
  exact (bits_nat k j hj hk a b ha hb).2
theorem or63 (k : Nat) (hk : k < 4096) : bits .or .i64 (k : Int) 63 = ((k / 64 * 64 + 63 : Nat) : Int) := by
  have hb : bits .or .i64 (k : Int) ((63 : Nat) : Int) = ((k ||| 63 : Nat) : Int) :=
    bits_or_nat .i64 12 (by decide) (fun n h0 h1 => by rw [IntKind.wrap_i64]; omega) k 63 (by omega) (by omega)
  have : k ||| 63 = k / 64 * 64 + 63 := by
    apply Nat.eq_of_testBit_eq
    intro i
    have e : k / 64 * 64 + 63 = 2 ^ 6 * (k / 64) + 63 := by omega
    rw [e, Nat.testBit_two_pow_mul_add _ (by decide), Nat.testBit_or]
    by_cases h : i < 6
    · rw [if_pos h]
      have : Nat.testBit 63 i = true := by
        have := Nat.testBit_two_pow_sub_one 6 i
        simpa [h] using this
      simp [this]
    · rw [if_neg h]
      have h63 : Nat.testBit 63 i = false := by
        have := Nat.testBit_two_pow_sub_one 6 i
        simpa [h] using this
      rw [h63, Bool.or_false, show 64 = 2 ^ 6 from rfl, Nat.testBit_div_two_pow]
      congr 1; omega
  rw [← this]; exact hb
theorem and1 (r : Nat) (hr : r < 18446744073709551616) : bits .and .u64 (r : Int) 1 = ((r % 2 : Nat) : Int) := by
  have := u64_and_nat r 1 hr (by decide)
  rw [Nat.and_one_is_mod] at this
  exact this

theorem tb_zero {x k j : Nat} (h : 0 = x / 2 ^ k) (hj : k ≤ j) : x.testBit j = false := by
  have : (x / 2 ^ k).testBit (j - k) = false := by rw [← h]; simp
  rw [Nat.testBit_div_two_pow] at this
  rwa [show j - k + k = j by omega] at this

theorem tb_odd {x k r : Nat} (h : r = x / 2 ^ k) (hr : r % 2 = 1) : x.testBit k = true := by
  rw [Nat.testBit_eq_decide_div_mod_eq, ← h, hr]; rfl
theorem tb_even {x k r : Nat} (h : r = x / 2 ^ k) (hr : r % 2 = 0) : x.testBit k = false := by
  rw [Nat.testBit_eq_decide_div_mod_eq, ← h, hr]; rfl
theorem half_step {x k r : Nat} (h : r = x / 2 ^ (k % 64)) (hx : x < 18446744073709551616) (h0 : 0 < r) (he : r % 2 = 0) :
    (k + 1) / 64 = k / 64 ∧ r / 2 = x / 2 ^ ((k + 1) % 64) ∧ 0 < r / 2 := by
  have hk : k % 64 ≠ 63 := by
    intro e
    rw [e] at h
    have : r < 2 := by rw [h]; apply Nat.div_lt_of_lt_mul; omega
    omega
  refine ⟨by omega, ?_, by omega⟩
  rw [show (k + 1) % 64 = k % 64 + 1 by omega, h, Nat.div_div_eq_div_mul, Nat.pow_succ]

set_option maxHeartbeats 400000 in
theorem next_any {b g n : Nat} {f : Nat → Bool} {w : World} (h : SetAt w b g n f) (a : Int) (ha : a ≤ 9223372036854775807) :
    Calls Try.prog 97 #[.pointer (some ⟨b, 0, none⟩), .int .i64 a] w fun e w' => ∃ r, e = .returned (.int .i64 r) ∧ IsNext n f a r ∧ w = w' := by
  obtain ⟨ws, hw, hf, hz⟩ := h
  have h0 := hw.c0
  have h1 := hw.c1
  have hn := hw.le
  have hlen := hw.len
  have hll : ws.length ≤ 64 := by rw [hlen]; omega
  have HL := Lib.hid hlen
  clear hlen
  rcases Int.lt_or_le a 0 with hneg | hpos
  all_goals
    go_enter Try.func97, Try.ntmps97
    go_wp2
    go_loop [5] (fun i => ∃ k : Nat, i = .int .i64 (k : Int) ∧ (k : Int) ≤ 9223372036854775807 ∧ a ≤ k ∧ (k : Int) ≤ max a 4200 ∧ ∀ j : Nat, a ≤ j → j < k → f j = false) (fun i => (max a 4201 - intOf i).toNat)
    case atStart => exact ⟨a.toNat, by first | (rw [Int.toNat_of_nonneg hpos]) | (rw [show ((a.toNat : Nat) : Int) = 0 by omega]), by omega, by omega, by omega, fun j h1 h2 => by omega⟩
    case round =>
      obtain ⟨k, rfl, hk, hak, hkm, hno⟩ := hrel
      by_cases hlt : k < n
      · have hkl : k / 64 < ws.length := by rw [HL.out]; omega
        obtain ⟨x, hx⟩ : ∃ x, x = ws.getD (k / 64) 0 := ⟨_, rfl⟩
        have hcx := hw.cw (k / 64) hkl
        have hxl := hw.lt (k / 64)
        rw [← hx] at hcx hxl
        have HX := Lib.hid hx
        clear hx
        have HA := and63 k (by omega)
        have HO := or63 k (by omega)
        obtain ⟨r, hr⟩ : ∃ r, r = x / 2 ^ (k % 64) := ⟨_, rfl⟩
        have hri : (x : Int) / 2 ^ (k % 64) = (r : Int) := by rw [hr]; simp
        have HR := Lib.hid hr
        clear hr
        by_cases hr0 : r = 0
        · subst hr0
          go_wp2_with (go_at_call 115; refine (room_some b n _ h0).mono ?_; rintro e w' ⟨rfl, rfl⟩)
          go_round
          case rel =>
            refine ⟨k / 64 * 64 + 64, by go_num, by omega, by omega, by omega, fun j h1 h2 => ?_⟩
            by_cases hjk : j < k
            · exact hno j h1 hjk
            · rw [hf j, show j / 64 = k / 64 by omega, ← HX.out]
              exact tb_zero HR.out (by omega)
          case measure => simp [intOf]; omega
        · have hrp : 0 < r := by omega
          clear hr0
          go_wp2_with (go_at_call 115; refine (room_some b n _ h0).mono ?_; rintro e w' ⟨rfl, rfl⟩)
          go_loop [5, 6] (fun i q => ∃ k' r' : Nat, i = .int .i64 (k' : Int) ∧ q = .int .u64 (r' : Int) ∧ k ≤ k' ∧ k' / 64 = k / 64 ∧ r' = x / 2 ^ (k' % 64) ∧ 0 < r' ∧ ∀ j : Nat, a ≤ j → j < k' → f j = false) (fun _ q => (intOf q).toNat)
          case atStart => exact ⟨k, r, rfl, by rw [hri], by omega, rfl, HR.out, hrp, hno⟩
          case round =>
            obtain ⟨k', r', rfl, rfl, hkk, hk64, hr', hrp', hno'⟩ := hrel
            have HR' := Lib.hid hr'
            have HK := Lib.hid hk64
            have hk4 : k' < 4160 := by omega
            have hrl : r' < 18446744073709551616 := by rw [hr']; exact Nat.lt_of_le_of_lt (Nat.div_le_self _ _) hxl
            have H1 := and1 r' hrl
            clear hr' hk64
            by_cases ho : r' % 2 = 0
            · have ho1 : r' % 2 < 1 := by omega
              clear ho
              go_wp2
              obtain ⟨hs1, hs2, hs3⟩ := half_step HR'.out hxl hrp' (by omega)
              go_round
              case rel =>
                refine ⟨k' + 1, r' / 2, by go_num, by go_num, by omega, by rw [← HK.out]; exact hs1, hs2, hs3, fun j h1 h2 => ?_⟩
                by_cases hjk : j < k'
                · exact hno' j h1 hjk
                · rw [hf j, show j = k' by omega, HK.out, ← HX.out]
                  exact tb_even HR'.out (by omega)
              case measure => simp [intOf]; omega
            · have ho1 : 0 < r' % 2 := by omega
              clear ho
              go_wp2
              have hfk : f k' = true := by
                rw [hf k', HK.out, ← HX.out]
                exact tb_odd HR'.out (by omega)
              have hkn : k' < n := by
                rcases Nat.lt_or_ge k' n with h | h
                · exact h
                · have := hz k' h; simp [hfk] at this
              go_ret
              exact ⟨_, rfl, .inr ⟨k', rfl, by omega, hkn, hfk, hno'⟩, rfl⟩
      · go_wp2_with (go_at_call 115; refine (room_some b n _ h0).mono ?_; rintro e w' ⟨rfl, rfl⟩)
        go_ret
        refine ⟨_, rfl, .inl ⟨rfl, fun i h1 h2 => hno i h1 (by omega)⟩, rfl⟩


def inr (n : Nat) (i : Int) : Bool := decide (0 ≤ i ∧ i < n)
def putf (n : Nat) (f : Nat → Bool) (i : Int) : Nat → Bool := fun j => f j || (inr n i && decide (j = i.toNat))
def dropf (n : Nat) (f : Nat → Bool) (i : Int) : Nat → Bool := fun j => f j && !(inr n i && decide (j = i.toNat))

theorem and_bitp_ne (x k : Nat) (hx : x < 18446744073709551616) (hb : x.testBit (k % 64) = true) : ∃ c : Nat, 0 < c ∧ bits .and .u64 (x : Int) (bitp k : Int) = (c : Int) := by
  refine ⟨x &&& bitp k, ?_, and_bitp x k hx⟩
  rcases Nat.eq_zero_or_pos (x &&& bitp k) with h | h
  · rw [and_bitp_zero, hb] at h; simp at h
  · exact h
theorem and_bitp_eq (x k : Nat) (hx : x < 18446744073709551616) (hb : x.testBit (k % 64) = false) : bits .and .u64 (x : Int) (bitp k : Int) = 0 := by
  have := and_bitp x k hx
  rw [(and_bitp_zero x k).2 hb] at this
  exact this
theorem andNot_bitp (x k : Nat) (hx : x < 18446744073709551616) : bits .andNot .u64 (x : Int) (bitp k : Int) = ((x &&& (18446744073709551615 - bitp k) : Nat) : Int) := u64_andNot_nat _ _ hx (bitp_lt k)

set_option maxHeartbeats 400000 in
theorem put_old {b g n : Nat} {ws : List Nat} {w : World} (h : SetW w b g n ws) (k : Nat) (hk : k < n) (x : Nat) (hx : x < 18446744073709551616) (hc : w.cell? ⟨g, k / 64, none⟩ = some (.int .u64 (x : Int))) (hl : k / 64 < ws.length)
    (hbit : x.testBit (k % 64) = true) :
    Calls Try.prog 78 #[.pointer (some ⟨b, 0, none⟩), .int .i64 (k : Int)] w fun e w' => e = .returned (.bool false) ∧ w' = w := by
  have h1 := h.c1
  have hle := h.le
  have hb := Lib.hid (bit_in h k hk)
  obtain ⟨c, hc0, ha⟩ := and_bitp_ne x k hx hbit
  have hlen : ws.length ≤ 4096 := by rw [h.len]; omega
  clear h hbit
  go_enter Try.func78, Try.ntmps78
  go_wp2_with (go_at_call 91; refine hb.out.mono ?_; rintro e w' ⟨rfl, rfl⟩)
  go_ret
  exact ⟨rfl, rfl⟩
set_option maxHeartbeats 400000 in
theorem put_out {p : Option Addr} {i : Int} {w : World} (h : Calls Try.prog 91 #[.pointer p, .int .i64 i] w fun e w' => e = .returned (.tuple #[.int .i64 0, .int .u64 0, .bool false]) ∧ w = w') :
    Calls Try.prog 78 #[.pointer p, .int .i64 i] w fun e w' => e = .returned (.bool false) ∧ w' = w := by
  have hb := Lib.hid h
  clear h
  go_enter Try.func78, Try.ntmps78
  go_wp2_with (go_at_call 91; refine hb.out.mono ?_; rintro e w' ⟨rfl, rfl⟩)
  go_ret
  exact ⟨rfl, rfl⟩
set_option maxHeartbeats 400000 in
theorem has_in {b g n : Nat} {ws : List Nat} {w : World} (h : SetW w b g n ws) (k : Nat) (hk : k < n) (x : Nat) (hx : x < 18446744073709551616) (hc : w.cell? ⟨g, k / 64, none⟩ = some (.int .u64 (x : Int))) (hl : k / 64 < ws.length) :
    Calls Try.prog 45 #[.pointer (some ⟨b, 0, none⟩), .int .i64 (k : Int)] w fun e w' => e = .returned (.bool (x.testBit (k % 64))) ∧ w = w' := by
  have h1 := h.c1
  have hle := h.le
  have hb := Lib.hid (bit_in h k hk)
  have hlen : ws.length ≤ 4096 := by rw [h.len]; omega
  clear h
  by_cases hbit : x.testBit (k % 64) = true
  · obtain ⟨c, hc0, ha⟩ := and_bitp_ne x k hx hbit
    rw [hbit]; clear hbit
    go_enter Try.func45, Try.ntmps45
    go_wp2_with (go_at_call 91; refine hb.out.mono ?_; rintro e w' ⟨rfl, rfl⟩)
    go_ret
    refine ⟨?_, rfl⟩
    have : c ≠ 0 := by omega
    simp [this]
  · have hbit : x.testBit (k % 64) = false := by simpa using hbit
    have ha := and_bitp_eq x k hx hbit
    rw [hbit]; clear hbit
    go_enter Try.func45, Try.ntmps45
    go_wp2_with (go_at_call 91; refine hb.out.mono ?_; rintro e w' ⟨rfl, rfl⟩)
    go_ret
    exact ⟨rfl, rfl⟩
set_option maxHeartbeats 400000 in
theorem has_out {p : Option Addr} {i : Int} {w : World} (h : Calls Try.prog 91 #[.pointer p, .int .i64 i] w fun e w' => e = .returned (.tuple #[.int .i64 0, .int .u64 0, .bool false]) ∧ w = w') :
    Calls Try.prog 45 #[.pointer p, .int .i64 i] w fun e w' => e = .returned (.bool false) ∧ w = w' := by
  have hb := Lib.hid h
  clear h
  go_enter Try.func45, Try.ntmps45
  go_wp2_with (go_at_call 91; refine hb.out.mono ?_; rintro e w' ⟨rfl, rfl⟩)
  go_ret
  exact ⟨rfl, rfl⟩
theorem SetW.kept {S : Nat → Prop} {w w' : World} {b g n : Nat} {ws : List Nat} (h : SetW w b g n ws) (hk : Kept S w w') (hb : ¬ S b) (hg : ¬ S g) : SetW w' b g n ws :=
  ⟨hk.get h.hd hb, hk.get h.row hg, h.ne, h.len, h.le, h.lt⟩
theorem SetAt.kept {S : Nat → Prop} {w w' : World} {b g n : Nat} {f : Nat → Bool} (h : SetAt w b g n f) (hk : Kept S w w') (hb : ¬ S b) (hg : ¬ S g) : SetAt w' b g n f := by
  obtain ⟨ws, hw, hf, hz⟩ := h
  exact ⟨ws, hw.kept hk hb hg, hf, hz⟩
theorem SetAt.lt {w : World} {b g n : Nat} {f : Nat → Bool} (h : SetAt w b g n f) : b < w.heap.size ∧ g < w.heap.size ∧ b ≠ g := by
  obtain ⟨ws, hw, hf, hz⟩ := h
  exact ⟨lt_blk hw.hd, lt_blk hw.row, hw.ne⟩
theorem SetAt.le {w : World} {b g n : Nat} {f : Nat → Bool} (h : SetAt w b g n f) : n ≤ 4096 := by
  obtain ⟨ws, hw, hf, hz⟩ := h
  exact hw.le
theorem SetAt.congr {w : World} {b g n : Nat} {f f' : Nat → Bool} (h : SetAt w b g n f) (e : ∀ i, f' i = f i) : SetAt w b g n f' := by
  rw [show f' = f from funext e]; exact h
theorem SetW.set {w : World} {b g n : Nat} {ws : List Nat} (h : SetW w b g n ws) (k y : Nat) (hk : k < ws.length) (hy : y < 18446744073709551616) : SetW (w.setCell ⟨g, k, none⟩ (.int .u64 (y : Int))) b g n (ws.set k y) := by
  refine ⟨?_, ?_, h.ne, by simpa using h.len, h.le, fun j => ?_⟩
  · rw [Below.heap_setCell _ _ _ _ h.ne, h.hd]; simp
  · rw [set_blk h.row]; simp [List.map_set]
  · have := h.lt j
    simp only [List.getD, List.getElem?_set] at this ⊢
    split
    · rename_i e; subst e; simp [hk]; exact hy
    · exact this
theorem getD_set (ws : List Nat) (k y j : Nat) (hk : k < ws.length) : (ws.set k y).getD j 0 = if j = k then y else ws.getD j 0 := by
  simp only [List.getD, List.getElem?_set]
  by_cases e : k = j
  · subst e; simp [hk]
  · rw [if_neg e, if_neg (fun h => e h.symm)]
theorem bitp_tb (k i : Nat) : (bitp k).testBit i = decide (k % 64 = i) := by
  unfold bitp; rw [Nat.testBit_two_pow]
theorem nbitp_tb (k i : Nat) (hi : i < 64) : (18446744073709551615 - bitp k).testBit i = !decide (k % 64 = i) := by
  have h : 18446744073709551615 - bitp k = 2 ^ 64 - (bitp k + 1) := by have := bitp_lt k; omega
  rw [h, Nat.testBit_two_pow_sub_succ (bitp_lt k), bitp_tb]
  simp [hi]

theorem inr_nat (n k : Nat) : inr n (k : Int) = decide (k < n) := by
  unfold inr; simp
theorem room_set {w : World} {b g n : Nat} {f : Nat → Bool} (h : SetAt w b g n f) : Calls Try.prog 115 #[.pointer (some ⟨b, 0, none⟩)] w fun e w' => e = .returned (.int .i64 n) ∧ w = w' := by
  obtain ⟨ws, hw, hf, hz⟩ := h
  exact room_some b n w hw.c0
theorem put_any {b g n : Nat} {f : Nat → Bool} {w : World} (h : SetAt w b g n f) (i : Int) :
    Calls Try.prog 78 #[.pointer (some ⟨b, 0, none⟩), .int .i64 i] w fun e w' => e = .returned (.bool (inr n i && !f i.toNat)) ∧ SetAt w' b g n (putf n f i) ∧ Kept (ib g) w w' ∧ w.heap.size = w'.heap.size := by
  have hs := h
  obtain ⟨ws, hw, hf, hz⟩ := h
  by_cases hin : 0 ≤ i ∧ i < n
  · obtain ⟨k, rfl⟩ : ∃ k : Nat, i = (k : Int) := ⟨i.toNat, by omega⟩
    have hk : k < n := by omega
    have hl : k / 64 < ws.length := by rw [hw.len]; omega
    have hi : inr n (k : Int) = true := by unfold inr; simp [hk]
    have hfk := hf k
    rw [hi, Int.toNat_natCast, hfk]
    by_cases hb : (ws.getD (k / 64) 0).testBit (k % 64) = true
    · refine (put_old hw k hk _ (hw.lt _) (hw.cw _ hl) hl hb).mono ?_
      rintro e w' ⟨rfl, rfl⟩
      refine ⟨by rw [hb]; rfl, hs.congr fun j => ?_, Kept.refl _ _, rfl⟩
      unfold putf
      rw [hi, Int.toNat_natCast]
      by_cases e : j = k
      · subst e; rw [hfk, hb]; rfl
      · simp [e]
    · have hb' : (ws.getD (k / 64) 0).testBit (k % 64) = false := by simpa using hb
      refine (put_new hw k hk _ (hw.lt _) (hw.cw _ hl) hl hb').mono ?_
      rintro e w' ⟨rfl, rfl⟩
      have hy : ws.getD (k / 64) 0 ||| bitp k < 18446744073709551616 := Nat.or_lt_two_pow (n := 64) (hw.lt _) (bitp_lt k)
      refine ⟨by rw [hb']; rfl, ⟨_, hw.set (k / 64) _ hl hy, fun j => ?_, fun j hj => ?_⟩, Kept.setCell w ⟨g, k / 64, none⟩ _, by simp [World.setCell]⟩
      · unfold putf
        rw [hi, Int.toNat_natCast, getD_set _ _ _ _ hl]
        by_cases e : j / 64 = k / 64
        · rw [if_pos e, Nat.testBit_or, bitp_tb, ← e, ← hf j]
          by_cases e2 : j = k
          · subst e2; simp
          · simp [e2, show k % 64 ≠ j % 64 by omega]
        · rw [if_neg e, ← hf j]
          simp [show j ≠ k by intro h; subst h; exact e rfl]
      · unfold putf
        rw [hz j hj, hi, Int.toNat_natCast]
        simp [show j ≠ k by omega]
  · have hi : inr n i = false := by unfold inr; simp only [decide_eq_false_iff_not]; exact hin
    refine (put_out (bit_out (some ⟨b, 0, none⟩) n i w (room_set hs) (by omega))).mono ?_
    rintro e w' ⟨rfl, rfl⟩
    exact ⟨by rw [hi]; rfl, hs.congr fun j => by unfold putf; rw [hi]; simp, Kept.refl _ _, rfl⟩
theorem has_any {b g n : Nat} {f : Nat → Bool} {w : World} (h : SetAt w b g n f) (i : Int) :
    Calls Try.prog 45 #[.pointer (some ⟨b, 0, none⟩), .int .i64 i] w fun e w' => e = .returned (.bool (inr n i && f i.toNat)) ∧ w = w' := by
  have hs := h
  obtain ⟨ws, hw, hf, hz⟩ := h
  by_cases hin : 0 ≤ i ∧ i < n
  · obtain ⟨k, rfl⟩ : ∃ k : Nat, i = (k : Int) := ⟨i.toNat, by omega⟩
    have hk : k < n := by omega
    have hl : k / 64 < ws.length := by rw [hw.len]; omega
    have hi : inr n (k : Int) = true := by unfold inr; simp [hk]
    rw [hi, Int.toNat_natCast, hf k]
    refine (has_in hw k hk _ (hw.lt _) (hw.cw _ hl) hl).mono ?_
    rintro e w' ⟨rfl, rfl⟩
    exact ⟨rfl, rfl⟩
  · have hi : inr n i = false := by unfold inr; simp only [decide_eq_false_iff_not]; exact hin
    refine (has_out (bit_out (some ⟨b, 0, none⟩) n i w (room_set hs) (by omega))).mono ?_
    rintro e w' ⟨rfl, rfl⟩
    exact ⟨by rw [hi]; rfl, rfl⟩
theorem new_set (n : Int) (w : World) :
    Calls Try.prog 76 #[.int .i64 n] w fun e w' => ∃ b g, e = .returned (.pointer (some ⟨b, 0, none⟩)) ∧ SetAt w' b g (roomOf n) (fun _ => false) ∧ Kept nob w w' ∧ w.heap.size ≤ b ∧ w.heap.size ≤ g := by
  refine (new_any n w).mono ?_
  rintro e w' ⟨rfl, rfl⟩
  refine ⟨w.heap.size + 1, w.heap.size, rfl, ⟨List.replicate (words (roomOf n)) 0, ⟨?_, ?_, by omega, ?_, ?_, ?_⟩, ?_, ?_⟩, ?_, by omega, by omega⟩
  · have := alloc_blk (w.alloc (.cells (List.replicate (words (roomOf n)) (Value.int .u64 0)).toArray 97)) (.cells #[.int .i64 (roomOf n : Int), .slice (some ⟨w.heap.size, 0, none⟩) (words (roomOf n)) (words (roomOf n))] 102)
    rw [World.size_alloc] at this
    rw [this]; simp
  · rw [alloc_old (alloc_blk _ _)]; simp
  · simp [words]
  · unfold roomOf; omega
  · intro k; simp only [List.getD, List.getElem?_replicate]; split <;> simp
  · intro i; simp only [List.getD, List.getElem?_replicate]; split <;> simp
  · intro i _; rfl
  · exact (Kept.alloc _ _ _).trans (Kept.alloc _ _ nob) (fun i _ h => h)


theorem own_zero {w : World} {base : Nat} {e : TypeId} {g : Nat} (hg : w.heap[g]? = some (.cells #[] e (0, 0))) (hb : base ≤ g) : w.ownsRow base e 1 (.slice (some ⟨g, 0, none⟩) 0 0) 0 [] :=
  ⟨rfl, .inr ⟨g, 0, #[], rfl, hb, hg, Nat.le_refl _, by unfold maxLen; omega, rfl, rfl⟩⟩
def vals (xs : List Nat) : List Value := xs.map fun (x : Nat) => Value.int .u64 (x : Int)
theorem vals_len (xs : List Nat) : (vals xs).length = xs.length := by simp [vals]
theorem vals_get (xs : List Nat) (j : Nat) (hj : j < xs.length) : (vals xs)[j]? = some (.int .u64 ((xs.getD j 0 : Nat) : Int)) := by
  simp [vals, hj, List.getD]
theorem vals_one (xs : List Nat) : ∀ u ∈ vals xs, u.oneCell' = true := by
  intro u hu
  obtain ⟨_, _, rfl⟩ := List.mem_map.1 hu
  rfl
theorem add_pl (g j : Nat) : (⟨g, 0, none⟩ : Addr).add j = ⟨g, j, none⟩ := by unfold Addr.add; split <;> simp_all

theorem own_some {w : World} {base : Nat} {e : TypeId} {size : Nat} {v : Value} {n m : Nat} {xs : List Value} (h : w.ownsRow base e size v n xs) (hnm : n = m) (hv : v ≠ .slice none 0 0) : ∃ g' cap, v = .slice (some ⟨g', 0, none⟩) m cap := by
  subst hnm
  rcases h.2 with ⟨h, _⟩ | ⟨g, cap, cur, h, _⟩
  · exact absurd h hv
  · exact ⟨g, cap, h⟩

set_option maxHeartbeats 400000 in
theorem clone_words (g m c : Nat) (xs : List Nat) (w : World) (hm : m ≤ 64) (hx : xs.length = m) (hg : g < w.heap.size) (hc : ∀ j, j < m → w.cell? ⟨g, j, none⟩ = some (.int .u64 ((xs.getD j 0 : Nat) : Int))) :
    Calls Try.prog 135 #[.slice (some ⟨g, 0, none⟩) m c] w fun e w' => ∃ g' cap, e = .returned (.slice (some ⟨g', 0, none⟩) m cap) ∧ w'.ownsRow w.heap.size 97 1 (.slice (some ⟨g', 0, none⟩) m cap) m (vals xs) ∧ Kept nob w w' := by
  obtain ⟨i, hi, hz0, hz1, hz2⟩ := info_parts info_u64
  have hown : (w.alloc (.cells #[] 97)).ownsRow w.heap.size 97 1 (.slice (some ⟨w.heap.size, 0, none⟩) 0 0) 0 [] := own_zero (alloc_blk _ _) (Nat.le_refl _)
  have hnews : ∀ j u, (vals xs)[j]? = some u → (w.alloc (.cells #[] 97)).cell? ((⟨g, 0, none⟩ : Addr).add j) = some u := by
    intro j u hu
    have hj : j < xs.length := by
      have := (List.getElem?_eq_some_iff.1 hu).1
      simpa [vals] using this
    rw [vals_get _ _ hj] at hu
    rw [add_pl, World.cell?_alloc_past _ _ _ hg, hc j (by omega)]
    exact hu
  have hne := fun (w : World) => Lib.run_eql_slice_nil (P := Try.prog) w 100 97 (some ⟨g, 0, none⟩) m c 0 0 Try.underlying100
  have HN := Lib.hid hnews
  have HXL := Lib.hid hx
  clear hc hx hnews
  go_enter Try.func135, Try.ntmps135
  go_wp2_with (at_builtin; refine wpList_append_own _ rfl _ _ 100 rfl w.heap.size 97 i (.int .u64 0) 1 8 Try.underlying100 hi hz0 hz1 hz2 rfl (by decide) _ _ _ rfl hown ⟨g, 0, none⟩ m c (vals xs) rfl ?c1 HN.out (vals_one xs) ?c3 ?c4 ?c5 ?_)
  case c1 => rw [vals_len, HXL.out]; omega
  case c3 => unfold maxLen; omega
  case c4 => omega
  case c5 => simp
  intro v' w1 hown1 hg1 hnil
  obtain ⟨g', cap, hv⟩ : ∃ g' cap, v' = .slice (some ⟨g', 0, none⟩) m cap := own_some hown1 (by simp) (fun h => by simp [h] at hnil)
  rw [hv] at hown1 ⊢
  clear hnil hv
  go_wp2
  go_ret
  refine ⟨_, _, rfl, by simpa using hown1, ?_⟩
  refine (Kept.alloc w _ nob).trans ((Kept.ofGrown hg1)) (fun k hk h => ?_)
  simp [Value.ownBlock] at h
  omega


theorem bitp_pos (k : Nat) : 0 < bitp k := Nat.two_pow_pos _
theorem mask_tb (k j : Nat) : (bitp k - 1).testBit j = decide (j < k % 64) := by
  unfold bitp; rw [Nat.testBit_two_pow_sub_one]
theorem getD_take (ws : List Nat) (k j : Nat) : (ws.take k).getD j 0 = if j < k then ws.getD j 0 else 0 := by
  simp only [List.getD, List.getElem?_take]; split <;> rfl
theorem vals_set (xs : List Nat) (k y : Nat) : (vals xs).set k (.int .u64 (y : Int)) = vals (xs.set k y) := by
  simp [vals, List.map_set]

theorem and63w (k : Nat) (hk : k < 1000000) : bits .and .i64 (k : Int) 63 = ((k % 64 : Nat) : Int) := by
  have h := bits_mask .i64 63 (by decide) (fun n h0 h1 => by rw [IntKind.wrap_i64]; omega) 6 (by decide) (k : Int) (by omega) (by omega)
  simpa using h

theorem own_rng {w : World} {base : Nat} {e : TypeId} {size g n cap : Nat} {xs : List Value} (h : w.ownsRow base e size (.slice (some ⟨g, 0, none⟩) n cap) n xs) : base ≤ g ∧ g < w.heap.size := h.lt g rfl

set_option maxHeartbeats 1000000 in
/-- A set's words, cut off behind a room. -/
theorem words_any {b g n : Nat} {f : Nat → Bool} {w : World} (h : SetAt w b g n f) (r : Nat) (hr : r ≤ 4096) :
    Calls Try.prog 130 #[.pointer (some ⟨b, 0, none⟩), .int .i64 (r : Int)] w fun e w' => ∃ g' cap xs, e = .returned (.slice (some ⟨g', 0, none⟩) (words (min r n)) cap) ∧ w'.ownsRow w.heap.size 97 1 (.slice (some ⟨g', 0, none⟩) (words (min r n)) cap) (words (min r n)) (vals xs) ∧ xs.length = words (min r n) ∧ (∀ k, xs.getD k 0 < 18446744073709551616) ∧
      (∀ j, (xs.getD (j / 64) 0).testBit (j % 64) = (f j && decide (j < r))) ∧ Kept nob w w' := by
  obtain ⟨ws, hw, hf, hz⟩ := h
  have h0 := hw.c0
  have h1 := hw.c1
  have hle := hw.le
  have hlen := hw.len
  have hll : ws.length ≤ 64 := by rw [hlen]; omega
  have HL := Lib.hid hlen
  clear hlen
  obtain ⟨m, hm⟩ : ∃ m, m = min r n := ⟨_, rfl⟩
  have hmn : m ≤ n := by omega
  have hmr : m ≤ r := by omega
  have hmm : (m = r ∧ m < n) ∨ (m = r ∧ m = n) ∨ (m = n ∧ m < r) := by omega
  have hfm : ∀ j, (f j && decide (j < r)) = (f j && decide (j < m)) := by
    intro j
    by_cases e : j < m
    · simp [e, show j < r by omega]
    · rcases Nat.lt_or_ge j n with h | h
      · simp [e, show ¬ j < r by omega]
      · simp [hz j h]
  have hwm : (m + 63) / 64 ≤ ws.length := by rw [HL.out]; omega
  have hcl := Lib.hid (clone_words g ((m + 63) / 64) ws.length (ws.take (words m)) w (by omega) (by simp [words]; omega) (lt_blk hw.row) (fun j hj => by
    rw [hw.cw j (by omega), getD_take, if_pos (show j < words m from hj)]))
  simp only [hfm]
  rw [← hm]
  have HF := Lib.hid hfm
  have hlt := hw.lt
  have hne : ∀ j, ws.getD j 0 < 18446744073709551616 := hw.lt
  have HM := Lib.hid hm
  clear hm hfm
  -- the plain part: what comes out when nothing is masked
  have hplain : m % 64 = 0 → (∀ k, (ws.take (words m)).getD k 0 < 18446744073709551616) ∧ ∀ j, ((ws.take (words m)).getD (j / 64) 0).testBit (j % 64) = (f j && decide (j < m)) := by
    intro h64
    refine ⟨fun k => by rw [getD_take]; split; exact hlt k; decide, fun j => ?_⟩
    rw [getD_take]
    by_cases e : j < m
    · rw [if_pos (by unfold words; omega), ← hf j]; simp [e]
    · rw [if_neg (by unfold words; omega)]; simp [e]
  have hmask : m % 64 ≠ 0 → (∀ k, ((ws.take (words m)).set (m / 64) (ws.getD (m / 64) 0 &&& (bitp m - 1))).getD k 0 < 18446744073709551616) ∧ ∀ j, (((ws.take (words m)).set (m / 64) (ws.getD (m / 64) 0 &&& (bitp m - 1))).getD (j / 64) 0).testBit (j % 64) = (f j && decide (j < m)) := by
    intro h64
    have hl : m / 64 < (ws.take (words m)).length := by simp [words]; omega
    refine ⟨fun k => ?_, fun j => ?_⟩
    · rw [getD_set _ _ _ _ hl]; split
      · exact Nat.lt_of_le_of_lt Nat.and_le_left (hlt _)
      · rw [getD_take]; split; exact hlt k; decide
    · rw [getD_set _ _ _ _ hl]
      by_cases e : j / 64 = m / 64
      · rw [if_pos e, Nat.testBit_and, mask_tb, ← e, ← hf j]
        by_cases e2 : j < m
        · simp [e2, show j % 64 < m % 64 by omega]
        · simp [e2, show ¬ j % 64 < m % 64 by omega]
      · rw [if_neg e, getD_take]
        by_cases e2 : j < m
        · rw [if_pos (by unfold words; omega), ← hf j]; simp [e2]
        · rw [if_neg (by unfold words; omega)]; simp [e2]
  have HPl := Lib.hid hplain
  have HMa := Lib.hid hmask
  have hc : m / 64 < ws.length → w.cell? ⟨g, m / 64, none⟩ = some (.int .u64 ((ws.getD (m / 64) 0 : Nat) : Int)) := hw.cw _
  have hb1 := bitp_pos m
  have hb2 := bitp_lt m
  have H63 := and63w m (by omega)
  have HPW := pow_wrap m
  obtain ⟨x, hx⟩ : ∃ x, x = ws.getD (m / 64) 0 := ⟨_, rfl⟩
  have hxl : x < 18446744073709551616 := by rw [hx]; exact hlt _
  have HAN : bits .and .u64 (x : Int) ((bitp m : Int) - 1) = ((x &&& (bitp m - 1) : Nat) : Int) := by
    have := u64_and_nat x (bitp m - 1) hxl (by omega)
    rw [← this]; congr 1; omega
  have HX := Lib.hid hx
  clear hx hplain hmask hlt hne hf hz hc
  have HMM := Lib.hid hmm
  clear hmm
  have fin : ∀ (w1 : World) (g' cap : Nat), w1.ownsRow w.heap.size 97 1 (.slice (some ⟨g', 0, none⟩) ((m + 63) / 64) cap) ((m + 63) / 64) (vals (ws.take (words m))) → 0 < m % 64 → w1.cell? ⟨g', (m + 63) / 64 - 1, none⟩ = some (.int .u64 (x : Int)) ∧ w1.frozen? ⟨g', (m + 63) / 64 - 1, none⟩ = false := by
    intro w1 g' cap hown h64
    refine ⟨?_, hown.frozenAt _⟩
    rw [show (m + 63) / 64 - 1 = m / 64 by omega, hown.cellAt _ (by omega), vals_get _ _ (by simp [words]; omega), getD_take, if_pos (by unfold words; omega), HX.out]
  have FIN := Lib.hid fin
  clear fin
  rcases HMM.out with ⟨e1, hmm⟩ | ⟨e1, e2⟩ | ⟨e1, hmm⟩
  case' inl => subst e1
  case' inr.inl => subst e1; subst e2
  case' inr.inr => subst e1
  all_goals
    clear HMM HM HF hw HL
    rcases Nat.eq_zero_or_pos (m % 64) with h64 | h64
    · go_enter Try.func130, Try.ntmps130
      go_wp2_with (go_at_call 135; refine hcl.out.mono ?_; rintro e w1 ⟨g', cap, rfl, hown, hk⟩)
      go_ret
      exact ⟨g', cap, _, rfl, hown, by simp [words]; omega, (HPl.out h64).1, (HPl.out h64).2, hk⟩
    · have hnz : ((m : Int) % 64 != 0) = true := by simp only [bne_iff_ne, ne_eq]; omega
      have hwi : decide (0 < ((m : Int) + 63) / 64) = true := by simp only [decide_eq_true_eq]; omega
      go_enter Try.func130, Try.ntmps130
      go_wp2_with fail
      refine hcl.out.mono ?_
      rintro e w1 ⟨g', cap, rfl, hown, hk⟩
      obtain ⟨hcx, hfx⟩ := FIN.out w1 g' cap hown h64
      have hw0 : 0 < (m + 63) / 64 := by omega
      obtain ⟨y, hy⟩ : ∃ y, y = x &&& (bitp m - 1) := ⟨_, rfl⟩
      rw [← hy] at HAN
      have HY := Lib.hid hy
      clear hy
      have HS := Lib.hid (hown.stored ((m + 63) / 64 - 1) (.int .u64 (y : Int)))
      clear hown
      go_wp2
      go_ret
      refine ⟨g', cap, (ws.take (words m)).set (m / 64) (ws.getD (m / 64) 0 &&& (bitp m - 1)), rfl, ?_, by simp [words]; omega, (HMa.out (by omega)).1, (HMa.out (by omega)).2, ?_⟩
      · have := HS.out.1
        rw [vals_set, HY.out, HX.out, show (m + 63) / 64 - 1 = m / 64 by omega] at this
        rw [HY.out, HX.out, show (m + 63) / 64 - 1 = m / 64 by omega]
        exact this
      · refine hk.trans (Kept.setCell _ _ _) (fun k hkl h => ?_)
        have : k = g' := h
        obtain ⟨h1, _⟩ := own_rng HS.out.1
        omega


theorem andNot_ne (x y : Nat) (hx : x < 18446744073709551616) (hy : y < 18446744073709551616) :
    (x &&& (18446744073709551615 - y) ≠ 0) ↔ ∃ i, i < 64 ∧ x.testBit i = true ∧ y.testBit i = false := by
  have e : 18446744073709551615 - y = 2 ^ 64 - (y + 1) := by omega
  have tb : ∀ i, (x &&& (18446744073709551615 - y)).testBit i = (x.testBit i && (decide (i < 64) && !y.testBit i)) := by
    intro i; rw [e, Nat.testBit_and, Nat.testBit_two_pow_sub_succ hy]
  constructor
  · intro h
    obtain ⟨i, hi⟩ := Nat.exists_testBit_of_ne_zero h
    rw [tb] at hi
    simp only [Bool.and_eq_true, decide_eq_true_eq, Bool.not_eq_true'] at hi
    exact ⟨i, hi.2.1, hi.1, hi.2.2⟩
  · rintro ⟨i, h1, h2, h3⟩ h
    have := tb i
    rw [h] at this
    simp [h1, h2, h3] at this
def orf (n : Nat) (f h : Nat → Bool) : Nat → Bool := fun j => f j || (h j && decide (j < n))
def orc (n : Nat) (f h : Nat → Bool) : Prop := ∃ j, j < n ∧ h j = true ∧ f j = false

def OrRel (w0 : World) (b g n g' cap : Nat) (ws xs : List Nat) (W1 : World) (c i : Value) (wr : World) : Prop :=
  ∃ (k : Nat) (ch : Bool) (ws' : List Nat), i = .int .i64 (k : Int) ∧ c = .bool ch ∧ k ≤ xs.length ∧ SetW wr b g n ws' ∧ (∀ j, ws'.getD j 0 = if j < k then ws.getD j 0 ||| xs.getD j 0 else ws.getD j 0) ∧
    (ch = true ↔ ∃ j, j < k ∧ xs.getD j 0 &&& (18446744073709551615 - ws.getD j 0) ≠ 0) ∧ wr.ownsRow w0.heap.size 97 1 (.slice (some ⟨g', 0, none⟩) xs.length cap) xs.length (vals xs) ∧ Kept (ib g) W1 wr

theorem orRel_step {w0 W1 wr : World} {b g n g' cap k : Nat} {ws xs ws' : List Nat} {ch : Bool} (hgw : g < w0.heap.size) (hxl : xs.length ≤ ws.length) (hlt : ∀ j, ws.getD j 0 < 18446744073709551616) (hxlt : ∀ j, xs.getD j 0 < 18446744073709551616) (hwl : ws'.length = ws.length)
    (hk : k < xs.length) (hs : SetW wr b g n ws') (hw' : ∀ j, ws'.getD j 0 = if j < k then ws.getD j 0 ||| xs.getD j 0 else ws.getD j 0)
    (hc : ch = true ↔ ∃ j, j < k ∧ xs.getD j 0 &&& (18446744073709551615 - ws.getD j 0) ≠ 0) (ho : wr.ownsRow w0.heap.size 97 1 (.slice (some ⟨g', 0, none⟩) xs.length cap) xs.length (vals xs)) (hK : Kept (ib g) W1 wr) :
    (xs.getD k 0 &&& (18446744073709551615 - ws.getD k 0) = 0 → OrRel w0 b g n g' cap ws xs W1 (.bool ch) (.int .i64 ((k : Int) + 1)) wr) ∧
    (xs.getD k 0 &&& (18446744073709551615 - ws.getD k 0) ≠ 0 → OrRel w0 b g n g' cap ws xs W1 (.bool true) (.int .i64 ((k : Int) + 1)) (wr.setCell ⟨g, k, none⟩ (.int .u64 ((ws.getD k 0 ||| xs.getD k 0 : Nat) : Int)))) := by
  constructor
  · intro h0
    refine ⟨k + 1, ch, ws', by go_num, rfl, by omega, hs, fun j => ?_, ?_, ho, hK⟩
    · rw [hw' j]
      by_cases e : j = k
      · subst e
        rw [if_neg (by omega), if_pos (by omega)]
        apply Nat.eq_of_testBit_eq
        intro i
        rw [Nat.testBit_or]
        have hno := fun h => (andNot_ne (xs.getD j 0) (ws.getD j 0) (hxlt j) (hlt j)).2 h h0
        cases h1 : (ws.getD j 0).testBit i with
        | true => rfl
        | false =>
          cases h2 : (xs.getD j 0).testBit i with
          | false => rfl
          | true =>
            have hi : i < 64 := by
              rcases Nat.lt_or_ge i 64 with h | h
              · exact h
              · have := Nat.testBit_lt_two_pow (Nat.lt_of_lt_of_le (hxlt j) (show 18446744073709551616 ≤ 2 ^ i from Nat.pow_le_pow_right (n := 2) (by decide) h))
                rw [this] at h2; simp at h2
            exact absurd ⟨i, hi, h2, h1⟩ hno
      · by_cases e2 : j < k
        · rw [if_pos e2, if_pos (by omega)]
        · rw [if_neg e2, if_neg (by omega)]
    · rw [hc]
      constructor
      · rintro ⟨j, h1, h2⟩; exact ⟨j, by omega, h2⟩
      · rintro ⟨j, h1, h2⟩
        refine ⟨j, ?_, h2⟩
        rcases Nat.lt_or_ge j k with h | h
        · exact h
        · have : j = k := by omega
          subst this; exact absurd h0 h2
  · intro h0
    have hy : ws.getD k 0 ||| xs.getD k 0 < 18446744073709551616 := Nat.or_lt_two_pow (n := 64) (hlt _) (hxlt _)
    have hg' := own_rng ho
    refine ⟨k + 1, true, _, by go_num, rfl, by omega, hs.set k _ (by omega) hy, fun j => ?_, ?_, ?_, ?_⟩
    · rw [getD_set _ _ _ _ (by omega), hw' j]
      by_cases e : j = k
      · subst e; simp
      · rw [if_neg e]
        by_cases e2 : j < k
        · rw [if_pos e2, if_pos (by omega)]
        · rw [if_neg e2, if_neg (by omega)]
    · simp only [true_iff]
      exact ⟨k, by omega, h0⟩
    · exact ownsRow_setCell_other ho (by simp [Value.ownBlock]; omega) _
    · exact hK.trans (Kept.setCell wr ⟨g, k, none⟩ _) (fun i _ h => h)

set_option maxHeartbeats 1000000 in
theorem or_any {b g n b2 g2 n2 : Nat} {f h : Nat → Bool} {w : World} (hs : SetAt w b g n f) (ht : SetAt w b2 g2 n2 h) :
    Calls Try.prog 113 #[.pointer (some ⟨b, 0, none⟩), .pointer (some ⟨b2, 0, none⟩)] w fun e w' => ∃ c, e = .returned (.bool c) ∧ (c = true ↔ orc n f h) ∧ SetAt w' b g n (orf n f h) ∧ Kept (ib g) w w' := by
  have hs0 := hs
  have hlts := hs.lt
  have hles := hs.le
  obtain ⟨ws, hw, hf, hz⟩ := hs
  have HW := Lib.hid (words_any ht n hles)
  have hroom := Lib.hid (room_set hs0)
  have hlt := Lib.hid hw.lt
  go_enter Try.func113, Try.ntmps113
  go_wp2_with (go_at_call 115; refine hroom.out.mono ?_; rintro e w' ⟨rfl, rfl⟩)
  refine HW.out.mono ?_
  rintro e W1 ⟨g', cap, xs, rfl, hown, hxlen, hxlt, hbits, hk⟩
  have hxl : xs.length ≤ ws.length := by rw [hxlen, hw.len]; unfold words; omega
  rw [← hxlen] at hown ⊢
  have hw1 : SetW W1 b g n ws := hw.kept hk (fun h => h) (fun h => h)
  have hxm : xs.length ≤ 64 := by rw [hxlen]; unfold words; omega
  have HX := Lib.hid hxlt
  have HB := Lib.hid hbits
  have HL := Lib.hid hxlen
  clear hxlt hbits hxlen
  go_wp2
  go_loopw [5, 13] (fun c i wr => OrRel w b g n g' cap ws xs W1 c i wr) (fun _ i _ => xs.length - (intOf i).toNat)
  case atStart => exact ⟨0, false, ws, rfl, rfl, by omega, hw1, fun j => by rw [if_neg (by omega)], by simp, hown, Kept.refl _ _⟩
  case round =>
    obtain ⟨k, ch, ws', rfl, rfl, hkl, hs', hw', hc, ho, hK⟩ := hrel
    have hwl : ws'.length = ws.length := by rw [hs'.len, hw.len]
    by_cases hlt2 : k < xs.length
    · have hst := orRel_step (by omega) hxl hlt.out HX.out hwl hlt2 hs' hw' hc ho hK
      have hc1 := hs'.c1
      have hcx : wr.cell? ⟨g', k, none⟩ = some (.int .u64 ((xs.getD k 0 : Nat) : Int)) := by
        rw [ho.cellAt _ (by omega), vals_get _ _ hlt2]
      have hcw := hs'.cw k (by omega)
      rw [hw' k, if_neg (by omega)] at hcw
      have hfr := hs'.fr k
      have hX := HX.out k
      have hWk := hlt.out k
      have hwll : ws'.length ≤ 64 := by rw [hwl, hw.len]; omega
      obtain ⟨x, hx⟩ : ∃ x, x = xs.getD k 0 := ⟨_, rfl⟩
      obtain ⟨y, hy⟩ : ∃ y, y = ws.getD k 0 := ⟨_, rfl⟩
      rw [← hx] at hcx hX hst
      rw [← hy] at hcw hWk hst
      have ha := u64_andNot_nat x y hX hWk
      have ho2 := u64_or_nat y x hWk hX
      have HST := Lib.hid hst
      have HSW := Lib.hid hw'
      have HC := Lib.hid hc
      clear hst hw' hc hx hy
      by_cases hz0 : x &&& (18446744073709551615 - y) = 0
      · rw [hz0] at ha
        have hr := HST.out.1 hz0
        have HR := Lib.hid hr
        clear hr HST hz0
        go_wp2
        go_roundw
        case rel => exact HR.out
        case measure => simp [intOf]; omega
      · obtain ⟨z, hz1⟩ : ∃ z, z = x &&& (18446744073709551615 - y) := ⟨_, rfl⟩
        rw [← hz1] at ha
        have hzp : 0 < z := by omega
        have hr := HST.out.2 hz0
        have HR := Lib.hid hr
        clear hr HST hz0 hz1
        go_wp2
        go_roundw
        case rel => exact HR.out
        case measure => simp [intOf]; omega
    · have hke : k = xs.length := by omega
      have HK := Lib.hid hke
      clear hke
      have HSW := Lib.hid hw'
      have HC := Lib.hid hc
      clear hw' hc
      go_wp2
      go_ret
      refine ⟨ch, rfl, ?_, ⟨ws', hs', fun j => ?_, fun j hj => ?_⟩, (hk.mono (fun i _ h => h.elim)).trans hK (fun i _ h => h)⟩
      · rw [HC.out, HK.out]
        constructor
        · rintro ⟨j, h1, h2⟩
          obtain ⟨i, h3, h4, h5⟩ := (andNot_ne _ _ (HX.out j) (hlt.out j)).1 h2
          have hb := HB.out (64 * j + i)
          rw [show (64 * j + i) / 64 = j by omega, show (64 * j + i) % 64 = i by omega, h4] at hb
          have hfj := hf (64 * j + i)
          rw [show (64 * j + i) / 64 = j by omega, show (64 * j + i) % 64 = i by omega, h5] at hfj
          simp only [Bool.true_eq, Bool.and_eq_true, decide_eq_true_eq] at hb
          exact ⟨64 * j + i, hb.2, hb.1, hfj⟩
        · rintro ⟨j, h1, h2, h3⟩
          have hb := HB.out j
          rw [h2] at hb
          simp only [Bool.true_and, h1, decide_true] at hb
          refine ⟨j / 64, ?_, (andNot_ne _ _ (HX.out _) (hlt.out _)).2 ⟨j % 64, Nat.mod_lt _ (by decide), hb, by rw [← hf j]; exact h3⟩⟩
          rcases Nat.lt_or_ge (j / 64) xs.length with e | e
          · exact e
          · rw [show xs.getD (j / 64) 0 = 0 by simp [List.getD, e]] at hb
            simp at hb
      · rw [HSW.out, HK.out]
        unfold orf
        rw [← HB.out j, hf j]
        split
        · rw [Nat.testBit_or]
        · rename_i e
          rw [show xs.getD (j / 64) 0 = 0 by simp [List.getD, show xs.length ≤ j / 64 by omega]]
          simp
      · unfold orf
        rw [hz j hj]
        simp [show ¬ j < n by omega]


theorem and_ne (x y : Nat) : (x &&& y ≠ 0) ↔ ∃ i, x.testBit i = true ∧ y.testBit i = true := by
  constructor
  · intro h
    obtain ⟨i, hi⟩ := Nat.exists_testBit_of_ne_zero h
    rw [Nat.testBit_and] at hi
    simp only [Bool.and_eq_true] at hi
    exact ⟨i, hi.1, hi.2⟩
  · rintro ⟨i, h1, h2⟩ h
    have := Nat.testBit_and x y i
    rw [h, h1, h2] at this
    simp at this
theorem tb_lt64 {x i : Nat} (hx : x < 18446744073709551616) (h : x.testBit i = true) : i < 64 := by
  rcases Nat.lt_or_ge i 64 with e | e
  · exact e
  · have := Nat.testBit_lt_two_pow (Nat.lt_of_lt_of_le hx (show 18446744073709551616 ≤ 2 ^ i from Nat.pow_le_pow_right (n := 2) (by decide) e))
    rw [this] at h; simp at h

def RetB (Pr : Bool → World → Prop) (e : Ending) (w' : World) : Prop := ∃ c, e = .returned (.bool c) ∧ Pr c w'
def metc (n : Nat) (f h : Nat → Bool) : Prop := ∃ j, j < n ∧ h j = true ∧ f j = true

def lst (k : Nat) (f : Nat → Bool) : List Nat := (List.range k).filter f
def ivals (xs : List Nat) : List Value := xs.map fun (x : Nat) => Value.int .i64 (x : Int)
theorem ivals_len (xs : List Nat) : (ivals xs).length = xs.length := by simp [ivals]
theorem lst_len (k : Nat) (f : Nat → Bool) : (lst k f).length ≤ k := by
  have := List.length_filter_le f (List.range k)
  simpa [lst] using this
theorem lst_gap (k : Nat) (f : Nat → Bool) (d : Nat) (h : ∀ i, k ≤ i → i < k + d → f i = false) : lst (k + d) f = lst k f := by
  induction d with
  | zero => rfl
  | succ d ih =>
    have e : k + (d + 1) = (k + d) + 1 := by omega
    rw [e]
    unfold lst at ih ⊢
    rw [List.range_succ, List.filter_append, ih (fun i h1 h2 => h i h1 (by omega))]
    simp [h (k + d) (by omega) (by omega)]
theorem lst_gap' {k m : Nat} {f : Nat → Bool} (hkm : k ≤ m) (h : ∀ i, k ≤ i → i < m → f i = false) : lst m f = lst k f := by
  have := lst_gap k f (m - k) (fun i h1 h2 => h i h1 (by omega))
  rwa [show k + (m - k) = m by omega] at this
theorem lst_hit {k m : Nat} {f : Nat → Bool} (hkm : k ≤ m) (hm : f m = true) (h : ∀ i, k ≤ i → i < m → f i = false) : lst (m + 1) f = lst k f ++ [m] := by
  have := lst_gap' hkm h
  unfold lst at this ⊢
  rw [List.range_succ, List.filter_append, this]
  simp [hm]
theorem ivals_one (xs : List Nat) : ∀ u ∈ ivals xs, u.oneCell' = true := by
  intro u hu
  obtain ⟨_, _, rfl⟩ := List.mem_map.1 hu
  rfl

def lmu (n : Nat) (v : Value) : Nat := if intOf v < 0 then 0 else ((n : Int) - intOf v + 1).toNat
theorem lmu_neg (n : Nat) : lmu n (.int .i64 (-1)) = 0 := rfl
theorem lmu_nat (n m : Nat) : lmu n (.int .i64 (m : Int)) = n + 1 - m := by
  unfold lmu
  rw [if_neg (by simp [intOf])]
  simp only [intOf]; omega
def LRel (w0 : World) (n : Nat) (f : Nat → Bool) (v i : Value) (wr : World) : Prop :=
  ∃ (k : Nat) (r : Int), i = .int .i64 r ∧ IsNext n f k r ∧ k ≤ n ∧ wr.ownsRow w0.heap.size 3 1 v (lst k f).length (ivals (lst k f)) ∧ Kept nob w0 wr
def RetRow (w0 : World) (t : TypeId) (vs : List Value) (e : Ending) (w' : World) : Prop :=
  ∃ a cap, e = .returned (.slice a vs.length cap) ∧ w'.ownsRow w0.heap.size t 1 (.slice a vs.length cap) vs.length vs ∧ Kept nob w0 w'
theorem RetRow.mk {w0 w' : World} {t : TypeId} {vs : List Value} {v : Value} {n : Nat} (h : w'.ownsRow w0.heap.size t 1 v n vs) (hK : Kept nob w0 w') : RetRow w0 t vs (.returned v) w' := by
  have hn : vs.length = n := by have := h.1; omega
  subst hn
  rcases h.2 with ⟨rfl, h0⟩ | ⟨g, cap, cur, rfl, _⟩
  · rw [h0] at h
    refine ⟨none, 0, by rw [h0], by rw [h0]; exact h, hK⟩
  · exact ⟨_, _, rfl, h, hK⟩

set_option maxHeartbeats 1000000 in
theorem list_any {b g n : Nat} {f : Nat → Bool} {w : World} (hs : SetAt w b g n f) :
    Calls Try.prog 53 #[.pointer (some ⟨b, 0, none⟩)] w (RetRow w 3 (ivals (lst n f))) := by
  have hs0 := hs
  have hlts := hs.lt
  have hles := hs.le
  obtain ⟨ti, hi, hz0, hz1, hz2⟩ := info_parts info_int
  have HN := Lib.hid (next_any hs0 0 (by omega))
  go_enter Try.func53, Try.ntmps53
  go_wp2_with fail
  refine HN.out.mono ?_
  rintro e w1 ⟨r0, rfl, hr0, rfl⟩
  have HR0 := Lib.hid hr0
  clear hr0
  go_wp2
  go_loopw [3, 4] (fun v i wr => LRel w n f v i wr) (fun _ i _ => lmu n i)
  case atStart => exact ⟨0, r0, rfl, HR0.out, by omega, World.ownsRow_nil _ _ _ _, Kept.refl _ _⟩
  case round =>
    obtain ⟨k, r, rfl, hnx, hkn, hown, hK⟩ := hrel
    rcases hnx with ⟨rfl, hno⟩ | ⟨m, rfl, h1, h2, h3, h4⟩
    · have hL : lst n f = lst k f := lst_gap' hkn (fun i a b => hno i (by omega) b)
      have HL := Lib.hid hL
      have HO := Lib.hid hown
      clear hL hown hno
      go_wp2
      go_ret
      rw [HL.out]
      exact RetRow.mk HO.out hK
    · have hL : lst (m + 1) f = lst k f ++ [m] := lst_hit (by omega) h3 (fun i a b => h4 i (by omega) b)
      have hll := lst_len k f
      have HL := Lib.hid hL
      have HNO := Lib.hid h4
      have HF := Lib.hid h3
      clear hL h4 h3
      go_wp2_with (at_builtin; refine wpList_append_own _ rfl _ _ 34 rfl w.heap.size 3 ti (.int .i64 0) 1 8 Try.underlying34 hi hz0 hz1 hz2 rfl (by decide) _ _ _ rfl (hown.alloc _) ⟨wr.heap.size, 0, none⟩ 1 1 [.int .i64 (m : Int)] rfl rfl ?c1 ?c2 ?c3 ?c4 ?c5 ?_)
      case c1 => exact cell_one_new _ _ _
      case c2 => intro u hu; simp at hu; subst hu; rfl
      case c3 => unfold maxLen; omega
      case c4 => omega
      case c5 => have := hK.size; simp; omega
      intro v' w1 hown1 hgrow _
      have hK1 : Kept nob w w1 := (hK.trans (Kept.alloc wr _ nob) (fun i hi h => h)).trans (Kept.ofGrown hgrow) (fun i hi h => by
        have := (hown.lt i h.symm).1
        omega)
      have hs1 : SetAt w1 b g n f := hs0.kept hK1 (fun h => h) (fun h => h)
      have HN1 := Lib.hid (next_any hs1 ((m : Int) + 1) (by omega))
      have HO1 := Lib.hid hown1
      have HG := Lib.hid hgrow
      clear hown1 hgrow hown
      go_wp2_with fail
      refine HN1.out.mono ?_
      rintro e w2 ⟨r1, rfl, hr1, rfl⟩
      have HR1 := Lib.hid hr1
      clear hr1
      go_wp2
      go_roundw
      case rel =>
        refine ⟨m + 1, r1, rfl, by have := HR1.out; exact this, by omega, ?_, hK1⟩
        have := HO1.out
        rw [HL.out]
        simpa [ivals] using this
      case measure =>
        have := HR1.out
        rcases this with ⟨rfl, _⟩ | ⟨k', rfl, h5, h6, _, _⟩
        · show lmu n (.int .i64 (-1)) < lmu n (.int .i64 (m : Int)); rw [lmu_neg, lmu_nat]; omega
        · show lmu n (.int .i64 (k' : Int)) < lmu n (.int .i64 (m : Int)); rw [lmu_nat, lmu_nat]; omega


/-- What a slice reads as. -/
def Rd (w : World) (a : Option Addr) (vs : List Value) : Prop :=
  vs = [] ∨ ∃ b o, a = some ⟨b, o, none⟩ ∧ ∀ j, j < vs.length → w.cell? ⟨b, o + j, none⟩ = vs[j]?
def iv (xs : List Int) : List Value := xs.map fun x => Value.int .i64 x
theorem iv_len (xs : List Int) : (iv xs).length = xs.length := by simp [iv]
theorem iv_get (xs : List Int) (j : Nat) (hj : j < xs.length) : (iv xs)[j]? = some (.int .i64 (xs.getD j 0)) := by
  simp [iv, hj, List.getD]
theorem ivals_iv (xs : List Nat) : ivals xs = iv (xs.map fun (x : Nat) => (x : Int)) := by simp [ivals, iv]
theorem Rd.kept {S : Nat → Prop} {w w' : World} {a : Option Addr} {vs : List Value} (h : Rd w a vs) (hK : Kept S w w') (hS : ∀ b o, a = some ⟨b, o, none⟩ → ¬ S b) : Rd w' a vs := by
  rcases h with h | ⟨b, o, rfl, hc⟩
  · exact .inl h
  · by_cases h0 : vs = []
    · exact .inl h0
    refine .inr ⟨b, o, rfl, fun j hj => ?_⟩
    rw [← hc j hj]
    have hb : b < w.heap.size := by
      have := hc j hj
      rw [List.getElem?_eq_getElem hj] at this
      exact World.block_lt_of_cell? w _ this
    exact World.cell?_of_block (hK.block b hb (hS b o rfl))
theorem Rd.drewN {w : World} {a : Option Addr} {vs : List Value} (h : Rd w a vs) (n : Nat) : Rd (w.drewN n) a vs := h
theorem Rd.lt {w : World} {b o : Nat} {vs : List Value} (h : Rd w (some ⟨b, o, none⟩) vs) (hn : vs ≠ []) : b < w.heap.size := by
  rcases h with h | ⟨b', o', e, hc⟩
  · exact absurd h hn
  · have hj : 0 < vs.length := List.length_pos_iff.2 hn
    have := hc 0 hj
    rw [List.getElem?_eq_getElem hj] at this
    obtain ⟨rfl, rfl⟩ : b = b' ∧ o = o' := by simpa using e
    exact World.block_lt_of_cell? w _ this
theorem Rd.own {w : World} {base : Nat} {t : TypeId} {a : Option Addr} {n cap : Nat} {vs : List Value} (h : w.ownsRow base t 1 (.slice a n cap) n vs) : Rd w a vs := by
  rcases h.2 with ⟨h1, h2⟩ | ⟨g, c, cur, h1, h2, h3, h4, h5, h6, h7⟩
  · left
    have := h.1
    rw [h2] at this
    exact List.eq_nil_of_length_eq_zero (by simpa using this)
  · obtain ⟨rfl, rfl⟩ : a = some ⟨g, 0, none⟩ ∧ cap = c := by simpa using h1
    refine .inr ⟨g, 0, rfl, fun j hj => ?_⟩
    rw [Nat.zero_add, h.cellAt j (by have := h.1; omega)]

def eqi (xs ys : List Int) : Bool := decide (xs = ys)
theorem eqi_len {xs ys : List Int} (h : xs.length ≠ ys.length) : eqi xs ys = false := by
  unfold eqi; rw [decide_eq_false_iff_not]; intro e; rw [e] at h; exact h rfl
theorem eqi_at {xs ys : List Int} (k : Nat) (h : xs.getD k 0 ≠ ys.getD k 0) : eqi xs ys = false := by
  unfold eqi; rw [decide_eq_false_iff_not]; intro e; rw [e] at h; exact h rfl
theorem eqi_all {xs ys : List Int} (hl : xs.length = ys.length) (h : ∀ j, j < xs.length → xs.getD j 0 = ys.getD j 0) : eqi xs ys = true := by
  unfold eqi; rw [decide_eq_true_eq]
  apply List.ext_getElem hl
  intro i h1 h2
  have := h i h1
  simpa [List.getD, h1, h2] using this

set_option maxHeartbeats 1000000 in
theorem equal_any (a1 a2 : Option Addr) (c1 c2 : Nat) (xs ys : List Int) (w : World) (hx : Rd w a1 (iv xs)) (hy : Rd w a2 (iv ys)) (hlx : xs.length ≤ 9223372036854775807) (hly : ys.length ≤ 9223372036854775807) :
    Calls Try.prog 109 #[.slice a1 xs.length c1, .slice a2 ys.length c2] w fun e w' => e = .returned (.bool (eqi xs ys)) ∧ Kept nob w w' := by
  by_cases hl : xs.length = ys.length
  · have hlx0 := hl
    have HLL := Lib.hid hl
    rw [← hl] at hly ⊢
    clear hl hlx0
    go_enter Try.func109, Try.ntmps109
    go_wp2
    go_loopw [13] (fun i wr => ∃ k q : Nat, i = .int .i64 (k : Int) ∧ k ≤ xs.length ∧ wr = w.drewN q ∧ Hid (∀ j, j < k → xs.getD j 0 = ys.getD j 0)) (fun i _ => xs.length - (intOf i).toNat)
    case atStart => exact ⟨0, 0, rfl, by omega, rfl, fun j h => by omega⟩
    case round =>
      obtain ⟨k, q, rfl, hkl, rfl, hno⟩ := hrel
      by_cases hlt : k < xs.length
      · rcases hx with h | ⟨b1, o1, rfl, hc1⟩
        · have := iv_len xs; rw [h] at this; simp at this; omega
        rcases hy with h | ⟨b2, o2, rfl, hc2⟩
        · have := iv_len ys; rw [h] at this; have := HLL.out; simp at *; omega
        have hlt2 : k < ys.length := by rw [← HLL.out]; exact hlt
        have d1 : w.cell? ⟨b1, o1 + k, none⟩ = some (.int .i64 (xs.getD k 0)) := by
          rw [← iv_get xs k hlt, ← hc1 k (by rw [iv_len]; exact hlt)]
        have d2 : w.cell? ⟨b2, o2 + k, none⟩ = some (.int .i64 (ys.getD k 0)) := by
          rw [← iv_get ys k hlt2, ← hc2 k (by rw [iv_len]; exact hlt2)]
        obtain ⟨x, hx⟩ : ∃ x, x = xs.getD k 0 := ⟨_, rfl⟩
        obtain ⟨y, hy⟩ : ∃ y, y = ys.getD k 0 := ⟨_, rfl⟩
        rw [← hx] at d1
        rw [← hy] at d2
        have HX := Lib.hid hx
        have HY := Lib.hid hy
        clear hx hy hc1 hc2
        by_cases hxy : x = y
        · subst hxy
          go_wp2
          go_quiet (fail)
          go_wp2
          go_roundw
          case rel =>
            refine ⟨k + 1, q + nq, by go_num, by omega, rfl, fun j hj => ?_⟩
            by_cases e : j = k
            · rw [e, ← HX.out, ← HY.out]
            · exact hno.out j (by omega)
          case measure => simp [intOf]; omega
        · have hb : (x != y) = true := by simpa using hxy
          have HE := Lib.hid (eqi_at (xs := xs) (ys := ys) k (by rw [← HX.out, ← HY.out]; exact hxy))
          go_wp2
          go_quiet (fail)
          go_wp2
          go_ret
          exact ⟨ret_bool HE.out.symm, by rw [World.drewN_drewN]; exact Kept.drewN _ _ _⟩
      · have HE := Lib.hid (eqi_all HLL.out (fun j hj => hno.out j (by omega)))
        go_wp2
        go_ret
        exact ⟨ret_bool HE.out.symm, Kept.drewN _ _ _⟩
  · have HE := Lib.hid (eqi_len hl)
    have hb : ((xs.length : Int) != ys.length) = true := by simp only [bne_iff_ne, ne_eq]; omega
    clear hl
    go_enter Try.func109, Try.ntmps109
    go_wp2
    go_ret
    exact ⟨ret_bool HE.out.symm, Kept.refl _ _⟩
set_option maxHeartbeats 1000000 in
theorem ints_any (a1 a2 : Option Addr) (c1 c2 : Nat) (xs ys : List Int) (w : World) (hx : Rd w a1 (iv xs)) (hy : Rd w a2 (iv ys)) (hlx : xs.length ≤ 9223372036854775807) (hly : ys.length ≤ 9223372036854775807) :
    Calls Try.prog 31 #[.slice a1 xs.length c1, .slice a2 ys.length c2] w fun e w' => e = .returned (.bool (eqi xs ys)) ∧ Kept nob w w' := by
  by_cases hl : xs.length = ys.length
  · have hlx0 := hl
    have HLL := Lib.hid hl
    rw [← hl] at hly ⊢
    clear hl hlx0
    go_enter Try.func31, Try.ntmps31
    go_wp2
    go_loopw [5] (fun i wr => ∃ k q : Nat, i = .int .i64 (k : Int) ∧ k ≤ xs.length ∧ wr = w.drewN q ∧ Hid (∀ j, j < k → xs.getD j 0 = ys.getD j 0)) (fun i _ => xs.length - (intOf i).toNat)
    case atStart => exact ⟨0, 0, rfl, by omega, rfl, fun j h => by omega⟩
    case round =>
      obtain ⟨k, q, rfl, hkl, rfl, hno⟩ := hrel
      by_cases hlt : k < xs.length
      · rcases hx with h | ⟨b1, o1, rfl, hc1⟩
        · have := iv_len xs; rw [h] at this; simp at this; omega
        rcases hy with h | ⟨b2, o2, rfl, hc2⟩
        · have := iv_len ys; rw [h] at this; have := HLL.out; simp at *; omega
        have hlt2 : k < ys.length := by rw [← HLL.out]; exact hlt
        have d1 : w.cell? ⟨b1, o1 + k, none⟩ = some (.int .i64 (xs.getD k 0)) := by
          rw [← iv_get xs k hlt, ← hc1 k (by rw [iv_len]; exact hlt)]
        have d2 : w.cell? ⟨b2, o2 + k, none⟩ = some (.int .i64 (ys.getD k 0)) := by
          rw [← iv_get ys k hlt2, ← hc2 k (by rw [iv_len]; exact hlt2)]
        obtain ⟨x, hx⟩ : ∃ x, x = xs.getD k 0 := ⟨_, rfl⟩
        obtain ⟨y, hy⟩ : ∃ y, y = ys.getD k 0 := ⟨_, rfl⟩
        rw [← hx] at d1
        rw [← hy] at d2
        have HX := Lib.hid hx
        have HY := Lib.hid hy
        clear hx hy hc1 hc2
        by_cases hxy : x = y
        · subst hxy
          go_wp2
          go_quiet (fail)
          go_wp2
          go_roundw
          case rel =>
            refine ⟨k + 1, q + nq, by go_num, by omega, rfl, fun j hj => ?_⟩
            by_cases e : j = k
            · rw [e, ← HX.out, ← HY.out]
            · exact hno.out j (by omega)
          case measure => simp [intOf]; omega
        · have hb : (x != y) = true := by simpa using hxy
          have HE := Lib.hid (eqi_at (xs := xs) (ys := ys) k (by rw [← HX.out, ← HY.out]; exact hxy))
          go_wp2
          go_quiet (fail)
          go_wp2
          go_ret
          exact ⟨ret_bool HE.out.symm, by rw [World.drewN_drewN]; exact Kept.drewN _ _ _⟩
      · have HE := Lib.hid (eqi_all HLL.out (fun j hj => hno.out j (by omega)))
        go_wp2
        go_ret
        exact ⟨ret_bool HE.out.symm, Kept.drewN _ _ _⟩
  · have HE := Lib.hid (eqi_len hl)
    have hb : ((xs.length : Int) != ys.length) = true := by simp only [bne_iff_ne, ne_eq]; omega
    clear hl
    go_enter Try.func31, Try.ntmps31
    go_wp2
    go_ret
    exact ⟨ret_bool HE.out.symm, Kept.refl _ _⟩


theorem info_u64s : (Try.prog.info? 97).map (·.size) = some 1 := by kernel_rfl
theorem retRow_rd {w0 : World} {t : TypeId} {vs : List Value} {e : Ending} {w' : World} (h : RetRow w0 t vs e w') : ∃ a cap, e = .returned (.slice a vs.length cap) ∧ Rd w' a vs ∧ Kept nob w0 w' ∧ (∀ b o, a = some ⟨b, o, none⟩ → vs ≠ [] → w0.heap.size ≤ b) := by
  obtain ⟨a, cap, rfl, ho, hk⟩ := h
  refine ⟨a, cap, rfl, Rd.own ho, hk, fun b o e hn => ?_⟩
  subst e
  rcases ho.2 with ⟨h1, _⟩ | ⟨g, c, cur, h1, h2, _⟩
  · simp at h1
  · have : b = g := by simp at h1; exact h1.1.1
    omega

theorem lst_lt (n : Nat) (f : Nat → Bool) (hn : n ≤ 4096) : (lst n f).length ≤ 9223372036854775807 := by have := lst_len n f; omega

end Go.Proofs.Ythddfkemagpiaaa

/-
  What is proved: conchref24.param answers true for right parts, each way to it. Conditions: those of each theorem.
-/
import Derived.Test.YtbmapjgajecgfaaJ11
import Derived.BigQuiet
set_option linter.unusedVariables false
set_option linter.unusedSimpArgs false
namespace Go.Proofs.Ytbmapjgajecgfaa
open Go.RowKit
theorem kept_drewN (w : World) (n : Nat) : Kept nob w (w.drewN n) := kept_below (Go.Proofs.YtbmapjgajecgfaaW.PrintWords.Drawn0.below ⟨⟨n, rfl⟩⟩)
theorem ba_ext {a b : ByteArray} (h : a.toList = b.toList) : a = b := by
  rw [ByteArray.toList_eq, ByteArray.toList_eq] at h
  exact ByteArray.ext (Array.toList_inj.1 h)
/-- A function answers so, on this text. -/
def Ans (f : Nat) (tx : ByteArray) (b : Bool) : Prop := ∀ (w : World), Calls Try.prog f #[.string tx] w fun e w' => e = .returned (.bool b) ∧ Kept nob w w'
set_option maxRecDepth 100000 in
set_option maxHeartbeats 8000000 in
theorem par_e_A (w : World) (tx : ByteArray) (ka ca : Option Addr) (kc cc : Nat) (hname : Ans 89 tx true)  : Calls Try.prog 78 #[.agg #[.int .i64 5, .string tx, .string ⟨#[]⟩, .slice ka 0 kc, .slice ca 0 cc]] w (TrueW w) := by
  have HN := Lib.hid hname
  clear hname 
  go_enter Try.func78, Try.ntmps78
  go_wp2_with fail
  refine (HN.out _).mono ?_
  rintro e w2 ⟨rfl, hk⟩
  have HK2 := Lib.hid ((Kept.alloc w _ nob).trans hk (fun _ _ h => h))
  have HB2 := Lib.hid hk
  obtain ⟨d0, d1, d2, d3, d4⟩ := pcell ((hk.block w.heap.size (by simp) (fun h => h)).trans (alloc_blk w _))
  clear hk
  go_wp2
  go_ret
  exact ⟨rfl, HK2.out⟩
set_option maxRecDepth 100000 in
set_option maxHeartbeats 8000000 in
theorem par_l_A (w : World) (tx : ByteArray) (ka ca : Option Addr) (kc cc : Nat) (hname : Ans 89 tx true)  : Calls Try.prog 78 #[.agg #[.int .i64 5, .string tx, .string ⟨#[108, 101, 110]⟩, .slice ka 0 kc, .slice ca 0 cc]] w (TrueW w) := by
  have HN := Lib.hid hname
  clear hname 
  go_enter Try.func78, Try.ntmps78
  go_wp2_with fail
  refine (HN.out _).mono ?_
  rintro e w2 ⟨rfl, hk⟩
  have HK2 := Lib.hid ((Kept.alloc w _ nob).trans hk (fun _ _ h => h))
  have HB2 := Lib.hid hk
  obtain ⟨d0, d1, d2, d3, d4⟩ := pcell ((hk.block w.heap.size (by simp) (fun h => h)).trans (alloc_blk w _))
  clear hk
  go_wp2
  go_ret
  exact ⟨rfl, HK2.out⟩
set_option maxRecDepth 100000 in
set_option maxHeartbeats 8000000 in
theorem par_o_A (w : World) (tx : ByteArray) (op : ByteArray) (n : Nat) (ka ca : Option Addr) (kc cc : Nat) (hname : Ans 89 tx true) (hop : op ∈ opsL) (htx : tx ≠ ⟨#[35]⟩) (h37 : op ≠ ⟨#[37]⟩) (h35 : op ≠ ⟨#[35]⟩) (hall : ∀ w', Kept nob w w' → Calls Try.prog 29 #[.slice ka n kc, .int .i64 2] w' (TrueW w')) : Calls Try.prog 78 #[.agg #[.int .i64 5, .string tx, .string op, .slice ka n kc, .slice ca 0 cc]] w (TrueW w) := by
  have HN := Lib.hid hname
  have HO := Lib.hid (op_leaf hop)
  have HX := Lib.hid hall
  have q0 : ¬ op.toList = [] := by rw [ByteArray.toList_eq]; intro e; have : op = ⟨#[]⟩ := ByteArray.ext (Array.toList_inj.1 e); rw [this] at hop; exact absurd hop (by simp [opsL])
  have q0' : op.toList.isEmpty = false := by simpa using q0
  have q1 : ¬ op.toList = [108, 101, 110] := by rw [ByteArray.toList_eq]; intro e; have : op = ⟨#[108, 101, 110]⟩ := ByteArray.ext (Array.toList_inj.1 e); rw [this] at hop; exact absurd hop (by simp [opsL])
  have q2 : ¬ op.toList = [37] := by rw [ByteArray.toList_eq]; intro e; exact h37 (ByteArray.ext (Array.toList_inj.1 e))
  have q3 : ¬ op.toList = [35] := by rw [ByteArray.toList_eq]; intro e; exact h35 (ByteArray.ext (Array.toList_inj.1 e))
  have b1 : (op.toList == [108, 101, 110]) = false := beq_eq_false_iff_ne.2 q1
  have b2 : (op.toList == [37]) = false := beq_eq_false_iff_ne.2 q2
  have b3 : (op.toList == [35]) = false := beq_eq_false_iff_ne.2 q3
  have b2' : (op.toList != [37]) = true := bne_iff_ne.2 q2
  have b3' : (op.toList != [35]) = true := bne_iff_ne.2 q3
  have q4 : ¬ tx.toList = [35] := by rw [ByteArray.toList_eq]; intro e; exact htx (ByteArray.ext (Array.toList_inj.1 e))
  have b4 : (tx.toList == [35]) = false := beq_eq_false_iff_ne.2 q4
  clear hname hop hall h37 h35 htx
  go_enter Try.func78, Try.ntmps78
  go_wp2_with fail
  refine (HN.out _).mono ?_
  rintro e w2 ⟨rfl, hk⟩
  have HK2 := Lib.hid ((Kept.alloc w _ nob).trans hk (fun _ _ h => h))
  have HB2 := Lib.hid hk
  obtain ⟨d0, d1, d2, d3, d4⟩ := pcell ((hk.block w.heap.size (by simp) (fun h => h)).trans (alloc_blk w _))
  clear hk
  go_wp2_with fail
  refine (HO.out _).mono ?_
  rintro e w3 ⟨rfl, hk⟩
  have HK3 := Lib.hid (HK2.out.trans hk (fun _ _ h => h))
  have HB3 := Lib.hid (HB2.out.trans hk (fun _ _ h => h))
  clear d0 d1 d2 d3 d4
  obtain ⟨d0, d1, d2, d3, d4⟩ := pcell ((HB3.out.block w.heap.size (by simp) (fun h => h)).trans (alloc_blk w _))
  clear hk
  go_wp2_with fail
  refine (HX.out _ HK3.out).mono ?_
  rintro e w4 ⟨rfl, hk⟩
  have HK4 := Lib.hid (HK3.out.trans hk (fun _ _ h => h))
  have HB4 := Lib.hid (HB3.out.trans hk (fun _ _ h => h))
  clear d0 d1 d2 d3 d4
  obtain ⟨d0, d1, d2, d3, d4⟩ := pcell ((HB4.out.block w.heap.size (by simp) (fun h => h)).trans (alloc_blk w _))
  clear hk
  go_wp2
  go_ret
  exact ⟨rfl, HK4.out⟩
set_option maxRecDepth 100000 in
set_option maxHeartbeats 8000000 in
theorem par_n37_A (w : World) (tx : ByteArray) (ka ca : Option Addr) (kc cc : Nat) (hname : Ans 89 tx true) (htx : tx ≠ ⟨#[35]⟩) (hall : ∀ w', Kept nob w w' → Calls Try.prog 29 #[.slice ka 0 kc, .int .i64 2] w' (TrueW w')) : Calls Try.prog 78 #[.agg #[.int .i64 5, .string tx, .string ⟨#[37]⟩, .slice ka 0 kc, .slice ca 0 cc]] w (TrueW w) := by
  have HN := Lib.hid hname
  have HO := Lib.hid (op_leaf (op := ⟨#[37]⟩) (by simp [opsL]))
  have HX := Lib.hid hall
  have q4 : ¬ tx.toList = [35] := by rw [ByteArray.toList_eq]; intro e; exact htx (ByteArray.ext (Array.toList_inj.1 e))
  have b4 : (tx.toList == [35]) = false := beq_eq_false_iff_ne.2 q4
  clear hname hall htx
  go_enter Try.func78, Try.ntmps78
  go_wp2_with fail
  refine (HN.out _).mono ?_
  rintro e w2 ⟨rfl, hk⟩
  have HK2 := Lib.hid ((Kept.alloc w _ nob).trans hk (fun _ _ h => h))
  have HB2 := Lib.hid hk
  obtain ⟨d0, d1, d2, d3, d4⟩ := pcell ((hk.block w.heap.size (by simp) (fun h => h)).trans (alloc_blk w _))
  clear hk
  go_wp2_with fail
  refine (HO.out _).mono ?_
  rintro e w3 ⟨rfl, hk⟩
  have HK3 := Lib.hid (HK2.out.trans hk (fun _ _ h => h))
  have HB3 := Lib.hid (HB2.out.trans hk (fun _ _ h => h))
  clear d0 d1 d2 d3 d4
  obtain ⟨d0, d1, d2, d3, d4⟩ := pcell ((HB3.out.block w.heap.size (by simp) (fun h => h)).trans (alloc_blk w _))
  clear hk
  go_wp2_with fail
  refine (HX.out _ HK3.out).mono ?_
  rintro e w4 ⟨rfl, hk⟩
  have HK4 := Lib.hid (HK3.out.trans hk (fun _ _ h => h))
  have HB4 := Lib.hid (HB3.out.trans hk (fun _ _ h => h))
  clear d0 d1 d2 d3 d4
  obtain ⟨d0, d1, d2, d3, d4⟩ := pcell ((HB4.out.block w.heap.size (by simp) (fun h => h)).trans (alloc_blk w _))
  clear hk
  go_wp2
  go_ret
  exact ⟨rfl, HK4.out⟩
set_option maxRecDepth 100000 in
set_option maxHeartbeats 8000000 in
theorem par_k37_A (w : World) (tx : ByteArray) (ca : Option Addr) (g o : Nat) (kc cc : Nat) (hname : Ans 89 tx true) (n : Nat) (hn : 0 < n) (htx : tx ≠ ⟨#[35]⟩) (kk : Int) (t1 : ByteArray) (hk1 : kk ≠ 1) (hcell : ∀ w', Kept nob w w' → w'.cell? ⟨g, o, none⟩ = some (.int .i64 kk) ∧ w'.cell? ⟨g, o + 1, none⟩ = some (.string t1)) (hall : ∀ w', Kept nob w w' → Calls Try.prog 29 #[.slice (some ⟨g, o, none⟩) n kc, .int .i64 2] w' (TrueW w')) : Calls Try.prog 78 #[.agg #[.int .i64 5, .string tx, .string ⟨#[37]⟩, .slice (some ⟨g, o, none⟩) n  kc, .slice ca 0 cc]] w (TrueW w) := by
  have HN := Lib.hid hname
  have HO := Lib.hid (op_leaf (op := ⟨#[37]⟩) (by simp [opsL]))
  have HX := Lib.hid hall
  have HC := Lib.hid hcell
  have n0 : ((n : Int) == 0) = false := by rw [beq_eq_false_iff_ne]; omega
  have n1 : (0 : Int) < (n : Int) := by omega
  have k1 : (kk != 1) = true := by simpa using hk1
  have q4 : ¬ tx.toList = [35] := by rw [ByteArray.toList_eq]; intro e; exact htx (ByteArray.ext (Array.toList_inj.1 e))
  have b4 : (tx.toList == [35]) = false := beq_eq_false_iff_ne.2 q4
  clear hname hall htx hcell hk1
  go_enter Try.func78, Try.ntmps78
  go_wp2_with fail
  refine (HN.out _).mono ?_
  rintro e w2 ⟨rfl, hk⟩
  have HK2 := Lib.hid ((Kept.alloc w _ nob).trans hk (fun _ _ h => h))
  have HB2 := Lib.hid hk
  obtain ⟨d0, d1, d2, d3, d4⟩ := pcell ((hk.block w.heap.size (by simp) (fun h => h)).trans (alloc_blk w _))
  clear hk
  go_wp2_with fail
  refine (HO.out _).mono ?_
  rintro e w3 ⟨rfl, hk⟩
  have HK3 := Lib.hid (HK2.out.trans hk (fun _ _ h => h))
  have HB3 := Lib.hid (HB2.out.trans hk (fun _ _ h => h))
  clear d0 d1 d2 d3 d4
  obtain ⟨d0, d1, d2, d3, d4⟩ := pcell ((HB3.out.block w.heap.size (by simp) (fun h => h)).trans (alloc_blk w _))
  clear hk
  go_wp2_with fail
  refine (HX.out _ HK3.out).mono ?_
  rintro e w4 ⟨rfl, hk⟩
  have HK4 := Lib.hid (HK3.out.trans hk (fun _ _ h => h))
  have HB4 := Lib.hid (HB3.out.trans hk (fun _ _ h => h))
  clear d0 d1 d2 d3 d4
  obtain ⟨d0, d1, d2, d3, d4⟩ := pcell ((HB4.out.block w.heap.size (by simp) (fun h => h)).trans (alloc_blk w _))
  clear hk
  obtain ⟨f0, f1⟩ := HC.out _ HK4.out
  go_wp2_with fail
  go_quiet (fail)
  go_wp2
  go_ret
  exact ⟨rfl, HK4.out.trans (kept_drewN _ _) (fun _ _ h => h)⟩
set_option maxRecDepth 100000 in
set_option maxHeartbeats 8000000 in
theorem par_f37_A (w : World) (tx : ByteArray) (ca : Option Addr) (g o : Nat) (kc cc : Nat) (hname : Ans 89 tx true) (n : Nat) (hn : 0 < n) (htx : tx ≠ ⟨#[35]⟩) (t1 : ByteArray) (d : UInt8) (ht0 : t1.data.toList.head? = some d) (hd : d ≠ 37) (hcell : ∀ w', Kept nob w w' → w'.cell? ⟨g, o, none⟩ = some (.int .i64 1) ∧ w'.cell? ⟨g, o + 1, none⟩ = some (.string t1)) (hall : ∀ w', Kept nob w w' → Calls Try.prog 29 #[.slice (some ⟨g, o, none⟩) n kc, .int .i64 2] w' (TrueW w')) : Calls Try.prog 78 #[.agg #[.int .i64 5, .string tx, .string ⟨#[37]⟩, .slice (some ⟨g, o, none⟩) n  kc, .slice ca 0 cc]] w (TrueW w) := by
  have HN := Lib.hid hname
  have HO := Lib.hid (op_leaf (op := ⟨#[37]⟩) (by simp [opsL]))
  have HX := Lib.hid hall
  have HC := Lib.hid hcell
  have n0 : ((n : Int) == 0) = false := by rw [beq_eq_false_iff_ne]; omega
  have n1 : (0 : Int) < (n : Int) := by omega
  obtain ⟨r1, hr1⟩ : ∃ r, t1.data.toList = d :: r := by
    rcases e : t1.data.toList with _ | ⟨x, r⟩
    · rw [e] at ht0; cases ht0
    · rw [e] at ht0; obtain rfl : x = d := by simpa using ht0
      exact ⟨r, rfl⟩
  have hlt1 : 0 < t1.size := by
    have := congrArg List.length hr1
    simp at this
    omega
  have hix1 : ((t1[0]'hlt1).toNat : Int) = (d.toNat : Int) := by
    have : (t1[0]'hlt1) = d := by
      have h1 : t1.data.toList[0]'(by rw [hr1]; simp) = d := by simp [hr1]
      rw [← h1]; rfl
    rw [this]
  have e1 : ¬ (d.toNat : Int) = 37 := fun e => hd ((tn d 37).1 e)
  obtain ⟨y, hyd⟩ : ∃ y : Int, (d.toNat : Int) = y := ⟨_, rfl⟩
  rw [hyd] at hix1 e1
  have y5 : (y != 37) = true := by simpa using e1
  have q4 : ¬ tx.toList = [35] := by rw [ByteArray.toList_eq]; intro e; exact htx (ByteArray.ext (Array.toList_inj.1 e))
  have b4 : (tx.toList == [35]) = false := beq_eq_false_iff_ne.2 q4
  clear hname hall htx hcell ht0 hr1 hyd e1 hd
  go_enter Try.func78, Try.ntmps78
  go_wp2_with fail
  refine (HN.out _).mono ?_
  rintro e w2 ⟨rfl, hk⟩
  have HK2 := Lib.hid ((Kept.alloc w _ nob).trans hk (fun _ _ h => h))
  have HB2 := Lib.hid hk
  obtain ⟨d0, d1, d2, d3, d4⟩ := pcell ((hk.block w.heap.size (by simp) (fun h => h)).trans (alloc_blk w _))
  clear hk
  go_wp2_with fail
  refine (HO.out _).mono ?_
  rintro e w3 ⟨rfl, hk⟩
  have HK3 := Lib.hid (HK2.out.trans hk (fun _ _ h => h))
  have HB3 := Lib.hid (HB2.out.trans hk (fun _ _ h => h))
  clear d0 d1 d2 d3 d4
  obtain ⟨d0, d1, d2, d3, d4⟩ := pcell ((HB3.out.block w.heap.size (by simp) (fun h => h)).trans (alloc_blk w _))
  clear hk
  go_wp2_with fail
  refine (HX.out _ HK3.out).mono ?_
  rintro e w4 ⟨rfl, hk⟩
  have HK4 := Lib.hid (HK3.out.trans hk (fun _ _ h => h))
  have HB4 := Lib.hid (HB3.out.trans hk (fun _ _ h => h))
  clear d0 d1 d2 d3 d4
  obtain ⟨d0, d1, d2, d3, d4⟩ := pcell ((HB4.out.block w.heap.size (by simp) (fun h => h)).trans (alloc_blk w _))
  clear hk
  obtain ⟨f0, f1⟩ := HC.out _ HK4.out
  go_wp2_with fail
  go_quiet (fail)
  go_wp2
  go_ret
  exact ⟨(by show Ending.returned (Value.bool (y != (37 : Int))) = _; rw [y5]), HK4.out.trans (kept_drewN _ _) (fun _ _ h => h)⟩
set_option maxRecDepth 100000 in
set_option maxHeartbeats 8000000 in
theorem par_n35_A (w : World) (tx : ByteArray) (ka ca : Option Addr) (kc cc : Nat) (hname : Ans 89 tx true) (htx : tx ≠ ⟨#[35]⟩) (hall : ∀ w', Kept nob w w' → Calls Try.prog 29 #[.slice ka 0 kc, .int .i64 2] w' (TrueW w')) : Calls Try.prog 78 #[.agg #[.int .i64 5, .string tx, .string ⟨#[35]⟩, .slice ka 0 kc, .slice ca 0 cc]] w (TrueW w) := by
  have HN := Lib.hid hname
  have HO := Lib.hid (op_leaf (op := ⟨#[35]⟩) (by simp [opsL]))
  have HX := Lib.hid hall
  have q4 : ¬ tx.toList = [35] := by rw [ByteArray.toList_eq]; intro e; exact htx (ByteArray.ext (Array.toList_inj.1 e))
  have b4 : (tx.toList == [35]) = false := beq_eq_false_iff_ne.2 q4
  clear hname hall htx
  go_enter Try.func78, Try.ntmps78
  go_wp2_with fail
  refine (HN.out _).mono ?_
  rintro e w2 ⟨rfl, hk⟩
  have HK2 := Lib.hid ((Kept.alloc w _ nob).trans hk (fun _ _ h => h))
  have HB2 := Lib.hid hk
  obtain ⟨d0, d1, d2, d3, d4⟩ := pcell ((hk.block w.heap.size (by simp) (fun h => h)).trans (alloc_blk w _))
  clear hk
  go_wp2_with fail
  refine (HO.out _).mono ?_
  rintro e w3 ⟨rfl, hk⟩
  have HK3 := Lib.hid (HK2.out.trans hk (fun _ _ h => h))
  have HB3 := Lib.hid (HB2.out.trans hk (fun _ _ h => h))
  clear d0 d1 d2 d3 d4
  obtain ⟨d0, d1, d2, d3, d4⟩ := pcell ((HB3.out.block w.heap.size (by simp) (fun h => h)).trans (alloc_blk w _))
  clear hk
  go_wp2_with fail
  refine (HX.out _ HK3.out).mono ?_
  rintro e w4 ⟨rfl, hk⟩
  have HK4 := Lib.hid (HK3.out.trans hk (fun _ _ h => h))
  have HB4 := Lib.hid (HB3.out.trans hk (fun _ _ h => h))
  clear d0 d1 d2 d3 d4
  obtain ⟨d0, d1, d2, d3, d4⟩ := pcell ((HB4.out.block w.heap.size (by simp) (fun h => h)).trans (alloc_blk w _))
  clear hk
  go_wp2
  go_ret
  exact ⟨rfl, HK4.out⟩
set_option maxRecDepth 100000 in
set_option maxHeartbeats 8000000 in
theorem par_k35_A (w : World) (tx : ByteArray) (ca : Option Addr) (g o : Nat) (kc cc : Nat) (hname : Ans 89 tx true) (n : Nat) (hn : 0 < n) (htx : tx ≠ ⟨#[35]⟩) (kk : Int) (t1 : ByteArray) (hk1 : kk ≠ 1) (hcell : ∀ w', Kept nob w w' → w'.cell? ⟨g, o, none⟩ = some (.int .i64 kk) ∧ w'.cell? ⟨g, o + 1, none⟩ = some (.string t1)) (hall : ∀ w', Kept nob w w' → Calls Try.prog 29 #[.slice (some ⟨g, o, none⟩) n kc, .int .i64 2] w' (TrueW w')) : Calls Try.prog 78 #[.agg #[.int .i64 5, .string tx, .string ⟨#[35]⟩, .slice (some ⟨g, o, none⟩) n  kc, .slice ca 0 cc]] w (TrueW w) := by
  have HN := Lib.hid hname
  have HO := Lib.hid (op_leaf (op := ⟨#[35]⟩) (by simp [opsL]))
  have HX := Lib.hid hall
  have HC := Lib.hid hcell
  have n0 : ((n : Int) == 0) = false := by rw [beq_eq_false_iff_ne]; omega
  have n1 : (0 : Int) < (n : Int) := by omega
  have k1 : (kk != 1) = true := by simpa using hk1
  have q4 : ¬ tx.toList = [35] := by rw [ByteArray.toList_eq]; intro e; exact htx (ByteArray.ext (Array.toList_inj.1 e))
  have b4 : (tx.toList == [35]) = false := beq_eq_false_iff_ne.2 q4
  clear hname hall htx hcell hk1
  go_enter Try.func78, Try.ntmps78
  go_wp2_with fail
  refine (HN.out _).mono ?_
  rintro e w2 ⟨rfl, hk⟩
  have HK2 := Lib.hid ((Kept.alloc w _ nob).trans hk (fun _ _ h => h))
  have HB2 := Lib.hid hk
  obtain ⟨d0, d1, d2, d3, d4⟩ := pcell ((hk.block w.heap.size (by simp) (fun h => h)).trans (alloc_blk w _))
  clear hk
  go_wp2_with fail
  refine (HO.out _).mono ?_
  rintro e w3 ⟨rfl, hk⟩
  have HK3 := Lib.hid (HK2.out.trans hk (fun _ _ h => h))
  have HB3 := Lib.hid (HB2.out.trans hk (fun _ _ h => h))
  clear d0 d1 d2 d3 d4
  obtain ⟨d0, d1, d2, d3, d4⟩ := pcell ((HB3.out.block w.heap.size (by simp) (fun h => h)).trans (alloc_blk w _))
  clear hk
  go_wp2_with fail
  refine (HX.out _ HK3.out).mono ?_
  rintro e w4 ⟨rfl, hk⟩
  have HK4 := Lib.hid (HK3.out.trans hk (fun _ _ h => h))
  have HB4 := Lib.hid (HB3.out.trans hk (fun _ _ h => h))
  clear d0 d1 d2 d3 d4
  obtain ⟨d0, d1, d2, d3, d4⟩ := pcell ((HB4.out.block w.heap.size (by simp) (fun h => h)).trans (alloc_blk w _))
  clear hk
  obtain ⟨f0, f1⟩ := HC.out _ HK4.out
  go_wp2_with fail
  go_quiet (fail)
  go_wp2
  go_ret
  exact ⟨rfl, HK4.out.trans (kept_drewN _ _) (fun _ _ h => h)⟩
set_option maxRecDepth 100000 in
set_option maxHeartbeats 8000000 in
theorem par_f35_A (w : World) (tx : ByteArray) (ca : Option Addr) (g o : Nat) (kc cc : Nat) (hname : Ans 89 tx true) (n : Nat) (hn : 0 < n) (htx : tx ≠ ⟨#[35]⟩) (t1 : ByteArray) (d : UInt8) (ht0 : t1.data.toList.head? = some d) (hd : d ≠ 35) (hcell : ∀ w', Kept nob w w' → w'.cell? ⟨g, o, none⟩ = some (.int .i64 1) ∧ w'.cell? ⟨g, o + 1, none⟩ = some (.string t1)) (hall : ∀ w', Kept nob w w' → Calls Try.prog 29 #[.slice (some ⟨g, o, none⟩) n kc, .int .i64 2] w' (TrueW w')) : Calls Try.prog 78 #[.agg #[.int .i64 5, .string tx, .string ⟨#[35]⟩, .slice (some ⟨g, o, none⟩) n  kc, .slice ca 0 cc]] w (TrueW w) := by
  have HN := Lib.hid hname
  have HO := Lib.hid (op_leaf (op := ⟨#[35]⟩) (by simp [opsL]))
  have HX := Lib.hid hall
  have HC := Lib.hid hcell
  have n0 : ((n : Int) == 0) = false := by rw [beq_eq_false_iff_ne]; omega
  have n1 : (0 : Int) < (n : Int) := by omega
  obtain ⟨r1, hr1⟩ : ∃ r, t1.data.toList = d :: r := by
    rcases e : t1.data.toList with _ | ⟨x, r⟩
    · rw [e] at ht0; cases ht0
    · rw [e] at ht0; obtain rfl : x = d := by simpa using ht0
      exact ⟨r, rfl⟩
  have hlt1 : 0 < t1.size := by
    have := congrArg List.length hr1
    simp at this
    omega
  have hix1 : ((t1[0]'hlt1).toNat : Int) = (d.toNat : Int) := by
    have : (t1[0]'hlt1) = d := by
      have h1 : t1.data.toList[0]'(by rw [hr1]; simp) = d := by simp [hr1]
      rw [← h1]; rfl
    rw [this]
  have e1 : ¬ (d.toNat : Int) = 35 := fun e => hd ((tn d 35).1 e)
  obtain ⟨y, hyd⟩ : ∃ y : Int, (d.toNat : Int) = y := ⟨_, rfl⟩
  rw [hyd] at hix1 e1
  have y5 : (y != 35) = true := by simpa using e1
  have q4 : ¬ tx.toList = [35] := by rw [ByteArray.toList_eq]; intro e; exact htx (ByteArray.ext (Array.toList_inj.1 e))
  have b4 : (tx.toList == [35]) = false := beq_eq_false_iff_ne.2 q4
  clear hname hall htx hcell ht0 hr1 hyd e1 hd
  go_enter Try.func78, Try.ntmps78
  go_wp2_with fail
  refine (HN.out _).mono ?_
  rintro e w2 ⟨rfl, hk⟩
  have HK2 := Lib.hid ((Kept.alloc w _ nob).trans hk (fun _ _ h => h))
  have HB2 := Lib.hid hk
  obtain ⟨d0, d1, d2, d3, d4⟩ := pcell ((hk.block w.heap.size (by simp) (fun h => h)).trans (alloc_blk w _))
  clear hk
  go_wp2_with fail
  refine (HO.out _).mono ?_
  rintro e w3 ⟨rfl, hk⟩
  have HK3 := Lib.hid (HK2.out.trans hk (fun _ _ h => h))
  have HB3 := Lib.hid (HB2.out.trans hk (fun _ _ h => h))
  clear d0 d1 d2 d3 d4
  obtain ⟨d0, d1, d2, d3, d4⟩ := pcell ((HB3.out.block w.heap.size (by simp) (fun h => h)).trans (alloc_blk w _))
  clear hk
  go_wp2_with fail
  refine (HX.out _ HK3.out).mono ?_
  rintro e w4 ⟨rfl, hk⟩
  have HK4 := Lib.hid (HK3.out.trans hk (fun _ _ h => h))
  have HB4 := Lib.hid (HB3.out.trans hk (fun _ _ h => h))
  clear d0 d1 d2 d3 d4
  obtain ⟨d0, d1, d2, d3, d4⟩ := pcell ((HB4.out.block w.heap.size (by simp) (fun h => h)).trans (alloc_blk w _))
  clear hk
  obtain ⟨f0, f1⟩ := HC.out _ HK4.out
  go_wp2_with fail
  go_quiet (fail)
  go_wp2
  go_ret
  exact ⟨(by show Ending.returned (Value.bool (y != (35 : Int))) = _; rw [y5]), HK4.out.trans (kept_drewN _ _) (fun _ _ h => h)⟩
set_option maxRecDepth 100000 in
set_option maxHeartbeats 8000000 in
theorem par_e_B (w : World) (tx : ByteArray) (ka ca : Option Addr) (kc cc : Nat) (hname : Ans 89 tx false) (hdig : Ans 90 tx true)  : Calls Try.prog 78 #[.agg #[.int .i64 5, .string tx, .string ⟨#[]⟩, .slice ka 0 kc, .slice ca 0 cc]] w (TrueW w) := by
  have HN := Lib.hid hname
  have HD := Lib.hid hdig
  clear hname hdig 
  go_enter Try.func78, Try.ntmps78
  go_wp2_with fail
  refine (HN.out _).mono ?_
  rintro e w2 ⟨rfl, hk⟩
  have HK2 := Lib.hid ((Kept.alloc w _ nob).trans hk (fun _ _ h => h))
  have HB2 := Lib.hid hk
  obtain ⟨d0, d1, d2, d3, d4⟩ := pcell ((hk.block w.heap.size (by simp) (fun h => h)).trans (alloc_blk w _))
  clear hk
  go_wp2_with fail
  refine (HD.out _).mono ?_
  rintro e w3 ⟨rfl, hk⟩
  have HK3 := Lib.hid (HK2.out.trans hk (fun _ _ h => h))
  have HB3 := Lib.hid (HB2.out.trans hk (fun _ _ h => h))
  clear d0 d1 d2 d3 d4
  obtain ⟨d0, d1, d2, d3, d4⟩ := pcell ((HB3.out.block w.heap.size (by simp) (fun h => h)).trans (alloc_blk w _))
  clear hk
  go_wp2
  go_ret
  exact ⟨rfl, HK3.out⟩
set_option maxRecDepth 100000 in
set_option maxHeartbeats 8000000 in
theorem par_l_B (w : World) (tx : ByteArray) (ka ca : Option Addr) (kc cc : Nat) (hname : Ans 89 tx false) (hdig : Ans 90 tx true)  : Calls Try.prog 78 #[.agg #[.int .i64 5, .string tx, .string ⟨#[108, 101, 110]⟩, .slice ka 0 kc, .slice ca 0 cc]] w (TrueW w) := by
  have HN := Lib.hid hname
  have HD := Lib.hid hdig
  clear hname hdig 
  go_enter Try.func78, Try.ntmps78
  go_wp2_with fail
  refine (HN.out _).mono ?_
  rintro e w2 ⟨rfl, hk⟩
  have HK2 := Lib.hid ((Kept.alloc w _ nob).trans hk (fun _ _ h => h))
  have HB2 := Lib.hid hk
  obtain ⟨d0, d1, d2, d3, d4⟩ := pcell ((hk.block w.heap.size (by simp) (fun h => h)).trans (alloc_blk w _))
  clear hk
  go_wp2_with fail
  refine (HD.out _).mono ?_
  rintro e w3 ⟨rfl, hk⟩
  have HK3 := Lib.hid (HK2.out.trans hk (fun _ _ h => h))
  have HB3 := Lib.hid (HB2.out.trans hk (fun _ _ h => h))
  clear d0 d1 d2 d3 d4
  obtain ⟨d0, d1, d2, d3, d4⟩ := pcell ((HB3.out.block w.heap.size (by simp) (fun h => h)).trans (alloc_blk w _))
  clear hk
  go_wp2
  go_ret
  exact ⟨rfl, HK3.out⟩
set_option maxRecDepth 100000 in
set_option maxHeartbeats 8000000 in
theorem par_o_B (w : World) (tx : ByteArray) (op : ByteArray) (n : Nat) (ka ca : Option Addr) (kc cc : Nat) (hname : Ans 89 tx false) (hdig : Ans 90 tx true) (hop : op ∈ opsL) (htx : tx ≠ ⟨#[35]⟩) (h37 : op ≠ ⟨#[37]⟩) (h35 : op ≠ ⟨#[35]⟩) (hall : ∀ w', Kept nob w w' → Calls Try.prog 29 #[.slice ka n kc, .int .i64 2] w' (TrueW w')) : Calls Try.prog 78 #[.agg #[.int .i64 5, .string tx, .string op, .slice ka n kc, .slice ca 0 cc]] w (TrueW w) := by
  have HN := Lib.hid hname
  have HD := Lib.hid hdig
  have HO := Lib.hid (op_leaf hop)
  have HX := Lib.hid hall
  have q0 : ¬ op.toList = [] := by rw [ByteArray.toList_eq]; intro e; have : op = ⟨#[]⟩ := ByteArray.ext (Array.toList_inj.1 e); rw [this] at hop; exact absurd hop (by simp [opsL])
  have q0' : op.toList.isEmpty = false := by simpa using q0
  have q1 : ¬ op.toList = [108, 101, 110] := by rw [ByteArray.toList_eq]; intro e; have : op = ⟨#[108, 101, 110]⟩ := ByteArray.ext (Array.toList_inj.1 e); rw [this] at hop; exact absurd hop (by simp [opsL])
  have q2 : ¬ op.toList = [37] := by rw [ByteArray.toList_eq]; intro e; exact h37 (ByteArray.ext (Array.toList_inj.1 e))
  have q3 : ¬ op.toList = [35] := by rw [ByteArray.toList_eq]; intro e; exact h35 (ByteArray.ext (Array.toList_inj.1 e))
  have b1 : (op.toList == [108, 101, 110]) = false := beq_eq_false_iff_ne.2 q1
  have b2 : (op.toList == [37]) = false := beq_eq_false_iff_ne.2 q2
  have b3 : (op.toList == [35]) = false := beq_eq_false_iff_ne.2 q3
  have b2' : (op.toList != [37]) = true := bne_iff_ne.2 q2
  have b3' : (op.toList != [35]) = true := bne_iff_ne.2 q3
  have q4 : ¬ tx.toList = [35] := by rw [ByteArray.toList_eq]; intro e; exact htx (ByteArray.ext (Array.toList_inj.1 e))
  have b4 : (tx.toList == [35]) = false := beq_eq_false_iff_ne.2 q4
  clear hname hdig hop hall h37 h35 htx
  go_enter Try.func78, Try.ntmps78
  go_wp2_with fail
  refine (HN.out _).mono ?_
  rintro e w2 ⟨rfl, hk⟩
  have HK2 := Lib.hid ((Kept.alloc w _ nob).trans hk (fun _ _ h => h))
  have HB2 := Lib.hid hk
  obtain ⟨d0, d1, d2, d3, d4⟩ := pcell ((hk.block w.heap.size (by simp) (fun h => h)).trans (alloc_blk w _))
  clear hk
  go_wp2_with fail
  refine (HD.out _).mono ?_
  rintro e w3 ⟨rfl, hk⟩
  have HK3 := Lib.hid (HK2.out.trans hk (fun _ _ h => h))
  have HB3 := Lib.hid (HB2.out.trans hk (fun _ _ h => h))
  clear d0 d1 d2 d3 d4
  obtain ⟨d0, d1, d2, d3, d4⟩ := pcell ((HB3.out.block w.heap.size (by simp) (fun h => h)).trans (alloc_blk w _))
  clear hk
  go_wp2_with fail
  refine (HO.out _).mono ?_
  rintro e w4 ⟨rfl, hk⟩
  have HK4 := Lib.hid (HK3.out.trans hk (fun _ _ h => h))
  have HB4 := Lib.hid (HB3.out.trans hk (fun _ _ h => h))
  clear d0 d1 d2 d3 d4
  obtain ⟨d0, d1, d2, d3, d4⟩ := pcell ((HB4.out.block w.heap.size (by simp) (fun h => h)).trans (alloc_blk w _))
  clear hk
  go_wp2_with fail
  refine (HX.out _ HK4.out).mono ?_
  rintro e w5 ⟨rfl, hk⟩
  have HK5 := Lib.hid (HK4.out.trans hk (fun _ _ h => h))
  have HB5 := Lib.hid (HB4.out.trans hk (fun _ _ h => h))
  clear d0 d1 d2 d3 d4
  obtain ⟨d0, d1, d2, d3, d4⟩ := pcell ((HB5.out.block w.heap.size (by simp) (fun h => h)).trans (alloc_blk w _))
  clear hk
  go_wp2
  go_ret
  exact ⟨rfl, HK5.out⟩
set_option maxRecDepth 100000 in
set_option maxHeartbeats 8000000 in
theorem par_n37_B (w : World) (tx : ByteArray) (ka ca : Option Addr) (kc cc : Nat) (hname : Ans 89 tx false) (hdig : Ans 90 tx true) (htx : tx ≠ ⟨#[35]⟩) (hall : ∀ w', Kept nob w w' → Calls Try.prog 29 #[.slice ka 0 kc, .int .i64 2] w' (TrueW w')) : Calls Try.prog 78 #[.agg #[.int .i64 5, .string tx, .string ⟨#[37]⟩, .slice ka 0 kc, .slice ca 0 cc]] w (TrueW w) := by
  have HN := Lib.hid hname
  have HD := Lib.hid hdig
  have HO := Lib.hid (op_leaf (op := ⟨#[37]⟩) (by simp [opsL]))
  have HX := Lib.hid hall
  have q4 : ¬ tx.toList = [35] := by rw [ByteArray.toList_eq]; intro e; exact htx (ByteArray.ext (Array.toList_inj.1 e))
  have b4 : (tx.toList == [35]) = false := beq_eq_false_iff_ne.2 q4
  clear hname hdig hall htx
  go_enter Try.func78, Try.ntmps78
  go_wp2_with fail
  refine (HN.out _).mono ?_
  rintro e w2 ⟨rfl, hk⟩
  have HK2 := Lib.hid ((Kept.alloc w _ nob).trans hk (fun _ _ h => h))
  have HB2 := Lib.hid hk
  obtain ⟨d0, d1, d2, d3, d4⟩ := pcell ((hk.block w.heap.size (by simp) (fun h => h)).trans (alloc_blk w _))
  clear hk
  go_wp2_with fail
  refine (HD.out _).mono ?_
  rintro e w3 ⟨rfl, hk⟩
  have HK3 := Lib.hid (HK2.out.trans hk (fun _ _ h => h))
  have HB3 := Lib.hid (HB2.out.trans hk (fun _ _ h => h))
  clear d0 d1 d2 d3 d4
  obtain ⟨d0, d1, d2, d3, d4⟩ := pcell ((HB3.out.block w.heap.size (by simp) (fun h => h)).trans (alloc_blk w _))
  clear hk
  go_wp2_with fail
  refine (HO.out _).mono ?_
  rintro e w4 ⟨rfl, hk⟩
  have HK4 := Lib.hid (HK3.out.trans hk (fun _ _ h => h))
  have HB4 := Lib.hid (HB3.out.trans hk (fun _ _ h => h))
  clear d0 d1 d2 d3 d4
  obtain ⟨d0, d1, d2, d3, d4⟩ := pcell ((HB4.out.block w.heap.size (by simp) (fun h => h)).trans (alloc_blk w _))
  clear hk
  go_wp2_with fail
  refine (HX.out _ HK4.out).mono ?_
  rintro e w5 ⟨rfl, hk⟩
  have HK5 := Lib.hid (HK4.out.trans hk (fun _ _ h => h))
  have HB5 := Lib.hid (HB4.out.trans hk (fun _ _ h => h))
  clear d0 d1 d2 d3 d4
  obtain ⟨d0, d1, d2, d3, d4⟩ := pcell ((HB5.out.block w.heap.size (by simp) (fun h => h)).trans (alloc_blk w _))
  clear hk
  go_wp2
  go_ret
  exact ⟨rfl, HK5.out⟩
set_option maxRecDepth 100000 in
set_option maxHeartbeats 8000000 in
theorem par_k37_B (w : World) (tx : ByteArray) (ca : Option Addr) (g o : Nat) (kc cc : Nat) (hname : Ans 89 tx false) (hdig : Ans 90 tx true) (n : Nat) (hn : 0 < n) (htx : tx ≠ ⟨#[35]⟩) (kk : Int) (t1 : ByteArray) (hk1 : kk ≠ 1) (hcell : ∀ w', Kept nob w w' → w'.cell? ⟨g, o, none⟩ = some (.int .i64 kk) ∧ w'.cell? ⟨g, o + 1, none⟩ = some (.string t1)) (hall : ∀ w', Kept nob w w' → Calls Try.prog 29 #[.slice (some ⟨g, o, none⟩) n kc, .int .i64 2] w' (TrueW w')) : Calls Try.prog 78 #[.agg #[.int .i64 5, .string tx, .string ⟨#[37]⟩, .slice (some ⟨g, o, none⟩) n  kc, .slice ca 0 cc]] w (TrueW w) := by
  have HN := Lib.hid hname
  have HD := Lib.hid hdig
  have HO := Lib.hid (op_leaf (op := ⟨#[37]⟩) (by simp [opsL]))
  have HX := Lib.hid hall
  have HC := Lib.hid hcell
  have n0 : ((n : Int) == 0) = false := by rw [beq_eq_false_iff_ne]; omega
  have n1 : (0 : Int) < (n : Int) := by omega
  have k1 : (kk != 1) = true := by simpa using hk1
  have q4 : ¬ tx.toList = [35] := by rw [ByteArray.toList_eq]; intro e; exact htx (ByteArray.ext (Array.toList_inj.1 e))
  have b4 : (tx.toList == [35]) = false := beq_eq_false_iff_ne.2 q4
  clear hname hdig hall htx hcell hk1
  go_enter Try.func78, Try.ntmps78
  go_wp2_with fail
  refine (HN.out _).mono ?_
  rintro e w2 ⟨rfl, hk⟩
  have HK2 := Lib.hid ((Kept.alloc w _ nob).trans hk (fun _ _ h => h))
  have HB2 := Lib.hid hk
  obtain ⟨d0, d1, d2, d3, d4⟩ := pcell ((hk.block w.heap.size (by simp) (fun h => h)).trans (alloc_blk w _))
  clear hk
  go_wp2_with fail
  refine (HD.out _).mono ?_
  rintro e w3 ⟨rfl, hk⟩
  have HK3 := Lib.hid (HK2.out.trans hk (fun _ _ h => h))
  have HB3 := Lib.hid (HB2.out.trans hk (fun _ _ h => h))
  clear d0 d1 d2 d3 d4
  obtain ⟨d0, d1, d2, d3, d4⟩ := pcell ((HB3.out.block w.heap.size (by simp) (fun h => h)).trans (alloc_blk w _))
  clear hk
  go_wp2_with fail
  refine (HO.out _).mono ?_
  rintro e w4 ⟨rfl, hk⟩
  have HK4 := Lib.hid (HK3.out.trans hk (fun _ _ h => h))
  have HB4 := Lib.hid (HB3.out.trans hk (fun _ _ h => h))
  clear d0 d1 d2 d3 d4
  obtain ⟨d0, d1, d2, d3, d4⟩ := pcell ((HB4.out.block w.heap.size (by simp) (fun h => h)).trans (alloc_blk w _))
  clear hk
  go_wp2_with fail
  refine (HX.out _ HK4.out).mono ?_
  rintro e w5 ⟨rfl, hk⟩
  have HK5 := Lib.hid (HK4.out.trans hk (fun _ _ h => h))
  have HB5 := Lib.hid (HB4.out.trans hk (fun _ _ h => h))
  clear d0 d1 d2 d3 d4
  obtain ⟨d0, d1, d2, d3, d4⟩ := pcell ((HB5.out.block w.heap.size (by simp) (fun h => h)).trans (alloc_blk w _))
  clear hk
  obtain ⟨f0, f1⟩ := HC.out _ HK5.out
  go_wp2_with fail
  go_quiet (fail)
  go_wp2
  go_ret
  exact ⟨rfl, HK5.out.trans (kept_drewN _ _) (fun _ _ h => h)⟩
set_option maxRecDepth 100000 in
set_option maxHeartbeats 8000000 in
theorem par_f37_B (w : World) (tx : ByteArray) (ca : Option Addr) (g o : Nat) (kc cc : Nat) (hname : Ans 89 tx false) (hdig : Ans 90 tx true) (n : Nat) (hn : 0 < n) (htx : tx ≠ ⟨#[35]⟩) (t1 : ByteArray) (d : UInt8) (ht0 : t1.data.toList.head? = some d) (hd : d ≠ 37) (hcell : ∀ w', Kept nob w w' → w'.cell? ⟨g, o, none⟩ = some (.int .i64 1) ∧ w'.cell? ⟨g, o + 1, none⟩ = some (.string t1)) (hall : ∀ w', Kept nob w w' → Calls Try.prog 29 #[.slice (some ⟨g, o, none⟩) n kc, .int .i64 2] w' (TrueW w')) : Calls Try.prog 78 #[.agg #[.int .i64 5, .string tx, .string ⟨#[37]⟩, .slice (some ⟨g, o, none⟩) n  kc, .slice ca 0 cc]] w (TrueW w) := by
  have HN := Lib.hid hname
  have HD := Lib.hid hdig
  have HO := Lib.hid (op_leaf (op := ⟨#[37]⟩) (by simp [opsL]))
  have HX := Lib.hid hall
  have HC := Lib.hid hcell
  have n0 : ((n : Int) == 0) = false := by rw [beq_eq_false_iff_ne]; omega
  have n1 : (0 : Int) < (n : Int) := by omega
  obtain ⟨r1, hr1⟩ : ∃ r, t1.data.toList = d :: r := by
    rcases e : t1.data.toList with _ | ⟨x, r⟩
    · rw [e] at ht0; cases ht0
    · rw [e] at ht0; obtain rfl : x = d := by simpa using ht0
      exact ⟨r, rfl⟩
  have hlt1 : 0 < t1.size := by
    have := congrArg List.length hr1
    simp at this
    omega
  have hix1 : ((t1[0]'hlt1).toNat : Int) = (d.toNat : Int) := by
    have : (t1[0]'hlt1) = d := by
      have h1 : t1.data.toList[0]'(by rw [hr1]; simp) = d := by simp [hr1]
      rw [← h1]; rfl
    rw [this]
  have e1 : ¬ (d.toNat : Int) = 37 := fun e => hd ((tn d 37).1 e)
  obtain ⟨y, hyd⟩ : ∃ y : Int, (d.toNat : Int) = y := ⟨_, rfl⟩
  rw [hyd] at hix1 e1
  have y5 : (y != 37) = true := by simpa using e1
  have q4 : ¬ tx.toList = [35] := by rw [ByteArray.toList_eq]; intro e; exact htx (ByteArray.ext (Array.toList_inj.1 e))
  have b4 : (tx.toList == [35]) = false := beq_eq_false_iff_ne.2 q4
  clear hname hdig hall htx hcell ht0 hr1 hyd e1 hd
  go_enter Try.func78, Try.ntmps78
  go_wp2_with fail
  refine (HN.out _).mono ?_
  rintro e w2 ⟨rfl, hk⟩
  have HK2 := Lib.hid ((Kept.alloc w _ nob).trans hk (fun _ _ h => h))
  have HB2 := Lib.hid hk
  obtain ⟨d0, d1, d2, d3, d4⟩ := pcell ((hk.block w.heap.size (by simp) (fun h => h)).trans (alloc_blk w _))
  clear hk
  go_wp2_with fail
  refine (HD.out _).mono ?_
  rintro e w3 ⟨rfl, hk⟩
  have HK3 := Lib.hid (HK2.out.trans hk (fun _ _ h => h))
  have HB3 := Lib.hid (HB2.out.trans hk (fun _ _ h => h))
  clear d0 d1 d2 d3 d4
  obtain ⟨d0, d1, d2, d3, d4⟩ := pcell ((HB3.out.block w.heap.size (by simp) (fun h => h)).trans (alloc_blk w _))
  clear hk
  go_wp2_with fail
  refine (HO.out _).mono ?_
  rintro e w4 ⟨rfl, hk⟩
  have HK4 := Lib.hid (HK3.out.trans hk (fun _ _ h => h))
  have HB4 := Lib.hid (HB3.out.trans hk (fun _ _ h => h))
  clear d0 d1 d2 d3 d4
  obtain ⟨d0, d1, d2, d3, d4⟩ := pcell ((HB4.out.block w.heap.size (by simp) (fun h => h)).trans (alloc_blk w _))
  clear hk
  go_wp2_with fail
  refine (HX.out _ HK4.out).mono ?_
  rintro e w5 ⟨rfl, hk⟩
  have HK5 := Lib.hid (HK4.out.trans hk (fun _ _ h => h))
  have HB5 := Lib.hid (HB4.out.trans hk (fun _ _ h => h))
  clear d0 d1 d2 d3 d4
  obtain ⟨d0, d1, d2, d3, d4⟩ := pcell ((HB5.out.block w.heap.size (by simp) (fun h => h)).trans (alloc_blk w _))
  clear hk
  obtain ⟨f0, f1⟩ := HC.out _ HK5.out
  go_wp2_with fail
  go_quiet (fail)
  go_wp2
  go_ret
  exact ⟨(by show Ending.returned (Value.bool (y != (37 : Int))) = _; rw [y5]), HK5.out.trans (kept_drewN _ _) (fun _ _ h => h)⟩
set_option maxRecDepth 100000 in
set_option maxHeartbeats 8000000 in
theorem par_n35_B (w : World) (tx : ByteArray) (ka ca : Option Addr) (kc cc : Nat) (hname : Ans 89 tx false) (hdig : Ans 90 tx true) (htx : tx ≠ ⟨#[35]⟩) (hall : ∀ w', Kept nob w w' → Calls Try.prog 29 #[.slice ka 0 kc, .int .i64 2] w' (TrueW w')) : Calls Try.prog 78 #[.agg #[.int .i64 5, .string tx, .string ⟨#[35]⟩, .slice ka 0 kc, .slice ca 0 cc]] w (TrueW w) := by
  have HN := Lib.hid hname
  have HD := Lib.hid hdig
  have HO := Lib.hid (op_leaf (op := ⟨#[35]⟩) (by simp [opsL]))
  have HX := Lib.hid hall
  have q4 : ¬ tx.toList = [35] := by rw [ByteArray.toList_eq]; intro e; exact htx (ByteArray.ext (Array.toList_inj.1 e))
  have b4 : (tx.toList == [35]) = false := beq_eq_false_iff_ne.2 q4
  clear hname hdig hall htx
  go_enter Try.func78, Try.ntmps78
  go_wp2_with fail
  refine (HN.out _).mono ?_
  rintro e w2 ⟨rfl, hk⟩
  have HK2 := Lib.hid ((Kept.alloc w _ nob).trans hk (fun _ _ h => h))
  have HB2 := Lib.hid hk
  obtain ⟨d0, d1, d2, d3, d4⟩ := pcell ((hk.block w.heap.size (by simp) (fun h => h)).trans (alloc_blk w _))
  clear hk
  go_wp2_with fail
  refine (HD.out _).mono ?_
  rintro e w3 ⟨rfl, hk⟩
  have HK3 := Lib.hid (HK2.out.trans hk (fun _ _ h => h))
  have HB3 := Lib.hid (HB2.out.trans hk (fun _ _ h => h))
  clear d0 d1 d2 d3 d4
  obtain ⟨d0, d1, d2, d3, d4⟩ := pcell ((HB3.out.block w.heap.size (by simp) (fun h => h)).trans (alloc_blk w _))
  clear hk
  go_wp2_with fail
  refine (HO.out _).mono ?_
  rintro e w4 ⟨rfl, hk⟩
  have HK4 := Lib.hid (HK3.out.trans hk (fun _ _ h => h))
  have HB4 := Lib.hid (HB3.out.trans hk (fun _ _ h => h))
  clear d0 d1 d2 d3 d4
  obtain ⟨d0, d1, d2, d3, d4⟩ := pcell ((HB4.out.block w.heap.size (by simp) (fun h => h)).trans (alloc_blk w _))
  clear hk
  go_wp2_with fail
  refine (HX.out _ HK4.out).mono ?_
  rintro e w5 ⟨rfl, hk⟩
  have HK5 := Lib.hid (HK4.out.trans hk (fun _ _ h => h))
  have HB5 := Lib.hid (HB4.out.trans hk (fun _ _ h => h))
  clear d0 d1 d2 d3 d4
  obtain ⟨d0, d1, d2, d3, d4⟩ := pcell ((HB5.out.block w.heap.size (by simp) (fun h => h)).trans (alloc_blk w _))
  clear hk
  go_wp2
  go_ret
  exact ⟨rfl, HK5.out⟩
set_option maxRecDepth 100000 in
set_option maxHeartbeats 8000000 in
theorem par_k35_B (w : World) (tx : ByteArray) (ca : Option Addr) (g o : Nat) (kc cc : Nat) (hname : Ans 89 tx false) (hdig : Ans 90 tx true) (n : Nat) (hn : 0 < n) (htx : tx ≠ ⟨#[35]⟩) (kk : Int) (t1 : ByteArray) (hk1 : kk ≠ 1) (hcell : ∀ w', Kept nob w w' → w'.cell? ⟨g, o, none⟩ = some (.int .i64 kk) ∧ w'.cell? ⟨g, o + 1, none⟩ = some (.string t1)) (hall : ∀ w', Kept nob w w' → Calls Try.prog 29 #[.slice (some ⟨g, o, none⟩) n kc, .int .i64 2] w' (TrueW w')) : Calls Try.prog 78 #[.agg #[.int .i64 5, .string tx, .string ⟨#[35]⟩, .slice (some ⟨g, o, none⟩) n  kc, .slice ca 0 cc]] w (TrueW w) := by
  have HN := Lib.hid hname
  have HD := Lib.hid hdig
  have HO := Lib.hid (op_leaf (op := ⟨#[35]⟩) (by simp [opsL]))
  have HX := Lib.hid hall
  have HC := Lib.hid hcell
  have n0 : ((n : Int) == 0) = false := by rw [beq_eq_false_iff_ne]; omega
  have n1 : (0 : Int) < (n : Int) := by omega
  have k1 : (kk != 1) = true := by simpa using hk1
  have q4 : ¬ tx.toList = [35] := by rw [ByteArray.toList_eq]; intro e; exact htx (ByteArray.ext (Array.toList_inj.1 e))
  have b4 : (tx.toList == [35]) = false := beq_eq_false_iff_ne.2 q4
  clear hname hdig hall htx hcell hk1
  go_enter Try.func78, Try.ntmps78
  go_wp2_with fail
  refine (HN.out _).mono ?_
  rintro e w2 ⟨rfl, hk⟩
  have HK2 := Lib.hid ((Kept.alloc w _ nob).trans hk (fun _ _ h => h))
  have HB2 := Lib.hid hk
  obtain ⟨d0, d1, d2, d3, d4⟩ := pcell ((hk.block w.heap.size (by simp) (fun h => h)).trans (alloc_blk w _))
  clear hk
  go_wp2_with fail
  refine (HD.out _).mono ?_
  rintro e w3 ⟨rfl, hk⟩
  have HK3 := Lib.hid (HK2.out.trans hk (fun _ _ h => h))
  have HB3 := Lib.hid (HB2.out.trans hk (fun _ _ h => h))
  clear d0 d1 d2 d3 d4
  obtain ⟨d0, d1, d2, d3, d4⟩ := pcell ((HB3.out.block w.heap.size (by simp) (fun h => h)).trans (alloc_blk w _))
  clear hk
  go_wp2_with fail
  refine (HO.out _).mono ?_
  rintro e w4 ⟨rfl, hk⟩
  have HK4 := Lib.hid (HK3.out.trans hk (fun _ _ h => h))
  have HB4 := Lib.hid (HB3.out.trans hk (fun _ _ h => h))
  clear d0 d1 d2 d3 d4
  obtain ⟨d0, d1, d2, d3, d4⟩ := pcell ((HB4.out.block w.heap.size (by simp) (fun h => h)).trans (alloc_blk w _))
  clear hk
  go_wp2_with fail
  refine (HX.out _ HK4.out).mono ?_
  rintro e w5 ⟨rfl, hk⟩
  have HK5 := Lib.hid (HK4.out.trans hk (fun _ _ h => h))
  have HB5 := Lib.hid (HB4.out.trans hk (fun _ _ h => h))
  clear d0 d1 d2 d3 d4
  obtain ⟨d0, d1, d2, d3, d4⟩ := pcell ((HB5.out.block w.heap.size (by simp) (fun h => h)).trans (alloc_blk w _))
  clear hk
  obtain ⟨f0, f1⟩ := HC.out _ HK5.out
  go_wp2_with fail
  go_quiet (fail)
  go_wp2
  go_ret
  exact ⟨rfl, HK5.out.trans (kept_drewN _ _) (fun _ _ h => h)⟩
set_option maxRecDepth 100000 in
set_option maxHeartbeats 8000000 in
theorem par_f35_B (w : World) (tx : ByteArray) (ca : Option Addr) (g o : Nat) (kc cc : Nat) (hname : Ans 89 tx false) (hdig : Ans 90 tx true) (n : Nat) (hn : 0 < n) (htx : tx ≠ ⟨#[35]⟩) (t1 : ByteArray) (d : UInt8) (ht0 : t1.data.toList.head? = some d) (hd : d ≠ 35) (hcell : ∀ w', Kept nob w w' → w'.cell? ⟨g, o, none⟩ = some (.int .i64 1) ∧ w'.cell? ⟨g, o + 1, none⟩ = some (.string t1)) (hall : ∀ w', Kept nob w w' → Calls Try.prog 29 #[.slice (some ⟨g, o, none⟩) n kc, .int .i64 2] w' (TrueW w')) : Calls Try.prog 78 #[.agg #[.int .i64 5, .string tx, .string ⟨#[35]⟩, .slice (some ⟨g, o, none⟩) n  kc, .slice ca 0 cc]] w (TrueW w) := by
  have HN := Lib.hid hname
  have HD := Lib.hid hdig
  have HO := Lib.hid (op_leaf (op := ⟨#[35]⟩) (by simp [opsL]))
  have HX := Lib.hid hall
  have HC := Lib.hid hcell
  have n0 : ((n : Int) == 0) = false := by rw [beq_eq_false_iff_ne]; omega
  have n1 : (0 : Int) < (n : Int) := by omega
  obtain ⟨r1, hr1⟩ : ∃ r, t1.data.toList = d :: r := by
    rcases e : t1.data.toList with _ | ⟨x, r⟩
    · rw [e] at ht0; cases ht0
    · rw [e] at ht0; obtain rfl : x = d := by simpa using ht0
      exact ⟨r, rfl⟩
  have hlt1 : 0 < t1.size := by
    have := congrArg List.length hr1
    simp at this
    omega
  have hix1 : ((t1[0]'hlt1).toNat : Int) = (d.toNat : Int) := by
    have : (t1[0]'hlt1) = d := by
      have h1 : t1.data.toList[0]'(by rw [hr1]; simp) = d := by simp [hr1]
      rw [← h1]; rfl
    rw [this]
  have e1 : ¬ (d.toNat : Int) = 35 := fun e => hd ((tn d 35).1 e)
  obtain ⟨y, hyd⟩ : ∃ y : Int, (d.toNat : Int) = y := ⟨_, rfl⟩
  rw [hyd] at hix1 e1
  have y5 : (y != 35) = true := by simpa using e1
  have q4 : ¬ tx.toList = [35] := by rw [ByteArray.toList_eq]; intro e; exact htx (ByteArray.ext (Array.toList_inj.1 e))
  have b4 : (tx.toList == [35]) = false := beq_eq_false_iff_ne.2 q4
  clear hname hdig hall htx hcell ht0 hr1 hyd e1 hd
  go_enter Try.func78, Try.ntmps78
  go_wp2_with fail
  refine (HN.out _).mono ?_
  rintro e w2 ⟨rfl, hk⟩
  have HK2 := Lib.hid ((Kept.alloc w _ nob).trans hk (fun _ _ h => h))
  have HB2 := Lib.hid hk
  obtain ⟨d0, d1, d2, d3, d4⟩ := pcell ((hk.block w.heap.size (by simp) (fun h => h)).trans (alloc_blk w _))
  clear hk
  go_wp2_with fail
  refine (HD.out _).mono ?_
  rintro e w3 ⟨rfl, hk⟩
  have HK3 := Lib.hid (HK2.out.trans hk (fun _ _ h => h))
  have HB3 := Lib.hid (HB2.out.trans hk (fun _ _ h => h))
  clear d0 d1 d2 d3 d4
  obtain ⟨d0, d1, d2, d3, d4⟩ := pcell ((HB3.out.block w.heap.size (by simp) (fun h => h)).trans (alloc_blk w _))
  clear hk
  go_wp2_with fail
  refine (HO.out _).mono ?_
  rintro e w4 ⟨rfl, hk⟩
  have HK4 := Lib.hid (HK3.out.trans hk (fun _ _ h => h))
  have HB4 := Lib.hid (HB3.out.trans hk (fun _ _ h => h))
  clear d0 d1 d2 d3 d4
  obtain ⟨d0, d1, d2, d3, d4⟩ := pcell ((HB4.out.block w.heap.size (by simp) (fun h => h)).trans (alloc_blk w _))
  clear hk
  go_wp2_with fail
  refine (HX.out _ HK4.out).mono ?_
  rintro e w5 ⟨rfl, hk⟩
  have HK5 := Lib.hid (HK4.out.trans hk (fun _ _ h => h))
  have HB5 := Lib.hid (HB4.out.trans hk (fun _ _ h => h))
  clear d0 d1 d2 d3 d4
  obtain ⟨d0, d1, d2, d3, d4⟩ := pcell ((HB5.out.block w.heap.size (by simp) (fun h => h)).trans (alloc_blk w _))
  clear hk
  obtain ⟨f0, f1⟩ := HC.out _ HK5.out
  go_wp2_with fail
  go_quiet (fail)
  go_wp2
  go_ret
  exact ⟨(by show Ending.returned (Value.bool (y != (35 : Int))) = _; rw [y5]), HK5.out.trans (kept_drewN _ _) (fun _ _ h => h)⟩
set_option maxRecDepth 100000 in
set_option maxHeartbeats 8000000 in
theorem par_e_C (w : World) (tx : ByteArray) (ka ca : Option Addr) (kc cc : Nat) (hname : Ans 89 tx false) (hdig : Ans 90 tx false) (c : UInt8) (hc : tx.data.toList = [c]) (hs : spc c.toNat = true)  : Calls Try.prog 78 #[.agg #[.int .i64 5, .string tx, .string ⟨#[]⟩, .slice ka 0 kc, .slice ca 0 cc]] w (TrueW w) := by
  have HN := Lib.hid hname
  have HD := Lib.hid hdig
  have hsz : tx.size = 1 := by
    have := congrArg List.length hc
    simpa using this
  have hlt : 0 < tx.size := by omega
  have hix : ((tx[0]'hlt).toNat : Int) = (c.toNat : Int) := by
    have : (tx[0]'hlt) = c := by
      have h1 : tx.data.toList[0]'(by rw [hc]; simp) = c := by simp [hc]
      rw [← h1]; rfl
    rw [this]
  have y1 : ((tx.size : Int) == 1) = true := by rw [hsz]; rfl
  have y2 : ((tx.size : Int) != 1) = false := by rw [hsz]; rfl
  have HS := Lib.hid (fun w' => Spec_leaf c w')
  rw [hs] at HS
  obtain ⟨z, hzc⟩ : ∃ z : Int, (c.toNat : Int) = z := ⟨_, rfl⟩
  rw [hzc] at hix HS
  clear hsz hzc
  clear hname hdig hc hs 
  go_enter Try.func78, Try.ntmps78
  go_wp2_with fail
  refine (HN.out _).mono ?_
  rintro e w2 ⟨rfl, hk⟩
  have HK2 := Lib.hid ((Kept.alloc w _ nob).trans hk (fun _ _ h => h))
  have HB2 := Lib.hid hk
  obtain ⟨d0, d1, d2, d3, d4⟩ := pcell ((hk.block w.heap.size (by simp) (fun h => h)).trans (alloc_blk w _))
  clear hk
  go_wp2_with fail
  refine (HD.out _).mono ?_
  rintro e w3 ⟨rfl, hk⟩
  have HK3 := Lib.hid (HK2.out.trans hk (fun _ _ h => h))
  have HB3 := Lib.hid (HB2.out.trans hk (fun _ _ h => h))
  clear d0 d1 d2 d3 d4
  obtain ⟨d0, d1, d2, d3, d4⟩ := pcell ((HB3.out.block w.heap.size (by simp) (fun h => h)).trans (alloc_blk w _))
  clear hk
  go_wp2_with fail
  refine (HS.out _).mono ?_
  rintro e w4 ⟨rfl, hk⟩
  have HK4 := Lib.hid (HK3.out.trans hk (fun _ _ h => h))
  have HB4 := Lib.hid (HB3.out.trans hk (fun _ _ h => h))
  clear d0 d1 d2 d3 d4
  obtain ⟨d0, d1, d2, d3, d4⟩ := pcell ((HB4.out.block w.heap.size (by simp) (fun h => h)).trans (alloc_blk w _))
  clear hk
  go_wp2
  go_ret
  exact ⟨rfl, HK4.out⟩
set_option maxRecDepth 100000 in
set_option maxHeartbeats 8000000 in
theorem par_l_C (w : World) (tx : ByteArray) (ka ca : Option Addr) (kc cc : Nat) (hname : Ans 89 tx false) (hdig : Ans 90 tx false) (c : UInt8) (hc : tx.data.toList = [c]) (hs : spc c.toNat = true)  : Calls Try.prog 78 #[.agg #[.int .i64 5, .string tx, .string ⟨#[108, 101, 110]⟩, .slice ka 0 kc, .slice ca 0 cc]] w (TrueW w) := by
  have HN := Lib.hid hname
  have HD := Lib.hid hdig
  have hsz : tx.size = 1 := by
    have := congrArg List.length hc
    simpa using this
  have hlt : 0 < tx.size := by omega
  have hix : ((tx[0]'hlt).toNat : Int) = (c.toNat : Int) := by
    have : (tx[0]'hlt) = c := by
      have h1 : tx.data.toList[0]'(by rw [hc]; simp) = c := by simp [hc]
      rw [← h1]; rfl
    rw [this]
  have y1 : ((tx.size : Int) == 1) = true := by rw [hsz]; rfl
  have y2 : ((tx.size : Int) != 1) = false := by rw [hsz]; rfl
  have HS := Lib.hid (fun w' => Spec_leaf c w')
  rw [hs] at HS
  obtain ⟨z, hzc⟩ : ∃ z : Int, (c.toNat : Int) = z := ⟨_, rfl⟩
  rw [hzc] at hix HS
  clear hsz hzc
  clear hname hdig hc hs 
  go_enter Try.func78, Try.ntmps78
  go_wp2_with fail
  refine (HN.out _).mono ?_
  rintro e w2 ⟨rfl, hk⟩
  have HK2 := Lib.hid ((Kept.alloc w _ nob).trans hk (fun _ _ h => h))
  have HB2 := Lib.hid hk
  obtain ⟨d0, d1, d2, d3, d4⟩ := pcell ((hk.block w.heap.size (by simp) (fun h => h)).trans (alloc_blk w _))
  clear hk
  go_wp2_with fail
  refine (HD.out _).mono ?_
  rintro e w3 ⟨rfl, hk⟩
  have HK3 := Lib.hid (HK2.out.trans hk (fun _ _ h => h))
  have HB3 := Lib.hid (HB2.out.trans hk (fun _ _ h => h))
  clear d0 d1 d2 d3 d4
  obtain ⟨d0, d1, d2, d3, d4⟩ := pcell ((HB3.out.block w.heap.size (by simp) (fun h => h)).trans (alloc_blk w _))
  clear hk
  go_wp2_with fail
  refine (HS.out _).mono ?_
  rintro e w4 ⟨rfl, hk⟩
  have HK4 := Lib.hid (HK3.out.trans hk (fun _ _ h => h))
  have HB4 := Lib.hid (HB3.out.trans hk (fun _ _ h => h))
  clear d0 d1 d2 d3 d4
  obtain ⟨d0, d1, d2, d3, d4⟩ := pcell ((HB4.out.block w.heap.size (by simp) (fun h => h)).trans (alloc_blk w _))
  clear hk
  go_wp2
  go_ret
  exact ⟨rfl, HK4.out⟩
set_option maxRecDepth 100000 in
set_option maxHeartbeats 8000000 in
theorem par_o_C (w : World) (tx : ByteArray) (op : ByteArray) (n : Nat) (ka ca : Option Addr) (kc cc : Nat) (hname : Ans 89 tx false) (hdig : Ans 90 tx false) (c : UInt8) (hc : tx.data.toList = [c]) (hs : spc c.toNat = true) (hop : op ∈ opsL) (htx : tx ≠ ⟨#[35]⟩) (h37 : op ≠ ⟨#[37]⟩) (h35 : op ≠ ⟨#[35]⟩) (hall : ∀ w', Kept nob w w' → Calls Try.prog 29 #[.slice ka n kc, .int .i64 2] w' (TrueW w')) : Calls Try.prog 78 #[.agg #[.int .i64 5, .string tx, .string op, .slice ka n kc, .slice ca 0 cc]] w (TrueW w) := by
  have HN := Lib.hid hname
  have HD := Lib.hid hdig
  have hsz : tx.size = 1 := by
    have := congrArg List.length hc
    simpa using this
  have hlt : 0 < tx.size := by omega
  have hix : ((tx[0]'hlt).toNat : Int) = (c.toNat : Int) := by
    have : (tx[0]'hlt) = c := by
      have h1 : tx.data.toList[0]'(by rw [hc]; simp) = c := by simp [hc]
      rw [← h1]; rfl
    rw [this]
  have y1 : ((tx.size : Int) == 1) = true := by rw [hsz]; rfl
  have y2 : ((tx.size : Int) != 1) = false := by rw [hsz]; rfl
  have HS := Lib.hid (fun w' => Spec_leaf c w')
  rw [hs] at HS
  obtain ⟨z, hzc⟩ : ∃ z : Int, (c.toNat : Int) = z := ⟨_, rfl⟩
  rw [hzc] at hix HS
  clear hsz hzc
  have HO := Lib.hid (op_leaf hop)
  have HX := Lib.hid hall
  have q0 : ¬ op.toList = [] := by rw [ByteArray.toList_eq]; intro e; have : op = ⟨#[]⟩ := ByteArray.ext (Array.toList_inj.1 e); rw [this] at hop; exact absurd hop (by simp [opsL])
  have q0' : op.toList.isEmpty = false := by simpa using q0
  have q1 : ¬ op.toList = [108, 101, 110] := by rw [ByteArray.toList_eq]; intro e; have : op = ⟨#[108, 101, 110]⟩ := ByteArray.ext (Array.toList_inj.1 e); rw [this] at hop; exact absurd hop (by simp [opsL])
  have q2 : ¬ op.toList = [37] := by rw [ByteArray.toList_eq]; intro e; exact h37 (ByteArray.ext (Array.toList_inj.1 e))
  have q3 : ¬ op.toList = [35] := by rw [ByteArray.toList_eq]; intro e; exact h35 (ByteArray.ext (Array.toList_inj.1 e))
  have b1 : (op.toList == [108, 101, 110]) = false := beq_eq_false_iff_ne.2 q1
  have b2 : (op.toList == [37]) = false := beq_eq_false_iff_ne.2 q2
  have b3 : (op.toList == [35]) = false := beq_eq_false_iff_ne.2 q3
  have b2' : (op.toList != [37]) = true := bne_iff_ne.2 q2
  have b3' : (op.toList != [35]) = true := bne_iff_ne.2 q3
  have q4 : ¬ tx.toList = [35] := by rw [ByteArray.toList_eq]; intro e; exact htx (ByteArray.ext (Array.toList_inj.1 e))
  have b4 : (tx.toList == [35]) = false := beq_eq_false_iff_ne.2 q4
  clear hname hdig hc hs hop hall h37 h35 htx
  go_enter Try.func78, Try.ntmps78
  go_wp2_with fail
  refine (HN.out _).mono ?_
  rintro e w2 ⟨rfl, hk⟩
  have HK2 := Lib.hid ((Kept.alloc w _ nob).trans hk (fun _ _ h => h))
  have HB2 := Lib.hid hk
  obtain ⟨d0, d1, d2, d3, d4⟩ := pcell ((hk.block w.heap.size (by simp) (fun h => h)).trans (alloc_blk w _))
  clear hk
  go_wp2_with fail
  refine (HD.out _).mono ?_
  rintro e w3 ⟨rfl, hk⟩
  have HK3 := Lib.hid (HK2.out.trans hk (fun _ _ h => h))
  have HB3 := Lib.hid (HB2.out.trans hk (fun _ _ h => h))
  clear d0 d1 d2 d3 d4
  obtain ⟨d0, d1, d2, d3, d4⟩ := pcell ((HB3.out.block w.heap.size (by simp) (fun h => h)).trans (alloc_blk w _))
  clear hk
  go_wp2_with fail
  refine (HS.out _).mono ?_
  rintro e w4 ⟨rfl, hk⟩
  have HK4 := Lib.hid (HK3.out.trans hk (fun _ _ h => h))
  have HB4 := Lib.hid (HB3.out.trans hk (fun _ _ h => h))
  clear d0 d1 d2 d3 d4
  obtain ⟨d0, d1, d2, d3, d4⟩ := pcell ((HB4.out.block w.heap.size (by simp) (fun h => h)).trans (alloc_blk w _))
  clear hk
  go_wp2_with fail
  refine (HO.out _).mono ?_
  rintro e w5 ⟨rfl, hk⟩
  have HK5 := Lib.hid (HK4.out.trans hk (fun _ _ h => h))
  have HB5 := Lib.hid (HB4.out.trans hk (fun _ _ h => h))
  clear d0 d1 d2 d3 d4
  obtain ⟨d0, d1, d2, d3, d4⟩ := pcell ((HB5.out.block w.heap.size (by simp) (fun h => h)).trans (alloc_blk w _))
  clear hk
  go_wp2_with fail
  refine (HX.out _ HK5.out).mono ?_
  rintro e w6 ⟨rfl, hk⟩
  have HK6 := Lib.hid (HK5.out.trans hk (fun _ _ h => h))
  have HB6 := Lib.hid (HB5.out.trans hk (fun _ _ h => h))
  clear d0 d1 d2 d3 d4
  obtain ⟨d0, d1, d2, d3, d4⟩ := pcell ((HB6.out.block w.heap.size (by simp) (fun h => h)).trans (alloc_blk w _))
  clear hk
  go_wp2
  go_ret
  exact ⟨rfl, HK6.out⟩
set_option maxRecDepth 100000 in
set_option maxHeartbeats 8000000 in
theorem par_n37_C (w : World) (tx : ByteArray) (ka ca : Option Addr) (kc cc : Nat) (hname : Ans 89 tx false) (hdig : Ans 90 tx false) (c : UInt8) (hc : tx.data.toList = [c]) (hs : spc c.toNat = true) (htx : tx ≠ ⟨#[35]⟩) (hall : ∀ w', Kept nob w w' → Calls Try.prog 29 #[.slice ka 0 kc, .int .i64 2] w' (TrueW w')) : Calls Try.prog 78 #[.agg #[.int .i64 5, .string tx, .string ⟨#[37]⟩, .slice ka 0 kc, .slice ca 0 cc]] w (TrueW w) := by
  have HN := Lib.hid hname
  have HD := Lib.hid hdig
  have hsz : tx.size = 1 := by
    have := congrArg List.length hc
    simpa using this
  have hlt : 0 < tx.size := by omega
  have hix : ((tx[0]'hlt).toNat : Int) = (c.toNat : Int) := by
    have : (tx[0]'hlt) = c := by
      have h1 : tx.data.toList[0]'(by rw [hc]; simp) = c := by simp [hc]
      rw [← h1]; rfl
    rw [this]
  have y1 : ((tx.size : Int) == 1) = true := by rw [hsz]; rfl
  have y2 : ((tx.size : Int) != 1) = false := by rw [hsz]; rfl
  have HS := Lib.hid (fun w' => Spec_leaf c w')
  rw [hs] at HS
  obtain ⟨z, hzc⟩ : ∃ z : Int, (c.toNat : Int) = z := ⟨_, rfl⟩
  rw [hzc] at hix HS
  clear hsz hzc
  have HO := Lib.hid (op_leaf (op := ⟨#[37]⟩) (by simp [opsL]))
  have HX := Lib.hid hall
  have q4 : ¬ tx.toList = [35] := by rw [ByteArray.toList_eq]; intro e; exact htx (ByteArray.ext (Array.toList_inj.1 e))
  have b4 : (tx.toList == [35]) = false := beq_eq_false_iff_ne.2 q4
  clear hname hdig hc hs hall htx
  go_enter Try.func78, Try.ntmps78
  go_wp2_with fail
  refine (HN.out _).mono ?_
  rintro e w2 ⟨rfl, hk⟩
  have HK2 := Lib.hid ((Kept.alloc w _ nob).trans hk (fun _ _ h => h))
  have HB2 := Lib.hid hk
  obtain ⟨d0, d1, d2, d3, d4⟩ := pcell ((hk.block w.heap.size (by simp) (fun h => h)).trans (alloc_blk w _))
  clear hk
  go_wp2_with fail
  refine (HD.out _).mono ?_
  rintro e w3 ⟨rfl, hk⟩
  have HK3 := Lib.hid (HK2.out.trans hk (fun _ _ h => h))
  have HB3 := Lib.hid (HB2.out.trans hk (fun _ _ h => h))
  clear d0 d1 d2 d3 d4
  obtain ⟨d0, d1, d2, d3, d4⟩ := pcell ((HB3.out.block w.heap.size (by simp) (fun h => h)).trans (alloc_blk w _))
  clear hk
  go_wp2_with fail
  refine (HS.out _).mono ?_
  rintro e w4 ⟨rfl, hk⟩
  have HK4 := Lib.hid (HK3.out.trans hk (fun _ _ h => h))
  have HB4 := Lib.hid (HB3.out.trans hk (fun _ _ h => h))
  clear d0 d1 d2 d3 d4
  obtain ⟨d0, d1, d2, d3, d4⟩ := pcell ((HB4.out.block w.heap.size (by simp) (fun h => h)).trans (alloc_blk w _))
  clear hk
  go_wp2_with fail
  refine (HO.out _).mono ?_
  rintro e w5 ⟨rfl, hk⟩
  have HK5 := Lib.hid (HK4.out.trans hk (fun _ _ h => h))
  have HB5 := Lib.hid (HB4.out.trans hk (fun _ _ h => h))
  clear d0 d1 d2 d3 d4
  obtain ⟨d0, d1, d2, d3, d4⟩ := pcell ((HB5.out.block w.heap.size (by simp) (fun h => h)).trans (alloc_blk w _))
  clear hk
  go_wp2_with fail
  refine (HX.out _ HK5.out).mono ?_
  rintro e w6 ⟨rfl, hk⟩
  have HK6 := Lib.hid (HK5.out.trans hk (fun _ _ h => h))
  have HB6 := Lib.hid (HB5.out.trans hk (fun _ _ h => h))
  clear d0 d1 d2 d3 d4
  obtain ⟨d0, d1, d2, d3, d4⟩ := pcell ((HB6.out.block w.heap.size (by simp) (fun h => h)).trans (alloc_blk w _))
  clear hk
  go_wp2
  go_ret
  exact ⟨rfl, HK6.out⟩
set_option maxRecDepth 100000 in
set_option maxHeartbeats 8000000 in
theorem par_k37_C (w : World) (tx : ByteArray) (ca : Option Addr) (g o : Nat) (kc cc : Nat) (hname : Ans 89 tx false) (hdig : Ans 90 tx false) (c : UInt8) (hc : tx.data.toList = [c]) (hs : spc c.toNat = true) (n : Nat) (hn : 0 < n) (htx : tx ≠ ⟨#[35]⟩) (kk : Int) (t1 : ByteArray) (hk1 : kk ≠ 1) (hcell : ∀ w', Kept nob w w' → w'.cell? ⟨g, o, none⟩ = some (.int .i64 kk) ∧ w'.cell? ⟨g, o + 1, none⟩ = some (.string t1)) (hall : ∀ w', Kept nob w w' → Calls Try.prog 29 #[.slice (some ⟨g, o, none⟩) n kc, .int .i64 2] w' (TrueW w')) : Calls Try.prog 78 #[.agg #[.int .i64 5, .string tx, .string ⟨#[37]⟩, .slice (some ⟨g, o, none⟩) n  kc, .slice ca 0 cc]] w (TrueW w) := by
  have HN := Lib.hid hname
  have HD := Lib.hid hdig
  have hsz : tx.size = 1 := by
    have := congrArg List.length hc
    simpa using this
  have hlt : 0 < tx.size := by omega
  have hix : ((tx[0]'hlt).toNat : Int) = (c.toNat : Int) := by
    have : (tx[0]'hlt) = c := by
      have h1 : tx.data.toList[0]'(by rw [hc]; simp) = c := by simp [hc]
      rw [← h1]; rfl
    rw [this]
  have y1 : ((tx.size : Int) == 1) = true := by rw [hsz]; rfl
  have y2 : ((tx.size : Int) != 1) = false := by rw [hsz]; rfl
  have HS := Lib.hid (fun w' => Spec_leaf c w')
  rw [hs] at HS
  obtain ⟨z, hzc⟩ : ∃ z : Int, (c.toNat : Int) = z := ⟨_, rfl⟩
  rw [hzc] at hix HS
  clear hsz hzc
  have HO := Lib.hid (op_leaf (op := ⟨#[37]⟩) (by simp [opsL]))
  have HX := Lib.hid hall
  have HC := Lib.hid hcell
  have n0 : ((n : Int) == 0) = false := by rw [beq_eq_false_iff_ne]; omega
  have n1 : (0 : Int) < (n : Int) := by omega
  have k1 : (kk != 1) = true := by simpa using hk1
  have q4 : ¬ tx.toList = [35] := by rw [ByteArray.toList_eq]; intro e; exact htx (ByteArray.ext (Array.toList_inj.1 e))
  have b4 : (tx.toList == [35]) = false := beq_eq_false_iff_ne.2 q4
  clear hname hdig hc hs hall htx hcell hk1
  go_enter Try.func78, Try.ntmps78
  go_wp2_with fail
  refine (HN.out _).mono ?_
  rintro e w2 ⟨rfl, hk⟩
  have HK2 := Lib.hid ((Kept.alloc w _ nob).trans hk (fun _ _ h => h))
  have HB2 := Lib.hid hk
  obtain ⟨d0, d1, d2, d3, d4⟩ := pcell ((hk.block w.heap.size (by simp) (fun h => h)).trans (alloc_blk w _))
  clear hk
  go_wp2_with fail
  refine (HD.out _).mono ?_
  rintro e w3 ⟨rfl, hk⟩
  have HK3 := Lib.hid (HK2.out.trans hk (fun _ _ h => h))
  have HB3 := Lib.hid (HB2.out.trans hk (fun _ _ h => h))
  clear d0 d1 d2 d3 d4
  obtain ⟨d0, d1, d2, d3, d4⟩ := pcell ((HB3.out.block w.heap.size (by simp) (fun h => h)).trans (alloc_blk w _))
  clear hk
  go_wp2_with fail
  refine (HS.out _).mono ?_
  rintro e w4 ⟨rfl, hk⟩
  have HK4 := Lib.hid (HK3.out.trans hk (fun _ _ h => h))
  have HB4 := Lib.hid (HB3.out.trans hk (fun _ _ h => h))
  clear d0 d1 d2 d3 d4
  obtain ⟨d0, d1, d2, d3, d4⟩ := pcell ((HB4.out.block w.heap.size (by simp) (fun h => h)).trans (alloc_blk w _))
  clear hk
  go_wp2_with fail
  refine (HO.out _).mono ?_
  rintro e w5 ⟨rfl, hk⟩
  have HK5 := Lib.hid (HK4.out.trans hk (fun _ _ h => h))
  have HB5 := Lib.hid (HB4.out.trans hk (fun _ _ h => h))
  clear d0 d1 d2 d3 d4
  obtain ⟨d0, d1, d2, d3, d4⟩ := pcell ((HB5.out.block w.heap.size (by simp) (fun h => h)).trans (alloc_blk w _))
  clear hk
  go_wp2_with fail
  refine (HX.out _ HK5.out).mono ?_
  rintro e w6 ⟨rfl, hk⟩
  have HK6 := Lib.hid (HK5.out.trans hk (fun _ _ h => h))
  have HB6 := Lib.hid (HB5.out.trans hk (fun _ _ h => h))
  clear d0 d1 d2 d3 d4
  obtain ⟨d0, d1, d2, d3, d4⟩ := pcell ((HB6.out.block w.heap.size (by simp) (fun h => h)).trans (alloc_blk w _))
  clear hk
  obtain ⟨f0, f1⟩ := HC.out _ HK6.out
  go_wp2_with fail
  go_quiet (fail)
  go_wp2
  go_ret
  exact ⟨rfl, HK6.out.trans (kept_drewN _ _) (fun _ _ h => h)⟩
set_option maxRecDepth 100000 in
set_option maxHeartbeats 8000000 in
theorem par_f37_C (w : World) (tx : ByteArray) (ca : Option Addr) (g o : Nat) (kc cc : Nat) (hname : Ans 89 tx false) (hdig : Ans 90 tx false) (c : UInt8) (hc : tx.data.toList = [c]) (hs : spc c.toNat = true) (n : Nat) (hn : 0 < n) (htx : tx ≠ ⟨#[35]⟩) (t1 : ByteArray) (d : UInt8) (ht0 : t1.data.toList.head? = some d) (hd : d ≠ 37) (hcell : ∀ w', Kept nob w w' → w'.cell? ⟨g, o, none⟩ = some (.int .i64 1) ∧ w'.cell? ⟨g, o + 1, none⟩ = some (.string t1)) (hall : ∀ w', Kept nob w w' → Calls Try.prog 29 #[.slice (some ⟨g, o, none⟩) n kc, .int .i64 2] w' (TrueW w')) : Calls Try.prog 78 #[.agg #[.int .i64 5, .string tx, .string ⟨#[37]⟩, .slice (some ⟨g, o, none⟩) n  kc, .slice ca 0 cc]] w (TrueW w) := by
  have HN := Lib.hid hname
  have HD := Lib.hid hdig
  have hsz : tx.size = 1 := by
    have := congrArg List.length hc
    simpa using this
  have hlt : 0 < tx.size := by omega
  have hix : ((tx[0]'hlt).toNat : Int) = (c.toNat : Int) := by
    have : (tx[0]'hlt) = c := by
      have h1 : tx.data.toList[0]'(by rw [hc]; simp) = c := by simp [hc]
      rw [← h1]; rfl
    rw [this]
  have y1 : ((tx.size : Int) == 1) = true := by rw [hsz]; rfl
  have y2 : ((tx.size : Int) != 1) = false := by rw [hsz]; rfl
  have HS := Lib.hid (fun w' => Spec_leaf c w')
  rw [hs] at HS
  obtain ⟨z, hzc⟩ : ∃ z : Int, (c.toNat : Int) = z := ⟨_, rfl⟩
  rw [hzc] at hix HS
  clear hsz hzc
  have HO := Lib.hid (op_leaf (op := ⟨#[37]⟩) (by simp [opsL]))
  have HX := Lib.hid hall
  have HC := Lib.hid hcell
  have n0 : ((n : Int) == 0) = false := by rw [beq_eq_false_iff_ne]; omega
  have n1 : (0 : Int) < (n : Int) := by omega
  obtain ⟨r1, hr1⟩ : ∃ r, t1.data.toList = d :: r := by
    rcases e : t1.data.toList with _ | ⟨x, r⟩
    · rw [e] at ht0; cases ht0
    · rw [e] at ht0; obtain rfl : x = d := by simpa using ht0
      exact ⟨r, rfl⟩
  have hlt1 : 0 < t1.size := by
    have := congrArg List.length hr1
    simp at this
    omega
  have hix1 : ((t1[0]'hlt1).toNat : Int) = (d.toNat : Int) := by
    have : (t1[0]'hlt1) = d := by
      have h1 : t1.data.toList[0]'(by rw [hr1]; simp) = d := by simp [hr1]
      rw [← h1]; rfl
    rw [this]
  have e1 : ¬ (d.toNat : Int) = 37 := fun e => hd ((tn d 37).1 e)
  obtain ⟨y, hyd⟩ : ∃ y : Int, (d.toNat : Int) = y := ⟨_, rfl⟩
  rw [hyd] at hix1 e1
  have y5 : (y != 37) = true := by simpa using e1
  have q4 : ¬ tx.toList = [35] := by rw [ByteArray.toList_eq]; intro e; exact htx (ByteArray.ext (Array.toList_inj.1 e))
  have b4 : (tx.toList == [35]) = false := beq_eq_false_iff_ne.2 q4
  clear hname hdig hc hs hall htx hcell ht0 hr1 hyd e1 hd
  go_enter Try.func78, Try.ntmps78
  go_wp2_with fail
  refine (HN.out _).mono ?_
  rintro e w2 ⟨rfl, hk⟩
  have HK2 := Lib.hid ((Kept.alloc w _ nob).trans hk (fun _ _ h => h))
  have HB2 := Lib.hid hk
  obtain ⟨d0, d1, d2, d3, d4⟩ := pcell ((hk.block w.heap.size (by simp) (fun h => h)).trans (alloc_blk w _))
  clear hk
  go_wp2_with fail
  refine (HD.out _).mono ?_
  rintro e w3 ⟨rfl, hk⟩
  have HK3 := Lib.hid (HK2.out.trans hk (fun _ _ h => h))
  have HB3 := Lib.hid (HB2.out.trans hk (fun _ _ h => h))
  clear d0 d1 d2 d3 d4
  obtain ⟨d0, d1, d2, d3, d4⟩ := pcell ((HB3.out.block w.heap.size (by simp) (fun h => h)).trans (alloc_blk w _))
  clear hk
  go_wp2_with fail
  refine (HS.out _).mono ?_
  rintro e w4 ⟨rfl, hk⟩
  have HK4 := Lib.hid (HK3.out.trans hk (fun _ _ h => h))
  have HB4 := Lib.hid (HB3.out.trans hk (fun _ _ h => h))
  clear d0 d1 d2 d3 d4
  obtain ⟨d0, d1, d2, d3, d4⟩ := pcell ((HB4.out.block w.heap.size (by simp) (fun h => h)).trans (alloc_blk w _))
  clear hk
  go_wp2_with fail
  refine (HO.out _).mono ?_
  rintro e w5 ⟨rfl, hk⟩
  have HK5 := Lib.hid (HK4.out.trans hk (fun _ _ h => h))
  have HB5 := Lib.hid (HB4.out.trans hk (fun _ _ h => h))
  clear d0 d1 d2 d3 d4
  obtain ⟨d0, d1, d2, d3, d4⟩ := pcell ((HB5.out.block w.heap.size (by simp) (fun h => h)).trans (alloc_blk w _))
  clear hk
  go_wp2_with fail
  refine (HX.out _ HK5.out).mono ?_
  rintro e w6 ⟨rfl, hk⟩
  have HK6 := Lib.hid (HK5.out.trans hk (fun _ _ h => h))
  have HB6 := Lib.hid (HB5.out.trans hk (fun _ _ h => h))
  clear d0 d1 d2 d3 d4
  obtain ⟨d0, d1, d2, d3, d4⟩ := pcell ((HB6.out.block w.heap.size (by simp) (fun h => h)).trans (alloc_blk w _))
  clear hk
  obtain ⟨f0, f1⟩ := HC.out _ HK6.out
  go_wp2_with fail
  go_quiet (fail)
  go_wp2
  go_ret
  exact ⟨(by show Ending.returned (Value.bool (y != (37 : Int))) = _; rw [y5]), HK6.out.trans (kept_drewN _ _) (fun _ _ h => h)⟩
set_option maxRecDepth 100000 in
set_option maxHeartbeats 8000000 in
theorem par_n35_C (w : World) (tx : ByteArray) (ka ca : Option Addr) (kc cc : Nat) (hname : Ans 89 tx false) (hdig : Ans 90 tx false) (c : UInt8) (hc : tx.data.toList = [c]) (hs : spc c.toNat = true) (htx : tx ≠ ⟨#[35]⟩) (hall : ∀ w', Kept nob w w' → Calls Try.prog 29 #[.slice ka 0 kc, .int .i64 2] w' (TrueW w')) : Calls Try.prog 78 #[.agg #[.int .i64 5, .string tx, .string ⟨#[35]⟩, .slice ka 0 kc, .slice ca 0 cc]] w (TrueW w) := by
  have HN := Lib.hid hname
  have HD := Lib.hid hdig
  have hsz : tx.size = 1 := by
    have := congrArg List.length hc
    simpa using this
  have hlt : 0 < tx.size := by omega
  have hix : ((tx[0]'hlt).toNat : Int) = (c.toNat : Int) := by
    have : (tx[0]'hlt) = c := by
      have h1 : tx.data.toList[0]'(by rw [hc]; simp) = c := by simp [hc]
      rw [← h1]; rfl
    rw [this]
  have y1 : ((tx.size : Int) == 1) = true := by rw [hsz]; rfl
  have y2 : ((tx.size : Int) != 1) = false := by rw [hsz]; rfl
  have HS := Lib.hid (fun w' => Spec_leaf c w')
  rw [hs] at HS
  obtain ⟨z, hzc⟩ : ∃ z : Int, (c.toNat : Int) = z := ⟨_, rfl⟩
  rw [hzc] at hix HS
  clear hsz hzc
  have HO := Lib.hid (op_leaf (op := ⟨#[35]⟩) (by simp [opsL]))
  have HX := Lib.hid hall
  have q4 : ¬ tx.toList = [35] := by rw [ByteArray.toList_eq]; intro e; exact htx (ByteArray.ext (Array.toList_inj.1 e))
  have b4 : (tx.toList == [35]) = false := beq_eq_false_iff_ne.2 q4
  clear hname hdig hc hs hall htx
  go_enter Try.func78, Try.ntmps78
  go_wp2_with fail
  refine (HN.out _).mono ?_
  rintro e w2 ⟨rfl, hk⟩
  have HK2 := Lib.hid ((Kept.alloc w _ nob).trans hk (fun _ _ h => h))
  have HB2 := Lib.hid hk
  obtain ⟨d0, d1, d2, d3, d4⟩ := pcell ((hk.block w.heap.size (by simp) (fun h => h)).trans (alloc_blk w _))
  clear hk
  go_wp2_with fail
  refine (HD.out _).mono ?_
  rintro e w3 ⟨rfl, hk⟩
  have HK3 := Lib.hid (HK2.out.trans hk (fun _ _ h => h))
  have HB3 := Lib.hid (HB2.out.trans hk (fun _ _ h => h))
  clear d0 d1 d2 d3 d4
  obtain ⟨d0, d1, d2, d3, d4⟩ := pcell ((HB3.out.block w.heap.size (by simp) (fun h => h)).trans (alloc_blk w _))
  clear hk
  go_wp2_with fail
  refine (HS.out _).mono ?_
  rintro e w4 ⟨rfl, hk⟩
  have HK4 := Lib.hid (HK3.out.trans hk (fun _ _ h => h))
  have HB4 := Lib.hid (HB3.out.trans hk (fun _ _ h => h))
  clear d0 d1 d2 d3 d4
  obtain ⟨d0, d1, d2, d3, d4⟩ := pcell ((HB4.out.block w.heap.size (by simp) (fun h => h)).trans (alloc_blk w _))
  clear hk
  go_wp2_with fail
  refine (HO.out _).mono ?_
  rintro e w5 ⟨rfl, hk⟩
  have HK5 := Lib.hid (HK4.out.trans hk (fun _ _ h => h))
  have HB5 := Lib.hid (HB4.out.trans hk (fun _ _ h => h))
  clear d0 d1 d2 d3 d4
  obtain ⟨d0, d1, d2, d3, d4⟩ := pcell ((HB5.out.block w.heap.size (by simp) (fun h => h)).trans (alloc_blk w _))
  clear hk
  go_wp2_with fail
  refine (HX.out _ HK5.out).mono ?_
  rintro e w6 ⟨rfl, hk⟩
  have HK6 := Lib.hid (HK5.out.trans hk (fun _ _ h => h))
  have HB6 := Lib.hid (HB5.out.trans hk (fun _ _ h => h))
  clear d0 d1 d2 d3 d4
  obtain ⟨d0, d1, d2, d3, d4⟩ := pcell ((HB6.out.block w.heap.size (by simp) (fun h => h)).trans (alloc_blk w _))
  clear hk
  go_wp2
  go_ret
  exact ⟨rfl, HK6.out⟩
set_option maxRecDepth 100000 in
set_option maxHeartbeats 8000000 in
theorem par_k35_C (w : World) (tx : ByteArray) (ca : Option Addr) (g o : Nat) (kc cc : Nat) (hname : Ans 89 tx false) (hdig : Ans 90 tx false) (c : UInt8) (hc : tx.data.toList = [c]) (hs : spc c.toNat = true) (n : Nat) (hn : 0 < n) (htx : tx ≠ ⟨#[35]⟩) (kk : Int) (t1 : ByteArray) (hk1 : kk ≠ 1) (hcell : ∀ w', Kept nob w w' → w'.cell? ⟨g, o, none⟩ = some (.int .i64 kk) ∧ w'.cell? ⟨g, o + 1, none⟩ = some (.string t1)) (hall : ∀ w', Kept nob w w' → Calls Try.prog 29 #[.slice (some ⟨g, o, none⟩) n kc, .int .i64 2] w' (TrueW w')) : Calls Try.prog 78 #[.agg #[.int .i64 5, .string tx, .string ⟨#[35]⟩, .slice (some ⟨g, o, none⟩) n  kc, .slice ca 0 cc]] w (TrueW w) := by
  have HN := Lib.hid hname
  have HD := Lib.hid hdig
  have hsz : tx.size = 1 := by
    have := congrArg List.length hc
    simpa using this
  have hlt : 0 < tx.size := by omega
  have hix : ((tx[0]'hlt).toNat : Int) = (c.toNat : Int) := by
    have : (tx[0]'hlt) = c := by
      have h1 : tx.data.toList[0]'(by rw [hc]; simp) = c := by simp [hc]
      rw [← h1]; rfl
    rw [this]
  have y1 : ((tx.size : Int) == 1) = true := by rw [hsz]; rfl
  have y2 : ((tx.size : Int) != 1) = false := by rw [hsz]; rfl
  have HS := Lib.hid (fun w' => Spec_leaf c w')
  rw [hs] at HS
  obtain ⟨z, hzc⟩ : ∃ z : Int, (c.toNat : Int) = z := ⟨_, rfl⟩
  rw [hzc] at hix HS
  clear hsz hzc
  have HO := Lib.hid (op_leaf (op := ⟨#[35]⟩) (by simp [opsL]))
  have HX := Lib.hid hall
  have HC := Lib.hid hcell
  have n0 : ((n : Int) == 0) = false := by rw [beq_eq_false_iff_ne]; omega
  have n1 : (0 : Int) < (n : Int) := by omega
  have k1 : (kk != 1) = true := by simpa using hk1
  have q4 : ¬ tx.toList = [35] := by rw [ByteArray.toList_eq]; intro e; exact htx (ByteArray.ext (Array.toList_inj.1 e))
  have b4 : (tx.toList == [35]) = false := beq_eq_false_iff_ne.2 q4
  clear hname hdig hc hs hall htx hcell hk1
  go_enter Try.func78, Try.ntmps78
  go_wp2_with fail
  refine (HN.out _).mono ?_
  rintro e w2 ⟨rfl, hk⟩
  have HK2 := Lib.hid ((Kept.alloc w _ nob).trans hk (fun _ _ h => h))
  have HB2 := Lib.hid hk
  obtain ⟨d0, d1, d2, d3, d4⟩ := pcell ((hk.block w.heap.size (by simp) (fun h => h)).trans (alloc_blk w _))
  clear hk
  go_wp2_with fail
  refine (HD.out _).mono ?_
  rintro e w3 ⟨rfl, hk⟩
  have HK3 := Lib.hid (HK2.out.trans hk (fun _ _ h => h))
  have HB3 := Lib.hid (HB2.out.trans hk (fun _ _ h => h))
  clear d0 d1 d2 d3 d4
  obtain ⟨d0, d1, d2, d3, d4⟩ := pcell ((HB3.out.block w.heap.size (by simp) (fun h => h)).trans (alloc_blk w _))
  clear hk
  go_wp2_with fail
  refine (HS.out _).mono ?_
  rintro e w4 ⟨rfl, hk⟩
  have HK4 := Lib.hid (HK3.out.trans hk (fun _ _ h => h))
  have HB4 := Lib.hid (HB3.out.trans hk (fun _ _ h => h))
  clear d0 d1 d2 d3 d4
  obtain ⟨d0, d1, d2, d3, d4⟩ := pcell ((HB4.out.block w.heap.size (by simp) (fun h => h)).trans (alloc_blk w _))
  clear hk
  go_wp2_with fail
  refine (HO.out _).mono ?_
  rintro e w5 ⟨rfl, hk⟩
  have HK5 := Lib.hid (HK4.out.trans hk (fun _ _ h => h))
  have HB5 := Lib.hid (HB4.out.trans hk (fun _ _ h => h))
  clear d0 d1 d2 d3 d4
  obtain ⟨d0, d1, d2, d3, d4⟩ := pcell ((HB5.out.block w.heap.size (by simp) (fun h => h)).trans (alloc_blk w _))
  clear hk
  go_wp2_with fail
  refine (HX.out _ HK5.out).mono ?_
  rintro e w6 ⟨rfl, hk⟩
  have HK6 := Lib.hid (HK5.out.trans hk (fun _ _ h => h))
  have HB6 := Lib.hid (HB5.out.trans hk (fun _ _ h => h))
  clear d0 d1 d2 d3 d4
  obtain ⟨d0, d1, d2, d3, d4⟩ := pcell ((HB6.out.block w.heap.size (by simp) (fun h => h)).trans (alloc_blk w _))
  clear hk
  obtain ⟨f0, f1⟩ := HC.out _ HK6.out
  go_wp2_with fail
  go_quiet (fail)
  go_wp2
  go_ret
  exact ⟨rfl, HK6.out.trans (kept_drewN _ _) (fun _ _ h => h)⟩
set_option maxRecDepth 100000 in
set_option maxHeartbeats 8000000 in
theorem par_f35_C (w : World) (tx : ByteArray) (ca : Option Addr) (g o : Nat) (kc cc : Nat) (hname : Ans 89 tx false) (hdig : Ans 90 tx false) (c : UInt8) (hc : tx.data.toList = [c]) (hs : spc c.toNat = true) (n : Nat) (hn : 0 < n) (htx : tx ≠ ⟨#[35]⟩) (t1 : ByteArray) (d : UInt8) (ht0 : t1.data.toList.head? = some d) (hd : d ≠ 35) (hcell : ∀ w', Kept nob w w' → w'.cell? ⟨g, o, none⟩ = some (.int .i64 1) ∧ w'.cell? ⟨g, o + 1, none⟩ = some (.string t1)) (hall : ∀ w', Kept nob w w' → Calls Try.prog 29 #[.slice (some ⟨g, o, none⟩) n kc, .int .i64 2] w' (TrueW w')) : Calls Try.prog 78 #[.agg #[.int .i64 5, .string tx, .string ⟨#[35]⟩, .slice (some ⟨g, o, none⟩) n  kc, .slice ca 0 cc]] w (TrueW w) := by
  have HN := Lib.hid hname
  have HD := Lib.hid hdig
  have hsz : tx.size = 1 := by
    have := congrArg List.length hc
    simpa using this
  have hlt : 0 < tx.size := by omega
  have hix : ((tx[0]'hlt).toNat : Int) = (c.toNat : Int) := by
    have : (tx[0]'hlt) = c := by
      have h1 : tx.data.toList[0]'(by rw [hc]; simp) = c := by simp [hc]
      rw [← h1]; rfl
    rw [this]
  have y1 : ((tx.size : Int) == 1) = true := by rw [hsz]; rfl
  have y2 : ((tx.size : Int) != 1) = false := by rw [hsz]; rfl
  have HS := Lib.hid (fun w' => Spec_leaf c w')
  rw [hs] at HS
  obtain ⟨z, hzc⟩ : ∃ z : Int, (c.toNat : Int) = z := ⟨_, rfl⟩
  rw [hzc] at hix HS
  clear hsz hzc
  have HO := Lib.hid (op_leaf (op := ⟨#[35]⟩) (by simp [opsL]))
  have HX := Lib.hid hall
  have HC := Lib.hid hcell
  have n0 : ((n : Int) == 0) = false := by rw [beq_eq_false_iff_ne]; omega
  have n1 : (0 : Int) < (n : Int) := by omega
  obtain ⟨r1, hr1⟩ : ∃ r, t1.data.toList = d :: r := by
    rcases e : t1.data.toList with _ | ⟨x, r⟩
    · rw [e] at ht0; cases ht0
    · rw [e] at ht0; obtain rfl : x = d := by simpa using ht0
      exact ⟨r, rfl⟩
  have hlt1 : 0 < t1.size := by
    have := congrArg List.length hr1
    simp at this
    omega
  have hix1 : ((t1[0]'hlt1).toNat : Int) = (d.toNat : Int) := by
    have : (t1[0]'hlt1) = d := by
      have h1 : t1.data.toList[0]'(by rw [hr1]; simp) = d := by simp [hr1]
      rw [← h1]; rfl
    rw [this]
  have e1 : ¬ (d.toNat : Int) = 35 := fun e => hd ((tn d 35).1 e)
  obtain ⟨y, hyd⟩ : ∃ y : Int, (d.toNat : Int) = y := ⟨_, rfl⟩
  rw [hyd] at hix1 e1
  have y5 : (y != 35) = true := by simpa using e1
  have q4 : ¬ tx.toList = [35] := by rw [ByteArray.toList_eq]; intro e; exact htx (ByteArray.ext (Array.toList_inj.1 e))
  have b4 : (tx.toList == [35]) = false := beq_eq_false_iff_ne.2 q4
  clear hname hdig hc hs hall htx hcell ht0 hr1 hyd e1 hd
  go_enter Try.func78, Try.ntmps78
  go_wp2_with fail
  refine (HN.out _).mono ?_
  rintro e w2 ⟨rfl, hk⟩
  have HK2 := Lib.hid ((Kept.alloc w _ nob).trans hk (fun _ _ h => h))
  have HB2 := Lib.hid hk
  obtain ⟨d0, d1, d2, d3, d4⟩ := pcell ((hk.block w.heap.size (by simp) (fun h => h)).trans (alloc_blk w _))
  clear hk
  go_wp2_with fail
  refine (HD.out _).mono ?_
  rintro e w3 ⟨rfl, hk⟩
  have HK3 := Lib.hid (HK2.out.trans hk (fun _ _ h => h))
  have HB3 := Lib.hid (HB2.out.trans hk (fun _ _ h => h))
  clear d0 d1 d2 d3 d4
  obtain ⟨d0, d1, d2, d3, d4⟩ := pcell ((HB3.out.block w.heap.size (by simp) (fun h => h)).trans (alloc_blk w _))
  clear hk
  go_wp2_with fail
  refine (HS.out _).mono ?_
  rintro e w4 ⟨rfl, hk⟩
  have HK4 := Lib.hid (HK3.out.trans hk (fun _ _ h => h))
  have HB4 := Lib.hid (HB3.out.trans hk (fun _ _ h => h))
  clear d0 d1 d2 d3 d4
  obtain ⟨d0, d1, d2, d3, d4⟩ := pcell ((HB4.out.block w.heap.size (by simp) (fun h => h)).trans (alloc_blk w _))
  clear hk
  go_wp2_with fail
  refine (HO.out _).mono ?_
  rintro e w5 ⟨rfl, hk⟩
  have HK5 := Lib.hid (HK4.out.trans hk (fun _ _ h => h))
  have HB5 := Lib.hid (HB4.out.trans hk (fun _ _ h => h))
  clear d0 d1 d2 d3 d4
  obtain ⟨d0, d1, d2, d3, d4⟩ := pcell ((HB5.out.block w.heap.size (by simp) (fun h => h)).trans (alloc_blk w _))
  clear hk
  go_wp2_with fail
  refine (HX.out _ HK5.out).mono ?_
  rintro e w6 ⟨rfl, hk⟩
  have HK6 := Lib.hid (HK5.out.trans hk (fun _ _ h => h))
  have HB6 := Lib.hid (HB5.out.trans hk (fun _ _ h => h))
  clear d0 d1 d2 d3 d4
  obtain ⟨d0, d1, d2, d3, d4⟩ := pcell ((HB6.out.block w.heap.size (by simp) (fun h => h)).trans (alloc_blk w _))
  clear hk
  obtain ⟨f0, f1⟩ := HC.out _ HK6.out
  go_wp2_with fail
  go_quiet (fail)
  go_wp2
  go_ret
  exact ⟨(by show Ending.returned (Value.bool (y != (35 : Int))) = _; rw [y5]), HK6.out.trans (kept_drewN _ _) (fun _ _ h => h)⟩
end Go.Proofs.Ytbmapjgajecgfaa

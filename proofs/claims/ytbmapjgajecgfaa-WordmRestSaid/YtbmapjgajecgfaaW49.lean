/-
  What is proved: what a machine does behind commands, and behind arithmetic instead, in states alone. Conditions: those of each theorem.
-/
import Derived.Test.YtbmapjgajecgfaaW48
set_option linter.unusedVariables false
set_option linter.unusedSimpArgs false
namespace Go.Proofs.Ytbmapjgajecgfaa
open Go.RowKit
def zNode : Value := .agg #[.int .i64 0, .string ⟨#[]⟩, .bool false, .bool false, .slice none 0 0, .slice none 0 0, .slice none 0 0, .slice none 0 0, .slice none 0 0, .slice none 0 0]
theorem info_node : (Try.prog.info? 118).map (fun i => (i.zero, i.size, i.bytes)) = some (some zNode, 10, 176) := by kernel_rfl
theorem mk_nodes (n : Nat) (hn : n ≤ 4) : ∃ O, ∀ w : World, (Instr.makeSlice 29 (.int .i64 (n : Int)) (.int .i64 (n : Int))).run Try.prog w = .ok (.slice (some ⟨w.heap.size, 0, none⟩) n n) (w.alloc O) := by
  obtain ⟨i, hi, hz, hs, hby⟩ := info_parts info_node
  refine ⟨.cells (madeCells zNode.cells ((n : Int).toNat * i.size)) 118, fun w => ?_⟩
  have hr := run_make (P := Try.prog) w 29 118 i zNode Try.underlying29 hi hz .i64 .i64 n n (by omega) (Int.le_refl _) (by rw [hby]; omega) (by omega)
  rw [hr]
  simp only [Int.toNat_natCast]
theorem run_at (l : List UInt8) : ∀ (s : St) (i : Nat), (run s l i).2.2 = 0 → (run s l i).2.1 = i + l.length := by
  induction l with
  | nil => intro s i _; rfl
  | cons c r ih =>
    intro s i h
    unfold run at h ⊢
    split at h
    · rename_i h0
      rw [if_pos h0]
      have := ih _ _ h
      rw [this]; simp; omega
    · rename_i h0
      exact absurd h h0
theorem run_cons (s : St) (c : UInt8) (r : List UInt8) (i : Nat) : run s (c :: r) i = if (stFeed s c).1 = 0 then run (stFeed s c).2 r (i + 1) else ((stFeed s c).2, i, (stFeed s c).1) := rfl
theorem run_goes {s t : St} {c : UInt8} (h : stFeed s c = (0, t)) (r : List UInt8) (i : Nat) : run s (c :: r) i = run t r (i + 1) := by rw [run_cons, h]; rfl
theorem run_app (a b : List UInt8) : ∀ (s : St) (i : Nat), (run s a i).2.2 = 0 → run s (a ++ b) i = run (run s a i).1 b (i + a.length) := by
  induction a with
  | nil => intro s i _; rfl
  | cons c r ih =>
    intro s i h
    rw [run_cons] at h
    rw [List.cons_append, run_cons s c (r ++ b), run_cons s c r]
    split at h
    · rename_i h0
      rw [if_pos h0, if_pos h0, ih _ _ h]
      simp only [List.length_cons]
      congr 1
      omega
    · rename_i h0
      exact absurd h h0
structure St.inv (n : Nat) (s : St) : Prop where
  good : s.good n
  fin : s.fin
  sh : s.sh
theorem init_inv : St.init.inv 0 := ⟨init_good, init_fin, init_sh⟩
theorem St.inv.mono {n m : Nat} {s : St} (h : s.inv n) (hm : n ≤ m) : s.inv m := ⟨h.good.mono hm, h.fin, h.sh⟩
theorem feed_inv {n : Nat} {s : St} (h : s.inv n) (hn : n ≤ 60000) (c : UInt8) : (stFeed s c).2.inv (n + 11) := ⟨feed_good h.good c, feed_fin h.good.wf h.fin c, feed_sh h.sh (h.good.mono hn) c⟩
theorem run_inv (l : List UInt8) : ∀ (s : St) (i n : Nat), s.inv n → n + 11 * l.length ≤ 60000 → (run s l i).1.inv (n + 11 * l.length) ∧ (run s l i).1.cms = s.cms := by
  induction l with
  | nil => intro s i n h _; exact ⟨h, rfl⟩
  | cons c r ih =>
    intro s i n h hn
    have hl : (c :: r).length = r.length + 1 := rfl
    rw [hl] at hn ⊢
    have h1 := feed_inv h (by omega) c
    have h2 := feed_cms h.good.wf c
    unfold run
    split
    · obtain ⟨h3, h4⟩ := ih _ (i + 1) _ h1 (by omega)
      exact ⟨h3.mono (by omega), h4.trans h2⟩
    · exact ⟨h1.mono (by omega), h2⟩
theorem rest_paren {s : St} (hk : s.kd ≤ 17) {r : List UInt8} (h : stRest s = 40 :: r) : s.kd = 3 := by
  have hend : ∀ (l : List Lvl) (x : UInt8) (t : List UInt8), l.map lvEnd = x :: t → x ≠ 40 := by
    intro l x t h e
    rcases l with _ | ⟨y, l⟩
    · cases h
    · simp only [List.map_cons, List.cons.injEq] at h
      rw [e] at h
      have := h.1
      unfold lvEnd at this
      split at this <;> simp at this
  unfold stRest at h
  split at h
  · cases h
  rename_i hx
  unfold stMissing at h
  obtain ⟨k, hk'⟩ : ∃ k, s.kd = k := ⟨_, rfl⟩
  rw [hk'] at h hk hx ⊢
  have key : k = 0 ∨ k = 1 ∨ k = 2 ∨ k = 3 ∨ k = 4 ∨ k = 5 ∨ k = 6 ∨ k = 7 ∨ k = 8 ∨ k = 9 ∨ k = 10 ∨ k = 11 ∨ k = 12 ∨ k = 13 ∨ k = 14 ∨ k = 15 := by omega
  rcases key with rfl | rfl | rfl | rfl | rfl | rfl | rfl | rfl | rfl | rfl | rfl | rfl | rfl | rfl | rfl | rfl
  all_goals first
    | rfl
    | (exact absurd rfl (hend _ _ _ h))
    | (simp at h; done)
    | skip
  rcases hd : s.dp.toNat with _ | m
  · rw [hd] at h; simp at h
  · rw [hd, List.replicate_succ] at h; simp at h
/-- The state behind commands; behind arithmetic. -/
def behCmd (s : St) (cm : Nat) : St := ((s.turn 15).add (.mk 6 ⟨#[]⟩ ⟨#[]⟩ [] cm)).turn 0
theorem rest_3 {s : St} (h : s.kd = 3) : stRest s = [40, 48, 41, 41] ++ stRest (s.turn 15) := by
  unfold stRest
  rw [if_neg (by omega), if_neg (by show ¬ (15 = 16 ∨ 15 = 17); omega)]
  unfold stMissing
  rw [h]
  rfl
theorem cmd_1 {s : St} (h : s.kd = 3) : stFeed s 97 = (2, s.turn 15) := by
  have : stNext s 97 = (2, s.turn 15) := by unfold stNext; rw [h]; rfl
  unfold stFeed
  rw [this]
  rfl
theorem cmd_2 (s : St) : stFeed (s.turn 15) 97 = (3, s.turn 15) := rfl
theorem cmd_3 (s : St) (cm : Nat) : stClose (s.turn 15) cm = (true, behCmd s cm) := rfl
theorem cmd_4 (s : St) (cm k : Nat) : stClose (behCmd s cm) k = (false, behCmd s cm) := rfl
theorem ari_run {s : St} (h : s.kd = 3) (i : Nat) : ∃ x, run s [40, 48, 41, 41] i = (x, i + 4, 0) ∧ ∀ cm, SimK (behCmd s cm) x := by
  obtain ⟨lo, tp, kd, tk, pl, ex, qu, bu, dp, ln, cu⟩ := s
  obtain rfl : kd = 3 := h
  have f1 : stFeed (⟨lo, tp, 3, tk, pl, ex, qu, bu, dp, ln, cu⟩ : St) 40 = (0, ⟨lo, tp, 13, tk, pl ++ [40], ex, qu, [], 0, ln, cu⟩) := rfl
  have f2 : stFeed (⟨lo, tp, 13, tk, pl ++ [40], ex, qu, [], 0, ln, cu⟩ : St) 48 = (0, ⟨lo, tp, 13, tk, pl ++ [40] ++ [48], ex, qu, [48], 0, ln, cu⟩) := rfl
  have f3 : stFeed (⟨lo, tp, 13, tk, pl ++ [40] ++ [48], ex, qu, [48], 0, ln, cu⟩ : St) 41 = (0, ⟨lo, tp, 14, tk, pl ++ [40] ++ [48] ++ [41], ex, qu, [48], 0, ln, cu⟩) := rfl
  have f4 : stFeed (⟨lo, tp, 14, tk, pl ++ [40] ++ [48] ++ [41], ex, qu, [48], 0, ln, cu⟩ : St) 41 = (0, ⟨lo, {tp.flush with ps := tp.flush.ps ++ [.mk 7 ⟨#[48]⟩ ⟨#[]⟩ [] 0]}, 0, tk, pl ++ [40] ++ [48] ++ [41] ++ [41], ex, qu, [48], 0, ln, cu⟩) := rfl
  refine ⟨⟨lo, {tp.flush with ps := tp.flush.ps ++ [.mk 7 ⟨#[48]⟩ ⟨#[]⟩ [] 0]}, 0, tk, pl ++ [40] ++ [48] ++ [41] ++ [41], ex, qu, [48], 0, ln, cu⟩, ?_, fun cm => ⟨rfl, ?_⟩⟩
  · rw [run_goes f1, run_goes f2, run_goes f3, run_goes f4]
    rfl
  have h0 : ∀ (a b : St), a.lo = lo → b.lo = lo → a.tp = tp → b.tp = tp → a.ln = ln → b.ln = ln → a.cu = cu → b.cu = cu → Sim False False a b := fun a b h1 h2 h3 h4 h5 h6 h7 h8 =>
    ⟨by rw [h1, h2], by rw [h3, h4], by rw [h5, h6], by rw [h7, h8], fun h => h.elim, fun h => h.elim⟩
  have ub : ¬ usesBu 0 := by unfold usesBu; omega
  have ud : ¬ usesDp 0 := by unfold usesDp; omega
  have h1 := (h0 (⟨lo, tp, 15, tk, pl, ex, qu, bu, dp, ln, cu⟩ : St) (⟨lo, tp, 14, tk, pl ++ [40] ++ [48] ++ [41], ex, qu, [48], 0, ln, cu⟩ : St) rfl rfl rfl rfl rfl rfl rfl rfl).add (.mk 6 ⟨#[]⟩ ⟨#[]⟩ [] cm) (.mk 7 ⟨#[48]⟩ ⟨#[]⟩ [] 0)
  exact ⟨h1.lo, h1.tp, h1.ln, h1.cu, fun h => (ub h).elim, fun h => (ud h).elim⟩
theorem behCmd_inv {n : Nat} {s : St} (h : s.inv n) (cm : Nat) : (behCmd s cm).inv (n + 2) :=
  ⟨good_turn (good_add (good_turn h.good 15 (by omega)) _) 0 (by omega), fin_of 0 rfl (by decide), turn_add_sh (s := s.turn 15) h.sh _ _ _ _⟩
theorem behCmd_cms (s : St) (cm : Nat) : (behCmd s cm).cms = s.cms ++ [cm] := by
  show ((s.turn 15).add _).cms = _
  rw [add_cms]
  simp [Prt.cmds, cmdsOf]
  rfl
end Go.Proofs.Ytbmapjgajecgfaa

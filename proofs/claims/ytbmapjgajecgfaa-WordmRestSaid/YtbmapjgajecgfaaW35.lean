/-
  What is proved: what New does. Conditions: those of each theorem.
-/
import Derived.Test.YtbmapjgajecgfaaW34
set_option linter.unusedVariables false
set_option linter.unusedSimpArgs false
namespace Go.Proofs.Ytbmapjgajecgfaa
open Go.RowKit
def lz : LvM := LvM.new 0 ⟨#[]⟩ ⟨#[]⟩
/-- A machine before its first byte. -/
def Sn.init (g k : Nat) : Sn := ⟨[], lz, k, [], [], false, false, [], 0, false, 0, .slice (some ⟨g, 0, none⟩) 1 1, .slice none 0 0, .slice none 0 0, .slice none 0 0⟩
def St.init : St := ⟨[], ⟨0, [], [], ⟨#[]⟩, ⟨#[]⟩⟩, 0, [], [], false, false, [], 0, false, 0⟩
theorem mk_lev (w : World) : (Instr.makeSlice 50 (.int .i64 1) (.int .i64 1)).run Try.prog w = .ok (.slice (some ⟨w.heap.size, 0, none⟩) 1 1) (w.alloc (.cells #[.int .i64 0, .slice none 0 0, .slice none 0 0, .string ⟨#[]⟩, .string ⟨#[]⟩] 55)) := by kernel_rfl
def New (B : Nat) (w0 : World) (e : Ending) (w' : World) : Prop :=
  ∃ (b : Nat) (S : Sn), e = .returned (.pointer (some ⟨b, 0, none⟩)) ∧ Fam B w' (fun _ => False) (S.dat b) ∧ Kept nob w0 w' ∧ (∀ k, Foot (fun _ => False) (S.dat b) k → w0.heap.size ≤ k) ∧ S.abs = St.init
theorem init_blk {b g k : Nat} (t : Tag) {j : Nat} (h : ((Sn.init g k).dat b t).blk = some j) : (t = .hd ∧ j = b) ∨ (t = .lv ∧ j = g) := by
  cases t with
  | hd => exact .inl ⟨rfl, (Option.some.inj h).symm⟩
  | lv => exact .inr ⟨rfl, (Option.some.inj h).symm⟩
  | ps i => rcases i with _ | i <;> cases h
  | li i => rcases i with _ | i <;> cases h
  | _ => cases h
theorem init_fam {B : Nat} {w : World} {b g : Nat} (hb : w.heap[b]? = some (.cells ((Sn.init g 0).head b (nextv b 0)) 53 (0, 0))) (hg : w.heap[g]? = some (.cells #[.int .i64 0, .slice none 0 0, .slice none 0 0, .string ⟨#[]⟩, .string ⟨#[]⟩] 55 (0, 0))) (hne : b ≠ g) (h1 : B ≤ b) (h2 : B ≤ g) :
    Fam B w (fun _ => False) ((Sn.init g 0).dat b) := by
  refine ⟨fun t => ?_, fun t s k ht hs => ?_, fun k hk => ?_, fun k t hk => hk.elim⟩
  · cases t with
    | hd => exact hb
    | lv => exact ⟨rfl, .inr ⟨g, 1, _, rfl, h2, hg, Nat.le_refl _, by unfold maxLen; omega, rfl, rfl⟩⟩
    | tk => exact World.ownsRow_nil _ _ _ _
    | pl => exact World.ownsRow_nil _ _ _ _
    | bu => exact World.ownsRow_nil _ _ _ _
    | ps i =>
      rcases i with _ | i
      · exact ⟨[], World.ownsRow_nil _ _ _ _, .nil⟩
      · exact trivial
    | li i =>
      rcases i with _ | i
      · exact World.ownsRow_nil _ _ _ _
      · exact trivial
  · rcases init_blk t ht with ⟨rfl, rfl⟩ | ⟨rfl, rfl⟩ <;> rcases init_blk s hs with ⟨rfl, e⟩ | ⟨rfl, e⟩
    · rfl
    · exact absurd e hne
    · exact absurd e.symm hne
    · rfl
  · rcases hk with hk | ⟨t, ht⟩
    · exact hk.elim
    · rcases init_blk t ht with ⟨_, rfl⟩ | ⟨_, rfl⟩
      · exact ⟨h1, lt_blk hb⟩
      · exact ⟨h2, lt_blk hg⟩
theorem turn0 {w : World} {b : Nat} {S : Sn} (hb : w.heap[b]? = some (.cells (S.head b .nilFunc) 53 (0, 0))) :
    Calls Try.prog 27 #[.pointer (some ⟨b, 0, none⟩), .int .i64 0] w fun e w' => e = .returned (.pointer (some ⟨b, 0, none⟩)) ∧ w' = (w.setCell ⟨b, 2, none⟩ (.int .i64 0)).setCell ⟨b, 1, none⟩ (nextv b 0) := by
  have e1 := fun v => set_blk hb 2 v
  have hc2 : w.cell? ⟨b, 2, none⟩ = some (.int .i64 (S.kd : Int)) := by rw [cell_blk hb]; rfl
  have hf2 := frz_blk hb 2
  have hd1 : ∀ v, (w.setCell ⟨b, 2, none⟩ v).cell? ⟨b, 1, none⟩ = some .nilFunc := fun v => by rw [cell_blk (e1 v)]; rfl
  have hg1 : ∀ v, (w.setCell ⟨b, 2, none⟩ v).frozen? ⟨b, 1, none⟩ = false := fun v => frz_blk (e1 v) 1
  clear hb e1
  go_enter Try.func27, Try.ntmps27
  go_wp2
  go_ret
  exact ⟨rfl, rfl⟩
set_option maxRecDepth 100000 in
theorem new_any (B : Nat) (w : World) (hB : B ≤ w.heap.size) : Calls Try.prog 24 #[] w (New B w) := by
  have hmk := mk_lev
  obtain ⟨w1, hw1⟩ : ∃ w1, w1 = (w.alloc (.cells #[.int .i64 0, .slice none 0 0, .slice none 0 0, .string ⟨#[]⟩, .string ⟨#[]⟩] 55)) := ⟨_, rfl⟩
  have z1 : w1.heap.size = w.heap.size + 1 := by rw [hw1]; simp
  have g1 := alloc_blk w (.cells #[.int .i64 0, .slice none 0 0, .slice none 0 0, .string ⟨#[]⟩, .string ⟨#[]⟩] 55)
  rw [← hw1] at g1
  have k1 : Kept nob w w1 := by rw [hw1]; exact Kept.alloc _ _ _
  have b2 := alloc_blk w1 (.cells ((Sn.init w.heap.size 0).head (w.heap.size + 1) .nilFunc) 53)
  rw [z1] at b2
  have g2 := alloc_old g1 (.cells ((Sn.init w.heap.size 0).head (w.heap.size + 1) .nilFunc) 53)
  have k2 := k1.trans (Kept.alloc w1 (.cells ((Sn.init w.heap.size 0).head (w.heap.size + 1) .nilFunc) 53) nob) (fun _ _ h => h)
  have HT := Lib.hid (turn0 (S := Sn.init w.heap.size 0) b2)
  rw [hw1] at HT
  clear g1 k1 b2 g2 k2 hw1 z1
  go_enter Try.func24, Try.ntmps24
  go_wp2_with fail
  refine HT.out.mono ?_
  rintro e w' ⟨rfl, rfl⟩
  go_wp2
  go_ret
  have hb3 := alloc_blk (w.alloc (.cells #[.int .i64 0, .slice none 0 0, .slice none 0 0, .string ⟨#[]⟩, .string ⟨#[]⟩] 55)) (.cells ((((Sn.init w.heap.size 0).head (w.heap.size + 1) Value.nilFunc).setIfInBounds 2 (.int .i64 0)).setIfInBounds 1 (nextv (w.heap.size + 1) 0)) 53)
  rw [World.size_alloc] at hb3
  have hg4 := alloc_old (alloc_blk w (.cells #[.int .i64 0, .slice none 0 0, .slice none 0 0, .string ⟨#[]⟩, .string ⟨#[]⟩] 55)) (.cells ((((Sn.init w.heap.size 0).head (w.heap.size + 1) Value.nilFunc).setIfInBounds 2 (.int .i64 0)).setIfInBounds 1 (nextv (w.heap.size + 1) 0)) 53)
  refine ⟨w.heap.size + 1, Sn.init w.heap.size 0, rfl, init_fam hb3 hg4 (by omega) (by omega) hB, (Kept.alloc w _ nob).trans (Kept.alloc _ _ nob) (fun _ _ h => h), fun k hk => ?_, rfl⟩
  rcases hk with hk | ⟨t, ht⟩
  · exact hk.elim
  · rcases init_blk t ht with ⟨_, rfl⟩ | ⟨_, rfl⟩ <;> omega
end Go.Proofs.Ytbmapjgajecgfaa

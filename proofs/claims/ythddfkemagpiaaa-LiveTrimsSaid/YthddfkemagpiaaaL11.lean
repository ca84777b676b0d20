/-
  What is proved: what the tests of gram.Check answer, and what unlike answers. Conditions: those of each theorem.
-/
import Derived.Test.YthddfkemagpiaaaL10
import Derived.Deep.RegionWith
set_option linter.unusedVariables false
set_option linter.unusedSimpArgs false
namespace Go.Proofs.Ythddfkemagpiaaa
open Go.RowKit
def okR (r : Rl) : Prop := r.2.length ≤ 10000
def okS (s : ByteArray) : Prop := s.size ≤ 100000
def shortB (r : Rl) : Bool := decide (r.2.length ≤ 8)
theorem test57 (w : World) : Test57 w okR shortB := by
  intro w' l xs ra rc hk hr hP
  have h2 : xs.length ≤ 10000 := hP
  unfold shortB
  clear hk hr hP
  go_enter Try.func57, Try.ntmps57
  go_wp2
  go_ret
  exact ⟨ret_bool (by simp; try omega), Kept.alloc _ _ _⟩
noncomputable def formT (s : ByteArray) : Bool := plainB s || quotB s
theorem test60 (w : World) : Test60 w okS formT := by
  intro w' s hk hP
  have h2 : s.size ≤ 100000 := hP
  have HA := Lib.hid (plain_any w' s h2)
  have HQ := Lib.hid (fun w => Quoted_any w s h2)
  unfold formT
  obtain ⟨b, hb⟩ : ∃ b, plainB s = b := ⟨_, rfl⟩
  rw [hb] at HA ⊢
  clear hk hP h2 hb
  cases b
  · go_enter Try.func60, Try.ntmps60
    go_wp2_with fail
    refine HA.out.mono ?_
    rintro e w1 ⟨rfl, hk⟩
    go_wp2_with fail
    refine (HQ.out _).mono ?_
    rintro e w2 ⟨rfl, hk2⟩
    go_wp2
    go_ret
    exact ⟨ret_bool (by simp), hk.trans hk2 (fun _ _ h => h)⟩
  · go_enter Try.func60, Try.ntmps60
    go_wp2_with fail
    refine HA.out.mono ?_
    rintro e w1 ⟨rfl, hk⟩
    go_wp2
    go_ret
    exact ⟨ret_bool (by simp), hk⟩
theorem test61 (w : World) : Test61 w okS plainB := fun w' s hk hP => plain_any w' s hP
def symB (g : Gm) (s : Int) : Bool := g.term s || g.non s
theorem test107 (w : World) (q : Nat) (p : Gp) (g : Gm) (hq : GB w q p g) (hs : Sm g) : Test107 w q (fun _ => True) (symB g) := by
  intro w' s hk hP
  obtain ⟨b0, b1, b2, b3⟩ := (hq.nob hk).c
  have HB := Lib.hid (hq.nob hk)
  have HT := Lib.hid (fun w => term_any w p g s hs)
  have HN := Lib.hid (fun w => non_any w p g s hs)
  unfold symB
  obtain ⟨b, hb⟩ : ∃ b, g.term s = b := ⟨_, rfl⟩
  obtain ⟨c, hc⟩ : ∃ b, g.non s = b := ⟨_, rfl⟩
  rw [hb] at HT ⊢
  rw [hc] at HN ⊢
  clear hb hc hq hs hk hP
  obtain ⟨T, N, R, st⟩ := g
  obtain ⟨ta, tc, na, nc, ra, rc⟩ := p
  unfold gv at HT HN
  simp only at HT HN HB b0 b1 b2 b3
  cases b
  · go_enter Try.func107, Try.ntmps107
    go_wp2_with fail
    refine (HT.out _).mono ?_
    rintro e w1 ⟨rfl, hk⟩
    obtain ⟨b0', b1', b2', b3'⟩ := (HB.out.nob hk).c
    simp only at b0' b1' b2' b3'
    have HK := Lib.hid hk
    clear hk
    go_wp2_with fail
    refine (HN.out _).mono ?_
    rintro e w2 ⟨rfl, hk2⟩
    go_wp2
    go_ret
    exact ⟨ret_bool (by simp), HK.out.trans hk2 (fun _ _ h => h)⟩
  · go_enter Try.func107, Try.ntmps107
    go_wp2_with fail
    refine (HT.out _).mono ?_
    rintro e w1 ⟨rfl, hk⟩
    go_wp2
    go_ret
    exact ⟨ret_bool (by simp), hk⟩
def knownB (g : Gm) (r : Rl) : Bool := g.non r.1 && r.2.all (symB g)
theorem known_any (w : World) (p : Gp) (g : Gm) (hs : Sm g) (l : Int) (xs : List Int) (ra : Option Addr) (rc : Nat) (hx : Rd w ra (iv xs)) (hl : xs.length ≤ 10000) :
    Calls Try.prog 65 #[gv p g, .agg #[.int .i64 l, .slice ra xs.length rc]] w (RetB1 w (knownB g (l, xs))) := by
  have HB := Lib.hid (GB.new w p g)
  have HN := Lib.hid (fun w => non_any w p g l hs)
  have HS := Lib.hid hs
  have HX := Lib.hid hx
  have HA : Hid (∀ w1, Kept nob w w1 → GB w1 w.heap.size p g → Calls Try.prog 106 #[.slice ra xs.length rc, .func (.func 107) #[] #[.pointer (some ⟨w.heap.size, 0, none⟩)]] w1 (RetB1 w1 (xs.all (symB g)))) := Lib.hid (fun w1 hk hb =>
    allI_107 w1 w.heap.size (fun _ => True) (symB g) ra rc xs (HX.out.nob hk) (fun _ _ => trivial) hl (test107 w1 w.heap.size p g hb HS.out))
  unfold knownB
  simp only
  obtain ⟨b, hb⟩ : ∃ b, g.non l = b := ⟨_, rfl⟩
  obtain ⟨c, hc⟩ : ∃ c, xs.all (symB g) = c := ⟨_, rfl⟩
  rw [hb] at HN ⊢
  rw [hc] at HA ⊢
  clear hb hc hs hx
  obtain ⟨T, N, R, st⟩ := g
  obtain ⟨ta, tc, na, nc, ra', rc'⟩ := p
  unfold gv at HN ⊢
  simp only at HN HB ⊢
  cases b
  · go_enter Try.func65, Try.ntmps65
    go_wp2_with fail
    refine (HN.out _).mono ?_
    rintro e w1 ⟨rfl, hk⟩
    go_wp2
    go_ret
    exact ⟨ret_bool (by simp), ((Kept.alloc _ _ _).trans (Kept.alloc _ _ _) (fun _ _ h => h)).trans hk (fun _ _ h => h)⟩
  · go_enter Try.func65, Try.ntmps65
    go_wp2_with fail
    refine (HN.out _).mono ?_
    rintro e w1 ⟨rfl, hk⟩
    have HK := Lib.hid hk
    have HB1 := Lib.hid ((HB.out.nob (Kept.alloc _ _ _)).nob hk)
    have hbk : w1.heap[w.heap.size + 1]? = some (.cells #[.int .i64 l, .slice ra xs.length rc] 40 (0, 0)) := hk.get (by
      have := alloc_blk (w.alloc (.cells #[.slice ta T.length tc, .slice na N.length nc, .slice ra' R.length rc', .int .i64 st] 25)) (.cells #[.int .i64 l, .slice ra xs.length rc] 40)
      rw [World.size_alloc] at this
      exact this) (fun h => h)
    have d0 : w1.cell? ⟨w.heap.size + 1, 0, none⟩ = some (.int .i64 l) := by rw [cell_blk hbk]; rfl
    have d1 : w1.cell? ⟨w.heap.size + 1, 1, none⟩ = some (.slice ra xs.length rc) := by rw [cell_blk hbk]; rfl
    have HK1 : Hid (Kept nob w w1) := Lib.hid (((Kept.alloc _ _ _).trans (Kept.alloc _ _ _) (fun _ _ h => h)).trans HK.out (fun _ _ h => h))
    clear hk hbk
    go_wp2_with fail
    refine (HA.out _ HK1.out HB1.out).mono ?_
    rintro e w2 ⟨rfl, hk2⟩
    go_wp2
    go_ret
    exact ⟨ret_bool (by simp), HK1.out.trans hk2 (fun _ _ h => h)⟩
theorem test64 (w : World) (q : Nat) (p : Gp) (g : Gm) (hq : GB w q p g) (hs : Sm g) : Test64 w q okR (knownB g) := by
  intro w' l xs ra rc hk hr hP
  have HC := Lib.hid (fun w1 (h : Kept nob w' w1) => known_any w1 p g hs l xs ra rc (hr.nob h) hP)
  obtain ⟨b0, b1, b2, b3⟩ := ((hq.nob hk).nob (Kept.alloc w' (.cells #[.int .i64 l, .slice ra xs.length rc] 40) nob)).c
  clear hr hP hs hk hq
  obtain ⟨b, hb⟩ : ∃ b, knownB g (l, xs) = b := ⟨_, rfl⟩
  rw [hb] at HC ⊢
  clear hb
  obtain ⟨T, N, R, st⟩ := g
  obtain ⟨ta, tc, na, nc, ra', rc'⟩ := p
  unfold gv at HC
  simp only at HC b0 b1 b2 b3
  go_enter Try.func64, Try.ntmps64
  go_wp2_with fail
  refine (HC.out _ (Kept.alloc _ _ _)).mono ?_
  rintro e w2 ⟨rfl, hk2⟩
  go_wp2
  go_ret
  exact ⟨rfl, (Kept.alloc _ _ _).trans hk2 (fun _ _ h => h)⟩
end Go.Proofs.Ythddfkemagpiaaa

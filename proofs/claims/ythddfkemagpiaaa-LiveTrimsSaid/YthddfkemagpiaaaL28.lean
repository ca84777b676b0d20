/-
  What is proved: what conchlaw09.awake answers. No condition.
-/
import Derived.Test.YthddfkemagpiaaaL27
set_option linter.unusedVariables false
set_option linter.unusedSimpArgs false
namespace Go.Proofs.Ythddfkemagpiaaa
open Go.RowKit
abbrev o0 : Obj := .cells #[.string ⟨#[65]⟩] 9
abbrev o1 : Obj := .cells #[.string ⟨#[115]⟩, .string ⟨#[116]⟩] 9
abbrev o2 : Obj := .cells #[.int .i64 1] 3
abbrev o3 : Obj := .cells #[.int .i64 3] 3
abbrev o4 (s : Nat) : Obj := .cells #[.int .i64 2, .slice (some ⟨s + 1 + 1, 0, none⟩) 1 1, .int .i64 3, .slice (some ⟨s + 1 + 1 + 1, 0, none⟩) 1 1] 40
abbrev o5 (s : Nat) : Obj := .cells #[.slice (some ⟨s, 0, none⟩) 1 1, .slice (some ⟨s + 1, 0, none⟩) 2 2, .slice (some ⟨s + 1 + 1 + 1 + 1, 0, none⟩) 2 2, .int .i64 2] 25
def awW (w : World) : World := (((((w.alloc o0).alloc o1).alloc o2).alloc o3).alloc (o4 w.heap.size)).alloc (o5 w.heap.size)
def awP (s : Nat) : Gp := ⟨some ⟨s, 0, none⟩, 1, some ⟨s + 1, 0, none⟩, 2, some ⟨s + 1 + 1 + 1 + 1, 0, none⟩, 2⟩
theorem awK (w : World) : Kept nob w (awW w) :=
  (((((Kept.alloc w o0 nob).trans (Kept.alloc _ o1 nob) (fun _ _ h => h)).trans (Kept.alloc _ o2 nob) (fun _ _ h => h)).trans (Kept.alloc _ o3 nob) (fun _ _ h => h)).trans (Kept.alloc _ (o4 w.heap.size) nob) (fun _ _ h => h)).trans (Kept.alloc _ (o5 w.heap.size) nob) (fun _ _ h => h)
theorem awB (w : World) : GB (awW w) (w.heap.size + 1 + 1 + 1 + 1 + 1) (awP w.heap.size) gA := by
  have := alloc_blk (((((w.alloc o0).alloc o1).alloc o2).alloc o3).alloc (o4 w.heap.size)) (o5 w.heap.size)
  simp only [World.size_alloc] at this
  exact this
theorem awH (w : World) : (awW w).heap[w.heap.size]? = some o0 ∧ (awW w).heap[w.heap.size + 1]? = some o1 ∧ (awW w).heap[w.heap.size + 1 + 1]? = some o2 ∧ (awW w).heap[w.heap.size + 1 + 1 + 1]? = some o3 ∧ (awW w).heap[w.heap.size + 1 + 1 + 1 + 1]? = some (o4 w.heap.size) := by
  have h0 := alloc_blk w o0
  have h1 := alloc_blk (w.alloc o0) o1
  have h2 := alloc_blk ((w.alloc o0).alloc o1) o2
  have h3 := alloc_blk (((w.alloc o0).alloc o1).alloc o2) o3
  have h4 := alloc_blk ((((w.alloc o0).alloc o1).alloc o2).alloc o3) (o4 w.heap.size)
  simp only [World.size_alloc] at h1 h2 h3 h4
  exact ⟨alloc_old (alloc_old (alloc_old (alloc_old (alloc_old h0 _) _) _) _) _, alloc_old (alloc_old (alloc_old (alloc_old h1 _) _) _) _, alloc_old (alloc_old (alloc_old h2 _) _) _, alloc_old (alloc_old h3 _) _, alloc_old h4 _⟩
theorem awG (w : World) : GA (awW w) (awP w.heap.size) gA := by
  obtain ⟨h0, h1, h2, h3, h4⟩ := awH w
  have hR : ∀ (b : Nat) (x : Int), (awW w).heap[b]? = some (.cells #[.int .i64 x] 3 (0, 0)) → Rd (awW w) (some ⟨b, 0, none⟩) (iv [x]) := fun b x h => .inr ⟨b, 0, rfl, fun j hj => by
    have : j = 0 := by simp [iv] at hj; omega
    subst this
    rw [cell_blk h]; rfl⟩
  refine ⟨.inr ⟨_, 0, rfl, fun j hj => ?_⟩, .inr ⟨_, 0, rfl, fun j hj => ?_⟩, .inr ⟨_, 0, rfl, fun j r hj => ?_⟩, by decide, by decide, by decide, Nat.le_refl 2⟩
  · have : j = 0 := by simp [sv, gA] at hj; omega
    subst this
    rw [cell_blk h0]; rfl
  · have : j = 0 ∨ j = 1 := by simp [sv, gA] at hj; omega
    rcases this with rfl | rfl <;> (rw [cell_blk h1]; rfl)
  · have hl := (List.getElem?_eq_some_iff.1 hj).1
    have : j = 0 ∨ j = 1 := by simp [gA] at hl; omega
    rcases this with rfl | rfl
    · obtain rfl : (2, [1]) = r := by simpa [gA] using hj
      exact ⟨_, 1, by rw [cell_blk h4]; rfl, by rw [cell_blk h4]; rfl, hR _ 1 h2, by decide, by decide⟩
    · obtain rfl : (3, [3]) = r := by simpa [gA] using hj
      exact ⟨_, 1, by rw [cell_blk h4]; rfl, by rw [cell_blk h4]; rfl, hR _ 3 h3, by decide, by decide⟩
theorem smA : Sm gA := by
  refine ⟨by decide, fun r hr => ?_, fun s hs => ?_, fun s hs => ?_⟩
  · simp only [gA, List.mem_cons, List.not_mem_nil, or_false] at hr
    rcases hr with rfl | rfl <;> decide
  · simp only [gA, List.mem_cons, List.not_mem_nil, or_false] at hs
    subst hs; decide
  · simp only [gA, List.mem_cons, List.not_mem_nil, or_false] at hs
    rcases hs with rfl | rfl <;> decide
set_option maxRecDepth 100000 in
set_option maxHeartbeats 8000000 in
theorem lawake (w : World) : Calls Try.prog 11 #[] w (RetB1 w true) := by
  have HK0 := Lib.hid (awK w)
  have HB0 := Lib.hid (awB w)
  have HG0 := Lib.hid (awG w)
  have H12 := Lib.hid (fun w1 (hk : Kept nob (awW w) w1) => Check_any w1 (awP w.heap.size) gA (HG0.out.nob hk) smA)
  have H14 := Lib.hid (fun w1 (hk : Kept nob (awW w) w1) => Trim_any w1 (awP w.heap.size) gA (HG0.out.nob hk) smA)
  have H17 := Lib.hid (fun w1 (hk : Kept nob (awW w) w1) => Productive_any w1 (awP w.heap.size) gA (HG0.out.nob hk) smA)
  have H19 := Lib.hid (fun w1 (hk : Kept nob (awW w) w1) => Reached_any w1 (awP w.heap.size) gA (HG0.out.nob hk) smA)
  obtain ⟨G, hG, hn1, hr1⟩ := trimA
  have HT : Hid (∀ e w1 w2, RetTrim gA w1 e w2 → ∃ p', e = .returned (.tuple #[gv p' G, .bool true]) ∧ Kept nob w1 w2) := Lib.hid (fun e w1 w2 h => by
    obtain ⟨p', h1, _, h2⟩ := h
    rw [hG] at h1
    exact ⟨p', h1, h2⟩)
  have HP1 := Lib.hid prodLA
  have HR1 := Lib.hid rchLA
  clear hG
  unfold gv awP at H12 H14 H17 H19
  unfold awP at HB0
  simp only [show gA.N.length = 2 from rfl, show gA.R.length = 2 from rfl, show gA.T.length = 1 from rfl, show gA.st = 2 from rfl] at H12 H14 H17 H19 HB0
  have hw : awW w = (((((w.alloc o0).alloc o1).alloc o2).alloc o3).alloc (o4 w.heap.size)).alloc (o5 w.heap.size) := rfl
  obtain ⟨w1, hw1⟩ : ∃ w1, awW w = w1 := ⟨_, rfl⟩
  rw [hw1] at HK0 HB0 HG0 H12 H14 H17 H19 hw
  have HW := Lib.hid hw
  clear hw hw1
  go_enter Try.func11, Try.ntmps11
  go_wp2_with fail
  rw [← HW.out]
  refine (H12.out _ (Kept.refl _ _)).mono ?_
  rintro e w2 ⟨c, s, rfl, hck, hk2⟩
  obtain ⟨rfl, rfl⟩ := ckA hck.out
  have HK2 := Lib.hid hk2
  have HB2 := Lib.hid (HB0.out.nob hk2)
  clear hk2 hck
  obtain ⟨c0, c1, c2, c3⟩ := HB2.out.c
  simp only [show gA.N.length = 2 from rfl, show gA.R.length = 2 from rfl, show gA.T.length = 1 from rfl, show gA.st = 2 from rfl] at c0 c1 c2 c3
  go_wp2_with fail
  refine (H14.out _ HK2.out).mono ?_
  rintro e w3 h3
  obtain ⟨p', rfl, hk3⟩ := HT.out _ _ _ h3
  clear h3
  obtain ⟨pa, pb, pc, pd, pe, pf⟩ := p'
  unfold gv
  simp only [hn1, hr1]
  have HK3 := Lib.hid (HK2.out.trans (hk3.trans (Kept.alloc _ (.cells #[.slice pa G.T.length pb, .slice pc 1 pd, .slice pe 1 pf, .int .i64 G.st] 25) nob) (fun _ _ h => h)) (fun _ _ h => h))
  have HBG : Hid _ := Lib.hid (alloc_blk w3 (.cells #[.slice pa G.T.length pb, .slice pc 1 pd, .slice pe 1 pf, .int .i64 G.st] 25))
  have hk3' := hk3.trans (Kept.alloc _ (.cells #[.slice pa G.T.length pb, .slice pc 1 pd, .slice pe 1 pf, .int .i64 G.st] 25) nob) (fun _ _ h => h)
  have HB3 := Lib.hid (HB2.out.nob hk3')
  clear hk3 hk3' c0 c1 c2 c3
  obtain ⟨c0, c1, c2, c3⟩ := HB3.out.c
  simp only [show gA.N.length = 2 from rfl, show gA.R.length = 2 from rfl, show gA.T.length = 1 from rfl, show gA.st = 2 from rfl] at c0 c1 c2 c3
  go_wp2_with fail
  refine (H17.out _ HK3.out).mono ?_
  rintro e w5 ⟨ap, cp, rfl, -, hk5⟩
  simp only [ivals, List.length_map, HP1.out]
  have hk5' := Lib.hid hk5
  have d0 := kcell hk5'.out c0
  have d1 := kcell hk5'.out c1
  have d2 := kcell hk5'.out c2
  have d3 := kcell hk5'.out c3
  clear hk5
  go_wp2_with fail
  refine (H19.out _ (HK3.out.trans hk5'.out (fun _ _ h => h))).mono ?_
  rintro e w6 ⟨aq, cq, rfl, -, hk6⟩
  simp only [ivals, List.length_map, HR1.out]
  have HBX := Lib.hid (hk6.get (hk5'.out.get HBG.out (fun h => h)) (fun h => h))
  have e1 : w6.cell? ⟨w3.heap.size, 1, none⟩ = some (.slice pc 1 pd) := by rw [cell_blk HBX.out]; rfl
  have e2 : w6.cell? ⟨w3.heap.size, 2, none⟩ = some (.slice pe 1 pf) := by rw [cell_blk HBX.out]; rfl
  have HK6 := Lib.hid (HK0.out.trans (HK3.out.trans (hk5'.out.trans hk6 (fun _ _ h => h)) (fun _ _ h => h)) (fun _ _ h => h))
  clear hk6 c0 c1 c2 c3 d0 d1 d2 d3
  go_wp2
  go_ret
  exact ⟨rfl, HK6.out⟩
end Go.Proofs.Ythddfkemagpiaaa

/-
  What is proved: what Of, has, place answer. Conditions: the arguments can be read.
-/
import Derived.Test.YthddfkemagpiaaaL1
set_option linter.unusedVariables false
set_option linter.unusedSimpArgs false
namespace Go.Proofs.Ythddfkemagpiaaa
open Go.RowKit
theorem lst_succ (k : Nat) (f : Nat → Bool) : lst (k + 1) f = if f k then lst k f ++ [k] else lst k f := by
  unfold lst
  rw [List.range_succ, List.filter_append]
  by_cases h : f k <;> simp [h]
def isL (R : List Rl) (s : Int) (i : Nat) : Bool := decide ((R.getD i (0, [])).1 = s)
def ofL (R : List Rl) (s : Int) : List Nat := lst R.length (isL R s)
theorem rule_at {w : World} {a : Option Addr} {L : List Rl} (h : RdR w a L) {k : Nat} (hk : k < L.length) :
    ∃ b o r ra rc, a = some ⟨b, o, none⟩ ∧ L[k]? = some r ∧ L.getD k (0, []) = r ∧ RuleAt w b (o + k * 2) r ra rc := by
  rcases h with h | ⟨b, o, rfl, hc⟩
  · rw [h] at hk; simp at hk
  · obtain ⟨r, hr⟩ : ∃ r, L[k]? = some r := ⟨_, List.getElem?_eq_getElem hk⟩
    obtain ⟨ra, rc, h⟩ := hc k r hr
    exact ⟨b, o, r, ra, rc, rfl, hr, by simp [List.getD, hr], h⟩
theorem isL_pos {R : List Rl} {k : Nat} {r : Rl} {s : Int} (h : R.getD k (0, []) = r) : isL R s k = decide (r.1 = s) := by unfold isL; rw [h]
theorem own_slice1 {w : World} {base : Nat} {t : TypeId} {v : Value} {n : Nat} {vs : List Value} (h : w.ownsRow base t 1 v n vs) : ∃ a c, v = .slice a n c := by
  rcases h.2 with ⟨rfl, h0⟩ | ⟨g, cap, cur, rfl, _⟩
  · rw [h0]; exact ⟨none, 0, rfl⟩
  · exact ⟨_, _, rfl⟩
theorem cell_new2 (w : World) (o : Obj) (x : Value) (t : TypeId) : ∀ j u, [x][j]? = some u → ((w.alloc o).alloc (.cells #[x] t)).cell? ((⟨w.heap.size + 1, 0, none⟩ : Addr).add j) = some u := by
  have := cell_one_new (w.alloc o) x t
  rwa [World.size_alloc] at this
theorem kept_app {B : Nat} {w0 wr w2 w1 : World} {t : TypeId} {s : Nat} {a : Option Addr} {n c : Nat} {vs : List Value} (hk : Kept nob w0 wr) (ho : wr.ownsRow w0.heap.size t s (.slice a n c) n vs) (hk2 : Kept nob wr w2) (hg : w2.grownBy w1 (Value.slice a n c).ownBlock) : Kept nob w0 w1 :=
  (hk.trans hk2 (fun i hi h => h)).trans (Kept.ofGrown hg) (fun i hi h => by
    have := (ho.lt i h.symm).1
    omega)
def OfRel (w0 : World) (L : List Rl) (s : Int) (v i : Value) (wr : World) : Prop :=
  ∃ k : Nat, k ≤ L.length ∧ i = .int .i64 (k : Int) ∧ (∃ a n c, v = .slice a n c) ∧ Hid (wr.ownsRow w0.heap.size 3 1 v (lst k (isL L s)).length (ivals (lst k (isL L s)))) ∧ Hid (Kept nob w0 wr)
set_option maxRecDepth 100000 in
set_option maxHeartbeats 4000000 in
theorem of_any (w : World) (p : Gp) (g : Gm) (s : Int) (hA : GA w p g) (hs : Sm g) : Calls Try.prog 68 #[gv p g, .int .i64 s] w (RetRow w 3 (ivals (ofL g.R s))) := by
  obtain ⟨T, N, R, st⟩ := g
  obtain ⟨ta, tc, na, nc, ra, rc⟩ := p
  obtain ⟨ti, hi, hz0, hz1, hz2⟩ := info_parts info_int
  have HR := Lib.hid hA.r
  have hRl := hs.n
  unfold gv
  simp only at HR hRl ⊢
  clear hA hs
  have hRl' : R.length ≤ 1000 := by omega
  clear hRl
  go_enter Try.func68, Try.ntmps68
  go_wp2
  go_loopw [5, 11] (fun v i wr => OfRel w R s v i wr) (fun _ i _ => R.length - (intOf i).toNat)
  case atStart => exact ⟨0, by omega, rfl, ⟨none, 0, 0, rfl⟩, Lib.hid (World.ownsRow_nil _ _ _ _), Lib.hid (Kept.alloc _ _ _)⟩
  case round =>
    obtain ⟨k, hk, rfl, ⟨oa, on, oc, rfl⟩, HO, HK⟩ := hrel
    by_cases hlt : k < R.length
    · obtain ⟨b, o, r, ra', rc', hra, hr, hgd, RA⟩ := rule_at (HR.out.nob HK.out) hlt
      have hra0 : ra = some ⟨b, o, none⟩ := hra
      subst hra0
      have d0 := RA.c0
      have d1 := RA.c1
      obtain ⟨l, rr⟩ := r
      simp only at d0 d1
      have HL1 := Lib.hid (isL_pos (s := s) hgd)
      clear RA hr hgd hra
      have HO0 := Lib.hid HO.out
      obtain ⟨_, _, ho⟩ := own_slice1 HO.out
      have hll := lst_len k (isL R s)
      obtain ⟨m, hm⟩ : ∃ m, (lst k (isL R s)).length = m := ⟨_, rfl⟩
      rw [hm] at HO ho hll
      obtain ⟨rfl, rfl, rfl⟩ : on = m ∧ _ = oa ∧ _ = oc := by simp at ho; exact ⟨ho.2.1, ho.1.symm, ho.2.2.symm⟩
      clear ho
      by_cases he : l = s
      · subst he
        have T3 : Hid (on + 1 ≤ maxLen) := Lib.hid (by unfold maxLen; omega)
        have T4 : Hid ((on + 1) * 8 ≤ 140737488355328) := Lib.hid (by omega)
        have T5 : Hid (w.heap.size ≤ ((wr.alloc (.cells #[.int .i64 l, .slice ra' rr.length rc'] 40)).alloc (.cells #[.int .i64 (k : Int)] 3)).heap.size) := Lib.hid (by have := HK.out.size; simp; omega)
        go_wp2_with (at_builtin; refine wpList_append_lies _ rfl _ _ 34 rfl w.heap.size 3 ti (.int .i64 0) 1 8 Try.underlying34 hi hz0 hz1 hz2 rfl (by decide) _ _ _ rfl ((HO.out.alloc _).alloc _) ⟨wr.heap.size + 1, 0, none⟩ 1 1 [.int .i64 (k : Int)] rfl rfl (cell_new2 _ _ _ _) (by simp [Value.oneCell']) (by omega) T3.out T4.out T5.out _ rfl ?_)
        intro g1 cap1 w2 hown1 hgrow _ _
        have HK1 := Lib.hid (kept_app (B := 0) HK.out HO.out ((Kept.alloc _ _ _).trans (Kept.alloc _ _ _) (fun _ _ h => h)) hgrow)
        have HO1 := Lib.hid hown1
        clear hown1 hgrow HO
        go_wp2
        go_roundw
        case rel =>
          refine ⟨k + 1, by omega, rfl, ⟨_, _, _, rfl⟩, Lib.hid ?_, HK1⟩
          rw [lst_succ, HL1.out]
          have := HO1.out
          simpa [ivals, hm] using this
        case measure => simp [intOf]; omega
      · go_wp2
        go_roundw
        case rel =>
          refine ⟨k + 1, by omega, rfl, ⟨_, _, _, rfl⟩, Lib.hid ?_, Lib.hid ?_⟩
          · rw [lst_succ, HL1.out]
            simp only [he, decide_false, Bool.false_eq_true, if_false]
            exact HO0.out.alloc _
          · exact HK.out.trans (Kept.alloc _ _ _) (fun _ _ h => h)
        case measure => simp [intOf]; omega
    · have hke : k = R.length := by omega
      subst hke
      have HO0 := Lib.hid HO.out
      clear HO
      go_wp2
      go_ret
      exact RetRow.mk HO0.out HK.out
theorem own_lower {w : World} {base base' : Nat} {t : TypeId} {s : Nat} {v : Value} {n : Nat} {vs : List Value} (h : w.ownsRow base t s v n vs) (hb : base' ≤ base) : w.ownsRow base' t s v n vs := by
  refine ⟨h.1, ?_⟩
  rcases h.2 with h0 | ⟨g, cap, cur, h1, h2, h3⟩
  · exact .inl h0
  · exact .inr ⟨g, cap, cur, h1, Nat.le_trans hb h2, h3⟩
theorem RetRow.lift {w w1 : World} (hk : Kept nob w w1) {t : TypeId} {vs : List Value} {e : Ending} {w' : World} (h : RetRow w1 t vs e w') : RetRow w t vs e w' := by
  obtain ⟨a, cap, rfl, ho, hk'⟩ := h
  exact ⟨a, cap, rfl, own_lower ho hk.size, hk.trans hk' (fun _ _ h => h)⟩
set_option maxRecDepth 100000 in
set_option maxHeartbeats 4000000 in
theorem rof_any (w : World) (p : Gp) (g : Gm) (s : Int) (hA : GA w p g) (hs : Sm g) : Calls Try.prog 75 #[gv p g, .int .i64 s] w (RetRow w 3 (ivals (ofL g.R s))) := by
  have HB := Lib.hid (GB.new w p g)
  obtain ⟨T, N, R, st⟩ := g
  obtain ⟨ta, tc, na, nc, ra, rc⟩ := p
  obtain ⟨ti, hi, hz0, hz1, hz2⟩ := info_parts info_int
  have HR := Lib.hid hA.r
  have hRl := hs.n
  unfold gv
  simp only at HR hRl HB ⊢
  clear hA hs
  have hRl' : R.length ≤ 1000 := by omega
  clear hRl
  go_enter Try.func75, Try.ntmps75
  go_wp2
  obtain ⟨w1, hw1⟩ : ∃ x, x = w.alloc (.cells #[.slice ta T.length tc, .slice na N.length nc, .slice ra R.length rc, .int .i64 st] 25) := ⟨_, rfl⟩
  have HK1 : Hid (Kept nob w w1) := Lib.hid (by rw [hw1]; exact Kept.alloc _ _ _)
  rw [← hw1] at HB ⊢
  have HR1 := Lib.hid (HR.out.nob HK1.out)
  clear hw1 HR
  go_loopw [5, 6] (fun v i wr => OfRel w1 R s v i wr) (fun _ i _ => R.length - (intOf i).toNat)
  case atStart => exact ⟨0, by omega, rfl, ⟨none, 0, 0, rfl⟩, Lib.hid (World.ownsRow_nil _ _ _ _), Lib.hid (Kept.refl _ _)⟩
  case round =>
    obtain ⟨k, hk, rfl, ⟨oa, on, oc, rfl⟩, HO, HK⟩ := hrel
    have b2 := (HB.out.nob HK.out).c.2.2.1
    simp only at b2
    by_cases hlt : k < R.length
    · obtain ⟨b, o, r, ra', rc', hra, hr, hgd, RA⟩ := rule_at (HR1.out.nob HK.out) hlt
      have hra0 : ra = some ⟨b, o, none⟩ := hra
      subst hra0
      have d0 := RA.c0
      obtain ⟨l, rr⟩ := r
      simp only at d0
      have HL1 := Lib.hid (isL_pos (s := s) hgd)
      clear RA hr hgd hra
      have HO0 := Lib.hid HO.out
      obtain ⟨_, _, ho⟩ := own_slice1 HO.out
      have hll := lst_len k (isL R s)
      obtain ⟨m, hm⟩ : ∃ m, (lst k (isL R s)).length = m := ⟨_, rfl⟩
      rw [hm] at HO ho hll
      obtain ⟨rfl, rfl, rfl⟩ : on = m ∧ _ = oa ∧ _ = oc := by simp at ho; exact ⟨ho.2.1, ho.1.symm, ho.2.2.symm⟩
      clear ho
      by_cases he : l = s
      · subst he
        have T3 : Hid (on + 1 ≤ maxLen) := Lib.hid (by unfold maxLen; omega)
        have T4 : Hid ((on + 1) * 8 ≤ 140737488355328) := Lib.hid (by omega)
        have T5 : Hid (w1.heap.size ≤ (wr.alloc (.cells #[.int .i64 (k : Int)] 3)).heap.size) := Lib.hid (by have := HK.out.size; simp; omega)
        go_wp2_with (at_builtin; refine wpList_append_lies _ rfl _ _ 34 rfl w1.heap.size 3 ti (.int .i64 0) 1 8 Try.underlying34 hi hz0 hz1 hz2 rfl (by decide) _ _ _ rfl (HO.out.alloc _) ⟨wr.heap.size, 0, none⟩ 1 1 [.int .i64 (k : Int)] rfl rfl (cell_one_new _ _ _) (by simp [Value.oneCell']) (by omega) T3.out T4.out T5.out _ rfl ?_)
        intro g1 cap1 w2 hown1 hgrow _ _
        have HK2 := Lib.hid (kept_app (B := 0) HK.out HO.out (Kept.alloc _ _ _) hgrow)
        have HO1 := Lib.hid hown1
        clear hown1 hgrow HO
        go_wp2
        go_roundw
        case rel =>
          refine ⟨k + 1, by omega, rfl, ⟨_, _, _, rfl⟩, Lib.hid ?_, HK2⟩
          rw [lst_succ, HL1.out]
          have := HO1.out
          simpa [ivals, hm] using this
        case measure => simp [intOf]; omega
      · go_wp2
        go_roundw
        case rel =>
          refine ⟨k + 1, by omega, rfl, ⟨_, _, _, rfl⟩, Lib.hid ?_, HK⟩
          rw [lst_succ, HL1.out]
          simp only [he, decide_false, Bool.false_eq_true, if_false]
          exact HO0.out
        case measure => simp [intOf]; omega
    · have hke : k = R.length := by omega
      subst hke
      have HO0 := Lib.hid HO.out
      clear HO
      go_wp2
      go_ret
      exact RetRow.lift HK1.out (RetRow.mk HO0.out HK.out)
end Go.Proofs.Ythddfkemagpiaaa

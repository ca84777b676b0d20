/-
  What is proved: sets as they grow; what live.fine answers. Conditions: those of each theorem.
-/
import Derived.Test.YthddfkemagpiaaaL13
set_option linter.unusedVariables false
set_option linter.unusedSimpArgs false
namespace Go.Proofs.Ythddfkemagpiaaa
open Go.RowKit
theorem SetAt.uniq {w : World} {b g n : Nat} {f f' : Nat → Bool} (h : SetAt w b g n f) (h' : SetAt w b g n f') : f = f' := by
  obtain ⟨ws, hw, hf, hz⟩ := h
  obtain ⟨ws', hw', hf', hz'⟩ := h'
  have h1 := hw.row
  rw [hw'.row] at h1
  have h2 : (ws'.map fun (x : Nat) => Value.int .u64 (x : Int)) = ws.map fun (x : Nat) => Value.int .u64 (x : Int) := by simpa using h1
  have h3 : ws' = ws := by
    have : Function.Injective (fun (x : Nat) => Value.int .u64 (x : Int)) := fun a b e => by
      have : (a : Int) = (b : Int) := by simpa using e
      omega
    exact (List.map_inj_right (fun a b e => this e)).1 h2
  subst h3
  funext i
  rw [hf i, hf' i]
theorem lst_mono (n : Nat) (f h : Nat → Bool) (hf : ∀ j, j < n → f j = true → h j = true) : (lst n f).length ≤ (lst n h).length := by
  induction n with
  | zero => simp [lst]
  | succ n ih =>
    have := ih (fun j hj => hf j (by omega))
    rw [lst_succ, lst_succ]
    have hn := hf n (by omega)
    by_cases h1 : f n = true
    · simp [h1, hn h1]; exact this
    · by_cases h2 : h n = true
      · simp [h1, h2]; omega
      · simp [h1, h2]; exact this
theorem lst_lt_of (n : Nat) (f h : Nat → Bool) (hf : ∀ j, j < n → f j = true → h j = true) (k : Nat) (hk : k < n) (h1 : f k = false) (h2 : h k = true) : (lst n f).length < (lst n h).length := by
  induction n with
  | zero => omega
  | succ n ih =>
    rw [lst_succ, lst_succ]
    have hn := hf n (by omega)
    by_cases e : k = n
    · subst e
      have := lst_mono k f h (fun j hj => hf j (by omega))
      simp [h1, h2]; omega
    · have := ih (fun j hj => hf j (by omega)) (by omega)
      by_cases h3 : f n = true
      · simp [h3, hn h3]; exact this
      · by_cases h4 : h n = true
        · simp [h3, h4]; omega
        · simp [h3, h4]; exact this
open Classical in
/-- How many numbers a set in memory lacks. -/
noncomputable def lack (w : World) (b g n : Nat) : Nat := if h : ∃ f, SetAt w b g n f then n - (lst n h.choose).length else 0
theorem lack_eq {w : World} {b g n : Nat} {f : Nat → Bool} (h : SetAt w b g n f) : lack w b g n = n - (lst n f).length := by
  unfold lack
  have he : ∃ f, SetAt w b g n f := ⟨f, h⟩
  rw [dif_pos he, (SetAt.uniq he.choose_spec h)]
/-- Is a number in a set? -/
def hf (n : Nat) (f : Nat → Bool) (x : Int) : Bool := inr n x && f x.toNat
theorem hf_put {n : Nat} {f : Nat → Bool} {i x : Int} : hf n (putf n f i) x = (hf n f x || (inr n x && decide (x = i))) := by
  unfold hf putf
  by_cases hx : inr n x = true
  · rw [hx]
    simp only [Bool.true_and]
    have hx' : 0 ≤ x ∧ x < n := of_decide_eq_true hx
    by_cases e : x = i
    · subst e; simp [hx]
    · by_cases hi : inr n i = true
      · have hi' : 0 ≤ i ∧ i < n := of_decide_eq_true hi
        have : ¬ x.toNat = i.toNat := by omega
        simp [hi, e, this]
      · simp [hi, e]
  · have hx0 : inr n x = false := by simpa using hx
    simp [hx0]
theorem lack_put {n : Nat} {f : Nat → Bool} {i : Int} (h : (inr n i && !f i.toNat) = true) : n - (lst n (putf n f i)).length < n - (lst n f).length := by
  simp at h
  have hi : 0 ≤ i ∧ i < n := of_decide_eq_true h.1
  have h1 := lst_lt_of n f (putf n f i) (fun j _ hj => by unfold putf; simp [hj]) i.toNat (by omega) h.2 (by unfold putf; simp [h.1])
  have h2 := lst_len n (putf n f i)
  omega
theorem put_same {n : Nat} {f : Nat → Bool} {i : Int} (h : (inr n i && !f i.toNat) = false) : putf n f i = f := by
  funext j
  unfold putf
  by_cases hi : inr n i = true
  · have hf : f i.toNat = true := by simpa [hi] using h
    by_cases e : j = i.toNat
    · subst e; simp [hf]
    · simp [e]
  · simp [hi]
def fineB (g : Gm) (n : Nat) (f : Nat → Bool) (r : Rl) : Bool := r.2.all fun x => !(g.non x) || hf n f x
theorem all_no {α : Type} {L : List α} {t : α → Bool} {k : Nat} {r : α} (h : L[k]? = some r) (ht : t r = false) : L.all t = false := by
  rw [List.all_eq_false]
  exact ⟨r, List.mem_of_getElem? h, by simp [ht]⟩
theorem all_yes {α : Type} {L : List α} {t : α → Bool} (h : ∀ (j : Nat) (r : α), L[j]? = some r → t r = true) : L.all t = true := by
  rw [List.all_eq_true]
  intro x hx
  obtain ⟨i, hi, e⟩ := List.mem_iff_getElem.1 hx
  exact h i x (by rw [List.getElem?_eq_getElem hi, e])
theorem upto_succ {α : Type} {L : List α} {P : α → Prop} {k : Nat} {x : α} (h : ∀ (j : Nat) (r : α), j < k → L[j]? = some r → P r) (hx : L[k]? = some x) (hp : P x) : ∀ (j : Nat) (r : α), j < k + 1 → L[j]? = some r → P r := fun j r hj hr => by
  by_cases e : j = k
  · subst e
    rw [hx] at hr
    cases hr
    exact hp
  · exact h j r (by omega) hr
set_option maxRecDepth 100000 in
set_option maxHeartbeats 4000000 in
theorem fine_any (w : World) (p : Gp) (g : Gm) (hs : Sm g) (l : Int) (xs : List Int) (ra : Option Addr) (rc : Nat) (hx : Rd w ra (iv xs)) (hl : xs.length ≤ 10000) (b gg n : Nat) (f : Nat → Bool) (hset : SetAt w b gg n f) :
    Calls Try.prog 48 #[gv p g, .agg #[.int .i64 l, .slice ra xs.length rc], .pointer (some ⟨b, 0, none⟩)] w (RetB1 w (fineB g n f (l, xs))) := by
  have HB := Lib.hid ((GB.new w p g).nob (Kept.alloc _ (.cells #[.int .i64 l, .slice ra xs.length rc] 40) nob))
  have HN := Lib.hid (fun w s => non_any w p g s hs)
  have HX := Lib.hid hx
  have HS := Lib.hid hset
  unfold fineB
  simp only
  clear hs hx hset
  obtain ⟨non, hnon⟩ : ∃ non, g.non = non := ⟨_, rfl⟩
  rw [hnon] at HN ⊢
  clear hnon
  obtain ⟨T, N, R, st⟩ := g
  obtain ⟨ta, tc, na, nc, ra', rc'⟩ := p
  unfold gv at HN ⊢
  simp only at HB HN ⊢
  have HK0 : Hid (Kept nob w ((w.alloc (.cells #[.slice ta T.length tc, .slice na N.length nc, .slice ra' R.length rc', .int .i64 st] 25)).alloc (.cells #[.int .i64 l, .slice ra xs.length rc] 40))) := Lib.hid ((Kept.alloc _ _ _).trans (Kept.alloc _ _ _) (fun _ _ h => h))
  obtain ⟨w1, hw1⟩ : ∃ w1, w1 = ((w.alloc (.cells #[.slice ta T.length tc, .slice na N.length nc, .slice ra' R.length rc', .int .i64 st] 25)).alloc (.cells #[.int .i64 l, .slice ra xs.length rc] 40)) := ⟨_, rfl⟩
  rw [← hw1] at HB HK0
  have HW := Lib.hid hw1
  clear hw1
  go_enter Try.func48, Try.ntmps48
  go_wp2
  rw [← HW.out]
  go_loopw [12] (fun i wr => ∃ k : Nat, i = .int .i64 (k : Int) ∧ k ≤ xs.length ∧ Hid (∀ j x, j < k → xs[j]? = some x → (!(non x) || hf n f x) = true) ∧ Hid (Kept nob w1 wr)) (fun i _ => xs.length - (intOf i).toNat)
  case atStart => exact ⟨0, rfl, by omega, Lib.hid (fun j x h => by omega), Lib.hid (Kept.refl _ _)⟩
  case round =>
    obtain ⟨k, rfl, hkl, hno, HK⟩ := hrel
    obtain ⟨c0, c1, c2, c3⟩ := (HB.out.nob HK.out).c
    simp only at c0 c1 c2 c3
    by_cases hlt : k < xs.length
    · obtain ⟨b1, o1, s, rfl, hsk, d0⟩ := iv_at2 (HX.out.nob (HK0.out.trans HK.out (fun _ _ h => h))) hlt
      have HSK := Lib.hid hsk
      clear hsk
      have HNs := Lib.hid (HN.out wr s)
      obtain ⟨bb, hbb⟩ : ∃ b, non s = b := ⟨_, rfl⟩
      rw [hbb] at HNs
      have HBB := Lib.hid hbb
      clear hbb
      cases bb
      · go_wp2_with fail
        refine HNs.out.mono ?_
        rintro e w2 ⟨rfl, hk⟩
        have HK2 := Lib.hid (HK.out.trans hk (fun _ _ h => h))
        go_wp2
        go_roundw
        case rel => exact ⟨k + 1, by go_num, by omega, Lib.hid (upto_succ hno.out HSK.out (by rw [HBB.out]; rfl)), HK2⟩
        case measure => simp [intOf]; omega
      · have HH : Hid (∀ w2, Kept nob w1 w2 → Calls Try.prog 45 #[.pointer (some ⟨b, 0, none⟩), .int .i64 s] w2 fun e w' => e = .returned (.bool (hf n f s)) ∧ w2 = w') := Lib.hid (fun w2 hk => has_any (HS.out.kept (HK0.out.trans hk (fun _ _ h => h)) (fun h => h) (fun h => h)) s)
        obtain ⟨c, hc⟩ : ∃ c, hf n f s = c := ⟨_, rfl⟩
        rw [hc] at HH
        have HC := Lib.hid hc
        clear hc
        cases c
        · have HE : Hid ((xs.all fun x => !(non x) || hf n f x) = false) := Lib.hid (all_no HSK.out (by rw [HBB.out, HC.out]; rfl))
          go_wp2_with fail
          refine HNs.out.mono ?_
          rintro e w2 ⟨rfl, hk⟩
          have HK2 := Lib.hid (HK.out.trans hk (fun _ _ h => h))
          go_wp2_with fail
          refine (HH.out _ HK2.out).mono ?_
          rintro e w3 ⟨rfl, rfl⟩
          go_wp2
          go_ret
          exact ⟨ret_bool HE.out.symm, HK0.out.trans HK2.out (fun _ _ h => h)⟩
        · go_wp2_with fail
          refine HNs.out.mono ?_
          rintro e w2 ⟨rfl, hk⟩
          have HK2 := Lib.hid (HK.out.trans hk (fun _ _ h => h))
          go_wp2_with fail
          refine (HH.out _ HK2.out).mono ?_
          rintro e w3 ⟨rfl, rfl⟩
          go_wp2
          go_roundw
          case rel => exact ⟨k + 1, by go_num, by omega, Lib.hid (upto_succ hno.out HSK.out (by rw [HC.out]; simp)), HK2⟩
          case measure => simp [intOf]; omega
    · have HE : Hid ((xs.all fun x => !(non x) || hf n f x) = true) := Lib.hid (all_yes (fun j x hx => hno.out j x (by have := (List.getElem?_eq_some_iff.1 hx).1; omega) hx))
      go_wp2
      go_ret
      exact ⟨ret_bool HE.out.symm, HK0.out.trans HK.out (fun _ _ h => h)⟩
end Go.Proofs.Ythddfkemagpiaaa

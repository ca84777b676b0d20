/-
  What is proved: what live.productive answers: the productive nonterminals. Conditions: those of each theorem.
-/
import Derived.Test.YthddfkemagpiaaaL14
set_option linter.unusedVariables false
set_option linter.unusedSimpArgs false
namespace Go.Proofs.Ythddfkemagpiaaa
open Go.RowKit
/-- Productive nonterminals. -/
inductive Prd (g : Gm) : Int → Prop
  | mk (r : Rl) (hr : r ∈ g.R) (h : ∀ x, x ∈ r.2 → g.non x = true → Prd g x) : Prd g r.1
/-- All symbols are there. -/
structure Kn (g : Gm) : Prop where
  st : g.non g.st = true
  r : ∀ r, r ∈ g.R → knownB g r = true
theorem Kn.left {g : Gm} (h : Kn g) {r : Rl} (hr : r ∈ g.R) : g.non r.1 = true := by
  have := h.r r hr
  unfold knownB at this
  simp at this
  exact this.1
theorem Kn.right {g : Gm} (h : Kn g) {r : Rl} (hr : r ∈ g.R) {x : Int} (hx : x ∈ r.2) : 1 ≤ x ∧ x ≤ g.top := by
  have := h.r r hr
  unfold knownB symB at this
  simp at this
  have := this.2 x hx
  unfold Gm.term Gm.non at this
  simp at this
  unfold Gm.top Gm.nt at *
  omega
theorem non_in {g : Gm} {x : Int} (h : g.non x = true) : 1 ≤ x ∧ x ≤ g.top := by
  unfold Gm.non Gm.nt at h
  simp at h
  unfold Gm.top at *
  omega
theorem Prd.non {g : Gm} (hk : Kn g) {x : Int} (h : Prd g x) : g.non x = true := by
  cases h with
  | mk r hr _ => exact hk.left hr
open Classical in
noncomputable def prodF (g : Gm) : Nat → Bool := fun i => decide (Prd g (i : Int))
def rm (g : Gm) : Nat := g.T.length + g.N.length + 1
theorem rm_top (g : Gm) : ((rm g : Nat) : Int) = g.top + 1 := by unfold rm Gm.top; omega
theorem room_rm {g : Gm} (hs : Sm g) : roomOf (g.top + 1) = rm g := by
  have := hs.n
  unfold roomOf rm Gm.top
  omega
/-- A set of productive ones that is closed is all of them. -/
theorem prod_all {g : Gm} (hk : Kn g) {f : Nat → Bool} (hz : ∀ i, rm g ≤ i → f i = false) (hsound : ∀ i : Nat, f i = true → Prd g (i : Int)) (hclosed : ∀ r, r ∈ g.R → fineB g (rm g) f r = true → hf (rm g) f r.1 = true) : f = prodF g := by
  have hall : ∀ x, Prd g x → hf (rm g) f x = true := by
    intro x hx
    induction hx with
    | mk r hr h ih =>
      apply hclosed r hr
      unfold fineB
      rw [List.all_eq_true]
      intro y hy
      cases hn : g.non y with
      | false => rfl
      | true => simp; exact ih y hy hn
  funext i
  unfold prodF
  rw [Bool.eq_iff_iff]
  simp only [decide_eq_true_eq]
  constructor
  · exact hsound i
  · intro h
    have := hall _ h
    unfold hf at this
    simp at this
    exact this.2
theorem fine_sound {g : Gm} {f : Nat → Bool} (hsound : ∀ i : Nat, f i = true → Prd g (i : Int)) {r : Rl} (hr : r ∈ g.R) (h : fineB g (rm g) f r = true) : Prd g r.1 := by
  refine Prd.mk r hr fun x hx hn => ?_
  unfold fineB at h
  rw [List.all_eq_true] at h
  have := h x hx
  rw [hn] at this
  unfold hf at this
  simp at this
  have hx := this.1
  unfold inr at hx
  have hx' := of_decide_eq_true hx
  have := hsound _ this.2
  rwa [Int.toNat_of_nonneg hx'.1] at this
theorem putf_sound {n : Nat} {f : Nat → Bool} {P : Int → Prop} (hsound : ∀ i : Nat, f i = true → P (i : Int)) {x : Int} (h : P x) : ∀ i : Nat, putf n f x i = true → P (i : Int) := by
  intro i hi
  unfold putf at hi
  simp at hi
  rcases hi with hi | ⟨h1, h2⟩
  · exact hsound i hi
  · unfold inr at h1
    have := of_decide_eq_true h1
    subst h2
    rwa [Int.toNat_of_nonneg this.1]
theorem prod_round {g : Gm} (hk : Kn g) {r : Rl} (hr : r ∈ g.R) : inr (rm g) r.1 = true := by
  have := non_in (hk.left hr)
  unfold inr
  have := rm_top g
  simp
  omega
/-- The state of one round of productive: so many rules are seen. -/
structure PrR (g : Gm) (k : Nat) (m : Bool) (l0 : Nat) (f : Nat → Bool) (l : Nat) : Prop where
  sound : ∀ i : Nat, f i = true → Prd g (i : Int)
  more : m = true → l < l0
  less : l ≤ l0
  none : m = false → ∀ j r, j < k → g.R[j]? = some r → fineB g (rm g) f r = true → hf (rm g) f r.1 = true
theorem PrR.skip {g : Gm} {k : Nat} {m : Bool} {l0 l : Nat} {f : Nat → Bool} (h : PrR g k m l0 f l) {r : Rl} (hr : g.R[k]? = some r) (hc : fineB g (rm g) f r = true → hf (rm g) f r.1 = true) : PrR g (k + 1) m l0 f l :=
  ⟨h.sound, h.more, h.less, fun hm j q hj hq => by
    by_cases e : j = k
    · subst e; rw [hr] at hq; cases hq; exact hc
    · exact h.none hm j q (by omega) hq⟩
theorem PrR.put {g : Gm} {k : Nat} {m : Bool} {l0 : Nat} {f : Nat → Bool} (h : PrR g k m l0 f (rm g - (lst (rm g) f).length)) {r : Rl} (hr : g.R[k]? = some r) (hc : fineB g (rm g) f r = true) (hd : (inr (rm g) r.1 && !f r.1.toNat) = true) :
    PrR g (k + 1) true l0 (putf (rm g) f r.1) (rm g - (lst (rm g) (putf (rm g) f r.1)).length) := by
  have h1 := lack_put hd
  have h2 := h.less
  refine ⟨putf_sound h.sound (fine_sound h.sound (List.mem_of_getElem? hr) hc), fun _ => by omega, by omega, fun hm => by cases hm⟩
theorem SetAt.zero {w : World} {b g n : Nat} {f : Nat → Bool} (h : SetAt w b g n f) (i : Nat) (hi : n ≤ i) : f i = false := by
  obtain ⟨ws, hw, hf, hz⟩ := h
  exact hz i hi
def PrInv (g : Gm) (b gg : Nat) (k : Nat) (m : Bool) (l0 : Nat) (wr : World) : Prop :=
  ∃ f, SetAt wr b gg (rm g) f ∧ PrR g k m l0 f (rm g - (lst (rm g) f).length)
def PrOut (g : Gm) (b gg : Nat) (m : Bool) (wr : World) : Prop :=
  ∃ f, SetAt wr b gg (rm g) f ∧ (∀ i : Nat, f i = true → Prd g (i : Int)) ∧ (m = false → ∀ r, r ∈ g.R → fineB g (rm g) f r = true → hf (rm g) f r.1 = true)
def mu (m : Value) (l : Nat) : Nat := match m with | .bool true => l + 1 | _ => 0
theorem keptB {w w2 w3 : World} {gg : Nat} (h : Kept nob w w2) (hg : w.heap.size ≤ gg) (k : Kept (ib gg) w2 w3) : Kept nob w w3 :=
  ⟨k.os.trans h.os, k.tape.trans h.tape, k.output.trans h.output, Nat.le_trans h.size k.size, fun i hi _ => (k.block i (Nat.lt_of_lt_of_le hi h.size) (fun e => by have : i = gg := e; omega)).trans (h.block i hi (fun h => h))⟩
set_option maxRecDepth 100000 in
set_option maxHeartbeats 8000000 in
theorem productive_any (w : World) (p : Gp) (g : Gm) (hA : GA w p g) (hs : Sm g) (hkn : Kn g) :
    Calls Try.prog 42 #[gv p g] w fun e w' => ∃ b gg, e = .returned (.pointer (some ⟨b, 0, none⟩)) ∧ Hid (SetAt w' b gg (rm g) (prodF g)) ∧ Hid (Kept nob w w') ∧ Hid (w.heap.size ≤ b ∧ w.heap.size ≤ gg) := by
  have HB0 := Lib.hid (GB.new w p g)
  have HKN := Lib.hid hkn
  have HR := Lib.hid hA.r
  have HSR := Lib.hid hs.r
  have H44 : Hid (∀ w1, Calls Try.prog 44 #[gv p g] w1 (RetI w1 g.top)) := Lib.hid (fun w1 => top_any w1 p g hs)
  have H48 : Hid (∀ w1 l xs ra rc b gg f, Rd w1 ra (iv xs) → xs.length ≤ 10000 → SetAt w1 b gg (rm g) f → Calls Try.prog 48 #[gv p g, .agg #[.int .i64 l, .slice ra xs.length rc], .pointer (some ⟨b, 0, none⟩)] w1 (RetB1 w1 (fineB g (rm g) f (l, xs)))) :=
    Lib.hid (fun w1 l xs ra rc b gg f hx hl hset => fine_any w1 p g hs l xs ra rc hx hl b gg (rm g) f hset)
  have hn := hs.n
  have HRM := Lib.hid (room_rm hs)
  have htop := hs.top
  clear hA hs hkn
  obtain ⟨ta, tc, na, nc, ra, rc⟩ := p
  unfold gv at H44 H48 ⊢
  simp only at HB0 HR H44 H48 ⊢
  have HK0 : Hid (Kept nob w (w.alloc (.cells #[.slice ta g.T.length tc, .slice na g.N.length nc, .slice ra g.R.length rc, .int .i64 g.st] 25))) := Lib.hid (Kept.alloc _ _ _)
  go_enter Try.func42, Try.ntmps42
  go_wp2_with fail
  refine (H44.out _).mono ?_
  rintro e w1 ⟨rfl, hk⟩
  have HK1 := Lib.hid (HK0.out.trans hk (fun _ _ h => h))
  have HB1 := Lib.hid (HB0.out.nob hk)
  have HBS : Hid (w.heap.size < w1.heap.size) := Lib.hid (by have := hk.size; simp at this; omega)
  clear hk
  go_wp2_with fail
  refine (new_set _ _).mono ?_
  rintro e w2 ⟨b, gg, rfl, hset, hk2, hbb, hgg⟩
  rw [HRM.out] at hset
  have HSET := Lib.hid hset
  have HK2 := Lib.hid (HK1.out.trans hk2 (fun _ _ h => h))
  have HB2 := Lib.hid (HB1.out.nob hk2)
  have HBG : Hid (w.heap.size < b ∧ w.heap.size < gg) := Lib.hid (by have := HBS.out; omega)
  clear hset hk2 hbb hgg
  go_wp2
  go_loopw [4] (fun m wr => ∃ mb : Bool, m = .bool mb ∧ Hid (PrOut g b gg mb wr) ∧ Hid (Kept (ib gg) w2 wr)) (fun m wr => mu m (lack wr b gg (rm g)))
  case atStart => exact ⟨true, rfl, Lib.hid ⟨_, HSET.out, (fun i h => by cases h), (fun h => by cases h)⟩, Lib.hid (Kept.refl _ _)⟩
  case round =>
    obtain ⟨mb, rfl, HI, HK⟩ := hrel
    have HBr := Lib.hid (HB2.out.nobut HK.out (by have := HBG.out; omega))
    obtain ⟨c0, c1, c2, c3⟩ := HBr.out.c
    simp only at c0 c1 c2 c3
    cases mb
    · go_wp2
      go_ret
      obtain ⟨f, h1, h2, h3⟩ := HI.out
      refine ⟨b, gg, rfl, Lib.hid ?_, Lib.hid (keptB HK2.out (by have := HBG.out; omega) HK.out), Lib.hid (by have := HBG.out; omega)⟩
      rw [← prod_all HKN.out (fun i hi => SetAt.zero h1 i hi) h2 (h3 rfl)]
      exact h1
    · have HI0 : Hid (PrInv g b gg 0 false (lack wr b gg (rm g)) wr) := Lib.hid (by
        obtain ⟨f, h1, h2, h3⟩ := HI.out
        exact ⟨f, h1, h2, (fun h => by cases h), Nat.le_of_eq (lack_eq h1).symm, (fun _ j r hj => by omega)⟩)
      obtain ⟨l0, hl0⟩ : ∃ l0, lack wr b gg (rm g) = l0 := ⟨_, rfl⟩
      rw [hl0] at HI0
      have HL0 := Lib.hid hl0
      clear hl0
      go_wp2
      go_loopw [4, 15] (fun m i wi => ∃ (mb : Bool) (k : Nat), m = .bool mb ∧ i = .int .i64 (k : Int) ∧ k ≤ g.R.length ∧ Hid (PrInv g b gg k mb l0 wi) ∧ Hid (Kept (ib gg) w2 wi)) (fun _ i _ => g.R.length - (intOf i).toNat)
      case atStart => exact ⟨false, 0, rfl, rfl, by omega, HI0, HK⟩
      case round =>
        clear c0 c1 c2 c3
        obtain ⟨mb, k, rfl, rfl, hkl, HIN, HKI⟩ := hrel
        by_cases hlt : k < g.R.length
        · have hkw := keptB HK2.out (by have := HBG.out; omega) HKI.out
          obtain ⟨br, o, r, ra', rc', hra, hr, hgd, RA⟩ := rule_at (HR.out.nob hkw) hlt
          subst hra
          have HRL := Lib.hid (HSR.out r (List.mem_of_getElem? hr))
          have HRR := Lib.hid hr
          have d0 := RA.c0
          have d1 := RA.c1
          have HRA := Lib.hid RA.rd
          obtain ⟨c0, c1, c2, c3⟩ := ((HB2.out.nobut HKI.out (by have := HBG.out; omega)).nob (Kept.alloc wr (.cells #[.int .i64 r.1, .slice ra' r.2.length rc'] 40) nob)).c
          simp only at c0 c1 c2 c3
          obtain ⟨f, hset, hpr⟩ := HIN.out
          have HF := Lib.hid (H48.out (wr.alloc (.cells #[.int .i64 r.1, .slice ra' r.2.length rc'] 40)) r.1 r.2 ra' rc' b gg f (RA.rd.nob (Kept.alloc _ _ _)) (HSR.out r (List.mem_of_getElem? hr)) (hset.kept (Kept.alloc _ _ nob) (fun h => h) (fun h => h)))
          have HSETI := Lib.hid hset
          have HPR := Lib.hid hpr
          obtain ⟨l, xs⟩ := r
          simp only at d0 d1 HRA HF c0 c1 c2 c3
          clear RA hr hgd hkw hset hpr
          obtain ⟨c, hc⟩ : ∃ c, fineB g (rm g) f (l, xs) = c := ⟨_, rfl⟩
          rw [hc] at HF
          have HC := Lib.hid hc
          clear hc
          go_wp2_with fail
          refine HF.out.mono ?_
          rintro e w3 ⟨rfl, hk3⟩
          have HKW := Lib.hid ((Kept.alloc wr (.cells #[.int .i64 l, .slice ra' xs.length rc'] 40) nob).trans hk3 (fun _ _ h => h))
          have HK3 : Hid (Kept (ib gg) w2 w3) := Lib.hid (HKI.out.trans HKW.out (fun _ _ h => h.elim))
          have HS3 := Lib.hid (HSETI.out.kept HKW.out (fun h => h) (fun h => h))
          have e0 : w3.cell? ⟨wr.heap.size, 0, none⟩ = some (.int .i64 l) := by rw [cell_blk (hk3.get (alloc_blk _ _) (fun h => h))]; rfl
          clear c0 c1 c2 c3 d0 d1 hk3
          cases c
          · go_wp2
            go_roundw
            case rel => exact ⟨mb, k + 1, rfl, by go_num, by omega, Lib.hid ⟨f, HS3.out, HPR.out.skip HRR.out (fun h => by rw [HC.out] at h; cases h)⟩, HK3⟩
            case measure => simp [intOf]; omega
          · have HP := Lib.hid (put_any HS3.out l)
            obtain ⟨d, hd⟩ : ∃ d, (inr (rm g) l && !f l.toNat) = d := ⟨_, rfl⟩
            rw [hd] at HP
            have HD := Lib.hid hd
            clear hd
            go_wp2_with fail
            refine HP.out.mono ?_
            rintro e w4 ⟨rfl, hs4, hk4, _⟩
            have HS4 := Lib.hid hs4
            have HK4 : Hid (Kept (ib gg) w2 w4) := Lib.hid (HK3.out.trans hk4 (fun _ _ h => h))
            clear hs4 hk4 e0
            cases d
            · go_wp2
              go_roundw
              case rel =>
                refine ⟨mb, k + 1, rfl, by go_num, by omega, Lib.hid ⟨f, ?_, HPR.out.skip HRR.out (fun _ => ?_)⟩, HK4⟩
                · have := HS4.out
                  rwa [put_same HD.out] at this
                · have h1 := prod_round HKN.out (List.mem_of_getElem? HRR.out)
                  have h2 := HD.out
                  unfold hf
                  simp only at h1 ⊢
                  rw [h1] at h2 ⊢
                  simpa using h2
              case measure => simp [intOf]; omega
            · go_wp2
              go_roundw
              case rel => exact ⟨true, k + 1, rfl, by go_num, by omega, Lib.hid ⟨_, HS4.out, HPR.out.put HRR.out HC.out HD.out⟩, HK4⟩
              case measure => simp [intOf]; omega
        · have hke : k = g.R.length := by omega
          subst hke
          go_wp2
          go_roundw
          case rel =>
            obtain ⟨f, h1, h2⟩ := HIN.out
            refine ⟨mb, rfl, Lib.hid ⟨f, h1, h2.sound, fun hm r hr => ?_⟩, HKI⟩
            obtain ⟨j, hj, e⟩ := List.mem_iff_getElem.1 hr
            exact h2.none hm j r hj (by rw [List.getElem?_eq_getElem hj, e])
          case measure =>
            obtain ⟨f, h1, h2⟩ := HIN.out
            rw [HL0.out, lack_eq h1]
            cases mb
            · show 0 < l0 + 1; omega
            · have := h2.more rfl
              show _ + 1 < l0 + 1
              omega
end Go.Proofs.Ythddfkemagpiaaa

/-
  What is proved: what live.reached answers: the symbols that are reached. Conditions: those of each theorem.
-/
import Derived.Test.YthddfkemagpiaaaL15
set_option linter.unusedVariables false
set_option linter.unusedSimpArgs false
namespace Go.Proofs.Ythddfkemagpiaaa
open Go.RowKit
/-- What is reached. -/
inductive Rch (g : Gm) : Int → Prop
  | st : Rch g g.st
  | step (r : Rl) (hr : r ∈ g.R) (h : Rch g r.1) (x : Int) (hx : x ∈ r.2) : Rch g x
open Classical in
noncomputable def rchF (g : Gm) : Nat → Bool := fun i => decide (Rch g (i : Int))
def clo (g : Gm) (f : Nat → Bool) (s : Int) : Prop := ∀ r, r ∈ g.R → r.1 = s → ∀ x, x ∈ r.2 → hf (rm g) f x = true
structure RcI (g : Gm) (D : List Int) (L : Int → Prop) (f : Nat → Bool) (M : Nat) : Prop where
  sound : ∀ i : Nat, f i = true → Rch g (i : Int)
  st : hf (rm g) f g.st = true
  sub : ∀ s, s ∈ D → hf (rm g) f s = true
  work : ∀ s, hf (rm g) f s = true → s ∈ D ∨ L s ∨ clo g f s
  meas : 2 * (rm g - (lst (rm g) f).length) + D.length ≤ M
theorem hf_sound {P : Int → Prop} {n : Nat} {f : Nat → Bool} (h : ∀ i : Nat, f i = true → P (i : Int)) {x : Int} (hx : hf n f x = true) : P x := by
  unfold hf at hx
  simp at hx
  have h1 := hx.1
  unfold inr at h1
  have := of_decide_eq_true h1
  have h2 := h _ hx.2
  rwa [Int.toNat_of_nonneg this.1] at h2
theorem hf_mono {n : Nat} {f : Nat → Bool} {i x : Int} (h : hf n f x = true) : hf n (putf n f i) x = true := by rw [hf_put, h]; rfl
theorem RcI.put {g : Gm} {D : List Int} {L : Int → Prop} {f : Nat → Bool} {M : Nat} (h : RcI g D L f M) {x : Int} (hx : Rch g x) (hd : (inr (rm g) x && !f x.toNat) = true) : RcI g (D ++ [x]) L (putf (rm g) f x) M := by
  have h1 := lack_put hd
  have h2 := h.meas
  have hin : inr (rm g) x = true := by simp at hd; exact hd.1
  refine ⟨putf_sound h.sound hx, hf_mono h.st, fun s hs => ?_, fun s hs => ?_, by simp; omega⟩
  · rcases List.mem_append.1 hs with hs | hs
    · exact hf_mono (h.sub s hs)
    · rw [List.mem_singleton.1 hs, hf_put, hin]; simp
  · rw [hf_put] at hs
    simp at hs
    rcases hs with hs | ⟨_, hs⟩
    · rcases h.work s hs with h3 | h3 | h3
      · exact .inl (by simp [h3])
      · exact .inr (.inl h3)
      · exact .inr (.inr fun r hr e y hy => hf_mono (h3 r hr e y hy))
    · exact .inl (by simp [hs])
theorem rch_all {g : Gm} {f : Nat → Bool} {M : Nat} (h : RcI g [] (fun _ => False) f M) : f = rchF g := by
  have hall : ∀ x, Rch g x → hf (rm g) f x = true := by
    intro x hx
    induction hx with
    | st => exact h.st
    | step r hr _ x hx ih =>
      rcases h.work _ ih with h1 | h1 | h1
      · cases h1
      · exact h1.elim
      · exact h1 r hr rfl x hx
  funext i
  unfold rchF
  rw [Bool.eq_iff_iff]
  simp only [decide_eq_true_eq]
  constructor
  · exact h.sound i
  · intro hx
    have := hall _ hx
    unfold hf at this
    simp at this
    exact this.2
theorem own_take {w : World} {base : Nat} {t : TypeId} {a : Option Addr} {n c m : Nat} {vs : List Value} (h : w.ownsRow base t 1 (.slice a n c) n vs) (hm : m ≤ n) : w.ownsRow base t 1 (.slice a m c) m (vs.take m) := by
  obtain ⟨h1, h2⟩ := h
  refine ⟨by simp; omega, ?_⟩
  rcases h2 with ⟨h3, h4⟩ | ⟨g, cap, cur, h3, h4, h5, h6, h7, h8, h9⟩
  · left
    simp at h3
    obtain ⟨rfl, rfl, rfl⟩ := h3
    exact ⟨by simp; omega, by omega⟩
  · right
    simp at h3
    obtain ⟨rfl, rfl⟩ := h3
    refine ⟨g, c, cur, rfl, h4, h5, by omega, h7, h8, ?_⟩
    rw [← h9, List.take_take]
    congr 1
    omega
theorem RcI.pop {g : Gm} {D : List Int} {f : Nat → Bool} {M : Nat} (h : RcI g D (fun _ => False) f M) (hD : D.length ≠ 0) : RcI g (D.take (D.length - 1)) (fun s => s = D.getD (D.length - 1) 0) f (M - 1) := by
  have hm := h.meas
  refine ⟨h.sound, h.st, fun s hs => h.sub s (List.mem_of_mem_take hs), fun s hs => ?_, by simp; omega⟩
  rcases h.work s hs with h1 | h1 | h1
  · obtain ⟨i, hi, e⟩ := List.mem_iff_getElem.1 h1
    by_cases e2 : i = D.length - 1
    · right; left
      subst e2
      rw [← e]
      simp [List.getD, hi]
    · left
      rw [List.mem_take_iff_getElem]
      exact ⟨i, by omega, e⟩
  · exact h1.elim
  · exact .inr (.inr h1)
theorem RcI.done {g : Gm} {D : List Int} {l : Int} {f : Nat → Bool} {M : Nat} (h : RcI g D (fun s => s = l) f M) (hc : clo g f l) : RcI g D (fun _ => False) f M :=
  ⟨h.sound, h.st, h.sub, fun s hs => by
    rcases h.work s hs with h1 | h1 | h1
    · exact .inl h1
    · rw [h1]; exact .inr (.inr hc)
    · exact .inr (.inr h1), h.meas⟩
theorem ofL_mem {R : List Rl} {s : Int} {i : Nat} : i ∈ ofL R s ↔ ∃ r, R[i]? = some r ∧ r.1 = s := by
  unfold ofL lst isL
  rw [List.mem_filter, List.mem_range]
  simp only [decide_eq_true_eq]
  constructor
  · rintro ⟨h1, h2⟩
    refine ⟨R[i], List.getElem?_eq_getElem h1, ?_⟩
    simpa [List.getD, h1] using h2
  · rintro ⟨r, h, e⟩
    have h1 := (List.getElem?_eq_some_iff.1 h).1
    exact ⟨h1, by simp [List.getD, h, e]⟩
theorem ivals_at {w : World} {a : Option Addr} {L : List Nat} (hx : Rd w a (ivals L)) {k : Nat} (hk : k < L.length) : ∃ b o n, a = some ⟨b, o, none⟩ ∧ L[k]? = some n ∧ w.cell? ⟨b, o + k, none⟩ = some (.int .i64 (n : Int)) := by
  rcases hx with h | ⟨b, o, rfl, hc⟩
  · have := ivals_len L; rw [h] at this; simp at this; omega
  · refine ⟨b, o, L[k], rfl, List.getElem?_eq_getElem hk, ?_⟩
    rw [hc k (by rw [ivals_len]; exact hk)]
    simp [ivals, hk]
theorem RcI.re {g : Gm} {D : List Int} {L : Int → Prop} {f : Nat → Bool} {M : Nat} (h : RcI g D L f M) : RcI g D L f (2 * (rm g - (lst (rm g) f).length) + D.length) := ⟨h.sound, h.st, h.sub, h.work, Nat.le_refl _⟩
theorem RcI.bd {g : Gm} {D : List Int} {L : Int → Prop} {f : Nat → Bool} {M : Nat} (h : RcI g D L f M) : 2 * (rm g - (lst (rm g) f).length) + D.length ≤ M := h.meas
theorem own_keep {w w' : World} {base : Nat} {t : TypeId} {s n : Nat} {v : Value} {vs : List Value} {S : Nat → Prop} (h : w.ownsRow base t s v n vs) (hk : Kept S w w') (hS : ∀ k, v.ownBlock = some k → ¬ S k) : w'.ownsRow base t s v n vs := by
  refine ⟨h.1, ?_⟩
  rcases h.2 with h0 | ⟨g, cap, cur, h1, h2, h3, h4⟩
  · exact .inl h0
  · exact .inr ⟨g, cap, cur, h1, h2, hk.get h3 (hS g (by rw [h1]; rfl)), h4⟩
theorem own_ge {w : World} {base : Nat} {t : TypeId} {s n : Nat} {v : Value} {vs : List Value} (h : w.ownsRow base t s v n vs) {k : Nat} (hk : v.ownBlock = some k) : base ≤ k ∧ k < w.heap.size := h.lt k hk
theorem own_lt {w : World} {base : Nat} {t : TypeId} {s ga o n c : Nat} {vs : List Value} (h : w.ownsRow base t s (.slice (some ⟨ga, o, none⟩) n c) n vs) : ga < w.heap.size := (h.lt ga rfl).2
def lenV : Value → Nat
  | .slice _ n _ => n
  | _ => 0
def iN (xs : List Nat) : List Int := xs.map fun (x : Nat) => (x : Int)
/-- The todo list and the set. -/
def RcW (g : Gm) (b gg B : Nat) (L : Int → Prop) (M : Nat) (Q : (Nat → Bool) → Prop) (v : Value) (wr : World) : Prop :=
  ∃ D f, wr.ownsRow B 3 1 v D.length (iv D) ∧ SetAt wr b gg (rm g) f ∧ RcI g D L f M ∧ Q f
def S0 (gg B lim : Nat) : Nat → Prop := fun k => k = gg ∨ (B ≤ k ∧ k < lim)
set_option maxRecDepth 100000 in
set_option maxHeartbeats 8000000 in
theorem reached_any (w : World) (p : Gp) (g : Gm) (hA : GA w p g) (hs : Sm g) (hkn : Kn g) :
    Calls Try.prog 43 #[gv p g] w fun e w' => ∃ b gg, e = .returned (.pointer (some ⟨b, 0, none⟩)) ∧ Hid (SetAt w' b gg (rm g) (rchF g)) ∧ Hid (Kept nob w w') ∧ Hid (w.heap.size ≤ b ∧ w.heap.size ≤ gg) := by
  have HB0 := Lib.hid (GB.new w p g)
  have HKN := Lib.hid hkn
  have HR := Lib.hid hA.r
  have HSR := Lib.hid hs.r
  have H44 : Hid (∀ w1, Calls Try.prog 44 #[gv p g] w1 (RetI w1 g.top)) := Lib.hid (fun w1 => top_any w1 p g hs)
  have H68 : Hid (∀ w1 s, Kept nob w w1 → Calls Try.prog 68 #[gv p g, .int .i64 s] w1 (RetRow w1 3 (ivals (ofL g.R s)))) := Lib.hid (fun w1 s hk => of_any w1 p g s (hA.nob hk) hs)
  have hn := hs.n
  have HRM := Lib.hid (room_rm hs)
  have htop := hs.top
  obtain ⟨ti, hi, hz0, hz1, hz2⟩ := info_parts info_int
  clear hA hs hkn
  obtain ⟨ta, tc, na, nc, ra, rc⟩ := p
  unfold gv at H44 H68 ⊢
  simp only at HB0 HR H44 H68 ⊢
  have HK0 : Hid (Kept nob w (w.alloc (.cells #[.slice ta g.T.length tc, .slice na g.N.length nc, .slice ra g.R.length rc, .int .i64 g.st] 25))) := Lib.hid (Kept.alloc _ _ _)
  go_enter Try.func43, Try.ntmps43
  go_wp2_with fail
  refine (H44.out _).mono ?_
  rintro e w1 ⟨rfl, hk⟩
  have HK1 := Lib.hid (HK0.out.trans hk (fun _ _ h => h))
  have HB1 := Lib.hid (HB0.out.nob hk)
  have HBS : Hid (w.heap.size < w1.heap.size) := Lib.hid (by have := hk.size; simp at this; omega)
  clear hk
  go_wp2_with fail
  refine (new_set _ _).mono ?_
  rintro e w2 ⟨b, gg, rfl, hset, hk2, hbb, hgg⟩
  rw [HRM.out] at hset
  have HSET := Lib.hid hset
  have HK2 := Lib.hid (HK1.out.trans hk2 (fun _ _ h => h))
  have HB2 := Lib.hid (HB1.out.nob hk2)
  have HBG : Hid (w.heap.size < b ∧ w.heap.size < gg) := Lib.hid (by have := HBS.out; omega)
  have HGG : Hid (gg < w2.heap.size) := Lib.hid (SetAt.lt hset).2.1
  clear hset hk2 hbb hgg
  obtain ⟨c0, c1, c2, c3⟩ := HB2.out.c
  simp only at c0 c1 c2 c3
  go_wp2_with fail
  refine (put_any HSET.out g.st).mono ?_
  rintro e w3 ⟨rfl, hs3, hk3, hz3⟩
  clear hz3
  have HS3 := Lib.hid hs3
  have HK3 := Lib.hid hk3
  have HB3 := Lib.hid (HB2.out.nobut hk3 (by have := HBG.out; omega))
  have HZ3 := Lib.hid hk3.size
  clear hs3 hk3 c0 c1 c2 c3
  obtain ⟨c0, c1, c2, c3⟩ := HB3.out.c
  simp only at c0 c1 c2 c3
  have HI0 : Hid (∃ D f, (w3.alloc (.cells #[.int .i64 g.st] 3)).ownsRow w2.heap.size 3 1 (.slice (some ⟨w3.heap.size, 0, none⟩) 1 1) D.length (iv D) ∧ SetAt (w3.alloc (.cells #[.int .i64 g.st] 3)) b gg (rm g) f ∧ RcI g D (fun _ => False) f (2 * rm g + 1)) := Lib.hid (by
    have hin : inr (rm g) g.st = true := by
      have := non_in HKN.out.st
      have h2 := rm_top g
      unfold inr
      simp
      omega
    have hst : hf (rm g) (putf (rm g) (fun _ => false) g.st) g.st = true := by rw [hf_put, hin]; simp
    refine ⟨[g.st], _, ⟨rfl, .inr ⟨w3.heap.size, 1, _, rfl, HZ3.out, alloc_blk _ _, Nat.le_refl _, by unfold maxLen; omega, rfl, rfl⟩⟩, HS3.out.kept (Kept.alloc _ _ nob) (fun h => h) (fun h => h), ⟨putf_sound (fun i h => by cases h) Rch.st, hst, fun s hs => by rw [List.mem_singleton.1 hs]; exact hst, fun s hs => ?_, by simp; omega⟩⟩
    rw [hf_put] at hs
    have hf0 : hf (rm g) (fun _ => false) s = false := by unfold hf; simp
    rw [hf0] at hs
    simp at hs
    exact .inl (by simp [hs.2]))
  have HK3' : Hid (Kept (ib gg) w2 (w3.alloc (.cells #[.int .i64 g.st] 3))) := Lib.hid (HK3.out.trans (Kept.alloc _ _ nob) (fun _ _ h => h.elim))
  go_wp2
  go_loopw [4] (fun v wr => (∃ a n c, v = .slice a n c) ∧ Hid (∃ D f, wr.ownsRow w2.heap.size 3 1 v D.length (iv D) ∧ SetAt wr b gg (rm g) f ∧ RcI g D (fun _ => False) f (2 * rm g + 1)) ∧ Hid (Kept (ib gg) w2 wr)) (fun v wr => 2 * lack wr b gg (rm g) + lenV v)
  case atStart => exact ⟨⟨_, _, _, rfl⟩, HI0, HK3'⟩
  case round =>
    clear c0 c1 c2 c3
    obtain ⟨⟨a, n, c, rfl⟩, HI, HK⟩ := hrel
    have HBr := Lib.hid (HB2.out.nobut HK.out (by have := HBG.out; omega))
    obtain ⟨c0, c1, c2, c3⟩ := HBr.out.c
    simp only at c0 c1 c2 c3
    obtain ⟨D, f, how, hse, hrc⟩ := HI.out
    have HSE := Lib.hid hse
    have HRC := Lib.hid hrc
    have HLK := Lib.hid (lack_eq hse)
    have hnD : n = D.length := by
      obtain ⟨h1, h2⟩ := how
      rcases h2 with ⟨h3, h4⟩ | ⟨_, _, _, h3, _⟩
      · simp at h3; omega
      · simp at h3; omega
    subst hnD
    have HOW := Lib.hid how
    clear how hse hrc HI
    by_cases h0 : D.length = 0
    · have hD : D = [] := List.eq_nil_of_length_eq_zero h0
      subst hD
      go_wp2
      go_ret
      refine ⟨b, gg, rfl, Lib.hid ?_, Lib.hid (keptB HK2.out (by have := HBG.out; omega) HK.out), Lib.hid (by have := HBG.out; omega)⟩
      rw [← rch_all HRC.out]
      exact HSE.out
    · have hD63 : Hid (D.length ≤ maxLen ∧ D.length ≤ c) := Lib.hid (by
        rcases HOW.out.2 with ⟨h3, h4⟩ | ⟨_, _, _, h3, _, _, h5, h6, _⟩
        · omega
        · simp at h3
          obtain ⟨rfl, rfl⟩ := h3
          exact ⟨by omega, h5⟩)
      obtain ⟨ga, hga⟩ : ∃ ga, a = some ⟨ga, 0, none⟩ := by
        rcases HOW.out.2 with ⟨h3, h4⟩ | ⟨ga, _, _, h3, _⟩
        · omega
        · simp at h3; exact ⟨ga, h3.1⟩
      subst hga
      have hb63 : D.length ≤ 140737488355 := by have := HRC.out.meas; unfold rm at this; omega
      have hbc : (D.length : Int) - 1 ≤ (c : Int) := by have := hD63.out.2; omega
      have dl : wr.cell? ⟨ga, D.length - 1, none⟩ = some (.int .i64 (D.getD (D.length - 1) 0)) := by
        rw [HOW.out.cellAt (D.length - 1) (by omega), iv_get _ _ (by omega)]
      have hcast : ((D.length - 1 : Nat) : Int) = (D.length : Int) - 1 := by omega
      obtain ⟨lf, hlf⟩ : ∃ lf, D.getD (D.length - 1) 0 = lf := ⟨_, rfl⟩
      rw [hlf] at dl
      have HLF := Lib.hid hlf
      clear hlf
      have HRC1 := Lib.hid (HRC.out.re.pop h0)
      rw [HLF.out] at HRC1
      have HRL := Lib.hid (hf_sound HRC.out.sound (HRC.out.sub lf (by rw [← HLF.out]; exact mem_at (by omega))))
      have HOW1 := Lib.hid (own_take (m := D.length - 1) HOW.out (by omega))
      have HLIM := Lib.hid (own_lt HOW.out)
      have HCX := Lib.hid (H68.out wr lf (keptB HK2.out (by have := HBG.out; omega) HK.out))
      obtain ⟨M1, hM1⟩ : ∃ M1, 2 * (rm g - (lst (rm g) f).length) + D.length - 1 = M1 := ⟨_, rfl⟩
      rw [hM1] at HRC1
      have HMD : Hid (M1 + 1 = 2 * lack wr b gg (rm g) + D.length) := Lib.hid (by rw [HLK.out]; omega)
      have HM2 : Hid (M1 ≤ 2 * rm g + 1) := Lib.hid (by have := HRC.out.meas; omega)
      clear hM1
      go_wp2_with fail
      refine HCX.out.mono ?_
      rintro e w5 hret
      obtain ⟨ai, ci, rfl, hrd, hk5, hfar⟩ := retRow_rd hret
      rw [ivals_len]
      have HRD := Lib.hid hrd
      have HK5 := Lib.hid hk5
      have HFAR := Lib.hid hfar
      have HB5 := Lib.hid (HBr.out.nob hk5)
      obtain ⟨lim, hlim⟩ : ∃ lim, lim = wr.heap.size := ⟨_, rfl⟩
      rw [← hlim] at HFAR
      have HLM : Hid (ga < lim ∧ lim ≤ w5.heap.size ∧ w2.heap.size ≤ lim) := Lib.hid (by rw [hlim]; exact ⟨HLIM.out, hk5.size, HK.out.size⟩)
      obtain ⟨is, his⟩ : ∃ is, ofL g.R lf = is := ⟨_, rfl⟩
      rw [his] at HRD HFAR ⊢
      have HIS : Hid (∀ i, i ∈ is ↔ ∃ r, g.R[i]? = some r ∧ r.1 = lf) := Lib.hid (fun i => by rw [← his]; exact ofL_mem)
      have hil : is.length ≤ 1000 := by rw [← his]; have := lst_len g.R.length (isL g.R lf); unfold ofL; omega
      have HKW5 := Lib.hid (keptB HK2.out (by have := HBG.out; omega) (HK.out.trans hk5 (fun _ _ h => h.elim)))
      have HSE5 := Lib.hid (HSE.out.kept hk5 (fun h => h) (fun h => h))
      have HOW5 : Hid (w5.ownsRow w2.heap.size 3 1 (.slice (some ⟨ga, 0, none⟩) (D.length - 1) c) (D.take (D.length - 1)).length (iv (D.take (D.length - 1)))) := Lib.hid (by
        have := own_keep HOW1.out hk5 (fun _ _ h => h)
        have h2 : (D.take (D.length - 1)).length = D.length - 1 := by simp
        rw [h2]
        unfold iv at this ⊢
        rw [List.map_take]
        exact this)
      have HB2S : Hid (b < w2.heap.size) := Lib.hid (SetAt.lt HSET.out).1
      have HW2 := Lib.hid HK2.out.size
      have HKS : Hid (∀ wx, Kept (S0 gg w2.heap.size lim) w5 wx → Kept nob w wx) := Lib.hid (fun wx h => HKW5.out.trans h (fun i hi hs => by
        have := HBG.out; have := HW2.out
        rcases hs with hs | hs <;> omega))
      have HBX : Hid (∀ wx, Kept (S0 gg w2.heap.size lim) w5 wx → GB wx w.heap.size ⟨ta, tc, na, nc, ra, rc⟩ g) := Lib.hid (fun wx h => h.get HB5.out (fun hs => by
        have := HBG.out; have := HGG.out
        rcases hs with hs | hs <;> omega))
      have HRX : Hid (∀ wx, is.length ≠ 0 → Kept (S0 gg w2.heap.size lim) w5 wx → Rd wx ai (ivals is)) := Lib.hid (fun wx h0 h => by
        have hne : ivals is ≠ [] := fun e => h0 (by rw [← ivals_len is, e]; rfl)
        exact HRD.out.kept h (fun b' o' e hs => by
          have h1 := HFAR.out b' o' e hne
          have h3 := HLM.out; have := HGG.out
          rcases hs with hs | hs <;> omega))
      clear his hret hrd hk5 hfar hlim c0 c1 c2 c3 dl
      go_wp2
      go_loopw [4, 39] (fun v j wr => ∃ k : Nat, j = .int .i64 (k : Int) ∧ k ≤ is.length ∧ (∃ a n c, v = .slice a n c) ∧ Hid (RcW g b gg w2.heap.size (fun s => s = lf) M1 (fun f => ∀ (j' i : Nat) (r : Rl), j' < k → is[j']? = some i → g.R[i]? = some r → ∀ x, x ∈ r.2 → hf (rm g) f x = true) v wr) ∧ Hid (Kept (S0 gg w2.heap.size lim) w5 wr) ∧ Hid (∀ q, v.ownBlock = some q → q < lim ∨ w5.heap.size ≤ q)) (fun _ j _ => is.length - (intOf j).toNat)
      case atStart => exact ⟨0, rfl, by omega, ⟨_, _, _, rfl⟩, Lib.hid ⟨_, f, HOW5.out, HSE5.out, HRC1.out, fun j' i r h => by omega⟩, Lib.hid (Kept.refl _ _), Lib.hid (fun q h => by simp [Value.ownBlock] at h; have := HLM.out; omega)⟩
      case round =>
        obtain ⟨k, rfl, hkl, ⟨a2, n2, c2, rfl⟩, HW, HKK, HQ⟩ := hrel
        by_cases hlt : k < is.length
        · obtain ⟨bi, oi, i, hai, hik, di⟩ := ivals_at (HRX.out _ (by omega) HKK.out) hlt
          obtain ⟨r, hri, hrl⟩ := (HIS.out i).1 (List.mem_of_getElem? hik)
          have hiR : i < g.R.length := (List.getElem?_eq_some_iff.1 hri).1
          obtain ⟨br, o, r', ra', rc', hra, hr', hgd, RA⟩ := rule_at HR.out hiR
          rw [hri] at hr'
          obtain rfl := Option.some.inj hr'
          subst hra hai
          have HXR := Lib.hid RA.rd
          have HXL := Lib.hid (HSR.out r (List.mem_of_getElem? hri))
          have d1 := kcell (HKS.out _ HKK.out) RA.c1
          obtain ⟨c0, c1, c2, c3⟩ := (HBX.out _ HKK.out).c
          simp only at c0 c1 c2 c3
          have HIK := Lib.hid hik
          have HRI := Lib.hid hri
          have HRCH : Hid (∀ x, x ∈ r.2 → Rch g x ∧ inr (rm g) x = true) := Lib.hid (fun x hx => ⟨Rch.step r (List.mem_of_getElem? hri) (by rw [hrl]; exact HRL.out) x hx, by
            have := HKN.out.right (List.mem_of_getElem? hri) hx
            have := rm_top g
            unfold inr
            simp
            omega⟩)
          obtain ⟨l, xs⟩ := r
          simp only at d1 HXR HXL HRCH
          have hxl := HXL.out
          clear hik hri hrl hr' hgd RA
          have HKK0 := Lib.hid HKK.out
          go_wp2
          go_loopw [4, 50] (fun v j wr => ∃ m : Nat, j = .int .i64 (m : Int) ∧ m ≤ xs.length ∧ (∃ a n c, v = .slice a n c) ∧ Hid (RcW g b gg w2.heap.size (fun s => s = lf) M1 (fun f => (∀ (j' i : Nat) (r : Rl), j' < k → is[j']? = some i → g.R[i]? = some r → ∀ x, x ∈ r.2 → hf (rm g) f x = true) ∧ ∀ (m' : Nat) (x : Int), m' < m → xs[m']? = some x → hf (rm g) f x = true) v wr) ∧ Hid (Kept (S0 gg w2.heap.size lim) w5 wr) ∧ Hid (∀ q, v.ownBlock = some q → q < lim ∨ w5.heap.size ≤ q)) (fun _ j _ => xs.length - (intOf j).toNat)
          case atStart =>
            refine ⟨0, rfl, by omega, ⟨_, _, _, rfl⟩, Lib.hid ?_, HKK, HQ⟩
            obtain ⟨D1, f1, h1, h2, h3, h4⟩ := HW.out
            exact ⟨D1, f1, h1, h2, h3, h4, fun m' x h => by omega⟩
          case round =>
            clear c0 c1 c2 c3 d1 di HW HKK HQ
            obtain ⟨m, rfl, hml, ⟨a3, n3, c3, rfl⟩, HW, HKK, HQ⟩ := hrel
            by_cases hltm : m < xs.length
            · obtain ⟨bx, ox, x, rfl, hxm, dx⟩ := iv_at2 (HXR.out.nob (HKS.out _ HKK.out)) hltm
              have HXM := Lib.hid hxm
              have HRX1 := Lib.hid (HRCH.out x (List.mem_of_getElem? hxm))
              obtain ⟨D1, f1, how1, hse1, hrc1, hq1⟩ := HW.out
              have HO1 := Lib.hid how1
              have HSE1 := Lib.hid hse1
              have HRC2 := Lib.hid hrc1
              have HQ1 := Lib.hid hq1
              have HPUT := Lib.hid (put_any hse1 x)
              have hn3 : n3 = D1.length := by
                rcases how1.2 with ⟨h3, h4⟩ | ⟨_, _, _, h3, _⟩
                · simp at h3; omega
                · simp at h3; omega
              subst hn3
              have hD1 : D1.length ≤ 3000 := by have := hrc1.meas; have := HM2.out; unfold rm at *; omega
              clear hxm how1 hse1 hrc1 hq1 HW
              obtain ⟨d, hd⟩ : ∃ d, (inr (rm g) x && !f1 x.toNat) = d := ⟨_, rfl⟩
              rw [hd] at HPUT
              have HD := Lib.hid hd
              clear hd
              go_wp2_with fail
              refine HPUT.out.mono ?_
              rintro e w6 ⟨rfl, hs6, hk6, hz6⟩
              have HS6 := Lib.hid hs6
              have HKK6 : Hid (Kept (S0 gg w2.heap.size lim) w5 w6) := Lib.hid (HKK.out.trans hk6 (fun i _ h => Or.inl h))
              have HO6 := Lib.hid (own_keep HO1.out hk6 (fun q hq h => by have h1 := own_ge HO1.out hq; have h2 := HGG.out; have : q = gg := h; omega))
              clear hs6 hk6 hz6
              cases d
              · go_wp2
                go_roundw
                case rel =>
                  refine ⟨m + 1, by go_num, by omega, ⟨_, _, _, rfl⟩, Lib.hid ⟨D1, f1, HO6.out, ?_, HRC2.out, HQ1.out.1, upto_succ HQ1.out.2 HXM.out ?_⟩, HKK6, HQ⟩
                  · have := HS6.out
                    rwa [put_same HD.out] at this
                  · have h1 := HRX1.out.2
                    have h2 := HD.out
                    unfold hf
                    rw [h1] at h2 ⊢
                    simpa using h2
                case measure => simp [intOf]; omega
              · have T3 : Hid (D1.length + 1 ≤ maxLen) := Lib.hid (by unfold maxLen; omega)
                have T4 : Hid ((D1.length + 1) * 8 ≤ 140737488355328) := Lib.hid (by omega)
                have T5 : Hid (w2.heap.size ≤ (w6.alloc (.cells #[.int .i64 x] 3)).heap.size) := Lib.hid (by have := HKK6.out.size; have := HLM.out; simp; omega)
                go_wp2_with (at_builtin; refine wpList_append_lies _ rfl _ _ 34 rfl w2.heap.size 3 ti (.int .i64 0) 1 8 Try.underlying34 hi hz0 hz1 hz2 rfl (by decide) _ _ _ rfl (HO6.out.alloc _) ⟨w6.heap.size, 0, none⟩ 1 1 [.int .i64 x] rfl rfl (cell_one_new _ _ _) (by simp [Value.oneCell']) (by omega) T3.out T4.out T5.out _ rfl ?_)
                intro g1 cap1 w7 hown1 hgrow hor hlt7
                have HO7 := Lib.hid hown1
                have HGR := Lib.hid hgrow
                have HOR := Lib.hid hor
                have HLT7 := Lib.hid hlt7
                clear hown1 hgrow hor hlt7
                go_wp2
                go_roundw
                case rel =>
                  have hgk : Kept (fun k => some k = (Value.slice a3 D1.length c3).ownBlock) (w6.alloc (.cells #[.int .i64 x] 3)) w7 := Kept.ofGrown HGR.out
                  have hka : Kept nob w6 (w6.alloc (.cells #[.int .i64 x] 3)) := Kept.alloc _ _ _
                  refine ⟨m + 1, by go_num, by omega, ⟨_, _, _, rfl⟩, Lib.hid ⟨D1 ++ [x], putf (rm g) f1 x, ?_, ?_, HRC2.out.put HRX1.out.1 HD.out, ?_, ?_⟩, Lib.hid ?_, Lib.hid ?_⟩
                  · have := HO7.out
                    simpa [iv] using this
                  · exact (HS6.out.kept hka (fun h => h) (fun h => h)).kept hgk (fun h => by have h1 := own_ge HO6.out h.symm; have := HB2S.out; omega) (fun h => by have h1 := own_ge HO6.out h.symm; have := HGG.out; omega)
                  · exact fun j' i' r' h1 h2 h3 y hy => hf_mono (HQ1.out.1 j' i' r' h1 h2 h3 y hy)
                  · exact upto_succ (fun j y h1 h2 => hf_mono (HQ1.out.2 j y h1 h2)) HXM.out (by rw [hf_put, HRX1.out.2]; simp)
                  · refine (HKK6.out.trans hka (fun _ _ h => h.elim)).trans hgk (fun i hi h => ?_)
                    have h1 := own_ge HO6.out h.symm
                    rcases HQ.out i h.symm with h2 | h2
                    · exact .inr ⟨h1.1, h2⟩
                    · omega
                  · intro q hq
                    have hq' : g1 = q := by simpa [Value.ownBlock] using hq
                    subst hq'
                    rcases HOR.out with h | h
                    · exact HQ.out _ h
                    · right
                      rw [h]
                      have := HKK6.out.size
                      simp
                      omega
                case measure => simp [intOf]; omega
            · have hme : m = xs.length := by omega
              subst hme
              go_wp2
              go_roundw
              case rel =>
                obtain ⟨D1, f1, h1, h2, h3, h4, h5⟩ := HW.out
                refine ⟨k + 1, by go_num, by omega, ⟨_, _, _, rfl⟩, Lib.hid ⟨D1, f1, h1, h2, h3, fun j' i' r' hj hi' hr' x hx => ?_⟩, HKK, HQ⟩
                by_cases e : j' = k
                · subst e
                  rw [HIK.out] at hi'
                  obtain rfl := Option.some.inj hi'
                  rw [HRI.out] at hr'
                  obtain rfl := Option.some.inj hr'
                  obtain ⟨mm, hmm, e⟩ := List.mem_iff_getElem.1 hx
                  exact h5 mm x hmm (by rw [List.getElem?_eq_getElem hmm, e])
                · exact h4 j' i' r' (by omega) hi' hr' x hx
              case measure => simp [intOf]; omega
        · have hke : k = is.length := by omega
          subst hke
          go_wp2
          go_roundw
          case rel =>
            obtain ⟨D1, f1, h1, h2, h3, h4⟩ := HW.out
            refine ⟨⟨_, _, _, rfl⟩, Lib.hid ⟨D1, f1, h1, h2, ?_⟩, Lib.hid ?_⟩
            · have hc : clo g f1 lf := fun r hr e x hx => by
                obtain ⟨i, hi', e2⟩ := List.mem_iff_getElem.1 hr
                have hri : g.R[i]? = some r := by rw [List.getElem?_eq_getElem hi', e2]
                have hmem := (HIS.out i).2 ⟨r, hri, e⟩
                obtain ⟨j', hj', e3⟩ := List.mem_iff_getElem.1 hmem
                exact h4 j' i r hj' (by rw [List.getElem?_eq_getElem hj', e3]) hri x hx
              have h5 := h3.done hc
              exact ⟨h5.sound, h5.st, h5.sub, h5.work, Nat.le_trans h5.meas HM2.out⟩
            · refine (HK.out.trans HK5.out (fun _ _ h => h.elim)).trans HKK.out (fun i hi h => ?_)
              rcases h with h | h
              · exact h
              · omega
          case measure =>
            obtain ⟨D1, f1, h1, h2, h3, h4⟩ := HW.out
            rw [lack_eq h2]
            have h5 := h3.meas
            have h6 := HMD.out
            have hn2 : n2 = D1.length := by
              rcases h1.2 with ⟨h7, h8⟩ | ⟨_, _, _, h7, _⟩
              · simp at h7; omega
              · simp at h7; omega
            show 2 * _ + n2 < 2 * _ + D.length
            omega
end Go.Proofs.Ythddfkemagpiaaa

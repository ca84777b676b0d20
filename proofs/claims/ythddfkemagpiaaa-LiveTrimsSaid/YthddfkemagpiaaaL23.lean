/-
  What is proved: what live.Trim answers. Conditions: those of each theorem.
-/
import Derived.Test.YthddfkemagpiaaaL22
import Derived.Deep.RegionHeld3
import Derived.Laws.ResultCell
set_option linter.unusedVariables false
set_option linter.unusedSimpArgs false
namespace Go.Proofs.Ythddfkemagpiaaa
open Go.RowKit
def fineRs (g : Gm) (f : Nat → Bool) (R : List Rl) : List Rl := R.filter (fineB g (rm g) f)
/-- A grammar without rules that cannot be. -/
noncomputable def trimH (g : Gm) : Gm := ⟨g.T, g.N, fineRs g (prodF g) g.R, g.st⟩
theorem trimH_rm (g : Gm) : rm (trimH g) = rm g := rfl
theorem trimH_kn {g : Gm} (h : Kn g) : Kn (trimH g) := ⟨h.st, fun r hr => h.r r (List.mem_filter.1 hr).1⟩
theorem trimH_sm {g : Gm} (h : Sm g) : Sm (trimH g) := by
  refine ⟨?_, fun r hr => h.r r (List.mem_filter.1 hr).1, h.t, h.s⟩
  have h1 := h.n
  have h2 := List.length_filter_le (fineB g (rm g) (prodF g)) g.R
  show g.T.length + g.N.length + (fineRs g (prodF g) g.R).length ≤ 1000
  unfold fineRs
  omega
noncomputable def trimR (g : Gm) : Gm × Bool :=
  if checkP g = 0 then if hf (rm g) (prodF g) g.st then (onlyG (trimH g) (rchF (trimH g)), true) else (⟨[], [], [], 0⟩, false) else (⟨[], [], [], 0⟩, false)
/-- The rules that are kept, as they are. -/
def RowO (Q : Nat) (w0 w : World) (v : Value) (L : List Rl) : Prop :=
  ∃ us, w.ownsRow Q 40 2 v L.length us ∧ ∀ (j : Nat) (r : Rl), L[j]? = some r → ∃ ra rc, us[j * 2]? = some (.int .i64 r.1) ∧ us[j * 2 + 1]? = some (.slice ra r.2.length rc) ∧ Rd w0 ra (iv r.2) ∧ r.2.length ≤ rc
theorem RowO.keep {S : Nat → Prop} {Q : Nat} {w0 w w' : World} {v : Value} {L : List Rl} (h : RowO Q w0 w v L) (hk : Kept S w w') (hv : ∀ q, v.ownBlock = some q → ¬ S q) : RowO Q w0 w' v L := by
  obtain ⟨us, h1, h2⟩ := h
  exact ⟨us, own_keep h1 hk hv, h2⟩
theorem RowO.push {Q : Nat} {w0 w' : World} {v' : Value} {L : List Rl} {us : List Value} {l : Int} {xs : List Int} {ra : Option Addr} {rc : Nat}
    (h1 : us.length = L.length * 2) (h2 : ∀ (j : Nat) (r : Rl), L[j]? = some r → ∃ ra rc, us[j * 2]? = some (.int .i64 r.1) ∧ us[j * 2 + 1]? = some (.slice ra r.2.length rc) ∧ Rd w0 ra (iv r.2) ∧ r.2.length ≤ rc)
    (hn : Rd w0 ra (iv xs)) (hc : xs.length ≤ rc) (ho : w'.ownsRow Q 40 2 v' (L.length + 1) (us ++ [.int .i64 l, .slice ra xs.length rc])) : RowO Q w0 w' v' (L ++ [(l, xs)]) := by
  refine ⟨us ++ [.int .i64 l, .slice ra xs.length rc], by simpa using ho, fun j r hj => ?_⟩
  by_cases hlt : j < L.length
  · rw [List.getElem?_append_left hlt] at hj
    obtain ⟨ra', rc', h3, h4, h5⟩ := h2 j r hj
    refine ⟨ra', rc', ?_, ?_, h5⟩
    · rw [List.getElem?_append_left (by omega)]; exact h3
    · rw [List.getElem?_append_left (by omega)]; exact h4
  · have hjl : j = L.length := by
      have := (List.getElem?_eq_some_iff.1 hj).1
      simp at this
      omega
    subst hjl
    simp at hj
    subst hj
    refine ⟨ra, rc, ?_, ?_, hn, hc⟩
    · rw [List.getElem?_append_right (by omega), show L.length * 2 - us.length = 0 by omega]; rfl
    · rw [List.getElem?_append_right (by omega), show L.length * 2 + 1 - us.length = 1 by omega]; rfl
theorem RowO.rd {Q : Nat} {w0 w : World} {a : Option Addr} {n c : Nat} {L : List Rl} (h : RowO Q w0 w (.slice a n c) L) (hk : Kept nob w0 w) (hl : ∀ r, r ∈ L → r.2.length ≤ big) : RdR w a L ∧ n = L.length ∧ L.length ≤ c := by
  obtain ⟨us, h1, h2⟩ := h
  have hus := h1.1
  rcases h1.2 with ⟨h3, h4⟩ | ⟨g, cap, cur, h3, h4, h5, h6, h7, h8⟩
  · simp at h3
    have : L = [] := List.eq_nil_of_length_eq_zero h4
    subst this
    exact ⟨.inl rfl, by rw [h3.2.1]; rfl, Nat.zero_le _⟩
  · simp at h3
    obtain ⟨rfl, rfl, rfl⟩ := h3
    refine ⟨.inr ⟨g, 0, rfl, fun j r hj => ?_⟩, rfl, h6⟩
    have hlt : j < L.length := (List.getElem?_eq_some_iff.1 hj).1
    obtain ⟨ra, rc, h9, h10, h11, h12⟩ := h2 j r hj
    refine ⟨ra, rc, ?_, ?_, h11.nob hk, hl r (List.mem_of_getElem? hj), h12⟩
    · rw [Nat.zero_add, h1.cellAt (j * 2) (by omega)]; exact h9
    · rw [Nat.zero_add, h1.cellAt (j * 2 + 1) (by omega)]; exact h10
def RetTrim (g : Gm) (w : World) (e : Ending) (w' : World) : Prop := ∃ p', e = .returned (.tuple #[gv p' (trimR g).1, .bool (trimR g).2]) ∧ Hid (GA w' p' (trimR g).1) ∧ Kept nob w w'
theorem ga_zero (w : World) : GA w ⟨none, 0, none, 0, none, 0⟩ ⟨[], [], [], 0⟩ := ⟨.inl rfl, .inl rfl, .inl rfl, by simp, by simp, by simp, by simp⟩
theorem HAt.grown {w w' : World} {q : Nat} {cs : Array Value} (h : w.heap[q]? = some (.cells cs 25 (0, 0))) {row : Option Nat} (hg : w.grownBy w' row) (hne : row ≠ some q) : w'.heap[q]? = some (.cells cs 25 (0, 0)) :=
  (hg.block q (lt_blk h) (fun e => hne e.symm)).trans h
def HIn (Q bh : Nat) (w0 : World) (g : Gm) (ta na : Option Addr) (tc nc : Nat) (k : Nat) (w : World) : Prop :=
  ∃ hv, w.heap[bh]? = some (.cells #[.slice ta g.T.length tc, .slice na g.N.length nc, hv, .int .i64 g.st] 25 (0, 0)) ∧ RowO Q w0 w hv (fineRs g (prodF g) (g.R.take k))
theorem fineRs_snoc (g : Gm) (f : Nat → Bool) (R : List Rl) (r : Rl) : fineRs g f (R ++ [r]) = if fineB g (rm g) f r then fineRs g f R ++ [r] else fineRs g f R := by
  unfold fineRs
  rw [List.filter_append]
  by_cases h : fineB g (rm g) f r = true <;> simp [h]
set_option maxRecDepth 100000 in
set_option maxHeartbeats 8000000 in
theorem Trim_any (w : World) (p : Gp) (g : Gm) (hA : GA w p g) (hs : Sm g) : Calls Try.prog 14 #[gv p g] w (RetTrim g w) := by
  have HB0 := Lib.hid (GB.new w p g)
  have H22 : Hid (∀ w1, Kept nob w w1 → Calls Try.prog 22 #[gv p g] w1 (RetI w1 (checkP g))) := Lib.hid (fun w1 hk => check_any w1 p g (hA.nob hk) hs)
  have H42 := Lib.hid (fun w1 (hk : Kept nob w w1) (hkn : Kn g) => productive_any w1 p g (hA.nob hk) hs hkn)
  have H48 : Hid (∀ w1 l xs ra rc b gg f, Rd w1 ra (iv xs) → xs.length ≤ 10000 → SetAt w1 b gg (rm g) f → Calls Try.prog 48 #[gv p g, .agg #[.int .i64 l, .slice ra xs.length rc], .pointer (some ⟨b, 0, none⟩)] w1 (RetB1 w1 (fineB g (rm g) f (l, xs)))) :=
    Lib.hid (fun w1 l xs ra rc b gg f hx hl hset => fine_any w1 p g hs l xs ra rc hx hl b gg (rm g) f hset)
  have HR := Lib.hid hA.r
  have HA := Lib.hid hA
  have HS := Lib.hid hs
  have HSR := Lib.hid hs.r
  have hn := hs.n
  obtain ⟨tr, hir, hr0', hr1'_, hr2'⟩ := info_parts info_rule
  have HZ := Lib.hid (fun w' => ga_zero w')
  clear hA hs
  obtain ⟨ta, tc, na, nc, ra, rc⟩ := p
  unfold gv at H22 H42 H48 ⊢
  simp only at HB0 HR H22 H42 H48 ⊢
  have HK0 : Hid (Kept nob w ((w.alloc (.cells #[.slice ta g.T.length tc, .slice na g.N.length nc, .slice ra g.R.length rc, .int .i64 g.st] 25)).alloc (.cells zgram 25))) := Lib.hid ((Kept.alloc _ _ _).trans (Kept.alloc _ _ _) (fun _ _ h => h))
  have HB1 := Lib.hid (HB0.out.nob (Kept.alloc _ (.cells zgram 25) nob))
  have HBR : Hid (((w.alloc (.cells #[.slice ta g.T.length tc, .slice na g.N.length nc, .slice ra g.R.length rc, .int .i64 g.st] 25)).alloc (.cells zgram 25)).heap[w.heap.size + 1]? = some (.cells zgram 25 (0, 0))) := Lib.hid (by
    have := alloc_blk (w.alloc (.cells #[.slice ta g.T.length tc, .slice na g.N.length nc, .slice ra g.R.length rc, .int .i64 g.st] 25)) (.cells zgram 25)
    rw [World.size_alloc] at this
    exact this)
  by_cases hc : checkP g = 0
  · have HKN := Lib.hid (checkP_wf.1 hc).kn
    have HE : Hid (trimR g = if hf (rm g) (prodF g) g.st then (onlyG (trimH g) (rchF (trimH g)), true) else (⟨[], [], [], 0⟩, false)) := Lib.hid (by unfold trimR; rw [if_pos hc])
    rw [hc] at H22
    clear hc
    go_enter Try.func14, Try.ntmps14
    go_wp2_with fail
    refine (H22.out _ HK0.out).mono ?_
    rintro e w1 ⟨rfl, hk⟩
    have HK1 := Lib.hid (HK0.out.trans hk (fun _ _ h => h))
    have HB2 := Lib.hid (HB1.out.nob hk)
    have HBR1 := Lib.hid (hk.get HBR.out (fun h => h))
    obtain ⟨c0, c1, c2, c3⟩ := HB2.out.c
    simp only at c0 c1 c2 c3
    clear hk
    go_wp2_with fail
    refine (H42.out _ HK1.out HKN.out).mono ?_
    rintro e w2 ⟨b, gg, rfl, hset, hk2, hbg⟩
    have HK2 := Lib.hid (HK1.out.trans hk2.out (fun _ _ h => h))
    have HB3 := Lib.hid (HB2.out.nob hk2.out)
    have HBR2 := Lib.hid (hk2.out.get HBR1.out (fun h => h))
    clear c0 c1 c2 c3 hk2 hbg
    obtain ⟨c0, c1, c2, c3⟩ := HB3.out.c
    simp only at c0 c1 c2 c3
    have HHS := Lib.hid (has_any hset.out g.st)
    obtain ⟨hb, hhb⟩ : ∃ hb, hf (rm g) (prodF g) g.st = hb := ⟨_, rfl⟩
    have HHS' : Hid (Calls Try.prog 45 #[.pointer (some ⟨b, 0, none⟩), .int .i64 g.st] w2 fun e w' => e = .returned (.bool hb) ∧ w2 = w') := Lib.hid (by rw [← hhb]; exact HHS.out)
    rw [hhb] at HE
    clear hhb HHS
    have q0 : w2.cell? ⟨w.heap.size + 1, 0, none⟩ = some (.slice none 0 0) := by rw [cell_blk HBR2.out]; rfl
    have q1 : w2.cell? ⟨w.heap.size + 1, 1, none⟩ = some (.slice none 0 0) := by rw [cell_blk HBR2.out]; rfl
    have q2 : w2.cell? ⟨w.heap.size + 1, 2, none⟩ = some (.slice none 0 0) := by rw [cell_blk HBR2.out]; rfl
    have q3 : w2.cell? ⟨w.heap.size + 1, 3, none⟩ = some (.int .i64 0) := by rw [cell_blk HBR2.out]; rfl
    have qf0 : w2.frozen? ⟨w.heap.size + 1, 0, none⟩ = false := frz_blk HBR2.out 0
    have qf1 : w2.frozen? ⟨w.heap.size + 1, 1, none⟩ = false := frz_blk HBR2.out 1
    have qf2 : w2.frozen? ⟨w.heap.size + 1, 2, none⟩ = false := frz_blk HBR2.out 2
    have qf3 : w2.frozen? ⟨w.heap.size + 1, 3, none⟩ = false := frz_blk HBR2.out 3
    cases hb
    · go_wp2_with fail
      refine HHS'.out.mono ?_
      rintro e w3 ⟨rfl, rfl⟩
      go_wp2
      (try simp only [Exit.inBlock, Exit.then])
      refine bodyPost_ret (v := .tuple #[.agg zgram, .bool false]) (by rw [results_cell_tmp rfl]; go_simp) rfl ?_
      refine ⟨⟨none, 0, none, 0, none, 0⟩, by rw [HE.out]; rfl, Lib.hid ?_, keptB HK2.out (by omega) (set4 _ _ _ _ _ _)⟩
      rw [HE.out]
      exact HZ.out _
    · have HK3 := Lib.hid (HK2.out.trans (Kept.alloc _ (.cells #[.slice ta g.T.length tc, .slice na g.N.length nc, .slice none 0 0, .int .i64 g.st] 25) nob) (fun _ _ h => h))
      have HB4 := Lib.hid (HB3.out.nob (Kept.alloc _ (.cells #[.slice ta g.T.length tc, .slice na g.N.length nc, .slice none 0 0, .int .i64 g.st] 25) nob))
      have HBR3 := Lib.hid (alloc_old HBR2.out (.cells #[.slice ta g.T.length tc, .slice na g.N.length nc, .slice none 0 0, .int .i64 g.st] 25))
      have HSE3 := Lib.hid (hset.out.kept (Kept.alloc _ (.cells #[.slice ta g.T.length tc, .slice na g.N.length nc, .slice none 0 0, .int .i64 g.st] 25) nob) (fun h => h) (fun h => h))
      have HBH : Hid ((w2.alloc (.cells #[.slice ta g.T.length tc, .slice na g.N.length nc, .slice none 0 0, .int .i64 g.st] 25)).heap[w2.heap.size]? = some (.cells #[.slice ta g.T.length tc, .slice na g.N.length nc, .slice none 0 0, .int .i64 g.st] 25 (0, 0))) := Lib.hid (alloc_blk _ _)
      have HSZ : Hid ((w2.alloc (.cells #[.slice ta g.T.length tc, .slice na g.N.length nc, .slice none 0 0, .int .i64 g.st] 25)).heap.size = w2.heap.size + 1 ∧ w.heap.size + 1 < w2.heap.size) := Lib.hid ⟨by simp, lt_blk HBR2.out⟩
      have HBG : Hid (b < w2.heap.size ∧ gg < w2.heap.size) := Lib.hid ⟨(SetAt.lt hset.out).1, (SetAt.lt hset.out).2.1⟩
      obtain ⟨c0', c1', c2', c3'⟩ := HB4.out.c
      simp only at c0' c1' c2' c3'
      obtain ⟨w3, hw3⟩ : ∃ w3, w3 = w2.alloc (.cells #[.slice ta g.T.length tc, .slice na g.N.length nc, .slice none 0 0, .int .i64 g.st] 25) := ⟨_, rfl⟩
      rw [← hw3] at HK3 HB4 HBR3 HSE3 HBH HSZ
      have HW3 := Lib.hid hw3
      clear hw3 hset q0 q1 q2 q3 qf0 qf1 qf2 qf3
      go_wp2_with fail
      refine HHS'.out.mono ?_
      rintro e w3' ⟨rfl, rfl⟩
      go_wp2
      rw [← HW3.out]
      clear c0 c1 c2 c3 c0' c1' c2' c3'
      obtain ⟨bh, hbh⟩ : ∃ bh, w2.heap.size = bh := ⟨_, rfl⟩
      rw [hbh] at HBH HSZ HBG ⊢
      have HBHE := Lib.hid hbh
      obtain ⟨bx, hbx⟩ : ∃ bx, w.heap.size = bx := ⟨_, rfl⟩
      rw [hbx] at HB4 HBR3 HSZ ⊢
      have HBXE := Lib.hid hbx
      clear hbh hbx
      go_loopw [30] (fun i wr => ∃ k : Nat, i = .int .i64 (k : Int) ∧ k ≤ g.R.length ∧ Hid (HIn w3.heap.size bh w g ta na tc nc k wr) ∧ Hid (Kept (ib bh) w3 wr)) (fun i _ => g.R.length - (intOf i).toNat)
      case atStart => exact ⟨0, rfl, by omega, Lib.hid ⟨_, HBH.out, [], World.ownsRow_nil _ _ _ _, fun j r h => by simp [fineRs] at h⟩, Lib.hid (Kept.refl _ _)⟩
      case round =>
        obtain ⟨k, rfl, hkl, HI, HK⟩ := hrel
        have HKW := Lib.hid (keptB HK3.out (by have h1 := HSZ.out; have h2 := HBXE.out; omega) HK.out)
        by_cases hlt : k < g.R.length
        · obtain ⟨br, o, r, ra', rc', rfl, hr, hgd, RA⟩ := rule_at (HR.out.nob HKW.out) hlt
          obtain ⟨br0, o0, r0, ra0, rc0, hra0, hr0, hgd0, RA0⟩ := rule_at HR.out hlt
          have hrr : r0 = r := by rw [hr] at hr0; exact (Option.some.inj hr0).symm
          subst hrr
          obtain ⟨rfl, rfl⟩ : br = br0 ∧ o = o0 := by simpa using hra0
          have hcc := kcell HKW.out RA0.c1
          rw [RA.c1] at hcc
          obtain ⟨rfl, rfl⟩ : ra' = ra0 ∧ rc' = rc0 := by simpa using hcc
          have HRR := Lib.hid hr
          have HRD := Lib.hid RA0.rd
          have HRC := Lib.hid RA0.cap
          have HRL := Lib.hid (HSR.out r0 (List.mem_of_getElem? hr))
          have d0 := RA.c0
          have d1 := RA.c1
          obtain ⟨c0, c1, c2, c3⟩ := (((HB4.out).nobut HK.out (by have h1 := HSZ.out; omega)).nob (Kept.alloc wr (.cells #[.int .i64 r0.1, .slice ra' r0.2.length rc'] 40) nob)).c
          simp only at c0 c1 c2 c3
          have HF := Lib.hid (H48.out (wr.alloc (.cells #[.int .i64 r0.1, .slice ra' r0.2.length rc'] 40)) r0.1 r0.2 ra' rc' b gg (prodF g) (RA.rd.nob (Kept.alloc _ _ _)) (HSR.out r0 (List.mem_of_getElem? hr)) ((HSE3.out.kept HK.out (fun e => by have h1 := HBG.out; have : b = bh := e; omega) (fun e => by have h1 := HBG.out; have : gg = bh := e; omega)).kept (Kept.alloc _ _ nob) (fun h => h) (fun h => h)))
          obtain ⟨lf, xs⟩ := r0
          simp only at d0 d1 HRD HRC HRL HF c0 c1 c2 c3
          clear RA RA0 hr hr0 hgd hgd0 hra0 hcc
          obtain ⟨c, hc⟩ : ∃ c, fineB g (rm g) (prodF g) (lf, xs) = c := ⟨_, rfl⟩
          rw [hc] at HF
          have HC := Lib.hid hc
          clear hc
          go_wp2_with fail
          refine HF.out.mono ?_
          rintro e w4 ⟨rfl, hk4⟩
          have HKA := Lib.hid ((Kept.alloc wr (.cells #[.int .i64 lf, .slice ra' xs.length rc'] 40) nob).trans hk4 (fun _ _ h => h))
          have HK4 : Hid (Kept (ib bh) w3 w4) := Lib.hid (HK.out.trans HKA.out (fun _ _ h => h.elim))
          have hb4 := hk4.get (alloc_blk wr (.cells #[.int .i64 lf, .slice ra' xs.length rc'] 40)) (fun h => h)
          have e0 : w4.cell? ⟨wr.heap.size, 0, none⟩ = some (.int .i64 lf) := by rw [cell_blk hb4]; rfl
          have e1 : w4.cell? ⟨wr.heap.size, 1, none⟩ = some (.slice ra' xs.length rc') := by rw [cell_blk hb4]; rfl
          clear c0 c1 c2 c3 d0 d1 hk4 hb4
          cases c
          · go_wp2
            go_roundw
            case rel =>
              refine ⟨k + 1, by go_num, by omega, Lib.hid ?_, HK4⟩
              obtain ⟨hv, h1, h2⟩ := HI.out
              refine ⟨hv, HKA.out.get h1 (fun h => h), ?_⟩
              rw [take_snoc HRR.out, fineRs_snoc, HC.out]
              exact h2.keep HKA.out (fun _ _ h => h)
            case measure => simp [intOf]; omega
          · obtain ⟨hv, h1, us, hr1, hr2⟩ := HI.out
            have h1' := HKA.out.get h1 (fun h => h)
            have hr1' := own_keep hr1 HKA.out (fun _ _ h => h)
            obtain ⟨n0, hn0⟩ : ∃ n0, (fineRs g (prodF g) (g.R.take k)).length = n0 := ⟨_, rfl⟩
            have hn1 : n0 ≤ 1000 := by rw [← hn0]; unfold fineRs; have := List.length_filter_le (fineB g (rm g) (prodF g)) (g.R.take k); simp at this; omega
            have HUS := Lib.hid hr1.1
            rw [hn0] at hr1'
            obtain ⟨ar, cr, hrv⟩ := own_slice2 hr1'
            subst hrv
            have HR1 := Lib.hid hr1'
            have HR2 := Lib.hid hr2
            have HN0 := Lib.hid hn0
            have HH := Lib.hid h1'
            have s2 : w4.cell? ⟨bh, 2, none⟩ = some (.slice ar n0 cr) := by rw [cell_blk h1']; rfl
            have s2' := kcell (Kept.alloc w4 (.cells #[.int .i64 lf, .slice ra' xs.length rc'] 40) nob) s2
            have T3 : Hid (n0 + 1 ≤ maxLen) := Lib.hid (by unfold maxLen; omega)
            have T4 : Hid ((n0 + 1) * 32 ≤ 140737488355328) := Lib.hid (by omega)
            have T5 : Hid (w3.heap.size ≤ (w4.alloc (.cells #[.int .i64 lf, .slice ra' xs.length rc'] 40)).heap.size) := Lib.hid (by have := HK4.out.size; simp; omega)
            clear h1 h1' hr1 hr1' hr2 hn0
            go_wp2_with (at_builtin; refine wpList_append_lies _ rfl _ _ 23 rfl w3.heap.size 40 tr (.agg #[.int .i64 0, .slice none 0 0]) 2 32 Try.underlying23 hir hr0' hr1'_ hr2' rfl (by decide) _ _ _ rfl (HR1.out.alloc _) ⟨w4.heap.size, 0, none⟩ 1 1 [.int .i64 lf, .slice ra' xs.length rc'] rfl rfl (World.news_of_block (cs := #[.int .i64 lf, .slice ra' xs.length rc']) (alloc_blk w4 _)) (by simp [Value.oneCell']) (by omega) T3.out T4.out T5.out _ rfl ?_)
            intro g1 cap1 w7 own7 gr7 or7 lt7
            have hb7 := HAt.grown (alloc_old HH.out (.cells #[.int .i64 lf, .slice ra' xs.length rc'] 40)) gr7 (own_not HR1.out (by have := HSZ.out; omega))
            have m2 : w7.cell? ⟨bh, 2, none⟩ = some (.slice ar n0 cr) := by rw [cell_blk hb7]; rfl
            have mf : w7.frozen? ⟨bh, 2, none⟩ = false := frz_blk hb7 2
            have HB7 := Lib.hid hb7
            have HO7 := Lib.hid own7
            have HG7 := Lib.hid gr7
            clear own7 gr7 or7 lt7 hb7 e0 e1 s2 s2'
            go_wp2
            go_roundw
            case rel =>
              have hsk := Kept.setCell w7 ⟨bh, 2, none⟩ (.slice (some ⟨g1, 0, none⟩) (n0 + 1) cap1)
              refine ⟨k + 1, by go_num, by omega, Lib.hid ⟨.slice (some ⟨g1, 0, none⟩) (n0 + 1) cap1, ?_, ?_⟩, Lib.hid ?_⟩
              · rw [set_blk HB7.out]; rfl
              · rw [take_snoc HRR.out, fineRs_snoc, HC.out]
                have hp := RowO.push (Q := w3.heap.size) (w' := w7) (v' := .slice (some ⟨g1, 0, none⟩) (n0 + 1) cap1) HUS.out HR2.out HRD.out HRC.out (by rw [HN0.out]; exact HO7.out)
                exact hp.keep hsk (fun q hq e => by have h4 := own_ge HO7.out hq; have h5 := HSZ.out; have : q = bh := e; omega)
              · refine ((HK4.out.trans (Kept.alloc _ _ nob) (fun _ _ h => h.elim)).trans (Kept.ofGrown HG7.out) (fun j hj e => ?_)).trans hsk (fun _ _ h => h)
                have := own_ge HR1.out e.symm
                omega
            case measure => simp [intOf]; omega
        · have hke : k = g.R.length := by omega
          subst hke
          obtain ⟨hv, h1, h2⟩ := HI.out
          rw [List.take_length] at h2
          obtain ⟨us, hu1, _⟩ := id h2
          obtain ⟨ar, cr, hrv⟩ := own_slice2 hu1
          subst hrv
          clear hu1
          have hn9 : (fineRs g (prodF g) g.R).length = (trimH g).R.length := rfl
          rw [hn9] at h1 h2
          have hrd := h2.rd HKW.out (fun r hr => by have := HSR.out r (List.mem_filter.1 hr).1; unfold big; omega)
          have HGA : Hid (GA wr ⟨ta, tc, na, nc, ar, cr⟩ (trimH g)) := Lib.hid (by
            have ha := HA.out.nob HKW.out
            exact ⟨ha.t, ha.n, hrd.1, ha.lt, ha.ln, by have := (trimH_sm HS.out).n; unfold big; omega, hrd.2.2⟩)
          have HKNH := Lib.hid (trimH_kn HKN.out)
          have H43 := Lib.hid (fun w1 (hk : Kept nob wr w1) => reached_any w1 ⟨ta, tc, na, nc, ar, cr⟩ (trimH g) (HGA.out.nob hk) (trimH_sm HS.out) HKNH.out)
          have H49 := Lib.hid (fun w1 b2 g2 (hk : Kept nob wr w1) (hset : SetAt w1 b2 g2 (rm (trimH g)) (rchF (trimH g))) => only_any w1 ⟨ta, tc, na, nc, ar, cr⟩ (trimH g) (HGA.out.nob hk) (trimH_sm HS.out) b2 g2 _ hset (by
              have := non_in HKNH.out.st
              have h3 := rm_top (trimH g)
              unfold inr
              simp
              omega) (fun r hr x hx => by
              have := HKNH.out.right hr hx
              have h3 := rm_top (trimH g)
              unfold inr
              simp
              omega))
          unfold gv at H43 H49
          simp only at H43 H49
          have hTT : (trimH g).T.length = g.T.length := rfl
          have hNN : (trimH g).N.length = g.N.length := rfl
          have hst : (trimH g).st = g.st := rfl
          rw [hTT, hNN, hst] at H43 H49
          have HH := Lib.hid h1
          have s0 : wr.cell? ⟨bh, 0, none⟩ = some (.slice ta g.T.length tc) := by rw [cell_blk h1]; rfl
          have s1 : wr.cell? ⟨bh, 1, none⟩ = some (.slice na g.N.length nc) := by rw [cell_blk h1]; rfl
          have s2 : wr.cell? ⟨bh, 2, none⟩ = some (.slice ar (trimH g).R.length cr) := by rw [cell_blk h1]; rfl
          have s3 : wr.cell? ⟨bh, 3, none⟩ = some (.int .i64 g.st) := by rw [cell_blk h1]; rfl
          have HBR4 : Hid (wr.heap[bx + 1]? = some (.cells zgram 25 (0, 0))) := Lib.hid (HK.out.get HBR3.out (fun e => by have h1 := HSZ.out; have : bx + 1 = bh := e; omega))
          clear h1 h2 hrd hn9 hTT hNN hst HI
          obtain ⟨G, hG⟩ : ∃ G, onlyG (trimH g) (rchF (trimH g)) = G := ⟨_, rfl⟩
          have HE2 : Hid (trimR g = (G, true)) := Lib.hid (by rw [HE.out, hG]; rfl)
          rw [hG] at H49
          clear hG
          go_wp2
          go_region_with (first | (go_at_call 43; refine (H43.out _ (Kept.drew _ _)).mono ?_; rintro e wq ⟨b2, g2, rfl, hq, hkq, _⟩; have hkq' := Lib.hid ((Kept.drew wr nob).trans hkq.out (fun _ _ h => h)); have t0 := kcell hkq'.out s0; have t1 := kcell hkq'.out s1; have t2 := kcell hkq'.out s2; have t3 := kcell hkq'.out s3; clear hkq) | (go_at_call 49; refine (H49.out _ b2 g2 hkq'.out hq.out).mono ?_; rintro e wz ⟨p', rfl, hga, hkz, hfar⟩; have hsq := hkq'.out.size; have hbr := hkz.get (hkq'.out.get HBR4.out (fun h => h)) (fun h => h); have HGZ := Lib.hid hga; have HKZ := Lib.hid hkz; have q0 : wz.cell? ⟨bx + 1, 0, none⟩ = some (.slice none 0 0) := (by rw [cell_blk hbr]; rfl); have q1 : wz.cell? ⟨bx + 1, 1, none⟩ = some (.slice none 0 0) := (by rw [cell_blk hbr]; rfl); have q2 : wz.cell? ⟨bx + 1, 2, none⟩ = some (.slice none 0 0) := (by rw [cell_blk hbr]; rfl); have q3 : wz.cell? ⟨bx + 1, 3, none⟩ = some (.int .i64 0) := (by rw [cell_blk hbr]; rfl); have qf0 : wz.frozen? ⟨bx + 1, 0, none⟩ = false := frz_blk hbr 0; have qf1 : wz.frozen? ⟨bx + 1, 1, none⟩ = false := frz_blk hbr 1; have qf2 : wz.frozen? ⟨bx + 1, 2, none⟩ = false := frz_blk hbr 2; have qf3 : wz.frozen? ⟨bx + 1, 3, none⟩ = false := frz_blk hbr 3; clear hga hkz hbr))
          all_goals
            go_wp2
            (try simp only [Exit.inBlock, Exit.then])
            refine bodyPost_ret (v := .tuple #[.agg #[.slice p'.ta G.T.length p'.tc, .slice p'.na G.N.length p'.nc, .slice p'.ra G.R.length p'.rc, .int .i64 G.st], .bool true]) (by rw [results_cell_tmp rfl]; go_simp) rfl ?_
            have hkf := set4 wz (bx + 1) (.slice p'.ta G.T.length p'.tc) (.slice p'.na G.N.length p'.nc) (.slice p'.ra G.R.length p'.rc) (.int .i64 G.st)
            refine ⟨p', by rw [HE2.out], Lib.hid ?_, keptB ((HKW.out.trans hkq'.out (fun _ _ h => h)).trans HKZ.out (fun _ _ h => h)) (by have := HBXE.out; omega) hkf⟩
            rw [HE2.out]
            exact hfar.out _ (bx + 1) (by have h1 := lt_blk HBR4.out; omega) hkf
  · have HE : Hid (trimR g = (⟨[], [], [], 0⟩, false)) := Lib.hid (by unfold trimR; rw [if_neg hc])
    have hb : (checkP g != 0) = true := by simpa using hc
    clear hc
    go_enter Try.func14, Try.ntmps14
    go_wp2_with fail
    refine (H22.out _ HK0.out).mono ?_
    rintro e w2 ⟨rfl, hk⟩
    have HBR2 := Lib.hid (hk.get HBR.out (fun h => h))
    have HK2 := Lib.hid (HK0.out.trans hk (fun _ _ h => h))
    have q0 : w2.cell? ⟨w.heap.size + 1, 0, none⟩ = some (.slice none 0 0) := by rw [cell_blk HBR2.out]; rfl
    have q1 : w2.cell? ⟨w.heap.size + 1, 1, none⟩ = some (.slice none 0 0) := by rw [cell_blk HBR2.out]; rfl
    have q2 : w2.cell? ⟨w.heap.size + 1, 2, none⟩ = some (.slice none 0 0) := by rw [cell_blk HBR2.out]; rfl
    have q3 : w2.cell? ⟨w.heap.size + 1, 3, none⟩ = some (.int .i64 0) := by rw [cell_blk HBR2.out]; rfl
    have qf0 : w2.frozen? ⟨w.heap.size + 1, 0, none⟩ = false := frz_blk HBR2.out 0
    have qf1 : w2.frozen? ⟨w.heap.size + 1, 1, none⟩ = false := frz_blk HBR2.out 1
    have qf2 : w2.frozen? ⟨w.heap.size + 1, 2, none⟩ = false := frz_blk HBR2.out 2
    have qf3 : w2.frozen? ⟨w.heap.size + 1, 3, none⟩ = false := frz_blk HBR2.out 3
    clear hk
    go_wp2
    (try simp only [Exit.inBlock, Exit.then])
    refine bodyPost_ret (v := .tuple #[.agg zgram, .bool false]) (by rw [results_cell_tmp rfl]; go_simp) rfl ?_
    refine ⟨⟨none, 0, none, 0, none, 0⟩, by rw [HE.out]; rfl, Lib.hid ?_, keptB HK2.out (by omega) (set4 _ _ _ _ _ _)⟩
    rw [HE.out]
    exact HZ.out _
end Go.Proofs.Ythddfkemagpiaaa

/-
  What is proved: what live.only makes. Conditions: those of each theorem.
-/
import Derived.Test.YthddfkemagpiaaaL21
set_option linter.unusedVariables false
set_option linter.unusedSimpArgs false
namespace Go.Proofs.Ythddfkemagpiaaa
open Go.RowKit
set_option maxRecDepth 100000 in
set_option maxHeartbeats 8000000 in
theorem only_any (w : World) (p : Gp) (g : Gm) (hA : GA w p g) (hs : Sm g) (b gg : Nat) (f : Nat → Bool) (hset : SetAt w b gg (rm g) f)
    (hst : inr (rm g) g.st = true) (hrt : ∀ r, r ∈ g.R → ∀ x, x ∈ r.2 → inr (rm g) x = true) :
    Calls Try.prog 49 #[gv p g, .pointer (some ⟨b, 0, none⟩)] w fun e w' => ∃ p', e = .returned (gv p' (onlyG g f)) ∧ GA w' p' (onlyG g f) ∧ Kept nob w w' ∧ Hid (∀ wF q, q < w.heap.size → Kept (ib q) w' wF → GA wF p' (onlyG g f)) := by
  have HB0 := Lib.hid (GB.new w p g)
  have HSET := Lib.hid hset
  have HR := Lib.hid hA.r
  have HST := Lib.hid hst
  have HRT := Lib.hid hrt
  have HSR := Lib.hid hs.r
  have H44 : Hid (∀ w1, Calls Try.prog 44 #[gv p g] w1 (RetI w1 g.top)) := Lib.hid (fun w1 => top_any w1 p g hs)
  have H92 : Hid (∀ w1 s, Calls Try.prog 92 #[gv p g, .int .i64 s] w1 (RetB1 w1 (g.term s))) := Lib.hid (fun w1 s => term_any w1 p g s hs)
  have H93 : Hid (∀ w1 s, Kept nob w w1 → Calls Try.prog 93 #[gv p g, .int .i64 s] w1 fun e w' => e = .returned (.string (nameG g s)) ∧ Kept nob w1 w') := Lib.hid (fun w1 s hk => name_of w1 p g s (hA.nob hk) hs)
  have hn := hs.n
  have hrm := rm_top g
  have hrm1 : rm g ≤ 1001 := by unfold rm; omega
  obtain ⟨ti, hi, hz0, hz1, hz2⟩ := info_parts info_ints
  obtain ⟨ts, hi', hs0, hs1, hs2⟩ := info_parts info_strs
  obtain ⟨tr, hir, hr0', hr1', hr2'⟩ := info_parts info_rule
  clear hA hs hset hst hrt
  obtain ⟨ta, tc, na, nc, ra, rc⟩ := p
  unfold gv at H44 H92 H93 ⊢
  simp only at HB0 HR H44 H92 H93 ⊢
  have HK0 : Hid (Kept nob w (((w.alloc (.cells #[.slice ta g.T.length tc, .slice na g.N.length nc, .slice ra g.R.length rc, .int .i64 g.st] 25)).alloc (.cells zgram 25)).alloc (.cells zgram 25))) := Lib.hid (((Kept.alloc _ _ _).trans (Kept.alloc _ _ _) (fun _ _ h => h)).trans (Kept.alloc _ _ _) (fun _ _ h => h))
  have HBO : Hid ((((w.alloc (.cells #[.slice ta g.T.length tc, .slice na g.N.length nc, .slice ra g.R.length rc, .int .i64 g.st] 25)).alloc (.cells zgram 25)).alloc (.cells zgram 25)).heap[w.heap.size + 1 + 1]? = some (.cells zgram 25 (0, 0))) := Lib.hid (by
    have := alloc_blk ((w.alloc (.cells #[.slice ta g.T.length tc, .slice na g.N.length nc, .slice ra g.R.length rc, .int .i64 g.st] 25)).alloc (.cells zgram 25)) (.cells zgram 25)
    simpa using this)
  have HBR : Hid ((((w.alloc (.cells #[.slice ta g.T.length tc, .slice na g.N.length nc, .slice ra g.R.length rc, .int .i64 g.st] 25)).alloc (.cells zgram 25)).alloc (.cells zgram 25)).heap[w.heap.size + 1]? = some (.cells zgram 25 (0, 0))) := Lib.hid (by
    have := alloc_blk (w.alloc (.cells #[.slice ta g.T.length tc, .slice na g.N.length nc, .slice ra g.R.length rc, .int .i64 g.st] 25)) (.cells zgram 25)
    rw [World.size_alloc] at this
    exact alloc_old this _)
  have HB1 := Lib.hid ((HB0.out.nob (Kept.alloc _ (.cells zgram 25) nob)).nob (Kept.alloc _ (.cells zgram 25) nob))
  have hmk : ∀ w : World, (Instr.makeSlice 34 (.int .i64 ((rm g : Nat) : Int)) (.int .i64 ((rm g : Nat) : Int))).run Try.prog w = .ok (.slice (some ⟨w.heap.size, 0, none⟩) (rm g) (rm g)) (w.alloc (.cells (List.replicate (rm g) (Value.int .i64 0)).toArray 3)) := fun w => run_make_eq Try.underlying34 info_int rfl (rm g) (by omega) (by omega) w
  rw [hrm] at hmk
  go_enter Try.func49, Try.ntmps49
  go_wp2_with fail
  refine (H44.out _).mono ?_
  rintro e w1 ⟨rfl, hk⟩
  have HK1 := Lib.hid (HK0.out.trans hk (fun _ _ h => h))
  have HB2 := Lib.hid (HB1.out.nob hk)
  have HBO1 := Lib.hid (hk.get HBO.out (fun h => h))
  have HBR1 := Lib.hid (hk.get HBR.out (fun h => h))
  have HSZ1 := Lib.hid hk.size
  clear hk
  have HNB : Hid (w.heap.size + 2 < w1.heap.size) := Lib.hid (by have := HSZ1.out; simp at this; omega)
  obtain ⟨bx, hbx⟩ : ∃ bx, w.heap.size = bx := ⟨_, rfl⟩
  have HBXE := Lib.hid hbx
  rw [hbx] at HB2 HBO1 HBR1 HNB ⊢
  obtain ⟨bo, hbo⟩ : ∃ bo, bx + 1 + 1 = bo := ⟨_, rfl⟩
  have HBOE := Lib.hid hbo
  rw [hbo] at HBO1 ⊢
  obtain ⟨bn, hbn⟩ : ∃ bn, w1.heap.size = bn := ⟨_, rfl⟩
  have HBNE := Lib.hid hbn
  clear hbx hbo HSZ1
  have HLST : Hid (∀ wx, Kept nob w wx → Calls Try.prog 53 #[.pointer (some ⟨b, 0, none⟩)] wx (RetRow wx 3 (ivals (lst (rm g) f)))) := Lib.hid (fun wx h => list_any (HSET.out.kept h (fun h => h) (fun h => h)))
  have HKA : Hid (Kept nob w1 (w1.alloc (.cells (Array.replicate (rm g) (.int .i64 0)) 3))) := Lib.hid (Kept.alloc _ _ _)
  have HNOW0 : Hid (NowAt (w1.alloc (.cells (Array.replicate (rm g) (.int .i64 0)) 3)) bn (rm g) (plcN [])) := Lib.hid (by
    unfold NowAt
    rw [irow_zero, ← hbn]
    exact alloc_blk _ _)
  have HWA : Hid ((w1.alloc (.cells (Array.replicate (rm g) (.int .i64 0)) 3)).heap.size = bn + 1) := Lib.hid (by rw [World.size_alloc, hbn])
  obtain ⟨wA, hwA⟩ : ∃ wA, wA = w1.alloc (.cells (Array.replicate (rm g) (.int .i64 0)) 3) := ⟨_, rfl⟩
  rw [← hwA] at HKA HNOW0 HWA
  have HWAE := Lib.hid hwA
  clear hwA
  go_wp2_with fail
  rw [← HWAE.out]
  refine (HLST.out _ (HK1.out.trans HKA.out (fun _ _ h => h))).mono ?_
  rintro e w2 hret
  obtain ⟨al, cl, rfl, hrd, hk2, hfar⟩ := retRow_rd hret
  rw [ivals_len]
  obtain ⟨l, hl⟩ : ∃ l, lst (rm g) f = l := ⟨_, rfl⟩
  have HLL : Hid (l.Nodup ∧ ∀ i, i ∈ l → i < rm g) := Lib.hid (by rw [← hl]; exact ⟨lst_nodup _ _, fun i hi => (lst_mem.1 hi).1⟩)
  have hll : l.length ≤ 1001 := by have := lst_len (rm g) f; rw [hl] at this; omega
  rw [hl] at hrd hfar ⊢
  have HLE := Lib.hid hl
  have HRD := Lib.hid hrd
  have HFAR := Lib.hid hfar
  have HB3 := Lib.hid ((HB2.out.nob HKA.out).nob hk2)
  have HBO3 := Lib.hid (hk2.get (HKA.out.get HBO1.out (fun h => h)) (fun h => h))
  have HBR3 := Lib.hid (hk2.get (HKA.out.get HBR1.out (fun h => h)) (fun h => h))
  have HNOW3 : Hid (NowAt w2 bn (rm g) (plcN [])) := Lib.hid (hk2.get HNOW0.out (fun h => h))
  have HK3 := Lib.hid ((HK1.out.trans HKA.out (fun _ _ h => h)).trans hk2 (fun _ _ h => h))
  have HQ : Hid (bx < bo ∧ bo < bn ∧ bn < w2.heap.size ∧ w.heap.size = bx) := Lib.hid (by
    have h1 := hk2.size; have h2 := HWA.out; have h3 := HNB.out; have h4 := HBOE.out; have h5 := HBNE.out
    exact ⟨by omega, by omega, by omega, HBXE.out⟩)
  have HFS : Hid (∀ b' o', al = some ⟨b', o', none⟩ → l ≠ [] → ¬ S1 bo bn b') := Lib.hid (fun b' o' e h0 hs => by
    have h1 := hfar b' o' e (fun h => h0 (by have := ivals_len l; rw [h] at this; exact List.eq_nil_of_length_eq_zero (by simpa using this.symm)))
    have h2 := HWA.out; have h3 := HQ.out
    rcases hs with hs | hs <;> omega)
  clear hret hrd hk2 hfar hl hbn hmk hrm
  go_wp2
  go_loopw [21] (fun i wr => ∃ k : Nat, i = .int .i64 (k : Int) ∧ k ≤ l.length ∧ (∃ tv nv, Hid (On1 g l w2.heap.size bo bn (rm g) k tv nv wr)) ∧ Hid (Kept (S1 bo bn) w2 wr)) (fun i _ => l.length - (intOf i).toNat)
  case atStart => exact ⟨0, rfl, by omega, ⟨.slice none 0 0, .slice none 0 0, Lib.hid ⟨HBO3.out, by simpa using HNOW3.out, World.ownsRow_nil _ _ _ _, World.ownsRow_nil _ _ _ _, fun q h => by simp [Value.ownBlock] at h⟩⟩, Lib.hid (Kept.refl _ _)⟩
  case round =>
    obtain ⟨k, rfl, hkl, ⟨tv, nv, HI⟩, HK⟩ := hrel
    have HBr : Hid (GB wr bx ⟨ta, tc, na, nc, ra, rc⟩ g) := Lib.hid (HK.out.get HB3.out (fun h => by have := HQ.out; rcases h with h | h <;> omega))
    obtain ⟨c0, c1, c2, c3⟩ := HBr.out.c
    simp only at c0 c1 c2 c3
    by_cases hlt : k < l.length
    · have hne : l ≠ [] := fun e => by rw [e] at hlt; simp at hlt
      obtain ⟨bl, ol, x, rfl, hx, dx⟩ := ivals_at (HRD.out.kept HK.out (fun b' o' e => HFS.out b' o' e hne)) hlt
      have HX := Lib.hid hx
      have hxr : x < rm g := HLL.out.2 x (List.mem_of_getElem? hx)
      have n0 := HI.out.now.c hxr
      have n1 := HI.out.now.fr x
      clear hne
      have hsk := Kept.setCell wr ⟨bn, x, none⟩ (.int .i64 ((k : Int) + 1))
      have hns : ¬ x ∈ l.take k := fun h => by
        have := HLL.out.1
        have h2 := nodup_take (k := k + 1) this
        rw [take_snoc hx, nodup_snoc] at h2
        exact h2.2 h
      have HNS : Hid (NowAt (wr.setCell ⟨bn, x, none⟩ (.int .i64 ((k : Int) + 1))) bn (rm g) (plcN (l.take (k + 1)))) := Lib.hid ((HI.out.now.set x ((k : Int) + 1)).congr (fun i => by
        rw [take_snoc hx, plcN_snoc hns]
        have : (l.take k).length = k := by simp; omega
        rw [this]))
      have HOS : Hid (OutAt (wr.setCell ⟨bn, x, none⟩ (.int .i64 ((k : Int) + 1))) bo tv nv (.slice none 0 0) 0) := Lib.hid (hsk.get HI.out.out (fun h => by have h1 := HQ.out; have h2 : bo = bn := h; omega))
      have HTS : Hid ((wr.setCell ⟨bn, x, none⟩ (.int .i64 ((k : Int) + 1))).ownsRow w2.heap.size 9 1 tv (tnames g (l.take k)).length (sv (tnames g (l.take k)))) := Lib.hid (own_keep HI.out.t hsk (fun q hq h => by have h1 := own_ge HI.out.t hq; have h2 := HQ.out; have h3 : q = bn := h; omega))
      have HNS2 : Hid ((wr.setCell ⟨bn, x, none⟩ (.int .i64 ((k : Int) + 1))).ownsRow w2.heap.size 9 1 nv (nnames g (l.take k)).length (sv (nnames g (l.take k)))) := Lib.hid (own_keep HI.out.n hsk (fun q hq h => by have h1 := own_ge HI.out.n hq; have h2 := HQ.out; have h3 : q = bn := h; omega))
      have HBS : Hid (GB (wr.setCell ⟨bn, x, none⟩ (.int .i64 ((k : Int) + 1))) bx ⟨ta, tc, na, nc, ra, rc⟩ g) := Lib.hid (hsk.get HBr.out (fun h => by have h1 := HQ.out; have h2 : bx = bn := h; omega))
      have HKS : Hid (Kept (S1 bo bn) w2 (wr.setCell ⟨bn, x, none⟩ (.int .i64 ((k : Int) + 1)))) := Lib.hid (HK.out.trans hsk (fun _ _ h => Or.inr h))
      have HNE := Lib.hid HI.out.ne
      obtain ⟨c0', c1', c2', c3'⟩ := HBS.out.c
      simp only at c0' c1' c2' c3'
      obtain ⟨wS, hwS⟩ : ∃ wS, wS = wr.setCell ⟨bn, x, none⟩ (.int .i64 ((k : Int) + 1)) := ⟨_, rfl⟩
      rw [← hwS] at HNS HOS HTS HNS2 HBS HKS
      have HWS := Lib.hid hwS
      clear hx hsk hwS HI hns
      have HTM := Lib.hid (fun wx => H92.out wx (x : Int))
      obtain ⟨tb, htb⟩ : ∃ tb, g.term (x : Int) = tb := ⟨_, rfl⟩
      rw [htb] at HTM
      have HTB := Lib.hid htb
      clear htb
      go_wp2_with fail
      refine (HTM.out _).mono ?_
      rintro e wT ⟨rfl, hkT⟩
      rw [← HWS.out] at hkT
      clear c0 c1 c2 c3 c0' c1' c2' c3' n0 n1 dx
      have HNT := Lib.hid (hkT.get HNS.out (fun h => h))
      have HOT : Hid (OutAt wT bo tv nv (.slice none 0 0) 0) := Lib.hid (hkT.get HOS.out (fun h => h))
      have HTT := Lib.hid (own_keep HTS.out hkT (fun _ _ h => h))
      have HNN := Lib.hid (own_keep HNS2.out hkT (fun _ _ h => h))
      have HBT := Lib.hid (HBS.out.nob hkT)
      have HKT : Hid (Kept (S1 bo bn) w2 wT) := Lib.hid (HKS.out.trans hkT (fun _ _ h => h.elim))
      have HWT : Hid (Kept nob w wT) := Lib.hid (HK3.out.trans HKT.out (fun i hi h => by have h1 := HQ.out; rcases h with h | h <;> omega))
      clear hkT HNS HOS HTS HNS2 HBS HKS HWS
      obtain ⟨c0, c1, c2, c3⟩ := HBT.out.c
      simp only at c0 c1 c2 c3
      obtain ⟨at', ct, htv⟩ := own_slice1 HTT.out
      obtain ⟨an', cn, hnv⟩ := own_slice1 HNN.out
      obtain ⟨T0, hT0⟩ : ∃ T0, tnames g (l.take k) = T0 := ⟨_, rfl⟩
      obtain ⟨N0, hN0⟩ : ∃ N0, nnames g (l.take k) = N0 := ⟨_, rfl⟩
      rw [hT0] at HTT htv
      rw [hN0] at HNN hnv
      have HT0 := Lib.hid hT0
      have HN0 := Lib.hid hN0
      have hT1 : T0.length ≤ 2000 := by rw [← hT0]; unfold tnames; rw [List.length_map]; have := List.length_filter_le (fun (x : Nat) => g.term (x : Int)) (l.take k); simp at this; omega
      have hN1 : N0.length ≤ 2000 := by rw [← hN0]; unfold nnames; rw [List.length_map]; have := List.length_filter_le (fun (x : Nat) => !g.term (x : Int)) (l.take k); simp at this; omega
      subst htv hnv
      clear hT0 hN0
      have o0 : wT.cell? ⟨bo, 0, none⟩ = some (.slice at' T0.length ct) := by rw [cell_blk HOT.out]; rfl
      have o1 : wT.cell? ⟨bo, 1, none⟩ = some (.slice an' N0.length cn) := by rw [cell_blk HOT.out]; rfl
      cases tb
      · go_wp2
        have T3 : Hid (N0.length + 1 ≤ maxLen) := Lib.hid (by unfold maxLen; omega)
        have T4 : Hid ((N0.length + 1) * 16 ≤ 140737488355328) := Lib.hid (by omega)
        have HNM := Lib.hid (fun wx (h : Kept nob wT wx) => H93.out wx (x : Int) (HWT.out.trans h (fun _ _ h => h)))
        obtain ⟨nm, hnm⟩ : ∃ nm, nameG g (x : Int) = nm := ⟨_, rfl⟩
        rw [hnm] at HNM
        have HNMX := Lib.hid hnm
        clear hnm
        go_region_law (first | ((refine step_append_lies _ (by rfl) _ _ _ (by rfl) w2.heap.size 9 ts (.string ⟨#[]⟩) 1 16 Try.underlying22 hi' hs0 hs1 hs2 rfl (by decide) _ N0.length (sv N0) (by rfl) (hoC.out.alloc _) ⟨wC.heap.size, 0, none⟩ 1 1 [.string nm] (by rfl) (by rfl) (cell_one_new _ _ _) (by simp [Value.oneCell']) (by omega) T3.out T4.out T5C.out (wC.heap.size + 1) (by simp) ?_; intro g1 cap1 w6 own6 gr6 or6 lt6; have HO6 := Lib.hid own6; have HG6 := Lib.hid gr6; have HR6 := Lib.hid or6; have hb6 := (OutAt.nob hbC.out (Kept.alloc _ _ _)).grown gr6 (own_not hoC.out (by have := HQ.out; omega)); obtain ⟨m0, m1, m2, m3⟩ := hb6.c; have mf := hb6.fr 1; have HB6 := Lib.hid hb6; clear own6 gr6 or6 lt6 hb6)) | (go_simp; go_at_call 93; refine (HNM.out _ (Kept.drew _ _)).mono ?_; rintro e wC ⟨rfl, hkC⟩; have hkC' := Lib.hid (Kept.trans (Kept.drew wT nob) hkC (fun _ _ h => h)); have hoC := Lib.hid (own_keep HNN.out hkC'.out (fun _ _ h => h)); have hbC : Hid (OutAt wC bo _ _ _ _) := Lib.hid (hkC'.out.get HOT.out (fun h => h)); obtain ⟨p0, p1, p2, p3⟩ := OutAt.c hbC.out; obtain ⟨r0, r1, r2, r3⟩ := OutAt.c (OutAt.nob hbC.out (Kept.alloc wC (.cells #[.string nm] 9) nob)); have T5C : Hid (w2.heap.size ≤ (wC.alloc (.cells #[.string nm] 9)).heap.size) := Lib.hid (by have h1 := HKT.out.size; have h2 := hkC'.out.size; simp; omega); clear hkC))
        all_goals
          go_wp2
          go_roundw
          case rel =>
            have h := on1_n HT0.out HN0.out HX.out HTB.out HNMX.out HQ.out.2.2.1 (by have := HQ.out; omega) (by have := HQ.out; omega) HKT.out hkC'.out HTT.out HNN.out HNE.out HNT.out HO6.out HG6.out HR6.out HB6.out rfl
            exact ⟨k + 1, by go_num, by omega, ⟨_, _, Lib.hid h.1⟩, Lib.hid h.2⟩
          case measure => simp [intOf]; omega
      · go_wp2
        have T3 : Hid (T0.length + 1 ≤ maxLen) := Lib.hid (by unfold maxLen; omega)
        have T4 : Hid ((T0.length + 1) * 16 ≤ 140737488355328) := Lib.hid (by omega)
        have HNM := Lib.hid (fun wx (h : Kept nob wT wx) => H93.out wx (x : Int) (HWT.out.trans h (fun _ _ h => h)))
        obtain ⟨nm, hnm⟩ : ∃ nm, nameG g (x : Int) = nm := ⟨_, rfl⟩
        rw [hnm] at HNM
        have HNMX := Lib.hid hnm
        clear hnm
        go_region_law (first | ((refine step_append_lies _ (by rfl) _ _ _ (by rfl) w2.heap.size 9 ts (.string ⟨#[]⟩) 1 16 Try.underlying22 hi' hs0 hs1 hs2 rfl (by decide) _ T0.length (sv T0) (by rfl) (hoC.out.alloc _) ⟨wC.heap.size, 0, none⟩ 1 1 [.string nm] (by rfl) (by rfl) (cell_one_new _ _ _) (by simp [Value.oneCell']) (by omega) T3.out T4.out T5C.out (wC.heap.size + 1) (by simp) ?_; intro g1 cap1 w6 own6 gr6 or6 lt6; have HO6 := Lib.hid own6; have HG6 := Lib.hid gr6; have HR6 := Lib.hid or6; have hb6 := (OutAt.nob hbC.out (Kept.alloc _ _ _)).grown gr6 (own_not hoC.out (by have := HQ.out; omega)); obtain ⟨m0, m1, m2, m3⟩ := hb6.c; have mf := hb6.fr 0; have HB6 := Lib.hid hb6; clear own6 gr6 or6 lt6 hb6)) | (go_simp; go_at_call 93; refine (HNM.out _ (Kept.drew _ _)).mono ?_; rintro e wC ⟨rfl, hkC⟩; have hkC' := Lib.hid (Kept.trans (Kept.drew wT nob) hkC (fun _ _ h => h)); have hoC := Lib.hid (own_keep HTT.out hkC'.out (fun _ _ h => h)); have hbC : Hid (OutAt wC bo _ _ _ _) := Lib.hid (hkC'.out.get HOT.out (fun h => h)); obtain ⟨p0, p1, p2, p3⟩ := OutAt.c hbC.out; obtain ⟨r0, r1, r2, r3⟩ := OutAt.c (OutAt.nob hbC.out (Kept.alloc wC (.cells #[.string nm] 9) nob)); have T5C : Hid (w2.heap.size ≤ (wC.alloc (.cells #[.string nm] 9)).heap.size) := Lib.hid (by have h1 := HKT.out.size; have h2 := hkC'.out.size; simp; omega); clear hkC))
        all_goals
          go_wp2
          go_roundw
          case rel =>
            have h := on1_t HN0.out HT0.out HX.out HTB.out HNMX.out HQ.out.2.2.1 (by have := HQ.out; omega) (by have := HQ.out; omega) HKT.out hkC'.out HNN.out HTT.out (fun q a b => HNE.out q b a) HNT.out HO6.out HG6.out HR6.out HB6.out rfl
            exact ⟨k + 1, by go_num, by omega, ⟨_, _, Lib.hid h.1⟩, Lib.hid h.2⟩
          case measure => simp [intOf]; omega
    · have hke : k = l.length := by omega
      subst hke
      have hstn : ∃ s : Nat, g.st = (s : Int) ∧ s < rm g := by
        have := HST.out
        unfold inr at this
        have := of_decide_eq_true this
        exact ⟨g.st.toNat, by omega, by omega⟩
      obtain ⟨s, hs1, hs2⟩ := hstn
      have n0 := HI.out.now.c hs2
      rw [List.take_length] at n0
      rw [hs1] at c3
      obtain ⟨o0, o1, o2, o3⟩ := HI.out.out.c
      have of := HI.out.out.fr 3
      have HI2 : Hid (∀ u : Int, u = plcN l s → On2 g f w2.heap.size bo bn 0 tv nv (.slice none 0 0) (wr.setCell ⟨bo, 3, none⟩ (.int .i64 u))) := Lib.hid (fun u hu => by
        have h := HI.out
        have hlen : List.take l.length l = l := List.take_length
        have hsk := Kept.setCell wr ⟨bo, 3, none⟩ (.int .i64 u)
        have h2 := h.now; have h3 := h.t; have h4 := h.n
        rw [hlen] at h2 h3 h4
        have hq := HQ.out
        rw [HLE.out.symm] at h2 h3 h4 hu
        refine ⟨?_, hsk.get h2 (fun e => by have : bn = bo := e; omega), own_keep h3 hsk (fun q hq2 e => by have h5 := own_ge h3 hq2; have : q = bo := e; omega), own_keep h4 hsk (fun q hq2 e => by have h5 := own_ge h4 hq2; have : q = bo := e; omega), ⟨[], by simpa [newR] using World.ownsRow_nil _ _ _ _, fun j r hj => by simp [newR] at hj⟩⟩
        have h6 := h.out
        unfold OutAt at h6 ⊢
        rw [set_blk h6, hu, hs1, Int.toNat_natCast]
        rfl)
      have HKW : Hid (∀ u, Kept (S1 bo bn) w2 (wr.setCell ⟨bo, 3, none⟩ u)) := Lib.hid (fun u => HK.out.trans (Kept.setCell wr ⟨bo, 3, none⟩ u) (fun _ _ h => Or.inl h))
      have HNE := Lib.hid HI.out.ne
      have HBS : Hid (∀ u, GB (wr.setCell ⟨bo, 3, none⟩ u) bx ⟨ta, tc, na, nc, ra, rc⟩ g) := Lib.hid (fun u => (Kept.setCell wr ⟨bo, 3, none⟩ u).get HBr.out (fun e => by have : bx = bo := e; have := HQ.out; omega))
      obtain ⟨d0, d1, d2, d3⟩ := (HBS.out (.int .i64 (plcN l s))).c
      simp only at d0 d1 d2 d3
      clear HI
      go_wp2
      have HSS := Lib.hid hs1
      clear hs1
      go_loopw [60] (fun i wr => ∃ k : Nat, i = .int .i64 (k : Int) ∧ k ≤ g.R.length ∧ Hid (OnR g f w2.heap.size bo bn k tv nv wr) ∧ Hid (Kept (S1 bo bn) w2 wr)) (fun i _ => g.R.length - (intOf i).toNat)
      case atStart => exact ⟨0, rfl, by omega, Lib.hid ⟨_, (Hid.ap HI2).out⟩, Lib.hid (HKW.out _)⟩
      case round =>
        clear d0 d1 d2 d3 o0 o1 o2 o3 of n0 c0 c1 c2 c3
        obtain ⟨k, rfl, hkl, HI0, HK⟩ := hrel
        obtain ⟨rv, hi0⟩ := HI0.out
        have HI := Lib.hid hi0
        clear hi0
        have HKW2 : Hid (Kept nob w wr) := Lib.hid (HK3.out.trans HK.out (fun i hi h => by have h1 := HQ.out; rcases h with h | h <;> omega))
        by_cases hlt : k < g.R.length
        · obtain ⟨br, o, r, ra', rc', rfl, hr, hgd, RA⟩ := rule_at (HR.out.nob HKW2.out) hlt
          have HRR := Lib.hid hr
          have HXL := Lib.hid (HSR.out r (List.mem_of_getElem? hr))
          have HXI := Lib.hid (HRT.out r (List.mem_of_getElem? hr))
          have HXR := Lib.hid RA.rd
          have d0 := RA.c0
          have d1 := RA.c1
          obtain ⟨lf, xs⟩ := r
          simp only at d0 d1 HXL HXI HXR
          have hxl := HXL.out
          clear hr hgd RA
          have HHAS : Hid (∀ wx, Kept nob w wx → Calls Try.prog 45 #[.pointer (some ⟨b, 0, none⟩), .int .i64 lf] wx fun e w' => e = .returned (.bool (hf (rm g) f lf)) ∧ wx = w') := Lib.hid (fun wx h => has_any (HSET.out.kept h (fun h => h) (fun h => h)) lf)
          obtain ⟨hb, hhb⟩ : ∃ hb, hf (rm g) f lf = hb := ⟨_, rfl⟩
          rw [hhb] at HHAS
          have HHB := Lib.hid hhb
          cases hb
          · clear hhb
            go_wp2_with fail
            refine (HHAS.out _ (HKW2.out.trans (Kept.alloc _ _ _) (fun _ _ h => h))).mono ?_
            rintro e w4 ⟨rfl, rfl⟩
            go_wp2
            go_roundw
            case rel => exact ⟨k + 1, by go_num, by omega, Lib.hid ⟨rv, HI.out.skip HRR.out HHB.out (Kept.alloc _ _ _)⟩, Lib.hid (HK.out.trans (Kept.alloc _ _ nob) (fun _ _ h => h.elim))⟩
            case measure => simp [intOf]; omega
          · obtain ⟨ln, hln, hlr⟩ : ∃ ln : Nat, lf = (ln : Int) ∧ ln < rm g := by
              unfold hf inr at hhb
              simp at hhb
              exact ⟨lf.toNat, by omega, by omega⟩
            subst hln
            have hkI := (Kept.alloc wr (.cells #[.int .i64 (ln : Int), .slice ra' xs.length rc'] 40) nob).trans (Kept.alloc _ (.cells #[.int .i64 (plcN l ln), .slice none 0 0] 40) nob) (fun _ _ h => h)
            have n0 := (HI.out.now.c hlr)
            rw [HLE.out] at n0
            have n1 := kcell (Kept.alloc wr (.cells #[.int .i64 (ln : Int), .slice ra' xs.length rc'] 40) nob) n0
            have HXB : Hid (((wr.alloc (.cells #[.int .i64 (ln : Int), .slice ra' xs.length rc'] 40)).alloc (.cells #[.int .i64 (plcN l ln), .slice none 0 0] 40)).heap[wr.heap.size + 1]? = some (.cells #[.int .i64 (plcN l ln), .slice none 0 0] 40 (0, 0))) := Lib.hid (by
              have := alloc_blk (wr.alloc (.cells #[.int .i64 (ln : Int), .slice ra' xs.length rc'] 40)) (.cells #[.int .i64 (plcN l ln), .slice none 0 0] 40)
              rw [World.size_alloc] at this
              exact this)
            have HSI : Hid (((wr.alloc (.cells #[.int .i64 (ln : Int), .slice ra' xs.length rc'] 40)).alloc (.cells #[.int .i64 (plcN l ln), .slice none 0 0] 40)).heap.size = wr.heap.size + 2) := Lib.hid (by simp)
            have HKI := Lib.hid hkI
            have HLN : Hid ((ln : Int).toNat = ln) := Lib.hid (Int.toNat_natCast ln)
            clear hhb hkI
            go_wp2_with fail
            refine (HHAS.out _ (HKW2.out.trans (Kept.alloc _ _ _) (fun _ _ h => h))).mono ?_
            rintro e w4 ⟨rfl, rfl⟩
            obtain ⟨wI, hwI⟩ : ∃ wI, wI = ((wr.alloc (.cells #[.int .i64 (ln : Int), .slice ra' xs.length rc'] 40)).alloc (.cells #[.int .i64 (plcN l ln), .slice none 0 0] 40)) := ⟨_, rfl⟩
            rw [← hwI] at HXB HSI HKI
            have HWI := Lib.hid hwI
            clear hwI
            obtain ⟨xb, hxb⟩ : ∃ xb, wr.heap.size + 1 = xb := ⟨_, rfl⟩
            rw [hxb] at HXB
            have HXBE := Lib.hid hxb
            have HKWI : Hid (Kept nob w wI) := Lib.hid (HKW2.out.trans HKI.out (fun _ _ h => h))
            have HQX : Hid (w2.heap.size < xb ∧ xb < wI.heap.size) := Lib.hid (by have h1 := HK.out.size; have h2 := HSI.out; omega)
            have HNI : Hid (NowAt wI bn (rm g) (plcN l)) := Lib.hid (by have := HKI.out.get HI.out.now (fun h => h); rw [HLE.out] at this; exact this)
            go_wp2
            rw [← HWI.out]
            clear hxb n0 n1 d0 d1
            go_loopw [78] (fun j wr => ∃ m : Nat, j = .int .i64 (m : Int) ∧ m ≤ xs.length ∧ Hid (XsAt wI.heap.size xb (plcN l ln) (((xs.take m).map fun x => plcN l x.toNat)) wr) ∧ Hid (Kept (ib xb) wI wr)) (fun j _ => xs.length - (intOf j).toNat)
            case atStart => exact ⟨0, rfl, by omega, Lib.hid ⟨_, HXB.out, by simpa [iv] using World.ownsRow_nil _ _ _ _⟩, Lib.hid (Kept.refl _ _)⟩
            case round =>
              obtain ⟨m, rfl, hml, HX, HKX⟩ := hrel
              obtain ⟨xv, hx1, hx2⟩ := HX.out
              have hx3 : (((xs.take m).map fun x => plcN l x.toNat)).length = m := by simp; omega
              by_cases hltm : m < xs.length
              · obtain ⟨by', oy, y, rfl, hym, dy⟩ := iv_at2 (HXR.out.nob (keptB HKI.out (by have := HXBE.out; omega) HKX.out)) hltm
                have HYM := Lib.hid hym
                obtain ⟨yn, hyn, hyr⟩ : ∃ yn : Nat, y = (yn : Int) ∧ yn < rm g := by
                  have := HXI.out y (List.mem_of_getElem? hym)
                  unfold inr at this
                  have := of_decide_eq_true this
                  exact ⟨y.toNat, by omega, by omega⟩
                subst hyn
                have hnw : NowAt wr bn (rm g) (plcN l) := HKX.out.get HNI.out (fun e => by have h1 := HQ.out; have h2 := HQX.out; have : bn = xb := e; omega)
                have n0 := hnw.c hyr
                have n1 := kcell (Kept.alloc wr (.cells #[.int .i64 (plcN l yn)] 3) nob) n0
                obtain ⟨ax, cx, hxv⟩ := own_slice1 hx2
                rw [hx3] at hx2 hxv
                subst hxv
                have x0 : wr.cell? ⟨xb, 0, none⟩ = some (.int .i64 (plcN l ln)) := by rw [cell_blk hx1]; rfl
                have x1 : wr.cell? ⟨xb, 1, none⟩ = some (.slice ax m cx) := by rw [cell_blk hx1]; rfl
                have x2 := kcell (Kept.alloc wr (.cells #[.int .i64 (plcN l yn)] 3) nob) x1
                have HX1 := Lib.hid hx1
                have HX2 := Lib.hid hx2
                have T3 : Hid (m + 1 ≤ maxLen) := Lib.hid (by unfold maxLen; omega)
                have T4 : Hid ((m + 1) * 8 ≤ 140737488355328) := Lib.hid (by omega)
                have T5 : Hid (wI.heap.size ≤ (wr.alloc (.cells #[.int .i64 (plcN l yn)] 3)).heap.size) := Lib.hid (by have := HKX.out.size; simp; omega)
                have HMS : Hid ((xs.take (m + 1)).map (fun x => plcN l x.toNat) = (xs.take m).map (fun x => plcN l x.toNat) ++ [plcN l yn]) := Lib.hid (by rw [take_snoc hym, List.map_append]; simp)
                obtain ⟨pn, hpn⟩ : ∃ pn, plcN l yn = pn := ⟨_, rfl⟩
                rw [hpn] at n0 n1 x2 T5 HMS
                obtain ⟨ms, hms⟩ : ∃ ms, (xs.take m).map (fun x => plcN l x.toNat) = ms := ⟨_, rfl⟩
                rw [hms] at HX2 HMS
                have hml2 : ms.length = m := by rw [← hms]; exact hx3
                clear hym hnw hx1 hx2 hx3 HX hpn hms
                have HML := Lib.hid hml2
                go_wp2
                go_region_law ((refine step_append_lies _ (by rfl) _ _ _ (by rfl) wI.heap.size 3 ti (.int .i64 0) 1 8 Try.underlying34 hi hz0 hz1 hz2 rfl (by decide) _ m (iv ms) (by rfl) ((HX2.out.alloc _).drew) ⟨wr.heap.size, 0, none⟩ 1 1 [.int .i64 pn] (by rfl) (by rfl) (cell_one_new wr (.int .i64 pn) 3) (by simp [Value.oneCell']) (by omega) T3.out T4.out T5.out (wr.heap.size + 1) (by simp) ?_; intro g1 cap1 w6 own6 gr6 or6 lt6; have HO6 := Lib.hid own6; have HG6 := Lib.hid gr6; have HR6 := Lib.hid or6; have hb6 := (gr6.block xb (lt_blk (alloc_old HX1.out (.cells #[.int .i64 pn] 3))) (fun e => own_not HX2.out (by have := HQX.out; omega) e.symm)).trans (alloc_old HX1.out (.cells #[.int .i64 pn] 3)); have m0 : w6.cell? ⟨xb, 0, none⟩ = some (.int .i64 (plcN l ln)) := (by rw [cell_blk hb6]; rfl); have m1 : w6.cell? ⟨xb, 1, none⟩ = some (.slice ax m cx) := (by rw [cell_blk hb6]; rfl); have mf : w6.frozen? ⟨xb, 1, none⟩ = false := frz_blk hb6 1; have HB6 := Lib.hid hb6; clear own6 gr6 or6 lt6 hb6))
                all_goals
                  go_wp2
                  go_roundw
                  case rel =>
                    have h := xs_step HQX.out.2 HKX.out HX2.out HML.out HO6.out HG6.out HB6.out
                    exact ⟨m + 1, by go_num, by omega, Lib.hid (by rw [HMS.out]; exact h.1), Lib.hid h.2⟩
                  case measure => simp [intOf]; omega
              · have hme : m = xs.length := by omega
                subst hme
                rw [List.take_length] at hx2 hx3
                clear HX
                have HKZ := Lib.hid (keptB HKI.out (by have := HXBE.out; omega) HKX.out)
                have HIZ := Lib.hid (HI.out.nob HKZ.out)
                have HKS1 : Hid (Kept (S1 bo bn) w2 wr) := Lib.hid (HK.out.trans HKZ.out (fun _ _ h => h.elim))
                obtain ⟨ax, cx, hxv⟩ := own_slice1 hx2
                rw [hx3] at hxv
                subst hxv
                have x0 : wr.cell? ⟨xb, 0, none⟩ = some (.int .i64 (plcN l ln)) := by rw [cell_blk hx1]; rfl
                have x1 : wr.cell? ⟨xb, 1, none⟩ = some (.slice ax xs.length cx) := by rw [cell_blk hx1]; rfl
                have HX2 : Hid (wr.ownsRow wI.heap.size 3 1 (.slice ax xs.length cx) xs.length (iv (xs.map fun x => plcN (lst (rm g) f) x.toNat))) := Lib.hid (by rw [HLE.out]; rw [hx3] at hx2; exact hx2)
                obtain ⟨us, hr1, hr2⟩ := HIZ.out.r
                obtain ⟨n0, hn0⟩ : ∃ n0, (newR (rm g) f (lst (rm g) f) (g.R.take k)).length = n0 := ⟨_, rfl⟩
                rw [hn0] at hr1
                have hn1 : n0 ≤ 1000 := by rw [← hn0]; unfold newR; rw [List.length_map]; have := List.length_filter_le (fun r : Rl => hf (rm g) f r.1) (g.R.take k); simp at this; omega
                obtain ⟨ar, cr, hrv⟩ := own_slice2 hr1
                subst hrv
                have HR1 := Lib.hid hr1
                have HR2 := Lib.hid hr2
                have HN0 := Lib.hid hn0
                obtain ⟨o0, o1, o2, o3⟩ := HIZ.out.out.c
                have o4 := kcell (Kept.alloc wr (.cells #[.int .i64 (plcN l ln), .slice ax xs.length cx] 40) nob) o2
                have T3 : Hid (n0 + 1 ≤ maxLen) := Lib.hid (by unfold maxLen; omega)
                have T4 : Hid ((n0 + 1) * 32 ≤ 140737488355328) := Lib.hid (by omega)
                have T5 : Hid (w2.heap.size ≤ (wr.alloc (.cells #[.int .i64 (plcN l ln), .slice ax xs.length cx] 40)).heap.size) := Lib.hid (by have := HKS1.out.size; simp; omega)
                clear hx1 hx2 hx3 hr1 hr2 hn0
                go_wp2_with (at_builtin; refine wpList_append_lies _ rfl _ _ 23 rfl w2.heap.size 40 tr (.agg #[.int .i64 0, .slice none 0 0]) 2 32 Try.underlying23 hir hr0' hr1' hr2' rfl (by decide) _ _ _ rfl (HR1.out.alloc _) ⟨wr.heap.size, 0, none⟩ 1 1 [.int .i64 (plcN l ln), .slice ax xs.length cx] rfl rfl (World.news_of_block (cs := #[.int .i64 (plcN l ln), .slice ax xs.length cx]) (alloc_blk wr _)) (by simp [Value.oneCell']) (by omega) T3.out T4.out T5.out _ rfl ?_)
                intro g1 cap1 w7 own7 gr7 or7 lt7
                have hb7 := (HIZ.out.out.nob (Kept.alloc _ (.cells #[.int .i64 (plcN l ln), .slice ax xs.length cx] 40) nob)).grown gr7 (own_not HR1.out (by have := HQ.out; omega))
                obtain ⟨m0, m1, m2, m3⟩ := hb7.c
                have mf := hb7.fr 2
                have HS := Lib.hid (rules_step (by have := HQ.out; omega) HQ.out.2.2.1 (by have := HQ.out; omega) (by have := HQX.out; omega) HKS1.out HIZ.out HRR.out HHB.out HN0.out HR1.out HR2.out HX2.out (by rw [HLE.out, HLN.out]; exact own7) gr7)
                clear own7 gr7 or7 lt7 hb7 x0 x1 o0 o1 o2 o3 o4
                go_wp2
                go_roundw
                case rel => exact ⟨k + 1, by go_num, by omega, Lib.hid ⟨_, HS.out.1⟩, Lib.hid HS.out.2⟩
                case measure => simp [intOf]; omega
        · have hke : k = g.R.length := by omega
          subst hke
          obtain ⟨rv, h⟩ := HI0.out
          have HKF := Lib.hid HKW2.out
          obtain ⟨at', ct, htv⟩ := own_slice1 h.t
          obtain ⟨an', cn, hnv⟩ := own_slice1 h.n
          obtain ⟨us, hus, _⟩ := h.r
          obtain ⟨ar, cr, hrv⟩ := own_slice2 hus
          rw [List.take_length] at hrv
          subst htv hnv hrv
          clear hus
          have HI := Lib.hid h
          have hbr : wr.heap[bx + 1]? = some (.cells zgram 25 (0, 0)) := HK.out.get HBR3.out (fun e => by have h1 := HQ.out; have h2 := HBOE.out; rcases e with e | e <;> omega)
          obtain ⟨o0, o1, o2, o3⟩ := h.out.c
          have q0 : wr.cell? ⟨bx + 1, 0, none⟩ = some (.slice none 0 0) := by rw [cell_blk hbr]; rfl
          have q1 : wr.cell? ⟨bx + 1, 1, none⟩ = some (.slice none 0 0) := by rw [cell_blk hbr]; rfl
          have q2 : wr.cell? ⟨bx + 1, 2, none⟩ = some (.slice none 0 0) := by rw [cell_blk hbr]; rfl
          have q3 : wr.cell? ⟨bx + 1, 3, none⟩ = some (.int .i64 0) := by rw [cell_blk hbr]; rfl
          have qf0 : wr.frozen? ⟨bx + 1, 0, none⟩ = false := frz_blk hbr 0
          have qf1 : wr.frozen? ⟨bx + 1, 1, none⟩ = false := frz_blk hbr 1
          have qf2 : wr.frozen? ⟨bx + 1, 2, none⟩ = false := frz_blk hbr 2
          have qf3 : wr.frozen? ⟨bx + 1, 3, none⟩ = false := frz_blk hbr 3
          clear h HI0
          go_wp2
          (try simp only [Exit.inBlock, Exit.then])
          refine bodyPost_ret (v := .agg #[.slice at' (tnames g (lst (rm g) f)).length ct, .slice an' (nnames g (lst (rm g) f)).length cn, .slice ar (newR (rm g) f (lst (rm g) f) g.R).length cr, .int .i64 (plcN (lst (rm g) f) g.st.toNat)]) (by rw [results_cell1 rfl]; go_simp) rfl ?_
          have hset := set4 wr (bx + 1) (.slice at' (tnames g (lst (rm g) f)).length ct) (.slice an' (nnames g (lst (rm g) f)).length cn) (.slice ar (newR (rm g) f (lst (rm g) f) g.R).length cr) (.int .i64 (plcN (lst (rm g) f) g.st.toNat))
          have hbq : bx + 1 < w2.heap.size := by have h1 := HQ.out; have h2 := HBOE.out; omega
          refine ⟨⟨at', ct, an', cn, ar, cr⟩, rfl, only_end HI.out (S := ib (bx + 1)) hset (fun k h => by have : k = bx + 1 := h; omega) HSR.out hn, keptB HKF.out (by have h1 := HQ.out; omega) hset, Lib.hid (fun wF q hq hkf => ?_)⟩
          exact only_end HI.out (S := fun k => k = bx + 1 ∨ k = q) ((hset.mono (fun _ _ h => Or.inl h)).trans hkf (fun _ _ h => Or.inr h)) (fun k h => by have h1 := HQ.out; rcases h with h | h <;> omega) HSR.out hn
end Go.Proofs.Ythddfkemagpiaaa

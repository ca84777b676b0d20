/-
  What is proved: what flush does. Conditions: those of each theorem.
-/
import Derived.Test.YtbmapjgajecgfaaW5b
set_option linter.unusedVariables false
set_option linter.unusedSimpArgs false
namespace Go.Proofs.Ytbmapjgajecgfaa
open Go.RowKit
set_option maxHeartbeats 2000000 in
set_option maxRecDepth 100000 in
theorem flush_any {B : Nat} {w : World} {b : Nat} {C : Nat → Prop} {S : Sn} (h : Fam B w C (S.dat b)) (hl1 : S.tp.li.length ≤ 100000) (hl2 : S.tp.ps.length ≤ 100000) :
    Calls Try.prog 33 #[.pointer (topA S)] w (FlushedM B w b C S) := by
  obtain ⟨ti, hi, hz0, hz1, hz2⟩ := info_parts info_part
  obtain ⟨g, cap, cur, hl, hB, hg, hn, hm, hcs, htk⟩ := lv_at h
  have ht : topA S = some ⟨g, S.lo.length * 5, none⟩ := by rw [topA, hl]
  have hBw : B ≤ w.heap.size := by have := h.bnd b (.inr ⟨.hd, rfl⟩); omega
  have hlv : (S.dat b) .lv = .row 55 5 (.slice (some ⟨g, 0, none⟩) (S.lo.length + 1) cap) (S.lo.length + 1) (S.all.flatMap LvM.cells) := by
    show Dat.row 55 5 S.lvv (S.lo.length + 1) _ = _
    rw [hl]
  have o0 : w.ownsRow B 55 5 (.slice (some ⟨g, 0, none⟩) (S.lo.length + 1) cap) (S.lo.length + 1) (S.all.flatMap LvM.cells) := by
    have := h.comp .lv; rw [hlv] at this; exact this
  have c2 : w.cell? ⟨g, S.lo.length * 5 + 2, none⟩ = some S.tp.tv := by rw [own_cell o0 (by omega), flat_at]; rfl
  have c1 : w.cell? ⟨g, S.lo.length * 5 + 1, none⟩ = some S.tp.pv := by rw [own_cell o0 (by omega), flat_at]; rfl
  have oli : w.ownsRow B 5 1 S.tp.tv S.tp.li.length (bv S.tp.li) := by have := h.comp (.li S.lo.length); rw [dat_li] at this; exact this
  obtain ⟨vs, ops, hrd⟩ : ∃ vs, w.ownsRow B 49 5 S.tp.pv S.tp.ps.length vs ∧ Rds w C vs S.tp.ps := by have := h.comp (.ps S.lo.length); rw [dat_ps] at this; exact this
  obtain ⟨pa, pc, hpv⟩ := own_slice ops
  have OPS := Lib.hid ops
  rw [hpv] at ops c1
  have HPV := Lib.hid hpv
  clear hpv
  have H := Lib.hid h
  have HL := Lib.hid hl
  have HLV := Lib.hid hlv
  have HRD := Lib.hid hrd
  clear h hl hlv hg hm hcs htk
  obtain ⟨n, hn'⟩ : ∃ n, S.lo.length = n := ⟨_, rfl⟩
  rw [ht]
  rw [hn'] at hn c1 c2 ⊢
  clear ht
  by_cases h0 : S.tp.li = []
  · have e0 : ∀ v, ({S with tp := S.tp.flushed v} : Sn) = S := fun v => by unfold LvM.flushed; rw [if_pos h0]
    have E0 := Lib.hid e0
    have hlen : S.tp.li.length = 0 := by rw [h0]; rfl
    rw [hlen] at oli
    rcases oli.2 with ⟨e1, _⟩ | ⟨g1, cap1, cur1, e1, _⟩ <;> rw [e1] at c2 <;> clear h0 hlen e0 oli o0 ops e1
    all_goals
      go_enter Try.func33, Try.ntmps33
      go_wp2
      go_end0
      exact ⟨Value.bool false, rfl, by rw [E0.out]; exact Stp.refl H.out⟩
  · have hlen : 0 < S.tp.li.length := List.length_pos_iff.2 h0
    rcases oli.2 with ⟨e1, e2⟩ | ⟨g1, cap1, cur1, e1, _⟩
    · omega
    have OLI := Lib.hid oli
    have O0 := Lib.hid o0
    have E1 := Lib.hid e1
    have H0 := Lib.hid h0
    rw [e1] at c2
    have hgl : g1 < w.heap.size := by
      have hk : ∃ cur, w.heap[g1]? = some (.cells cur 5 (0, 0)) := by
        rcases oli.2 with ⟨e3, _⟩ | ⟨g3, cap3, cur3, e3, _, e4, _⟩
        · rw [e1] at e3; simp at e3
        · obtain ⟨rfl, _⟩ : g1 = g3 ∧ cap1 = cap3 := by rw [e1] at e3; simpa using e3
          exact ⟨_, e4⟩
      obtain ⟨_, hk⟩ := hk
      exact lt_blk hk
    have hconv : ∀ (w1 : World), w1.heap[g1]? = w.heap[g1]? → (Go.convert 51 9 (.slice (some ⟨g1, 0, none⟩) S.tp.li.length cap1)).run Try.prog w1 = Result.ok (Value.string ⟨S.tp.li.toArray⟩) w1 := fun w1 hk => by
      refine run_convert_bytes_back w1 51 9 5 ⟨g1, 0, none⟩ cap1 S.tp.li Try.underlying51 Try.underlying5 Try.underlying9 (fun j hj => ?_)
      have : (⟨g1, 0, none⟩ : Addr).add j = ⟨g1, j, none⟩ := by unfold Addr.add; split <;> simp_all
      rw [this, World.cell?_of_block hk]
      rw [e1] at oli
      rw [own_cell oli (by omega)]
      simp [bv, hj]
    have HCV := Lib.hid hconv
    have hcv0 := hconv w.drew rfl
    have hcv1 := hconv (w.alloc (.cells #[.int .i64 0, .string ⟨#[]⟩, .string ⟨#[]⟩, .slice none 0 0, .slice none 0 0] 49)).drew (World.heap_alloc_old' _ hgl)
    clear h0 oli o0 e1 hconv
    obtain ⟨l, hl'⟩ : ∃ l, S.tp.ps.length = l := ⟨_, rfl⟩
    rw [hl'] at c1 ops
    rw [hl'] at HPV
    have i0 : (0 : Int) ≤ (l : Int) := by omega
    have i1 : (l : Int) < ((l + 1 : Nat) : Int) := by omega
    have i2 : (l : Int) < (l : Int) + 1 := by omega
    have hgl := Lib.hid hgl
    have b1 : (S.dat b (.li S.lo.length)).blk = some g1 := by rw [dat_li]; show S.tp.tv.ownBlock = _; rw [E1.out]; rfl
    have b2 : (S.dat b .lv).blk = some g := by rw [HLV.out]; rfl
    have b3 : (S.dat b (.ps S.lo.length)).blk = (Value.slice pa l pc).ownBlock := by rw [dat_ps]; show S.tp.pv.ownBlock = _; rw [HPV.out]
    have HNE3 : Hid (g1 ≠ g) := Lib.hid (fun e => by have := H.out.inj _ _ _ b1 (by rw [b2, e]); simp at this)
    have HNE2 : Hid (some g1 ≠ (Value.slice pa l pc).ownBlock) := Lib.hid (fun e => by have := H.out.inj _ _ _ b1 (by rw [b3, ← e]); simp at this)
    have hgg : Hid (g < w.heap.size) := Lib.hid (World.block_lt_of_cell? w _ c1)
    have HNE1 : Hid (some g ≠ (Value.slice pa l pc).ownBlock) := Lib.hid (fun e => by have := H.out.inj _ _ _ b2 (by rw [b3, ← e]); simp at this)
    have HNE : Hid (∀ gg, ((Value.slice pa l pc).ownBlock = some gg ∨ gg = w.heap.size + 1) → g ≠ gg) := Lib.hid (fun gg h e => by
      rcases h with h | h
      · exact HNE1.out (by rw [h, e])
      · have := hgg.out; omega)
    clear b1 b2 b3
    have ca1 : (w.alloc (.cells #[.int .i64 0, .string ⟨#[]⟩, .string ⟨#[]⟩, .slice none 0 0, .slice none 0 0] 49)).cell? ⟨g, n * 5 + 1, none⟩ = some (.slice pa l pc) := by rw [World.cell?_alloc_past _ _ _ hgg.out]; exact c1
    have ca2 : (w.alloc (.cells #[.int .i64 0, .string ⟨#[]⟩, .string ⟨#[]⟩, .slice none 0 0, .slice none 0 0] 49)).cell? ⟨g, n * 5 + 2, none⟩ = some (.slice (some ⟨g1, 0, none⟩) S.tp.li.length cap1) := by rw [World.cell?_alloc_past _ _ _ hgg.out]; exact c2
    have c1a : Hid ((w.alloc (.cells zcells 49)).drew.cell? ⟨g, n * 5 + 1, none⟩ = some (.slice pa l pc)) := Lib.hid (by show (w.alloc _).cell? _ = _; rw [World.cell?_alloc_past _ _ _ hgg.out]; exact c1)
    have c2a : Hid ((w.alloc (.cells zcells 49)).drew.cell? ⟨g, n * 5 + 2, none⟩ = some (.slice (some ⟨g1, 0, none⟩) S.tp.li.length cap1)) := Lib.hid (by show (w.alloc _).cell? _ = _; rw [World.cell?_alloc_past _ _ _ hgg.out]; exact c2)
    have fzl : Hid ((w.alloc (.cells zcells 49)).drew.frozen? ⟨g, n * 5 + 1, none⟩ = false) := Lib.hid (own_frz ((own_kept ((Kept.alloc w _ nob).trans (Kept.drew _ nob) (fun _ _ h => h)) O0.out (fun _ _ h => h))) _)
    have hgl1 : Hid (g < (w.alloc (.cells zcells 49)).drew.heap.size) := Lib.hid (by have := hgg.out; simp; omega)
    go_enter Try.func33, Try.ntmps33
    go_wp2
    go_cut [] (fun wc => Mid B w b C S (.mk 1 ⟨S.tp.li.toArray⟩ ⟨#[]⟩ [] 0) wc)
    case first =>
      go_region_law ((refine step_append_lies _ (by rfl) _ _ _ (by rfl) B 49 ti zpart 5 88 Try.underlying31 hi hz0 hz1 hz2 rfl (by decide) _ l vs (by rfl) ((ops.alloc _).drew) ⟨w.heap.size, 0, none⟩ 1 1 zcells.toList (by rfl) (by rfl) (World.news_of_block (cs := zcells) (t := 49) (fr := (0, 0)) (heap_alloc_new w _)) (by simp [zcells, Value.oneCell']) (by omega) (by unfold maxLen; omega) (by omega) (by simp; omega) (w.heap.size + 1) (by simp) ?_; intro gg cap2 w2 own2 gr2 ls2 lt2; have kc := (gr2.cell_far _ hgl1.out HNE1.out).trans c1a.out; obtain ⟨k0, k1, k2, k3, k4, k5⟩ := five (o := l * 5) (v0 := .int .i64 0) (v1 := .string ⟨#[]⟩) (v2 := .string ⟨#[]⟩) (v3 := .slice none 0 0) (v4 := .slice none 0 0) (a := ⟨g, n * 5 + 1, none⟩) (zcell own2 0 (by omega)) (zcell own2 1 (by omega)) (zcell own2 2 (by omega)) (zcell own2 3 (by omega)) (zcell own2 4 (by omega)) kc (HNE.out _ ls2); obtain ⟨m0, m1, m2, m3, m4⟩ := five2 (o := l * 5) (v0 := .int .i64 0) (v1 := .string ⟨#[]⟩) (v2 := .string ⟨#[]⟩) (v3 := .slice none 0 0) (v4 := .slice none 0 0) (a := ⟨g, n * 5 + 1, none⟩) (u := .slice (some ⟨gg, 0, none⟩) (l + 1) cap2) (zcell own2 0 (by omega)) (zcell own2 1 (by omega)) (zcell own2 2 (by omega)) (zcell own2 3 (by omega)) (zcell own2 4 (by omega)) (HNE.out _ ls2); have hv2 := HCV.out w2 ((gr2.block g1 (by have := hgl1.out; simp at this ⊢; omega) HNE2.out).trans (World.heap_alloc_old' _ hgl.out)); have hv3 := fun u => HCV.out (w2.setCell ⟨g, n * 5 + 1, none⟩ u) ((Below.heap_setCell w2 _ _ g1 HNE3.out).trans ((gr2.block g1 (by have := hgl1.out; simp at this ⊢; omega) HNE2.out).trans (World.heap_alloc_old' _ hgl.out))); have n2 := (gr2.cell_far ⟨g, n * 5 + 2, none⟩ hgl1.out HNE1.out).trans c2a.out; have n3 : ∀ u, (w2.setCell ⟨g, n * 5 + 1, none⟩ u).cell? ⟨g, n * 5 + 2, none⟩ = some (.slice (some ⟨g1, 0, none⟩) S.tp.li.length cap1) := fun u => by { rw [World.cell?_setCell_other (h := by simp)]; exact n2 }; have q0 := own_frz own2; have q1 := (gr2.frozen_far ⟨g, n * 5 + 1, none⟩ hgl1.out HNE1.out).trans fzl.out; have O2 := Lib.hid own2; have G2 := Lib.hid gr2; clear own2 gr2))
      all_goals
        go_wp2
        go_meet
        have hm := grow_mid' (k := 1) (tx := ⟨S.tp.li.toArray⟩) (op := ⟨#[]⟩) (kv := .slice none 0 0) (K := []) (cb := none) (cm := 0) (cc := 0) H.out HL.out hn' hl' HRD.out HPV.out O2.out G2.out ls2 lt2 (.inl ⟨none, 0, rfl, rfl⟩)
        simp only [W5] at hm
        first
          | with_reducible exact hm.1
          | with_reducible exact hm.2
    case rest =>
      obtain ⟨v, hS⟩ := hcut
      have hSo := hS.1
      have hlvo : wc.ownsRow B 55 5 (.slice (some ⟨g, 0, none⟩) (S.lo.length + 1) cap) (S.lo.length + 1) (({S with tp := {S.tp with ps := S.tp.ps ++ [.mk 1 ⟨S.tp.li.toArray⟩ ⟨#[]⟩ [] 0], pv := v}} : Sn).all.flatMap LvM.cells) := by
        have := hSo.comp .lv
        have e : S.lvv = _ := HL.out
        simp only [Sn.dat, Comp, e] at this
        exact this
      have cc2 : wc.cell? ⟨g, n * 5 + 2, none⟩ = some S.tp.tv := by
        rw [own_cell hlvo (by omega), ← hn']
        exact (flat_at _ 2).trans rfl
      have fc2 := own_frz hlvo (n * 5 + 2)
      have HSS := Lib.hid hS
      clear hS hSo hlvo
      go_wp2
      go_end0
      exact ⟨v, rfl, flush_end HL.out hn' H0.out (Nat.le_trans hBw HSS.out.2.1.size) HSS.out⟩
end Go.Proofs.Ytbmapjgajecgfaa

/-
  What is proved: what add does. Conditions: those of each theorem.
-/
import Derived.Test.YtbmapjgajecgfaaW6
set_option linter.unusedVariables false
set_option linter.unusedSimpArgs false
namespace Go.Proofs.Ytbmapjgajecgfaa
open Go.RowKit
structure GF (B : Nat) (w : World) (b : Nat) (C : Nat → Prop) (T : Sn) (g cap : Nat) (pa : Option Addr) (pc l n : Nat) (vs : List Value) : Prop where
  lvv : T.lvv = .slice (some ⟨g, 0, none⟩) (T.lo.length + 1) cap
  hn : T.lo.length = n
  hl : T.tp.ps.length = l
  pv : T.tp.pv = .slice pa l pc
  own : w.ownsRow B 49 5 (.slice pa l pc) l vs
  rd : Rds w C vs T.tp.ps
  c1 : w.cell? ⟨g, n * 5 + 1, none⟩ = some (.slice pa l pc)
  ca1 : (w.alloc (.cells #[.int .i64 0, .string ⟨#[]⟩, .string ⟨#[]⟩, .slice none 0 0, .slice none 0 0] 49)).cell? ⟨g, n * 5 + 1, none⟩ = some (.slice pa l pc)
  c1a : (w.alloc (.cells zcells 49)).drew.cell? ⟨g, n * 5 + 1, none⟩ = some (.slice pa l pc)
  fzl : (w.alloc (.cells zcells 49)).drew.frozen? ⟨g, n * 5 + 1, none⟩ = false
  hgl : g < (w.alloc (.cells zcells 49)).drew.heap.size
  ne1 : some g ≠ (Value.slice pa l pc).ownBlock
  ne : ∀ gg, ((Value.slice pa l pc).ownBlock = some gg ∨ gg = w.heap.size + 1) → g ≠ gg
  top : topA T = some ⟨g, n * 5, none⟩
  hB : B ≤ w.heap.size
theorem growf {B : Nat} {w : World} {b : Nat} {C : Nat → Prop} {T : Sn} (h : Fam B w C (T.dat b)) : ∃ g cap pa pc l n vs, GF B w b C T g cap pa pc l n vs := by
  obtain ⟨g, cap, cur, hl, hB, hg, hn, hm, hcs, htk⟩ := lv_at h
  have hBw : B ≤ w.heap.size := by have := h.bnd b (.inr ⟨.hd, rfl⟩); omega
  have hlv : (T.dat b) .lv = .row 55 5 (.slice (some ⟨g, 0, none⟩) (T.lo.length + 1) cap) (T.lo.length + 1) (T.all.flatMap LvM.cells) := by
    show Dat.row 55 5 T.lvv (T.lo.length + 1) _ = _
    rw [hl]
  have o0 : w.ownsRow B 55 5 (.slice (some ⟨g, 0, none⟩) (T.lo.length + 1) cap) (T.lo.length + 1) (T.all.flatMap LvM.cells) := by
    have := h.comp .lv; rw [hlv] at this; exact this
  have c1 : w.cell? ⟨g, T.lo.length * 5 + 1, none⟩ = some T.tp.pv := by rw [own_cell o0 (by omega), flat_at]; rfl
  obtain ⟨vs, ops, hrd⟩ : ∃ vs, w.ownsRow B 49 5 T.tp.pv T.tp.ps.length vs ∧ Rds w C vs T.tp.ps := by have := h.comp (.ps T.lo.length); rw [dat_ps] at this; exact this
  obtain ⟨pa, pc, hpv⟩ := own_slice ops
  rw [hpv] at c1 ops
  have hgg : g < w.heap.size := World.block_lt_of_cell? w _ c1
  have b2 : (T.dat b .lv).blk = some g := by rw [hlv]; rfl
  have b3 : (T.dat b (.ps T.lo.length)).blk = (Value.slice pa T.tp.ps.length pc).ownBlock := by rw [dat_ps]; show T.tp.pv.ownBlock = _; rw [hpv]
  have ne1 : some g ≠ (Value.slice pa T.tp.ps.length pc).ownBlock := fun e => by have := h.inj _ _ _ b2 (by rw [b3, ← e]); simp at this
  refine ⟨g, cap, pa, pc, _, _, vs, hl, rfl, rfl, hpv, ops, hrd, c1, by rw [World.cell?_alloc_past _ _ _ hgg]; exact c1, by show (w.alloc _).cell? _ = _; rw [World.cell?_alloc_past _ _ _ hgg]; exact c1,
    own_frz ((own_kept ((Kept.alloc w _ nob).trans (Kept.drew _ nob) (fun _ _ h => h)) o0 (fun _ _ h => h))) _, by simp; omega, ne1, fun gg h e => ?_, by rw [topA, hl], hBw⟩
  rcases h with h | h
  · exact ne1 (by rw [h, e])
  · omega
/-- The cells of a part that lies in a block of its own. -/
theorem pcell {w : World} {q : Nat} {v0 v1 v2 v3 v4 : Value} (h : w.heap[q]? = some (.cells #[v0, v1, v2, v3, v4] 49 (0, 0))) : w.cell? ⟨q, 0, none⟩ = some v0 ∧ w.cell? ⟨q, 1, none⟩ = some v1 ∧ w.cell? ⟨q, 2, none⟩ = some v2 ∧ w.cell? ⟨q, 3, none⟩ = some v3 ∧ w.cell? ⟨q, 4, none⟩ = some v4 :=
  ⟨by rw [cell_blk h]; rfl, by rw [cell_blk h]; rfl, by rw [cell_blk h]; rfl, by rw [cell_blk h]; rfl, by rw [cell_blk h]; rfl⟩
def Added (B : Nat) (w0 : World) (b : Nat) (C : Nat → Prop) (S : Sn) (p : Prt) (e : Ending) (w' : World) : Prop :=
  ∃ v1 v2 : Value, e = .returned (.tuple #[]) ∧ Stp B w0 C (S.dat b) w' C ({S with tp := {S.tp.flushed v1 with ps := (S.tp.flushed v1).ps ++ [p], pv := v2}}.dat b)
set_option maxHeartbeats 2000000 in
set_option maxRecDepth 100000 in
theorem add_any {B : Nat} {w : World} {b : Nat} {C : Nat → Prop} {S : Sn} (h : Fam B w C (S.dat b)) (hl1 : S.tp.li.length ≤ 100000) (hl2 : S.tp.ps.length ≤ 100000)
    (k : Int) (tx op : ByteArray) (ka : Option Addr) (kl kc : Nat) (K : List Prt) (cb : Option Addr) (cm cc : Nat) (hkv : Cold w C (.slice ka kl kc) K) :
    Calls Try.prog 26 #[.pointer (some ⟨b, 0, none⟩), .agg #[.int .i64 k, .string tx, .string op, .slice ka kl kc, .slice cb cm cc]] w (Added B w b C S (.mk k tx op K cm)) := by
  obtain ⟨ti, hi, hz0, hz1, hz2⟩ := info_parts info_part
  have H := Lib.hid h
  have HK := Lib.hid hkv
  clear h hkv
  go_enter Try.func26, Try.ntmps26
  go_wp2_with fail
  have s0 := Lib.hid (Stp.nob H.out (Kept.alloc w (.cells #[.int .i64 k, .string tx, .string op, .slice ka kl kc, .slice cb cm cc] 49) nob))
  have hq0 := Lib.hid (alloc_blk w (.cells #[.int .i64 k, .string tx, .string op, .slice ka kl kc, .slice cb cm cc] 49))
  have hqn : Hid (¬ Foot C (S.dat b) w.heap.size) := Lib.hid (fun hf => by have := H.out.bnd _ hf; omega)
  refine (top_any s0.out.1).mono ?_
  rintro e w1 ⟨rfl, q, rfl⟩
  have s1 := Lib.hid (s0.out.trans (Stp.nob s0.out.1 (Kept.drewN _ q nob)))
  go_wp2_with fail
  refine (flush_any s1.out.1 hl1 hl2).mono ?_
  rintro e w2 ⟨v1, rfl, s2⟩
  have S2 := Lib.hid (s1.out.trans s2)
  have hq1 : w2.heap[w.heap.size]? = some (.cells #[.int .i64 k, .string tx, .string op, .slice ka kl kc, .slice cb cm cc] 49 (0, 0)) := s2.2.1.get hq0.out (fun hh => hqn.out (.inr hh))
  have hq1b := Lib.hid (lt_blk hq1)
  have hKc : Hid (Cold w2 C (.slice ka kl kc) K) := Lib.hid (S2.out.cold H.out HK.out)
  have hqT0 : ¬ Hot (({S with tp := S.tp.flushed v1} : Sn).dat b) w.heap.size := fun hh => by
    rcases s2.2.2.1 _ hh with h | h
    · exact hqn.out (.inr h)
    · simp at h; omega
  obtain ⟨T, hT⟩ : ∃ T, T = ({S with tp := S.tp.flushed v1} : Sn) := ⟨_, rfl⟩
  have hTl : T.tp.ps.length ≤ 100001 := by
    rw [hT]
    show (S.tp.flushed v1).ps.length ≤ _
    unfold LvM.flushed
    split
    · omega
    · simp; omega
  have htop : topA T = topA S := by rw [hT]; rfl
  rw [← hT] at S2 hqT0
  have HT := Lib.hid hT
  obtain ⟨g, cap, pa, pc, l, n, vs, G⟩ := growf S2.out.1
  rw [← htop, G.top]
  have own := Lib.hid G.own
  have c1 := G.c1
  have ca1 := G.ca1
  have GG := Lib.hid G
  have hBw := Lib.hid G.hB
  have hll : l ≤ 100001 := by rw [← G.hl]; exact hTl
  obtain ⟨p0, p1, p2, p3, p4⟩ := pcell hq1
  have hqa : (w2.alloc (.cells #[.int .i64 0, .string ⟨#[]⟩, .string ⟨#[]⟩, .slice none 0 0, .slice none 0 0] 49)).heap[w.heap.size]? = some (.cells #[.int .i64 k, .string tx, .string op, .slice ka kl kc, .slice cb cm cc] 49 (0, 0)) := alloc_old hq1 _
  obtain ⟨a0, a1, a2, a3, a4⟩ := pcell hqa
  have HQA := Lib.hid hqa
  have hqne : Hid (some w.heap.size ≠ (Value.slice pa l pc).ownBlock) := Lib.hid (fun e => hqT0 ⟨.ps T.lo.length, by rw [dat_ps]; show T.tp.pv.ownBlock = _; rw [G.pv, e]⟩)
  have hqng : Hid (w.heap.size ≠ g) := Lib.hid (fun e => hqT0 ⟨.lv, by show T.lvv.ownBlock = _; rw [G.lvv, e]; rfl⟩)
  have i0 : (0 : Int) ≤ (l : Int) := by omega
  have i1 : (l : Int) < ((l + 1 : Nat) : Int) := by omega
  have i2 : (l : Int) < (l : Int) + 1 := by omega
  clear s2 hT hTl htop G hq1 hqa hqT0
  go_wp2_with fail
  go_region_law ((refine step_append_lies _ (by rfl) _ _ _ (by rfl) B 49 ti zpart 5 88 Try.underlying31 hi hz0 hz1 hz2 rfl (by decide) _ l vs (by rfl) ((own.out.alloc _).drew) ⟨w2.heap.size, 0, none⟩ 1 1 zcells.toList (by rfl) (by rfl) (World.news_of_block (cs := zcells) (t := 49) (fr := (0, 0)) (heap_alloc_new w2 _)) (by simp [zcells, Value.oneCell']) (by omega) (by unfold maxLen; omega) (by omega) (by have := hBw.out; simp; omega) (w2.heap.size + 1) (by simp) ?_; intro gg cap2 w3 own2 gr2 ls2 lt2; have kq := (gr2.cell_far _ GG.out.hgl GG.out.ne1).trans GG.out.c1a; obtain ⟨k0, k1, k2, k3, k4, k5⟩ := five (o := l * 5) (v0 := .int .i64 0) (v1 := .string ⟨#[]⟩) (v2 := .string ⟨#[]⟩) (v3 := .slice none 0 0) (v4 := .slice none 0 0) (a := ⟨g, n * 5 + 1, none⟩) (zcell own2 0 (by omega)) (zcell own2 1 (by omega)) (zcell own2 2 (by omega)) (zcell own2 3 (by omega)) (zcell own2 4 (by omega)) kq (GG.out.ne _ ls2); obtain ⟨m0, m1, m2, m3, m4⟩ := five2 (o := l * 5) (v0 := .int .i64 0) (v1 := .string ⟨#[]⟩) (v2 := .string ⟨#[]⟩) (v3 := .slice none 0 0) (v4 := .slice none 0 0) (a := ⟨g, n * 5 + 1, none⟩) (u := .slice (some ⟨gg, 0, none⟩) (l + 1) cap2) (zcell own2 0 (by omega)) (zcell own2 1 (by omega)) (zcell own2 2 (by omega)) (zcell own2 3 (by omega)) (zcell own2 4 (by omega)) (GG.out.ne _ ls2); have hw3 : w3.heap[w.heap.size]? = some (.cells #[.int .i64 k, .string tx, .string op, .slice ka kl kc, .slice cb cm cc] 49 (0, 0)) := (gr2.block _ (by have := hq1b.out; simp; omega) hqne.out).trans HQA.out; obtain ⟨b0, b1, b2, b3, b4⟩ := pcell hw3; obtain ⟨d0, d1, d2, d3, d4⟩ : _ ∧ _ ∧ _ ∧ _ ∧ _ := pcell ((Below.heap_setCell w3 ⟨g, n * 5 + 1, none⟩ (.slice (some ⟨gg, 0, none⟩) (l + 1) cap2) _ hqng.out).trans hw3); have q0 := own_frz own2; have q1 := (gr2.frozen_far ⟨g, n * 5 + 1, none⟩ GG.out.hgl GG.out.ne1).trans GG.out.fzl; have O2 := Lib.hid own2; have G2 := Lib.hid gr2; clear own2 gr2 hw3))
  all_goals
    go_wp2
    go_end0
    have hm := grow_mid' (k := k) (tx := tx) (op := op) (kv := .slice ka kl kc) (K := K) (cb := cb) (cm := cm) (cc := cc) S2.out.1 GG.out.lvv GG.out.hn GG.out.hl GG.out.rd GG.out.pv O2.out G2.out ls2 lt2 hKc.out
    simp only [W5] at hm
    have hfin : ∀ w', Mid B w2 b C T (.mk k tx op K cm) w' → Added B w b C S (.mk k tx op K cm) (.returned (.tuple #[])) w' := fun w' hM => by
      obtain ⟨v2, hs⟩ := hM
      refine ⟨v1, v2, rfl, ?_⟩
      have := S2.out.trans hs
      rw [HT.out] at this
      exact this
    first
      | with_reducible exact hfin _ hm.1
      | with_reducible exact hfin _ hm.2
end Go.Proofs.Ytbmapjgajecgfaa

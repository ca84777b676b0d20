/-
  What is proved: what add does; what push does; the memory side of pop; what pop does; what letter and Class do; what IndexByte, Special and single1 do; machines without their place in memory; what opened does; lemmas: bytes of a machine as a string; what arithEnd does; what operator does; lemma: a text of one byte; what parameter does; what hash does; what head does; what colon does. Conditions: those of each theorem.
-/
import Derived.Test.YtbmapjgajecgfaaJ1
import Derived.Laws.StandIn
import Derived.Lib.Bytealg
import Derived.Laws.IdiomStrings
import Derived.Lib.BufferRead
set_option linter.unusedVariables false
set_option linter.unusedSimpArgs false
namespace Go.Proofs.Ytbmapjgajecgfaa
open Go.RowKit
structure GF (B : Nat) (w : World) (b : Nat) (C : Nat → Prop) (T : Sn) (g cap : Nat) (pa : Option Addr) (pc l n : Nat) (vs : List Value) : Prop where
  lvv : T.lvv = .slice (some ⟨g, 0, none⟩) (T.lo.length + 1) cap
  hn : T.lo.length = n
  hl : T.tp.ps.length = l
  pv : T.tp.pv = .slice pa l pc
  own : w.ownsRow B 49 5 (.slice pa l pc) l vs
  rd : Rds w C vs T.tp.ps
  c1 : w.cell? ⟨g, n * 5 + 1, none⟩ = some (.slice pa l pc)
  ca1 : (w.alloc (.cells #[.int .i64 0, .string ⟨#[]⟩, .string ⟨#[]⟩, .slice none 0 0, .slice none 0 0] 49)).cell? ⟨g, n * 5 + 1, none⟩ = some (.slice pa l pc)
  c1a : (w.alloc (.cells zcells 49)).drew.cell? ⟨g, n * 5 + 1, none⟩ = some (.slice pa l pc)
  fzl : (w.alloc (.cells zcells 49)).drew.frozen? ⟨g, n * 5 + 1, none⟩ = false
  hgl : g < (w.alloc (.cells zcells 49)).drew.heap.size
  ne1 : some g ≠ (Value.slice pa l pc).ownBlock
  ne : ∀ gg, ((Value.slice pa l pc).ownBlock = some gg ∨ gg = w.heap.size + 1) → g ≠ gg
  top : topA T = some ⟨g, n * 5, none⟩
  hB : B ≤ w.heap.size
theorem growf {B : Nat} {w : World} {b : Nat} {C : Nat → Prop} {T : Sn} (h : Fam B w C (T.dat b)) : ∃ g cap pa pc l n vs, GF B w b C T g cap pa pc l n vs := by
  obtain ⟨g, cap, cur, hl, hB, hg, hn, hm, hcs, htk⟩ := lv_at h
  have hBw : B ≤ w.heap.size := by have := h.bnd b (.inr ⟨.hd, rfl⟩); omega
  have hlv : (T.dat b) .lv = .row 55 5 (.slice (some ⟨g, 0, none⟩) (T.lo.length + 1) cap) (T.lo.length + 1) (T.all.flatMap LvM.cells) := by
    show Dat.row 55 5 T.lvv (T.lo.length + 1) _ = _
    rw [hl]
  have o0 : w.ownsRow B 55 5 (.slice (some ⟨g, 0, none⟩) (T.lo.length + 1) cap) (T.lo.length + 1) (T.all.flatMap LvM.cells) := by
    have := h.comp .lv; rw [hlv] at this; exact this
  have c1 : w.cell? ⟨g, T.lo.length * 5 + 1, none⟩ = some T.tp.pv := by rw [own_cell o0 (by omega), flat_at]; rfl
  obtain ⟨vs, ops, hrd⟩ : ∃ vs, w.ownsRow B 49 5 T.tp.pv T.tp.ps.length vs ∧ Rds w C vs T.tp.ps := by have := h.comp (.ps T.lo.length); rw [dat_ps] at this; exact this
  obtain ⟨pa, pc, hpv⟩ := own_slice ops
  rw [hpv] at c1 ops
  have hgg : g < w.heap.size := World.block_lt_of_cell? w _ c1
  have b2 : (T.dat b .lv).blk = some g := by rw [hlv]; rfl
  have b3 : (T.dat b (.ps T.lo.length)).blk = (Value.slice pa T.tp.ps.length pc).ownBlock := by rw [dat_ps]; show T.tp.pv.ownBlock = _; rw [hpv]
  have ne1 : some g ≠ (Value.slice pa T.tp.ps.length pc).ownBlock := fun e => by have := h.inj _ _ _ b2 (by rw [b3, ← e]); simp at this
  refine ⟨g, cap, pa, pc, _, _, vs, hl, rfl, rfl, hpv, ops, hrd, c1, by rw [World.cell?_alloc_past _ _ _ hgg]; exact c1, by show (w.alloc _).cell? _ = _; rw [World.cell?_alloc_past _ _ _ hgg]; exact c1,
    own_frz ((own_kept ((Kept.alloc w _ nob).trans (Kept.drew _ nob) (fun _ _ h => h)) o0 (fun _ _ h => h))) _, by simp; omega, ne1, fun gg h e => ?_, by rw [topA, hl], hBw⟩
  rcases h with h | h
  · exact ne1 (by rw [h, e])
  · omega
/-- The cells of a part that lies in a block of its own. -/
theorem pcell {w : World} {q : Nat} {v0 v1 v2 v3 v4 : Value} (h : w.heap[q]? = some (.cells #[v0, v1, v2, v3, v4] 49 (0, 0))) : w.cell? ⟨q, 0, none⟩ = some v0 ∧ w.cell? ⟨q, 1, none⟩ = some v1 ∧ w.cell? ⟨q, 2, none⟩ = some v2 ∧ w.cell? ⟨q, 3, none⟩ = some v3 ∧ w.cell? ⟨q, 4, none⟩ = some v4 :=
  ⟨by rw [cell_blk h]; rfl, by rw [cell_blk h]; rfl, by rw [cell_blk h]; rfl, by rw [cell_blk h]; rfl, by rw [cell_blk h]; rfl⟩
def Added (B : Nat) (w0 : World) (b : Nat) (C : Nat → Prop) (S : Sn) (p : Prt) (e : Ending) (w' : World) : Prop :=
  ∃ v1 v2 : Value, e = .returned (.tuple #[]) ∧ Stp B w0 C (S.dat b) w' C ({S with tp := {S.tp.flushed v1 with ps := (S.tp.flushed v1).ps ++ [p], pv := v2}}.dat b)
set_option maxHeartbeats 2000000 in
set_option maxRecDepth 100000 in
theorem add_any {B : Nat} {w : World} {b : Nat} {C : Nat → Prop} {S : Sn} (h : Fam B w C (S.dat b)) (hl1 : S.tp.li.length ≤ 100000) (hl2 : S.tp.ps.length ≤ 100000)
    (k : Int) (tx op : ByteArray) (ka : Option Addr) (kl kc : Nat) (K : List Prt) (cb : Option Addr) (cm cc : Nat) (hkv : Cold w C (.slice ka kl kc) K) :
    Calls Try.prog 26 #[.pointer (some ⟨b, 0, none⟩), .agg #[.int .i64 k, .string tx, .string op, .slice ka kl kc, .slice cb cm cc]] w (Added B w b C S (.mk k tx op K cm)) := by
  obtain ⟨ti, hi, hz0, hz1, hz2⟩ := info_parts info_part
  have H := Lib.hid h
  have HK := Lib.hid hkv
  clear h hkv
  go_enter Try.func26, Try.ntmps26
  go_wp2_with fail
  have s0 := Lib.hid (Stp.nob H.out (Kept.alloc w (.cells #[.int .i64 k, .string tx, .string op, .slice ka kl kc, .slice cb cm cc] 49) nob))
  have hq0 := Lib.hid (alloc_blk w (.cells #[.int .i64 k, .string tx, .string op, .slice ka kl kc, .slice cb cm cc] 49))
  have hqn : Hid (¬ Foot C (S.dat b) w.heap.size) := Lib.hid (fun hf => by have := H.out.bnd _ hf; omega)
  refine (top_any s0.out.1).mono ?_
  rintro e w1 ⟨rfl, q, rfl⟩
  have s1 := Lib.hid (s0.out.trans (Stp.nob s0.out.1 (Kept.drewN _ q nob)))
  go_wp2_with fail
  refine (flush_any s1.out.1 hl1 hl2).mono ?_
  rintro e w2 ⟨v1, rfl, s2⟩
  have S2 := Lib.hid (s1.out.trans s2)
  have hq1 : w2.heap[w.heap.size]? = some (.cells #[.int .i64 k, .string tx, .string op, .slice ka kl kc, .slice cb cm cc] 49 (0, 0)) := s2.2.1.get hq0.out (fun hh => hqn.out (.inr hh))
  have hq1b := Lib.hid (lt_blk hq1)
  have hKc : Hid (Cold w2 C (.slice ka kl kc) K) := Lib.hid (S2.out.cold H.out HK.out)
  have hqT0 : ¬ Hot (({S with tp := S.tp.flushed v1} : Sn).dat b) w.heap.size := fun hh => by
    rcases s2.2.2.1 _ hh with h | h
    · exact hqn.out (.inr h)
    · simp at h; omega
  obtain ⟨T, hT⟩ : ∃ T, T = ({S with tp := S.tp.flushed v1} : Sn) := ⟨_, rfl⟩
  have hTl : T.tp.ps.length ≤ 100001 := by
    rw [hT]
    show (S.tp.flushed v1).ps.length ≤ _
    unfold LvM.flushed
    split
    · omega
    · simp; omega
  have htop : topA T = topA S := by rw [hT]; rfl
  rw [← hT] at S2 hqT0
  have HT := Lib.hid hT
  obtain ⟨g, cap, pa, pc, l, n, vs, G⟩ := growf S2.out.1
  rw [← htop, G.top]
  have own := Lib.hid G.own
  have c1 := G.c1
  have ca1 := G.ca1
  have GG := Lib.hid G
  have hBw := Lib.hid G.hB
  have hll : l ≤ 100001 := by rw [← G.hl]; exact hTl
  obtain ⟨p0, p1, p2, p3, p4⟩ := pcell hq1
  have hqa : (w2.alloc (.cells #[.int .i64 0, .string ⟨#[]⟩, .string ⟨#[]⟩, .slice none 0 0, .slice none 0 0] 49)).heap[w.heap.size]? = some (.cells #[.int .i64 k, .string tx, .string op, .slice ka kl kc, .slice cb cm cc] 49 (0, 0)) := alloc_old hq1 _
  obtain ⟨a0, a1, a2, a3, a4⟩ := pcell hqa
  have HQA := Lib.hid hqa
  have hqne : Hid (some w.heap.size ≠ (Value.slice pa l pc).ownBlock) := Lib.hid (fun e => hqT0 ⟨.ps T.lo.length, by rw [dat_ps]; show T.tp.pv.ownBlock = _; rw [G.pv, e]⟩)
  have hqng : Hid (w.heap.size ≠ g) := Lib.hid (fun e => hqT0 ⟨.lv, by show T.lvv.ownBlock = _; rw [G.lvv, e]; rfl⟩)
  have i0 : (0 : Int) ≤ (l : Int) := by omega
  have i1 : (l : Int) < ((l + 1 : Nat) : Int) := by omega
  have i2 : (l : Int) < (l : Int) + 1 := by omega
  clear s2 hT hTl htop G hq1 hqa hqT0
  go_wp2_with fail
  go_region_law ((refine step_append_lies _ (by rfl) _ _ _ (by rfl) B 49 ti zpart 5 88 Try.underlying31 hi hz0 hz1 hz2 rfl (by decide) _ l vs (by rfl) ((own.out.alloc _).drew) ⟨w2.heap.size, 0, none⟩ 1 1 zcells.toList (by rfl) (by rfl) (World.news_of_block (cs := zcells) (t := 49) (fr := (0, 0)) (heap_alloc_new w2 _)) (by simp [zcells, Value.oneCell']) (by omega) (by unfold maxLen; omega) (by omega) (by have := hBw.out; simp; omega) (w2.heap.size + 1) (by simp) ?_; intro gg cap2 w3 own2 gr2 ls2 lt2; have kq := (gr2.cell_far _ GG.out.hgl GG.out.ne1).trans GG.out.c1a; obtain ⟨k0, k1, k2, k3, k4, k5⟩ := five (o := l * 5) (v0 := .int .i64 0) (v1 := .string ⟨#[]⟩) (v2 := .string ⟨#[]⟩) (v3 := .slice none 0 0) (v4 := .slice none 0 0) (a := ⟨g, n * 5 + 1, none⟩) (zcell own2 0 (by omega)) (zcell own2 1 (by omega)) (zcell own2 2 (by omega)) (zcell own2 3 (by omega)) (zcell own2 4 (by omega)) kq (GG.out.ne _ ls2); obtain ⟨m0, m1, m2, m3, m4⟩ := five2 (o := l * 5) (v0 := .int .i64 0) (v1 := .string ⟨#[]⟩) (v2 := .string ⟨#[]⟩) (v3 := .slice none 0 0) (v4 := .slice none 0 0) (a := ⟨g, n * 5 + 1, none⟩) (u := .slice (some ⟨gg, 0, none⟩) (l + 1) cap2) (zcell own2 0 (by omega)) (zcell own2 1 (by omega)) (zcell own2 2 (by omega)) (zcell own2 3 (by omega)) (zcell own2 4 (by omega)) (GG.out.ne _ ls2); have hw3 : w3.heap[w.heap.size]? = some (.cells #[.int .i64 k, .string tx, .string op, .slice ka kl kc, .slice cb cm cc] 49 (0, 0)) := (gr2.block _ (by have := hq1b.out; simp; omega) hqne.out).trans HQA.out; obtain ⟨b0, b1, b2, b3, b4⟩ := pcell hw3; obtain ⟨d0, d1, d2, d3, d4⟩ : _ ∧ _ ∧ _ ∧ _ ∧ _ := pcell ((Below.heap_setCell w3 ⟨g, n * 5 + 1, none⟩ (.slice (some ⟨gg, 0, none⟩) (l + 1) cap2) _ hqng.out).trans hw3); have q0 := own_frz own2; have q1 := (gr2.frozen_far ⟨g, n * 5 + 1, none⟩ GG.out.hgl GG.out.ne1).trans GG.out.fzl; have O2 := Lib.hid own2; have G2 := Lib.hid gr2; clear own2 gr2 hw3))
  all_goals
    go_wp2
    go_end0
    have hm := grow_mid' (k := k) (tx := tx) (op := op) (kv := .slice ka kl kc) (K := K) (cb := cb) (cm := cm) (cc := cc) S2.out.1 GG.out.lvv GG.out.hn GG.out.hl GG.out.rd GG.out.pv O2.out G2.out ls2 lt2 hKc.out
    simp only [W5] at hm
    have hfin : ∀ w', Mid B w2 b C T (.mk k tx op K cm) w' → Added B w b C S (.mk k tx op K cm) (.returned (.tuple #[])) w' := fun w' hM => by
      obtain ⟨v2, hs⟩ := hM
      refine ⟨v1, v2, rfl, ?_⟩
      have := S2.out.trans hs
      rw [HT.out] at this
      exact this
    first
      | with_reducible exact hfin _ hm.1
      | with_reducible exact hfin _ hm.2
end Go.Proofs.Ytbmapjgajecgfaa
set_option linter.unusedVariables false
set_option linter.unusedSimpArgs false
namespace Go.Proofs.Ytbmapjgajecgfaa
open Go.RowKit
def lzero : Value := .agg #[.int .i64 0, .slice none 0 0, .slice none 0 0, .string ⟨#[]⟩, .string ⟨#[]⟩]
theorem info_lev : (Try.prog.info? 55).map (fun i => (i.zero, i.size, i.bytes)) = some (some lzero, 5, 88) := by kernel_rfl
/-- A level that is opened. -/
def LvM.new (wh : Int) (nm op : ByteArray) : LvM := ⟨wh, [], [], nm, op, .slice none 0 0, .slice none 0 0⟩
theorem push_dat {S : Sn} {b : Nat} {wh : Int} {nm op : ByteArray} {v : Value} {n : Nat} {D : Tag → Dat} (hn : S.lo.length + 1 = n) (h1 : D .hd = .head b 53 (({S with lo := S.lo ++ [S.tp], tp := LvM.new wh nm op, lvv := v} : Sn).head b (nextv b S.kd))) (h2 : D .lv = .row 55 5 v (n + 1) (S.all.flatMap LvM.cells ++ (LvM.new wh nm op).cells))
    (h3 : D (.ps n) = .prow 49 (.slice none 0 0) []) (h4 : D (.li n) = .row 5 1 (.slice none 0 0) 0 []) (h5 : ∀ t, t ≠ .hd → t ≠ .lv → t ≠ .ps n → t ≠ .li n → D t = S.dat b t) :
    D = ({S with lo := S.lo ++ [S.tp], tp := LvM.new wh nm op, lvv := v} : Sn).dat b := by
  have hall : ({S with lo := S.lo ++ [S.tp], tp := LvM.new wh nm op, lvv := v} : Sn).all = S.all ++ [LvM.new wh nm op] := by simp [Sn.all]
  have hat : ∀ i, i ≠ n → (S.all ++ [LvM.new wh nm op])[i]? = S.all[i]? := fun i hi => by
    have hz : S.all.length = n := by simp [Sn.all, hn]
    by_cases h : i < n
    · rw [List.getElem?_append_left (by omega)]
    · rw [List.getElem?_eq_none (by simp; omega), List.getElem?_eq_none (by omega)]
  have htop : (S.all ++ [LvM.new wh nm op])[n]? = some (LvM.new wh nm op) := by
    have hz : S.all.length = n := by simp [Sn.all, hn]
    rw [List.getElem?_append_right (by omega), hz]
    simp
  funext t
  cases t with
  | hd => rw [h1]; rfl
  | lv =>
    rw [h2]
    show _ = Dat.row 55 5 v ((S.lo ++ [S.tp]).length + 1) (List.flatMap LvM.cells (Sn.all _))
    rw [hall]
    simp [hn]
  | tk => rw [h5 _ (by simp) (by simp) (by simp) (by simp)]; rfl
  | pl => rw [h5 _ (by simp) (by simp) (by simp) (by simp)]; rfl
  | bu => rw [h5 _ (by simp) (by simp) (by simp) (by simp)]; rfl
  | ps i =>
    by_cases e : i = n
    · subst e
      rw [h3]
      show _ = match (Sn.all _)[i]? with | some l => Dat.prow 49 l.pv l.ps | none => .nothing
      rw [hall, htop]
      rfl
    · rw [h5 _ (by simp) (by simp) (by simpa using e) (by simp)]
      show (match S.all[i]? with | some l => Dat.prow 49 l.pv l.ps | none => .nothing) = match (Sn.all _)[i]? with | some l => Dat.prow 49 l.pv l.ps | none => .nothing
      rw [hall, hat i e]
  | li i =>
    by_cases e : i = n
    · subst e
      rw [h4]
      show _ = match (Sn.all _)[i]? with | some l => Dat.row 5 1 l.tv l.li.length (bv l.li) | none => .nothing
      rw [hall, htop]
      rfl
    · rw [h5 _ (by simp) (by simp) (by simp) (by simpa using e)]
      show (match S.all[i]? with | some l => Dat.row 5 1 l.tv l.li.length (bv l.li) | none => .nothing) = match (Sn.all _)[i]? with | some l => Dat.row 5 1 l.tv l.li.length (bv l.li) | none => .nothing
      rw [hall, hat i e]
theorem push_step {B : Nat} {w w2 : World} {b : Nat} {C : Nat → Prop} {S : Sn} {g n cap : Nat} {o : Obj} {wh : Int} {nm op : ByteArray} (h : Fam B w C (S.dat b)) (hn : S.lo.length + 1 = n)
    (own2 : w2.ownsRow B 55 5 (.slice (some ⟨g, 0, none⟩) (n + 1) cap) (n + 1) (S.all.flatMap LvM.cells ++ (LvM.new wh nm op).cells)) (gr2 : ((w.alloc o).drew).grownBy w2 S.lvv.ownBlock) (ls2 : S.lvv.ownBlock = some g ∨ g = w.heap.size + 1) (lt2 : g < w2.heap.size) :
    Stp B w C (S.dat b) (w2.setCell ⟨b, 0, none⟩ (.slice (some ⟨g, 0, none⟩) (n + 1) cap)) C (({S with lo := S.lo ++ [S.tp], tp := LvM.new wh nm op, lvv := .slice (some ⟨g, 0, none⟩) (n + 1) cap} : Sn).dat b) := by
  have hBw : B ≤ w.heap.size := by have := h.bnd b (.inr ⟨.hd, rfl⟩); omega
  have s1 := Stp.nob h ((Kept.alloc w o nob).trans (Kept.drew _ nob) (fun _ _ h => h))
  have s2 := Stp.app s1.1 (t := .lv) (e := 55) (size := 5) rfl gr2 own2 (by simpa using ls2) lt2 (s1.hB hBw)
  have s3 := Stp.setHead s2.1 (t := .hd) (b := b) (ty := 53) (cs := S.head b (nextv b S.kd)) (by rw [upd_ne (by simp)]; rfl) 0 (.slice (some ⟨g, 0, none⟩) (n + 1) cap)
  have s4 := Stp.one s3.1 (.ps n) (.prow 49 (.slice none 0 0) []) (Kept.refl _ _) ⟨[], World.ownsRow_nil _ _ _ _, .nil⟩ (fun k hk => by cases hk) ((s1.trans s2).trans s3 |>.hB hBw)
  have s5 := Stp.one s4.1 (.li n) (.row 5 1 (.slice none 0 0) 0 []) (Kept.refl _ _) (World.ownsRow_nil _ _ _ _) (fun k hk => by cases hk) ((s1.trans s2).trans s3 |>.hB hBw)
  refine Eq.mp (congrArg (fun D => Stp B w C (S.dat b) _ C D) (push_dat hn ?_ ?_ ?_ ?_ ?_)) ((((s1.trans s2).trans s3).trans s4).trans s5)
  · rw [upd_ne (by simp), upd_ne (by simp), upd_at]; rfl
  · rw [upd_ne (by simp), upd_ne (by simp), upd_ne (by simp), upd_at]
  · rw [upd_ne (by simp), upd_at]
  · rw [upd_at]
  · intro t h1 h2 h3 h4; rw [upd_ne h4, upd_ne h3, upd_ne h1, upd_ne h2]

def Pushed (B : Nat) (w0 : World) (b : Nat) (C : Nat → Prop) (S : Sn) (wh : Int) (nm op : ByteArray) (e : Ending) (w' : World) : Prop :=
  ∃ v : Value, e = .returned (.int .i64 0) ∧ Stp B w0 C (S.dat b) w' C (({S with lo := S.lo ++ [S.tp], tp := LvM.new wh nm op, lvv := v, kd := 0} : Sn).dat b)
/-- Behind the append of push. -/
def MidP (B : Nat) (w0 : World) (b : Nat) (C : Nat → Prop) (S : Sn) (wh : Int) (nm op : ByteArray) (wc : World) : Prop :=
  ∃ v : Value, Stp B w0 C (S.dat b) wc C (({S with lo := S.lo ++ [S.tp], tp := LvM.new wh nm op, lvv := v} : Sn).dat b)
set_option maxHeartbeats 2000000 in
set_option maxRecDepth 100000 in
theorem push_any {B : Nat} {w : World} {b : Nat} {C : Nat → Prop} {S : Sn} (h : Fam B w C (S.dat b)) (hl1 : S.lo.length ≤ 100000) (wh : Int) (nm op : ByteArray) :
    Calls Try.prog 64 #[.pointer (some ⟨b, 0, none⟩), .agg #[.int .i64 wh, .slice none 0 0, .slice none 0 0, .string nm, .string op]] w (Pushed B w b C S wh nm op) := by
  obtain ⟨ti, hi, hz0, hz1, hz2⟩ := info_parts info_lev
  have H := Lib.hid h
  obtain ⟨g, cap, cur, hl, hB, hg, hn, hm, hcs, htk⟩ := lv_at h
  have hBw : B ≤ w.heap.size := by have := h.bnd b (.inr ⟨.hd, rfl⟩); omega
  have hb : w.heap[b]? = some (.cells (S.head b (nextv b S.kd)) 53 (0, 0)) := h.comp .hd
  have s0 := Stp.nob h (Kept.alloc w (.cells #[.int .i64 wh, .slice none 0 0, .slice none 0 0, .string nm, .string op] 55) nob)
  obtain ⟨n, hn'⟩ : ∃ n, S.lo.length + 1 = n := ⟨_, rfl⟩
  obtain ⟨w0, hw0⟩ : ∃ w0, w0 = w.alloc (.cells #[.int .i64 wh, .slice none 0 0, .slice none 0 0, .string nm, .string op] 55) := ⟨_, rfl⟩
  have hq0 : w0.heap[w.heap.size]? = some (.cells #[.int .i64 wh, .slice none 0 0, .slice none 0 0, .string nm, .string op] 55 (0, 0)) := by rw [hw0]; exact alloc_blk _ _
  rw [← hw0] at s0
  have o0 : w0.ownsRow B 55 5 (.slice (some ⟨g, 0, none⟩) n cap) n (S.all.flatMap LvM.cells) := by
    have h2 := s0.1.comp .lv
    have : w0.ownsRow B 55 5 S.lvv (S.lo.length + 1) (S.all.flatMap LvM.cells) := h2
    rw [hl, hn'] at this
    exact this
  have hb0 : w0.heap[b]? = some (.cells (S.head b (nextv b S.kd)) 53 (0, 0)) := s0.1.comp .hd
  have c0 : w0.cell? ⟨b, 0, none⟩ = some (.slice (some ⟨g, 0, none⟩) n cap) := by rw [cell_blk hb0, ← hn', ← hl]; rfl
  have p0 : w0.cell? ⟨w.heap.size, 0, none⟩ = some (.int .i64 wh) := by rw [cell_blk hq0]; rfl
  have p1 : w0.cell? ⟨w.heap.size, 1, none⟩ = some (.slice none 0 0) := by rw [cell_blk hq0]; rfl
  have p2 : w0.cell? ⟨w.heap.size, 2, none⟩ = some (.slice none 0 0) := by rw [cell_blk hq0]; rfl
  have p3 : w0.cell? ⟨w.heap.size, 3, none⟩ = some (.string nm) := by rw [cell_blk hq0]; rfl
  have p4 : w0.cell? ⟨w.heap.size, 4, none⟩ = some (.string op) := by rw [cell_blk hq0]; rfl
  have hbl := lt_blk hb0
  have hbg : Hid (some b ≠ (Value.slice (some ⟨g, 0, none⟩) n cap).ownBlock) := Lib.hid (fun e => by
    have e1 : (S.dat b .lv).blk = some b := by show S.lvv.ownBlock = _; rw [hl, e]; rfl
    have := h.inj .lv .hd b e1 rfl
    simp at this)
  have hBz : B ≤ w0.heap.size := s0.hB hBw
  have hcl : (w0.alloc (.cells #[.int .i64 wh, .slice none 0 0, .slice none 0 0, .string nm, .string op] 55)).drew.cell? ⟨b, 0, none⟩ = some (.slice (some ⟨g, 0, none⟩) n cap) := by show (w0.alloc _).cell? _ = _; rw [World.cell?_alloc_past _ _ _ hbl]; exact c0
  have hfz : (w0.alloc (.cells #[.int .i64 wh, .slice none 0 0, .slice none 0 0, .string nm, .string op] 55)).drew.frozen? ⟨b, 0, none⟩ = false := frz_blk (alloc_old hb0 _) 0
  have hbz : b < (w0.alloc (.cells #[.int .i64 wh, .slice none 0 0, .slice none 0 0, .string nm, .string op] 55)).drew.heap.size := by simp; omega
  have OWN := Lib.hid o0
  have S0 := Lib.hid s0
  have HL := Lib.hid hl
  have HCL := Lib.hid hcl
  have HFZ := Lib.hid hfz
  have HBZ := Lib.hid hbz
  have HBB := Lib.hid hBz
  have HBW := Lib.hid hBw
  have hcl0 : (w0.alloc (.cells #[.int .i64 wh, .slice none 0 0, .slice none 0 0, .string nm, .string op] 55)).cell? ⟨b, 0, none⟩ = some (.slice (some ⟨g, 0, none⟩) n cap) := hcl
  have hnn : n ≤ 100001 := by omega
  clear h hl hB hg hm hcs htk hb s0 o0 hb0 hcl hfz hbz hBz hBw hq0
  subst hw0
  go_enter Try.func64, Try.ntmps64
  go_wp2
  go_cut [] (fun wc => MidP B w b C S wh nm op wc)
  case first =>
    go_region_law? ((refine step_append_lies _ (by rfl) _ _ _ (by rfl) B 55 ti lzero 5 88 Try.underlying50 hi hz0 hz1 hz2 rfl (by decide) _ n (S.all.flatMap LvM.cells) (by rfl) ((OWN.out.alloc _).drew) ⟨w.heap.size + 1, 0, none⟩ 1 1 [.int .i64 wh, .slice none 0 0, .slice none 0 0, .string nm, .string op] (by rfl) (by rfl) (World.news_of_block (cs := #[.int .i64 wh, .slice none 0 0, .slice none 0 0, .string nm, .string op]) (t := 55) (fr := (0, 0)) (by have := heap_alloc_new (w.alloc (.cells #[.int .i64 wh, .slice none 0 0, .slice none 0 0, .string nm, .string op] 55)) (.cells #[.int .i64 wh, .slice none 0 0, .slice none 0 0, .string nm, .string op] 55); rw [World.size_alloc] at this; exact this)) (by simp [Value.oneCell']) (by omega) (by unfold maxLen; omega) (by omega) (by have := HBW.out; simp; omega) (w.heap.size + 2) (by simp) ?_; intro gg cap2 w3 own2 gr2 ls2 lt2; have kq := (gr2.cell_far _ HBZ.out hbg.out).trans HCL.out; have q1 := (gr2.frozen_far ⟨b, 0, none⟩ HBZ.out hbg.out).trans HFZ.out; have O2 := Lib.hid own2; have G2 := Lib.hid gr2; clear own2 gr2))
    all_goals
      go_wp2
      go_meet
      have G2' := G2.out
      rw [← hn', ← HL.out] at G2'
      have L2 : S.lvv.ownBlock = some gg ∨ gg = (w.alloc (.cells #[.int .i64 wh, .slice none 0 0, .slice none 0 0, .string nm, .string op] 55)).heap.size + 1 := by
        rw [HL.out, hn', World.size_alloc]
        exact ls2
      exact ⟨_, S0.out.trans (push_step (wh := wh) (nm := nm) (op := op) S0.out.1 hn' O2.out G2' L2 lt2)⟩
  case rest =>
    obtain ⟨v, hS⟩ := hcut
    have HS := Lib.hid hS
    clear hS
    go_wp2_with fail
    refine (goes_any HS.out.1 0 (by omega)).mono ?_
    rintro e w' ⟨rfl, hs⟩
    go_wp2
    go_ret
    exact ⟨v, rfl, HS.out.trans hs⟩
end Go.Proofs.Ytbmapjgajecgfaa
set_option linter.unusedVariables false
set_option linter.unusedSimpArgs false
namespace Go.Proofs.Ytbmapjgajecgfaa
open Go.RowKit
/-- What is written to a block that is new and nobody's. -/
theorem Stp.out {τ : Type} {B : Nat} {T : Nat → Prop} {w w1 w2 : World} {C C1 : Nat → Prop} {D D1 : τ → Dat} (h : Stp B w C D w1 C1 D1) (hK : Kept T w1 w2) (hT : ∀ k, T k → w.heap.size ≤ k ∧ ¬ Foot C1 D1 k) : Stp B w C D w2 C1 D1 :=
  ⟨h.1.frame hK (fun k hf ht => (hT k ht).2 hf), h.2.1.trans hK (fun i hi ht => by have := (hT i ht).1; omega), h.2.2.1, h.2.2.2.1, h.2.2.2.2⟩
theorem own_shrink {w : World} {base : Nat} {e : TypeId} {size g n cap : Nat} {xs ys : List Value} (h : w.ownsRow base e size (.slice (some ⟨g, 0, none⟩) (n + 1) cap) (n + 1) (xs ++ ys)) (hx : xs.length = n * size) :
    w.ownsRow base e size (.slice (some ⟨g, 0, none⟩) n cap) n xs := by
  refine ⟨hx, .inr ?_⟩
  rcases h.2 with ⟨h1, _⟩ | ⟨g', cap', cur, h1, h2, h3, h4, h5, h6, h7⟩
  · simp at h1
  · obtain ⟨rfl, rfl⟩ : g = g' ∧ cap = cap' := by simpa using h1
    refine ⟨g, cap, cur, rfl, h2, h3, by omega, h5, h6, ?_⟩
    have e : n * size ≤ (n + 1) * size := Nat.mul_le_mul_right _ (by omega)
    have := congrArg (List.take (n * size)) h7
    rw [List.take_take, Nat.min_eq_left e] at this
    rw [this, ← hx]
    simp
theorem pop_dat {S : Sn} {b : Nat} {lo' : List LvM} {t' : LvM} {v : Value} {D : Tag → Dat} (hlo : S.lo = lo' ++ [t']) (h1 : D .hd = .head b 53 (({S with lo := lo', tp := t', lvv := v} : Sn).head b (nextv b S.kd))) (h2 : D .lv = .row 55 5 v S.lo.length (S.lo.flatMap LvM.cells))
    (h3 : D (.ps S.lo.length) = .nothing) (h4 : D (.li S.lo.length) = .nothing) (h5 : ∀ t, t ≠ .hd → t ≠ .lv → t ≠ .ps S.lo.length → t ≠ .li S.lo.length → D t = S.dat b t) :
    D = ({S with lo := lo', tp := t', lvv := v} : Sn).dat b := by
  have hall : ({S with lo := lo', tp := t', lvv := v} : Sn).all = S.lo := by simp [Sn.all, hlo]
  have hno : S.lo[S.lo.length]? = none := List.getElem?_eq_none (Nat.le_refl _)
  funext t
  cases t with
  | hd => rw [h1]; rfl
  | lv =>
    rw [h2]
    show _ = Dat.row 55 5 v (lo'.length + 1) (List.flatMap LvM.cells (Sn.all _))
    rw [hall, hlo]
    simp
  | tk => rw [h5 _ (by simp) (by simp) (by simp) (by simp)]; rfl
  | pl => rw [h5 _ (by simp) (by simp) (by simp) (by simp)]; rfl
  | bu => rw [h5 _ (by simp) (by simp) (by simp) (by simp)]; rfl
  | ps i =>
    show _ = match (Sn.all _)[i]? with | some l => Dat.prow 49 l.pv l.ps | none => .nothing
    rw [hall]
    by_cases e : i = S.lo.length
    · subst e
      rw [h3, hno]
    · rw [h5 _ (by simp) (by simp) (by simpa using e) (by simp)]
      show (match S.all[i]? with | some l => Dat.prow 49 l.pv l.ps | none => .nothing) = _
      rw [all_at S i e]
  | li i =>
    show _ = match (Sn.all _)[i]? with | some l => Dat.row 5 1 l.tv l.li.length (bv l.li) | none => .nothing
    rw [hall]
    by_cases e : i = S.lo.length
    · subst e
      rw [h4, hno]
    · rw [h5 _ (by simp) (by simp) (by simp) (by simpa using e)]
      show (match S.all[i]? with | some l => Dat.row 5 1 l.tv l.li.length (bv l.li) | none => .nothing) = _
      rw [all_at S i e]
/-- The last level goes; its parts are left alone from now on. -/
theorem pop_step {B : Nat} {w : World} {b : Nat} {C : Nat → Prop} {S : Sn} {g cap : Nat} {lo' : List LvM} {t' : LvM} (h : Fam B w C (S.dat b)) (hl : S.lvv = .slice (some ⟨g, 0, none⟩) (S.lo.length + 1) cap) (hlo : S.lo = lo' ++ [t']) :
    Stp B w C (S.dat b) (w.setCell ⟨b, 0, none⟩ (.slice (some ⟨g, 0, none⟩) S.lo.length cap)) (fun k => C k ∨ (S.dat b (.ps S.lo.length)).blk = some k) (({S with lo := lo', tp := t', lvv := .slice (some ⟨g, 0, none⟩) S.lo.length cap} : Sn).dat b) := by
  have hBw : B ≤ w.heap.size := by have := h.bnd b (.inr ⟨.hd, rfl⟩); omega
  have s1 := Stp.cool h (.ps S.lo.length)
  have s2 := Stp.one s1.1 (.li S.lo.length) .nothing (Kept.refl _ _) trivial (fun k hk => by cases hk) hBw
  have hlv : (upd (upd (S.dat b) (.ps S.lo.length) .nothing) (.li S.lo.length) .nothing) .lv = .row 55 5 (.slice (some ⟨g, 0, none⟩) (S.lo.length + 1) cap) (S.lo.length + 1) (S.all.flatMap LvM.cells) := by
    rw [upd_ne (by simp), upd_ne (by simp)]
    show Dat.row 55 5 S.lvv (S.lo.length + 1) _ = _
    rw [hl]
  have hown := s2.1.comp .lv
  rw [hlv, all_flat] at hown
  have s3 := Stp.one s2.1 .lv (.row 55 5 (.slice (some ⟨g, 0, none⟩) S.lo.length cap) S.lo.length (S.lo.flatMap LvM.cells)) (Kept.refl _ _) (own_shrink hown (flat_len _)) (fun k hk => by
    obtain rfl : g = k := by simpa [Dat.blk, Value.ownBlock] using hk
    have e : ((upd (upd (S.dat b) (.ps S.lo.length) .nothing) (.li S.lo.length) .nothing) .lv).blk = some g := by rw [hlv]; rfl
    exact ⟨.inl e, (s2.1.bnd g (.inr ⟨.lv, e⟩)).2⟩) hBw
  have s4 := Stp.setHead s3.1 (t := .hd) (b := b) (ty := 53) (cs := S.head b (nextv b S.kd)) (by rw [upd_ne (by simp), upd_ne (by simp), upd_ne (by simp)]; rfl) 0 (.slice (some ⟨g, 0, none⟩) S.lo.length cap)
  refine Eq.mp (congrArg (fun D => Stp B w C (S.dat b) _ _ D) (pop_dat hlo ?_ ?_ ?_ ?_ ?_)) (((s1.trans s2).trans s3).trans s4)
  · rw [upd_at]; rfl
  · rw [upd_ne (by simp), upd_at]
  · rw [upd_ne (by simp), upd_ne (by simp), upd_ne (by simp), upd_at]
  · rw [upd_ne (by simp), upd_ne (by simp), upd_at]
  · intro t h1 h2 h3 h4; rw [upd_ne h1, upd_ne h2, upd_ne h4, upd_ne h3]
/-- What the last level's parts read as when it has gone. -/
theorem pop_cold {B : Nat} {w : World} {b : Nat} {C : Nat → Prop} {S : Sn} (h : Fam B w C (S.dat b)) : Cold w (fun k => C k ∨ (S.dat b (.ps S.lo.length)).blk = some k) S.tp.pv S.tp.ps := by
  have hc := h.comp (.ps S.lo.length)
  rw [dat_ps] at hc ⊢
  obtain ⟨vs, ho, hr⟩ := hc
  have hlen := hr.len
  rcases ho.2 with ⟨e1, e2⟩ | ⟨g, cap, cur, e1, _⟩
  · exact .inl ⟨none, 0, e1, List.eq_nil_of_length_eq_zero e2⟩
  · refine .inr ⟨g, 0, cap, vs, e1, .inr (by show S.tp.pv.ownBlock = _; rw [e1]; rfl), fun j hj => ?_, hr.mono (fun k hk => .inl hk)⟩
    rw [e1] at ho
    rw [Nat.zero_add, own_cell ho (by omega)]

theorem pop_all {B : Nat} {w : World} {b : Nat} {C : Nat → Prop} {S : Sn} {g cap n : Nat} {lo' : List LvM} {t' : LvM} (h : Fam B w C (S.dat b)) (hl : S.lvv = .slice (some ⟨g, 0, none⟩) (S.lo.length + 1) cap) (hlo : S.lo = lo' ++ [t']) (hn : S.lo.length = n) (o : Obj) :
    ∃ C' : Nat → Prop, Stp B w C (S.dat b) (((w.alloc o).setCell ⟨b, 0, none⟩ (.slice (some ⟨g, 0, none⟩) n cap)).drew) C' (({S with lo := lo', tp := t', lvv := .slice (some ⟨g, 0, none⟩) n cap} : Sn).dat b) ∧ Cold (((w.alloc o).setCell ⟨b, 0, none⟩ (.slice (some ⟨g, 0, none⟩) n cap)).drew) C' S.tp.pv S.tp.ps := by
  subst hn
  have s1 := Stp.nob h (Kept.alloc w o nob)
  have s2 := pop_step s1.1 hl hlo
  have s3 := (s1.trans s2).trans (Stp.nob s2.1 (Kept.drew _ nob))
  refine ⟨_, s3, ?_⟩
  refine (pop_cold s1.1).kept (S := ib b) ((Kept.setCell (w.alloc o) ⟨b, 0, none⟩ _).trans (Kept.drew _ nob) (fun _ _ h => h.elim)) (fun k hk => ?_)
  have hb : (S.dat b .hd).blk = some b := rfl
  rcases hk with hk | hk
  · exact ⟨fun e => h.cold k .hd hk (by rw [hb, show k = b from e]), (s1.1.bnd k (.inl hk)).2⟩
  · refine ⟨fun e => ?_, (s1.1.bnd k (.inr ⟨_, hk⟩)).2⟩
    have := h.inj _ _ _ hk (by rw [hb, show k = b from e])
    simp at this
end Go.Proofs.Ytbmapjgajecgfaa
set_option linter.unusedVariables false
set_option linter.unusedSimpArgs false
namespace Go.Proofs.Ytbmapjgajecgfaa
open Go.RowKit
/-- The part that a level makes when it is closed. -/
def LvM.part (l : LvM) : Prt := if l.wh = 2 then .mk 5 l.nm l.op l.ps 0 else .mk 4 ⟨#[]⟩ ⟨#[]⟩ l.ps 0
/-- A part of the machine's, in a block of its own. -/
def MidQ (B : Nat) (w0 : World) (b : Nat) (C : Nat → Prop) (S T : Sn) (a : Value) (p : Array Value) (wc : World) : Prop :=
  ∃ q, a = .pointer (some ⟨q, 0, none⟩) ∧ Stp B w0 C (S.dat b) wc C (T.dat b) ∧ wc.heap[q]? = some (.cells p 49 (0, 0)) ∧ w0.heap.size ≤ q ∧ ¬ Foot C (T.dat b) q
def Popped (B : Nat) (w0 : World) (b : Nat) (C : Nat → Prop) (S : Sn) (lo' : List LvM) (t' : LvM) (e : Ending) (w' : World) : Prop :=
  ∃ (C' : Nat → Prop) (v0 v1 v2 v3 : Value), e = .returned (.int .i64 0) ∧ Stp B w0 C (S.dat b) w' C' (({S with lo := lo', tp := {t'.flushed v1 with ps := (t'.flushed v1).ps ++ [(S.tp.flushed v0).part], pv := v2}, lvv := v3, kd := 0} : Sn).dat b)
set_option maxHeartbeats 2000000 in
set_option maxRecDepth 100000 in
theorem pop_any {B : Nat} {w : World} {b : Nat} {C : Nat → Prop} {S : Sn} (h : Fam B w C (S.dat b)) (hl1 : S.tp.li.length ≤ 100000) (hl2 : S.tp.ps.length ≤ 100000) {lo' : List LvM} {t' : LvM} (hlo : S.lo = lo' ++ [t']) (hl3 : t'.li.length ≤ 100000) (hl4 : t'.ps.length ≤ 100000) :
    Calls Try.prog 62 #[.pointer (some ⟨b, 0, none⟩)] w (Popped B w b C S lo' t') := by
  have H := Lib.hid h
  clear h
  go_enter Try.func62, Try.ntmps62
  go_wp2_with fail
  refine (top_any H.out).mono ?_
  rintro e w1 ⟨rfl, q, rfl⟩
  have s1 := Lib.hid (Stp.nob H.out (Kept.drewN w q nob))
  go_wp2_with fail
  refine (flush_any s1.out.1 hl1 hl2).mono ?_
  rintro e w2 ⟨v1, rfl, s2⟩
  have S2 := Lib.hid (s1.out.trans s2)
  obtain ⟨T, hT⟩ : ∃ T, T = ({S with tp := S.tp.flushed v1} : Sn) := ⟨_, rfl⟩
  have htop : topA T = topA S := by rw [hT]; rfl
  rw [← hT] at S2
  have HT := Lib.hid hT
  obtain ⟨g, cap, pa, pc, l, n, vs, G⟩ := growf S2.out.1
  rw [← htop, G.top]
  have c1 := G.c1
  have GG := Lib.hid G
  have hlv : w2.ownsRow B 55 5 (.slice (some ⟨g, 0, none⟩) (n + 1) cap) (n + 1) (T.all.flatMap LvM.cells) := by
    have := S2.out.1.comp .lv
    have h2 : w2.ownsRow B 55 5 T.lvv (T.lo.length + 1) (T.all.flatMap LvM.cells) := this
    rw [G.lvv, G.hn] at h2
    exact h2
  have hgz := World.block_lt_of_cell? w2 _ G.c1
  have cg : ∀ (j : Nat) (v : Value), j < 5 → T.tp.cells[j]? = some v → ∀ o, (w2.alloc o).cell? ⟨g, n * 5 + j, none⟩ = some v := fun j v hj hv o => by
    rw [World.cell?_alloc_past _ _ _ hgz, own_cell hlv (by omega), ← G.hn, flat_at, hv]
  have g0 := cg 0 _ (by omega) rfl
  have g1 := cg 1 _ (by omega) rfl
  have g3 := cg 3 _ (by omega) rfl
  have g4 := cg 4 _ (by omega) rfl
  rw [G.pv] at g1
  have hbh : w2.heap[b]? = some (.cells (T.head b (nextv b T.kd)) 53 (0, 0)) := S2.out.1.comp .hd
  have h0 : ∀ o, (w2.alloc o).cell? ⟨b, 0, none⟩ = some (.slice (some ⟨g, 0, none⟩) (n + 1) cap) := fun o => by
    rw [World.cell?_alloc_past _ _ _ (lt_blk hbh), cell_blk hbh, ← G.hn, ← G.lvv]; rfl
  have hf0 : ∀ o, (w2.alloc o).frozen? ⟨b, 0, none⟩ = false := fun o => frz_blk (alloc_old hbh _) 0
  have HLVO := Lib.hid hlv
  have hbq : Hid (b ≠ w2.heap.size) := Lib.hid (by have := lt_blk hbh; omega)
  simp only [Nat.add_zero] at g0
  obtain ⟨wh, hwh⟩ : ∃ x, T.tp.wh = x := ⟨_, rfl⟩
  obtain ⟨nm, hnm⟩ : ∃ x, T.tp.nm = x := ⟨_, rfl⟩
  obtain ⟨op, hop⟩ : ∃ x, T.tp.op = x := ⟨_, rfl⟩
  rw [hwh] at g0
  rw [hnm] at g3
  rw [hop] at g4
  have HWH := Lib.hid hwh
  have HNM := Lib.hid hnm
  have HOP := Lib.hid hop
  have HNC : Hid (n + 1 ≤ cap ∧ cap ≤ 9223372036854775807) := Lib.hid (by
    rcases hlv.2 with ⟨e1, _⟩ | ⟨g', cap', cur, e1, _, _, e2, e3, _⟩
    · simp at e1
    · obtain ⟨_, rfl⟩ : g = g' ∧ cap = cap' := by simpa using e1
      unfold maxLen at e3
      omega)
  clear s2 hT htop G hlv cg hbh hgz hwh hnm hop
  by_cases h2 : wh = 2
  · have hb2 : (wh == 2) = true := by simpa using h2
    have H22 := Lib.hid h2
    clear h2
    have hp : ∀ v, ((w2.alloc (.cells #[.int .i64 5, .string nm, .string op, .slice pa l pc, .slice none 0 0] 49)).setCell ⟨b, 0, none⟩ v).heap[w2.heap.size]? = some (.cells #[.int .i64 5, .string nm, .string op, .slice pa l pc, .slice none 0 0] 49 (0, 0)) := fun v => (Below.heap_setCell _ ⟨b, 0, none⟩ v w2.heap.size (fun e => hbq.out e.symm)).trans (alloc_blk w2 _)
    have y0 := fun v => (pcell (hp v)).1
    have y1 := fun v => (pcell (hp v)).2.1
    have y2 := fun v => (pcell (hp v)).2.2.1
    have y3 := fun v => (pcell (hp v)).2.2.2.1
    have y4 := fun v => (pcell (hp v)).2.2.2.2
    have hnc : n + 1 ≤ cap ∧ cap ≤ 9223372036854775807 := HNC.out
    clear hp
    go_wp2
    go_region
    go_wp2
    go_region
    go_wp2_with fail
    obtain ⟨C', hs3, hcold⟩ := pop_all (lo' := lo') (t' := t') S2.out.1 GG.out.lvv (by rw [HT.out]; exact hlo) GG.out.hn (.cells #[.int .i64 5, .string nm, .string op, .slice pa l pc, .slice none 0 0] 49)
    rw [GG.out.pv] at hcold
    have HS3 := Lib.hid (hs3.trans (Stp.nob hs3.1 (Kept.drew _ nob)))
    have HCO := Lib.hid (hcold.kept (S := nob) (Kept.drew _ nob) (fun k hk => ⟨fun e => e, (hs3.1.bnd k (.inl hk)).2⟩))
    clear hs3 hcold
    refine (add_any (S := {T with lo := lo', tp := t', lvv := .slice (some ⟨g, 0, none⟩) n cap}) HS3.out.1 hl3 hl4 5 nm op pa l pc T.tp.ps none 0 0 HCO.out).mono ?_
    rintro e w7 ⟨v1', v2', rfl, hs4⟩
    have HS4 := Lib.hid hs4
    clear hs4
    go_wp2_with fail
    refine (goes_any HS4.out.1 0 (by omega)).mono ?_
    rintro e w8 ⟨rfl, hs5⟩
    have HS5 := Lib.hid hs5
    clear hs5
    go_wp2
    go_ret
    refine ⟨C', v1, v1', v2', .slice (some ⟨g, 0, none⟩) n cap, rfl, ?_⟩
    have s := ((S2.out.trans HS3.out).trans HS4.out).trans HS5.out
    have hpt : (S.tp.flushed v1).part = .mk 5 nm op (S.tp.flushed v1).ps 0 := by
      unfold LvM.part
      have u1 := HWH.out
      have u2 := HNM.out
      have u3 := HOP.out
      rw [HT.out] at u1 u2 u3
      rw [show (S.tp.flushed v1).nm = nm from u2, show (S.tp.flushed v1).op = op from u3, if_pos]
      rw [show (S.tp.flushed v1).wh = wh from u1]
      exact H22.out
    rw [hpt]
    have e1 : T.tp.ps = (S.tp.flushed v1).ps := by rw [HT.out]
    rw [e1, HT.out] at s
    exact s
  have hb2 : (wh == 2) = false := by simpa using h2
  have hz := alloc_blk w2 (.cells zcells 49)
  obtain ⟨z0, z1, z2, z3, z4⟩ := pcell (v0 := .int .i64 0) (v1 := .string ⟨#[]⟩) (v2 := .string ⟨#[]⟩) (v3 := .slice none 0 0) (v4 := .slice none 0 0) hz
  have hp : ∀ v, ((w2.alloc (.cells #[.int .i64 4, .string ⟨#[]⟩, .string ⟨#[]⟩, .slice pa l pc, .slice none 0 0] 49)).setCell ⟨b, 0, none⟩ v).heap[w2.heap.size]? = some (.cells #[.int .i64 4, .string ⟨#[]⟩, .string ⟨#[]⟩, .slice pa l pc, .slice none 0 0] 49 (0, 0)) := fun v => (Below.heap_setCell _ ⟨b, 0, none⟩ v w2.heap.size (fun e => hbq.out e.symm)).trans (alloc_blk w2 _)
  have y0 := fun v => (pcell (hp v)).1
  have y1 := fun v => (pcell (hp v)).2.1
  have y2 := fun v => (pcell (hp v)).2.2.1
  have y3 := fun v => (pcell (hp v)).2.2.2.1
  have y4 := fun v => (pcell (hp v)).2.2.2.2
  have hnc : n + 1 ≤ cap ∧ cap ≤ 9223372036854775807 := HNC.out
  clear hp
  go_wp2
  go_region
  go_wp2_with fail
  obtain ⟨C', hs3, hcold⟩ := pop_all (lo' := lo') (t' := t') S2.out.1 GG.out.lvv (by rw [HT.out]; exact hlo) GG.out.hn (.cells #[.int .i64 4, .string ⟨#[]⟩, .string ⟨#[]⟩, .slice pa l pc, .slice none 0 0] 49)
  rw [GG.out.pv] at hcold
  have HS3 := Lib.hid hs3
  have HCO := Lib.hid hcold
  clear hs3 hcold
  refine (add_any (S := {T with lo := lo', tp := t', lvv := .slice (some ⟨g, 0, none⟩) n cap}) HS3.out.1 hl3 hl4 4 ⟨#[]⟩ ⟨#[]⟩ pa l pc T.tp.ps none 0 0 HCO.out).mono ?_
  rintro e w7 ⟨v1', v2', rfl, hs4⟩
  have HS4 := Lib.hid hs4
  clear hs4
  go_wp2_with fail
  refine (goes_any HS4.out.1 0 (by omega)).mono ?_
  rintro e w8 ⟨rfl, hs5⟩
  have HS5 := Lib.hid hs5
  clear hs5
  go_wp2
  go_ret
  refine ⟨C', v1, v1', v2', .slice (some ⟨g, 0, none⟩) n cap, rfl, ?_⟩
  have s := ((S2.out.trans HS3.out).trans HS4.out).trans HS5.out
  have hpt : (S.tp.flushed v1).part = .mk 4 ⟨#[]⟩ ⟨#[]⟩ (S.tp.flushed v1).ps 0 := by
    unfold LvM.part
    rw [if_neg]
    have := HWH.out
    rw [HT.out] at this
    rw [show (S.tp.flushed v1).wh = wh from this]
    exact h2
  rw [hpt]
  have e1 : T.tp.ps = (S.tp.flushed v1).ps := by rw [HT.out]
  rw [e1, HT.out] at s
  exact s
end Go.Proofs.Ytbmapjgajecgfaa
set_option linter.unusedVariables false
set_option linter.unusedSimpArgs false
namespace Go.Proofs.Ytbmapjgajecgfaa
open Go.RowKit
def ltr (c : Int) : Int := if 48 ≤ c ∧ c ≤ 57 then 3 else if c = 95 ∨ (97 ≤ bits .or .u8 c 32 ∧ bits .or .u8 c 32 ≤ 122) then 4 else 8
def cls (c : Int) : Int := if c = 0 then 0 else if c = 32 then 1 else if c = 9 then 1 else if c = 10 then 2 else if c = 38 then 5 else if c = 124 then 5 else if c = 59 then 5 else if c = 60 then 5 else if c = 62 then 5 else if c = 40 then 5 else if c = 41 then 5 else if c = 39 then 6 else if c = 34 then 6 else if c = 92 then 6 else if c = 96 then 6 else if c = 36 then 7 else ltr c
theorem letter_any (c : Int) (w : World) (h : 0 ≤ c ∧ c ≤ 255) : Calls Try.prog 85 #[.int .u8 c] w fun e w' => e = .returned (.int .i64 (ltr c)) ∧ w = w' := by
  obtain ⟨x, hx⟩ : ∃ x, bits .or .u8 c 32 = x := ⟨_, rfl⟩
  have key : (48 ≤ c ∧ c ≤ 57 ∧ ltr c = 3) ∨ (¬ (48 ≤ c ∧ c ≤ 57) ∧ ((c = 95 ∧ ltr c = 4) ∨ (c ≠ 95 ∧ 97 ≤ x ∧ x ≤ 122 ∧ ltr c = 4) ∨ (c ≠ 95 ∧ x < 97 ∧ ltr c = 8) ∨ (c ≠ 95 ∧ 97 ≤ x ∧ 122 < x ∧ ltr c = 8))) := by
    unfold ltr
    rw [hx]
    by_cases h1 : 48 ≤ c ∧ c ≤ 57
    · left; rw [if_pos h1]; exact ⟨h1.1, h1.2, rfl⟩
    · right
      refine ⟨h1, ?_⟩
      rw [if_neg h1]
      by_cases h2 : c = 95
      · left; rw [if_pos (.inl h2)]; exact ⟨h2, rfl⟩
      · right
        by_cases h3 : 97 ≤ x
        · by_cases h4 : x ≤ 122
          · left; rw [if_pos (.inr ⟨h3, h4⟩)]; exact ⟨h2, h3, h4, rfl⟩
          · right; right; rw [if_neg (by omega)]; exact ⟨h2, h3, by omega, rfl⟩
        · right; left; rw [if_neg (by omega)]; exact ⟨h2, by omega, rfl⟩
  rcases key with ⟨h1, h2, e⟩ | ⟨h0, ⟨h1, e⟩ | ⟨h1, h2, h3, e⟩ | ⟨h1, h2, e⟩ | ⟨h1, h2, h3, e⟩⟩
  · rw [e]
    clear e hx
    go_enter Try.func85, Try.ntmps85
    go_wp2
    go_ret
    exact ⟨rfl, rfl⟩
  · rw [e]
    subst h1
    clear e hx h0
    go_enter Try.func85, Try.ntmps85
    go_wp2
    go_ret
    exact ⟨rfl, rfl⟩
  all_goals
    rw [e]
    have b1 : (c == 95) = false := by simpa using h1
    rcases (by omega : c < 48 ∨ (48 ≤ c ∧ 57 < c)) with g1 | ⟨g1, g2⟩
    all_goals
      clear e h0 h1
      go_enter Try.func85, Try.ntmps85
      go_wp2
      go_ret
      exact ⟨rfl, rfl⟩
theorem class_any (c : Int) (w : World) (h : 0 ≤ c ∧ c ≤ 255) : Calls Try.prog 60 #[.int .u8 c] w fun e w' => e = .returned (.int .i64 (cls c)) ∧ w = w' := by
  by_cases hs : c ∈ [0, 32, 9, 10, 38, 124, 59, 60, 62, 40, 41, 39, 34, 92, 96, 36]
  · simp only [List.mem_cons, List.not_mem_nil, or_false] at hs
    rcases hs with rfl | rfl | rfl | rfl | rfl | rfl | rfl | rfl | rfl | rfl | rfl | rfl | rfl | rfl | rfl | rfl
    all_goals
      go_enter Try.func60, Try.ntmps60
      go_wp2
      go_ret
      exact ⟨rfl, rfl⟩
  · simp only [List.mem_cons, List.not_mem_nil, or_false, not_or] at hs
    obtain ⟨n0, n1, n2, n3, n4, n5, n6, n7, n8, n9, n10, n11, n12, n13, n14, n15⟩ := hs
    have e : cls c = ltr c := by unfold cls; simp only [if_neg n0, if_neg n1, if_neg n2, if_neg n3, if_neg n4, if_neg n5, if_neg n6, if_neg n7, if_neg n8, if_neg n9, if_neg n10, if_neg n11, if_neg n12, if_neg n13, if_neg n14, if_neg n15]
    rw [e]
    have m0 : (c == 0) = false := by simpa using n0
    have m1 : (c == 32) = false := by simpa using n1
    have m2 : (c == 9) = false := by simpa using n2
    have m3 : (c == 10) = false := by simpa using n3
    have m4 : (c == 38) = false := by simpa using n4
    have m5 : (c == 124) = false := by simpa using n5
    have m6 : (c == 59) = false := by simpa using n6
    have m7 : (c == 60) = false := by simpa using n7
    have m8 : (c == 62) = false := by simpa using n8
    have m9 : (c == 40) = false := by simpa using n9
    have m10 : (c == 41) = false := by simpa using n10
    have m11 : (c == 39) = false := by simpa using n11
    have m12 : (c == 34) = false := by simpa using n12
    have m13 : (c == 92) = false := by simpa using n13
    have m14 : (c == 96) = false := by simpa using n14
    have m15 : (c == 36) = false := by simpa using n15
    clear e n0 n1 n2 n3 n4 n5 n6 n7 n8 n9 n10 n11 n12 n13 n14 n15
    go_enter Try.func60, Try.ntmps60
    go_wp2_with fail
    refine (letter_any c _ h).mono ?_
    rintro e w' ⟨rfl, rfl⟩
    go_wp2
    go_ret
    exact ⟨rfl, rfl⟩
end Go.Proofs.Ytbmapjgajecgfaa
set_option linter.unusedVariables false
set_option linter.unusedSimpArgs false
namespace Go.Proofs.Ytbmapjgajecgfaa
open Go.RowKit
theorem run_ixb (s : ByteArray) (c : Int) (w : World) : (callFunc 86 #[.string s, .int .u8 c]).run Try.prog w = .ok (.value (.int .i64 (Lib.indexByte s.data.toList c.toNat.toUInt8))) w := by
  rw [run_callFunc_indexByte Try.func86 (by kernel_rfl) (by kernel_rfl) (by kernel_rfl) (by kernel_rfl), Lib.run_indexByteString]
  rfl
theorem ixb71_any (s : ByteArray) (c : Int) (w : World) : Calls Try.prog 71 #[.string s, .int .u8 c] w fun e w' => e = .returned (.int .i64 (Lib.indexByte s.data.toList c.toNat.toUInt8)) ∧ w = w' := by
  have hr := run_ixb s c
  go_enter Try.func71, Try.ntmps71
  go_wp2
  go_ret
  exact ⟨rfl, rfl⟩
/-- Where a byte stands first in a text. -/
def ixb (s : ByteArray) (c : Int) : Int := Lib.indexByte s.data.toList c.toNat.toUInt8
theorem ixb_any (s : ByteArray) (c : Int) (w : World) : Calls Try.prog 50 #[.string s, .int .u8 c] w fun e w' => e = .returned (.int .i64 (ixb s c)) ∧ w = w' := by
  go_enter Try.func50, Try.ntmps50
  go_wp2_with fail
  refine (ixb71_any s c w).mono ?_
  rintro e w' ⟨rfl, rfl⟩
  go_wp2
  go_ret
  exact ⟨rfl, rfl⟩
def spc (c : Int) : Bool := decide (0 ≤ ixb ⟨#[64, 42, 35, 63, 45, 36, 33]⟩ c)
def one1 (c : Int) : Bool := decide (0 ≤ ixb ⟨#[45, 61, 63, 43]⟩ c)
theorem special_any (c : Int) (w : World) : Calls Try.prog 66 #[.int .u8 c] w fun e w' => e = .returned (.bool (spc c)) ∧ w = w' := by
  obtain ⟨x, hx⟩ : ∃ x, ixb ⟨#[64, 42, 35, 63, 45, 36, 33]⟩ c = x := ⟨_, rfl⟩
  have HX := Lib.hid hx
  clear hx
  go_enter Try.func66, Try.ntmps66
  go_wp2_with fail
  refine (ixb_any _ c w).mono ?_
  rintro e w' ⟨rfl, rfl⟩
  rw [HX.out]
  go_wp2
  go_ret
  exact ⟨ret_bool (by unfold spc; rw [HX.out]), rfl⟩
theorem single1_any (c : Int) (w : World) : Calls Try.prog 69 #[.int .u8 c] w fun e w' => e = .returned (.bool (one1 c)) ∧ w = w' := by
  obtain ⟨x, hx⟩ : ∃ x, ixb ⟨#[45, 61, 63, 43]⟩ c = x := ⟨_, rfl⟩
  have HX := Lib.hid hx
  clear hx
  go_enter Try.func69, Try.ntmps69
  go_wp2_with fail
  refine (ixb_any _ c w).mono ?_
  rintro e w' ⟨rfl, rfl⟩
  rw [HX.out]
  go_wp2
  go_ret
  exact ⟨ret_bool (by unfold one1; rw [HX.out]), rfl⟩
end Go.Proofs.Ytbmapjgajecgfaa
set_option linter.unusedVariables false
set_option linter.unusedSimpArgs false
namespace Go.Proofs.Ytbmapjgajecgfaa
open Go.RowKit
/-- A level and a machine, without what lies where in memory. -/
structure Lvl where
  wh : Int
  ps : List Prt
  li : List UInt8
  nm : ByteArray
  op : ByteArray
structure St where
  lo : List Lvl
  tp : Lvl
  kd : Nat
  tk : List UInt8
  pl : List UInt8
  ex : Bool
  qu : Bool
  bu : List UInt8
  dp : Int
  ln : Bool
  cu : Int
def LvM.abs (l : LvM) : Lvl := ⟨l.wh, l.ps, l.li, l.nm, l.op⟩
def Sn.abs (S : Sn) : St := ⟨S.lo.map LvM.abs, S.tp.abs, S.kd, S.tk, S.pl, S.ex, S.qu, S.bu, S.dp, S.ln, S.cu⟩
def Lvl.flush (l : Lvl) : Lvl := if l.li = [] then l else {l with ps := l.ps ++ [.mk 1 ⟨l.li.toArray⟩ ⟨#[]⟩ [] 0], li := []}
def Lvl.part (l : Lvl) : Prt := if l.wh = 2 then .mk 5 l.nm l.op l.ps 0 else .mk 4 ⟨#[]⟩ ⟨#[]⟩ l.ps 0
theorem LvM.flushed_abs (l : LvM) (v : Value) : (l.flushed v).abs = l.abs.flush := by
  unfold LvM.flushed Lvl.flush
  show _ = if l.li = [] then _ else _
  split <;> rfl
def St.turn (s : St) (k : Nat) : St := {s with kd := k}
def St.lit (s : St) (bs : List UInt8) : St := {s with tp := {s.tp with li := s.tp.li ++ bs}, tk := s.tk ++ bs}
def St.add (s : St) (p : Prt) : St := {s with tp := {s.tp.flush with ps := s.tp.flush.ps ++ [p]}}
def St.push (s : St) (wh : Int) (nm op : ByteArray) : St := {s with lo := s.lo ++ [s.tp], tp := ⟨wh, [], [], nm, op⟩, kd := 0}
def St.pop (s : St) : St := {({s with lo := s.lo.dropLast, tp := s.lo.getLastD s.tp} : St).add s.tp.flush.part with kd := 0}
/-- What a call on a machine leaves: its signal, the machine. -/
def Ret (B : Nat) (w0 : World) (b : Nat) (C : Nat → Prop) (S : Sn) (r : Int × St) (e : Ending) (w' : World) : Prop :=
  ∃ (C' : Nat → Prop) (S' : Sn), e = .returned (.int .i64 r.1) ∧ Stp B w0 C (S.dat b) w' C' (S'.dat b) ∧ S'.abs = r.2
theorem Turned.ret {B : Nat} {w0 : World} {b : Nat} {C : Nat → Prop} {S : Sn} {k : Nat} {v : Int} {e : Ending} {w' : World} (h : Turned B w0 b C S k (.int .i64 v) e w') : Ret B w0 b C S (v, S.abs.turn k) e w' :=
  ⟨C, _, h.1, h.2, rfl⟩
theorem Pushed.ret {B : Nat} {w0 : World} {b : Nat} {C : Nat → Prop} {S : Sn} {wh : Int} {nm op : ByteArray} {e : Ending} {w' : World} (h : Pushed B w0 b C S wh nm op e w') : Ret B w0 b C S (0, S.abs.push wh nm op) e w' := by
  obtain ⟨v, h1, h2⟩ := h
  exact ⟨C, _, h1, h2, by simp [Sn.abs, St.push, LvM.abs, LvM.new]⟩
theorem Popped.ret {B : Nat} {w0 : World} {b : Nat} {C : Nat → Prop} {S : Sn} {lo' : List LvM} {t' : LvM} {e : Ending} {w' : World} (hlo : S.lo = lo' ++ [t']) (h : Popped B w0 b C S lo' t' e w') : Ret B w0 b C S (0, S.abs.pop) e w' := by
  obtain ⟨C', v0, v1, v2, v3, h1, h2⟩ := h
  refine ⟨C', _, h1, h2, ?_⟩
  have e1 : (t'.flushed v1).abs = t'.abs.flush := LvM.flushed_abs _ _
  have e2 : (S.tp.flushed v0).abs = S.tp.abs.flush := LvM.flushed_abs _ _
  have e3 : (S.tp.flushed v0).part = S.tp.abs.flush.part := by rw [← e2]; rfl
  have e4 : (t'.flushed v1).ps = t'.abs.flush.ps := by rw [← e1]; rfl
  have a1 : S.abs.lo.dropLast = lo'.map LvM.abs := by simp [Sn.abs, hlo]
  have a2 : S.abs.lo.getLastD S.abs.tp = t'.abs := by simp [Sn.abs, hlo]
  unfold St.pop St.add
  rw [a1, a2]
  show (⟨_, _, _, _, _, _, _, _, _, _, _⟩ : St) = ⟨_, _, _, _, _, _, _, _, _, _, _⟩
  rw [St.mk.injEq]
  refine ⟨rfl, ?_, rfl, rfl, rfl, rfl, rfl, rfl, rfl, rfl, rfl⟩
  rw [← e1]
  show (⟨_, _, _, _, _⟩ : Lvl) = ⟨_, _, _, _, _⟩
  rw [Lvl.mk.injEq]
  refine ⟨rfl, ?_, rfl, rfl, rfl⟩
  rw [e3]
  rfl
end Go.Proofs.Ytbmapjgajecgfaa
set_option linter.unusedVariables false
set_option linter.unusedSimpArgs false
namespace Go.Proofs.Ytbmapjgajecgfaa
open Go.RowKit
theorem hd_at {B : Nat} {w : World} {b : Nat} {C : Nat → Prop} {S : Sn} (h : Fam B w C (S.dat b)) : w.heap[b]? = some (.cells (S.head b (nextv b S.kd)) 53 (0, 0)) := h.comp .hd
/-- Fields of the machine itself are written. -/
theorem fset {B : Nat} {w : World} {b : Nat} {C : Nat → Prop} {S S' : Sn} (h : Fam B w C (S.dat b)) (j : Nat) (v : Value) (hh : (S.head b (nextv b S.kd)).setIfInBounds j v = S'.head b (nextv b S'.kd)) (hs : upd (S.dat b) .hd (.head b 53 (S'.head b (nextv b S'.kd))) = S'.dat b) :
    Stp B w C (S.dat b) (w.setCell ⟨b, j, none⟩ v) C (S'.dat b) :=
  head_step h (Kept.setCell w ⟨b, j, none⟩ v) (by rw [set_blk (hd_at h), hh]) hs
/-- A list of the machine's is emptied. -/
theorem bu_nil {B : Nat} {w : World} {b : Nat} {C : Nat → Prop} {S : Sn} (h : Fam B w C (S.dat b)) : Stp B w C (S.dat b) (w.setCell ⟨b, 7, none⟩ (.slice none 0 0)) C (({S with bu := [], buv := .slice none 0 0} : Sn).dat b) := by
  have hBw : B ≤ w.heap.size := by have := h.bnd b (.inr ⟨.hd, rfl⟩); omega
  have s1 := Stp.one h .bu (.row 5 1 (.slice none 0 0) 0 []) (Kept.refl _ _) (World.ownsRow_nil _ _ _ _) (fun k hk => by cases hk) hBw
  have s2 := Stp.setHead s1.1 (t := .hd) (b := b) (ty := 53) (cs := S.head b (nextv b S.kd)) (by rw [upd_ne (by simp)]; rfl) 7 (.slice none 0 0)
  refine Eq.mp (congrArg (fun D => Stp B w C (S.dat b) _ C D) ?_) (s1.trans s2)
  funext t
  cases t <;> simp [upd] <;> rfl
def stOpened (s : St) (c : UInt8) : Int × St := if c = 40 then (0, {s with bu := [], dp := 0, kd := 13}) else (2, {s with kd := 15})
theorem opened_any {B : Nat} {w : World} {b : Nat} {C : Nat → Prop} {S : Sn} (h : Fam B w C (S.dat b)) (c : UInt8) :
    Calls Try.prog 37 #[.pointer (some ⟨b, 0, none⟩), .int .u8 (c.toNat : Int)] w (Ret B w b C S (stOpened S.abs c)) := by
  by_cases hc : c = 40
  · subst hc
    have hb := hd_at h
    have c7 : w.cell? ⟨b, 7, none⟩ = some S.buv := by rw [cell_blk hb]; rfl
    have f7 := frz_blk hb 7
    have s1 := bu_nil h
    have hb1 := hd_at s1.1
    have c8 : (w.setCell ⟨b, 7, none⟩ (.slice none 0 0)).cell? ⟨b, 8, none⟩ = some (.int .i64 S.dp) := by rw [cell_blk hb1]; rfl
    have f8 := frz_blk hb1 8
    have s2 := s1.trans (fset (S' := {S with bu := [], buv := .slice none 0 0, dp := 0}) s1.1 8 (.int .i64 0) rfl (by funext t; cases t <;> rfl))
    have S2 := Lib.hid s2
    clear s1 s2 hb hb1 h
    go_enter Try.func37, Try.ntmps37
    go_wp2_with fail
    refine (goes_any S2.out.1 13 (by omega)).mono ?_
    rintro e w' ⟨rfl, hs⟩
    go_wp2
    go_ret
    exact ⟨C, _, rfl, S2.out.trans hs, rfl⟩
  · have hcb : ((c.toNat : Int) == 40) = false := by
      simp only [beq_eq_false_iff_ne, ne_eq]
      intro e
      exact hc (UInt8.toNat_inj.1 (by have : c.toNat = 40 := by omega
                                      rw [this]; rfl))
    have H := Lib.hid h
    have HC := Lib.hid hc
    clear h hc
    go_enter Try.func37, Try.ntmps37
    go_wp2_with fail
    refine (turn_any H.out 15 (by omega)).mono ?_
    rintro e w' ⟨rfl, hs⟩
    go_wp2
    go_ret
    exact ⟨C, _, by simp [stOpened, HC.out], hs, by simp [stOpened, HC.out]; rfl⟩
end Go.Proofs.Ytbmapjgajecgfaa
set_option linter.unusedVariables false
set_option linter.unusedSimpArgs false
namespace Go.Proofs.Ytbmapjgajecgfaa
open Go.RowKit
theorem conv_own {w : World} {B : Nat} {v : Value} {L : List UInt8} (h : w.ownsRow B 5 1 v L.length (bv L)) : (Go.convert 51 9 v).run Try.prog w = Result.ok (Value.string ⟨L.toArray⟩) w := by
  rcases h.2 with ⟨e1, e2⟩ | ⟨g, cap, cur, e1, _⟩
  · obtain rfl : L = [] := List.eq_nil_of_length_eq_zero e2
    rw [e1]
    exact Lib.run_convert_nil_bytes w 51 9 5 0 Try.underlying51 Try.underlying5 Try.underlying9
  · rw [e1] at h ⊢
    refine run_convert_bytes_back w 51 9 5 ⟨g, 0, none⟩ cap L Try.underlying51 Try.underlying5 Try.underlying9 (fun j hj => ?_)
    have : (⟨g, 0, none⟩ : Addr).add j = ⟨g, j, none⟩ := by unfold Addr.add; split <;> simp_all
    rw [this, own_cell h (by omega)]
    simp [bv, hj]
theorem added_abs (S : Sn) (p : Prt) (v1 v2 : Value) : ({S with tp := {S.tp.flushed v1 with ps := (S.tp.flushed v1).ps ++ [p], pv := v2}} : Sn).abs = S.abs.add p := by
  have e1 : (S.tp.flushed v1).abs = S.tp.abs.flush := LvM.flushed_abs _ _
  unfold St.add
  show (⟨_, _, _, _, _, _, _, _, _, _, _⟩ : St) = ⟨_, _, _, _, _, _, _, _, _, _, _⟩
  rw [St.mk.injEq]
  refine ⟨rfl, ?_, rfl, rfl, rfl, rfl, rfl, rfl, rfl, rfl, rfl⟩
  show _ = ({S.tp.abs.flush with ps := S.tp.abs.flush.ps ++ [p]} : Lvl)
  rw [← e1]
  rfl
end Go.Proofs.Ytbmapjgajecgfaa
set_option linter.unusedVariables false
set_option linter.unusedSimpArgs false
namespace Go.Proofs.Ytbmapjgajecgfaa
open Go.RowKit
theorem u8_ne {c : UInt8} {k : Nat} (hk : k < 256) (h : c ≠ k.toUInt8) : ((c.toNat : Int) == (k : Int)) = false := by
  simp only [beq_eq_false_iff_ne, ne_eq]
  intro e
  refine h (UInt8.toNat_inj.1 ?_)
  have : c.toNat = k := by omega
  rw [this]
  simp; omega
/-- Every list of the machine's is of a length that memory bears. -/
def Sn.ok (S : Sn) : Prop := S.lo.length ≤ 90000 ∧ S.tk.length ≤ 90000 ∧ S.pl.length ≤ 90000 ∧ S.bu.length ≤ 90000 ∧ ∀ l ∈ S.all, l.li.length ≤ 90000 ∧ l.ps.length ≤ 90000
theorem Sn.ok.tp {S : Sn} (h : S.ok) : S.tp.li.length ≤ 90000 ∧ S.tp.ps.length ≤ 90000 := h.2.2.2.2 S.tp (by simp [Sn.all])
def stArithEnd (s : St) (c : UInt8) : Int × St := if c = 41 then (0, (s.add (.mk 7 ⟨s.bu.toArray⟩ ⟨#[]⟩ [] 0)).turn 0) else (3, s.turn 17)
theorem arithEnd_any {B : Nat} {w : World} {b : Nat} {C : Nat → Prop} {S : Sn} (h : Fam B w C (S.dat b)) (hok : S.ok) (c : UInt8) :
    Calls Try.prog 47 #[.pointer (some ⟨b, 0, none⟩), .int .u8 (c.toNat : Int)] w (Ret B w b C S (stArithEnd S.abs c)) := by
  by_cases hc : c = 41
  · subst hc
    have hb := hd_at h
    have c7 : w.cell? ⟨b, 7, none⟩ = some S.buv := by rw [cell_blk hb]; rfl
    have hcv := conv_own (h.comp .bu : w.ownsRow B 5 1 S.buv S.bu.length (bv S.bu))
    have H := Lib.hid h
    have HO := Lib.hid hok.tp
    obtain ⟨ba, bc, hbu⟩ := own_slice (h.comp .bu : w.ownsRow B 5 1 S.buv S.bu.length (bv S.bu))
    rw [hbu] at c7 hcv
    clear h hb hok hbu
    go_enter Try.func47, Try.ntmps47
    go_wp2_with fail
    refine (add_any H.out (by have := HO.out; omega) (by have := HO.out; omega) 7 ⟨S.bu.toArray⟩ ⟨#[]⟩ none 0 0 [] none 0 0 (.inl ⟨none, 0, rfl, rfl⟩)).mono ?_
    rintro e w' ⟨v1, v2, rfl, hs⟩
    have HS := Lib.hid hs
    clear hs
    go_wp2_with fail
    refine (goes_any HS.out.1 0 (by omega)).mono ?_
    rintro e w' ⟨rfl, hs⟩
    go_wp2
    go_ret
    refine ⟨C, _, rfl, HS.out.trans hs, ?_⟩
    exact congrArg (fun s => St.turn s 0) (added_abs S (.mk 7 ⟨S.bu.toArray⟩ ⟨#[]⟩ [] 0) v1 v2)
  · have hcb := u8_ne (k := 41) (by omega) hc
    have hcn : ((c.toNat : Int) != 41) = true := by
      have : ((c.toNat : Int) == 41) = false := hcb
      simp only [bne, this]; rfl
    have H := Lib.hid h
    have HC := Lib.hid hc
    clear h hc hok hcb
    go_enter Try.func47, Try.ntmps47
    go_wp2_with fail
    refine (wrong_any H.out).mono ?_
    rintro e w' ⟨rfl, hs⟩
    go_wp2
    go_ret
    exact ⟨C, _, by simp [stArithEnd, HC.out], hs, by simp [stArithEnd, HC.out]; rfl⟩
end Go.Proofs.Ytbmapjgajecgfaa
set_option linter.unusedVariables false
set_option linter.unusedSimpArgs false
namespace Go.Proofs.Ytbmapjgajecgfaa
open Go.RowKit
/-- operator: a level is opened behind a parameter. -/
theorem operator_any {B : Nat} {w : World} {b : Nat} {C : Nat → Prop} {S : Sn} (h : Fam B w C (S.dat b)) (hok : S.ok) (op : ByteArray) :
    Calls Try.prog 70 #[.pointer (some ⟨b, 0, none⟩), .string op] w (Pushed B w b C S 2 ⟨S.bu.toArray⟩ op) := by
  have hb := hd_at h
  have c7 : w.cell? ⟨b, 7, none⟩ = some S.buv := by rw [cell_blk hb]; rfl
  have hcv := conv_own (h.comp .bu : w.ownsRow B 5 1 S.buv S.bu.length (bv S.bu))
  obtain ⟨ba, bc, hbu⟩ := own_slice (h.comp .bu : w.ownsRow B 5 1 S.buv S.bu.length (bv S.bu))
  rw [hbu] at c7 hcv
  have H := Lib.hid h
  have HO := Lib.hid hok
  clear h hb hok hbu
  go_enter Try.func70, Try.ntmps70
  go_wp2_with fail
  refine (push_any H.out (by have := HO.out.1; omega) 2 ⟨S.bu.toArray⟩ op).mono ?_
  rintro e w' ⟨v, rfl, hs⟩
  go_wp2
  go_ret
  exact ⟨v, rfl, hs⟩
end Go.Proofs.Ytbmapjgajecgfaa
set_option linter.unusedVariables false
set_option linter.unusedSimpArgs false
namespace Go.Proofs.Ytbmapjgajecgfaa
open Go.RowKit
/-- The machine's text is set to one byte. -/
theorem bu_one {B : Nat} {w : World} {b : Nat} {C : Nat → Prop} {S : Sn} (h : Fam B w C (S.dat b)) (c : UInt8) :
    Stp B w C (S.dat b) ((w.alloc (.cells #[.int .u8 (c.toNat : Int)] 5)).setCell ⟨b, 7, none⟩ (.slice (some ⟨w.heap.size, 0, none⟩) 1 1)) C (({S with bu := [c], buv := .slice (some ⟨w.heap.size, 0, none⟩) 1 1} : Sn).dat b) := by
  have hBw : B ≤ w.heap.size := by have := h.bnd b (.inr ⟨.hd, rfl⟩); omega
  have s1 := Stp.one h .bu (.row 5 1 (.slice (some ⟨w.heap.size, 0, none⟩) 1 1) 1 [.int .u8 (c.toNat : Int)]) (Kept.alloc w (.cells #[.int .u8 (c.toNat : Int)] 5) _)
    ⟨rfl, .inr ⟨w.heap.size, 1, #[.int .u8 (c.toNat : Int)], rfl, hBw, alloc_blk w _, Nat.le_refl _, by unfold maxLen; omega, rfl, rfl⟩⟩ (fun k hk => by
      obtain rfl : w.heap.size = k := by simpa [Dat.blk, Value.ownBlock] using hk
      exact ⟨.inr (Nat.le_refl _), by simp⟩) hBw
  have s2 := Stp.setHead s1.1 (t := .hd) (b := b) (ty := 53) (cs := S.head b (nextv b S.kd)) (by rw [upd_ne (by simp)]; rfl) 7 (.slice (some ⟨w.heap.size, 0, none⟩) 1 1)
  refine Eq.mp (congrArg (fun D => Stp B w C (S.dat b) _ C D) ?_) (s1.trans s2)
  funext t
  cases t <;> simp [upd] <;> rfl
end Go.Proofs.Ytbmapjgajecgfaa
set_option linter.unusedVariables false
set_option linter.unusedSimpArgs false
namespace Go.Proofs.Ytbmapjgajecgfaa
open Go.RowKit
def stParameter (s : St) (c : UInt8) : Int × St :=
  let t : St := {s with bu := [c]}
  if cls c.toNat = 4 then (0, t.turn 7) else if cls c.toNat = 3 then (0, t.turn 8) else if spc c.toNat = true then (0, t.turn 9) else (3, t.turn 17)
theorem parameter_any {B : Nat} {w : World} {b : Nat} {C : Nat → Prop} {S : Sn} (h : Fam B w C (S.dat b)) (c : UInt8) :
    Calls Try.prog 68 #[.pointer (some ⟨b, 0, none⟩), .int .u8 (c.toNat : Int)] w (Ret B w b C S (stParameter S.abs c)) := by
  have hb := hd_at h
  have hc255 := c.toNat_lt
  have c7 : (w.alloc (.cells #[.int .u8 (c.toNat : Int)] 5)).cell? ⟨b, 7, none⟩ = some S.buv := by rw [cell_blk (alloc_old hb _)]; rfl
  have f7 : (w.alloc (.cells #[.int .u8 (c.toNat : Int)] 5)).frozen? ⟨b, 7, none⟩ = false := frz_blk (alloc_old hb _) 7
  have S1 := Lib.hid (bu_one h c)
  have HCL := Lib.hid (class_any (c.toNat : Int))
  have HSP := Lib.hid (special_any (c.toNat : Int))
  obtain ⟨k, hk⟩ : ∃ k, cls (c.toNat : Int) = k := ⟨_, rfl⟩
  obtain ⟨p, hp⟩ : ∃ p, spc (c.toNat : Int) = p := ⟨_, rfl⟩
  have HE : Hid (stParameter S.abs c = (let t : St := {S.abs with bu := [c]}; if k = 4 then (0, t.turn 7) else if k = 3 then (0, t.turn 8) else if p = true then (0, t.turn 9) else (3, t.turn 17))) := Lib.hid (by unfold stParameter; rw [hk, hp])
  rw [hk] at HCL
  rw [hp] at HSP
  clear h hb hk hp
  go_enter Try.func68, Try.ntmps68
  go_wp2_with fail
  refine (HCL.out _ (by omega)).mono ?_
  rintro e w' ⟨rfl, rfl⟩
  by_cases h4 : k = 4
  · have HE4 : Hid (stParameter S.abs c = _) := Lib.hid (by rw [HE.out, if_pos h4])
    subst h4
    go_wp2_with fail
    refine (goes_any S1.out.1 7 (by omega)).mono ?_
    rintro e w' ⟨rfl, hs⟩
    go_wp2
    go_ret
    rw [HE4.out]
    exact ⟨C, _, rfl, S1.out.trans hs, rfl⟩
  · by_cases h3 : k = 3
    · have HE4 : Hid (stParameter S.abs c = _) := Lib.hid (by rw [HE.out, if_neg h4, if_pos h3])
      subst h3
      go_wp2_with fail
      refine (goes_any S1.out.1 8 (by omega)).mono ?_
      rintro e w' ⟨rfl, hs⟩
      go_wp2
      go_ret
      rw [HE4.out]
      exact ⟨C, _, rfl, S1.out.trans hs, rfl⟩
    · have k4 : (k == 4) = false := by simpa using h4
      have k3 : (k == 3) = false := by simpa using h3
      have HE4 : Hid (stParameter S.abs c = _) := Lib.hid (by rw [HE.out, if_neg h4, if_neg h3])
      clear h3 h4
      go_wp2_with fail
      refine (HSP.out _).mono ?_
      rintro e w' ⟨rfl, rfl⟩
      cases p with
      | true =>
        go_wp2_with fail
        refine (goes_any S1.out.1 9 (by omega)).mono ?_
        rintro e w' ⟨rfl, hs⟩
        go_wp2
        go_ret
        rw [HE4.out]
        exact ⟨C, _, rfl, S1.out.trans hs, rfl⟩
      | false =>
        go_wp2_with fail
        refine (wrong_any S1.out.1).mono ?_
        rintro e w' ⟨rfl, hs⟩
        go_wp2
        go_ret
        rw [HE4.out]
        exact ⟨C, _, rfl, S1.out.trans hs, rfl⟩
end Go.Proofs.Ytbmapjgajecgfaa
set_option linter.unusedVariables false
set_option linter.unusedSimpArgs false
namespace Go.Proofs.Ytbmapjgajecgfaa
open Go.RowKit
theorem Ret.after {B : Nat} {w w1 : World} {b : Nat} {C C1 : Nat → Prop} {S S1 : Sn} {r : Int × St} {e : Ending} {w' : World} (h1 : Stp B w C (S.dat b) w1 C1 (S1.dat b)) (h : Ret B w1 b C1 S1 r e w') : Ret B w b C S r e w' := by
  obtain ⟨C', S', e1, e2, e3⟩ := h
  exact ⟨C', S', e1, h1.trans e2, e3⟩
def stHash (s : St) (c : UInt8) : Int × St := if c = 125 then (0, (s.add (.mk 5 ⟨#[35]⟩ ⟨#[]⟩ [] 0)).turn 0) else stParameter s c
theorem hash_any {B : Nat} {w : World} {b : Nat} {C : Nat → Prop} {S : Sn} (h : Fam B w C (S.dat b)) (hok : S.ok) (c : UInt8) :
    Calls Try.prog 40 #[.pointer (some ⟨b, 0, none⟩), .int .u8 (c.toNat : Int)] w (Ret B w b C S (stHash S.abs c)) := by
  have H := Lib.hid h
  have HO := Lib.hid hok.tp
  clear h hok
  by_cases hc : c = 125
  · subst hc
    go_enter Try.func40, Try.ntmps40
    go_wp2_with fail
    refine (add_any H.out (by have := HO.out; omega) (by have := HO.out; omega) 5 ⟨#[35]⟩ ⟨#[]⟩ none 0 0 [] none 0 0 (.inl ⟨none, 0, rfl, rfl⟩)).mono ?_
    rintro e w' ⟨v1, v2, rfl, hs⟩
    have HS := Lib.hid hs
    clear hs
    go_wp2_with fail
    refine (goes_any HS.out.1 0 (by omega)).mono ?_
    rintro e w' ⟨rfl, hs⟩
    go_wp2
    go_ret
    exact ⟨C, _, rfl, HS.out.trans hs, congrArg (fun s => St.turn s 0) (added_abs S (.mk 5 ⟨#[35]⟩ ⟨#[]⟩ [] 0) v1 v2)⟩
  · have hcb := u8_ne (k := 125) (by omega) hc
    have HE : Hid (stHash S.abs c = stParameter S.abs c) := Lib.hid (by unfold stHash; rw [if_neg hc])
    have hcb' : ((c.toNat : Int) == 125) = false := hcb
    clear hc hcb
    rw [HE.out]
    go_enter Try.func40, Try.ntmps40
    go_wp2_with fail
    refine (parameter_any H.out c).mono ?_
    rintro e w' ⟨C', S', rfl, hs, ha⟩
    go_wp2
    go_ret
    exact ⟨C', S', rfl, hs, ha⟩
end Go.Proofs.Ytbmapjgajecgfaa
set_option linter.unusedVariables false
set_option linter.unusedSimpArgs false
namespace Go.Proofs.Ytbmapjgajecgfaa
open Go.RowKit
def stHead (s : St) (c : UInt8) : Int × St := if c = 35 then (0, ({s with ln := true} : St).turn 6) else stParameter {s with ln := false} c
theorem head_any {B : Nat} {w : World} {b : Nat} {C : Nat → Prop} {S : Sn} (h : Fam B w C (S.dat b)) (c : UInt8) :
    Calls Try.prog 39 #[.pointer (some ⟨b, 0, none⟩), .int .u8 (c.toNat : Int)] w (Ret B w b C S (stHead S.abs c)) := by
  have hb := hd_at h
  have c9 : w.cell? ⟨b, 9, none⟩ = some (.bool S.ln) := by rw [cell_blk hb]; rfl
  have f9 := frz_blk hb 9
  have s1 : Stp B w C (S.dat b) (w.setCell ⟨b, 9, none⟩ (.bool false)) C (({S with ln := false} : Sn).dat b) := fset h 9 (.bool false) rfl (by funext t; cases t <;> rfl)
  have hb1 := hd_at s1.1
  have c9' : (w.setCell ⟨b, 9, none⟩ (.bool false)).cell? ⟨b, 9, none⟩ = some (.bool false) := by rw [cell_blk hb1]; rfl
  have f9' := frz_blk hb1 9
  have S1 := Lib.hid s1
  by_cases hc : c = 35
  · have s2 : Stp B w C (S.dat b) ((w.setCell ⟨b, 9, none⟩ (.bool false)).setCell ⟨b, 9, none⟩ (.bool true)) C (({S with ln := true} : Sn).dat b) := s1.trans (fset (S' := {S with ln := true}) s1.1 9 (.bool true) rfl (by funext t; cases t <;> rfl))
    have S2 := Lib.hid s2
    subst hc
    clear s1 s2 hb hb1 h
    go_enter Try.func39, Try.ntmps39
    go_wp2_with fail
    refine (goes_any S2.out.1 6 (by omega)).mono ?_
    rintro e w' ⟨rfl, hs⟩
    go_wp2
    go_ret
    exact ⟨C, _, rfl, S2.out.trans hs, rfl⟩
  · have hcb' : ((c.toNat : Int) == 35) = false := u8_ne (k := 35) (by omega) hc
    have HE : Hid (stHead S.abs c = stParameter {S.abs with ln := false} c) := Lib.hid (by unfold stHead; rw [if_neg hc])
    clear s1 hb hb1 h hc
    rw [HE.out]
    go_enter Try.func39, Try.ntmps39
    go_wp2_with fail
    refine (parameter_any S1.out.1 c).mono ?_
    rintro e w' ⟨C', S', rfl, hs, ha⟩
    go_wp2
    go_ret
    exact ⟨C', S', rfl, S1.out.trans hs, ha⟩
end Go.Proofs.Ytbmapjgajecgfaa
set_option linter.unusedVariables false
set_option linter.unusedSimpArgs false
namespace Go.Proofs.Ytbmapjgajecgfaa
open Go.RowKit
theorem conv_new {w : World} {q : Nat} (cs : List UInt8) (cap : Nat) (h : w.heap[q]? = some (.cells (bv cs).toArray 5 (0, 0))) : (Go.convert 51 9 (.slice (some ⟨q, 0, none⟩) cs.length cap)).run Try.prog w = Result.ok (Value.string ⟨cs.toArray⟩) w := by
  refine run_convert_bytes_back w 51 9 5 ⟨q, 0, none⟩ cap cs Try.underlying51 Try.underlying5 Try.underlying9 (fun j hj => ?_)
  have : (⟨q, 0, none⟩ : Addr).add j = ⟨q, j, none⟩ := by unfold Addr.add; split <;> simp_all
  rw [this, cell_blk h]
  simp [bv, hj]
def stColon (s : St) (c : UInt8) : Int × St := if one1 c.toNat = true then (0, s.push 2 ⟨s.bu.toArray⟩ ⟨#[58, c]⟩) else (3, s.turn 17)
theorem colon_any {B : Nat} {w : World} {b : Nat} {C : Nat → Prop} {S : Sn} (h : Fam B w C (S.dat b)) (hok : S.ok) (c : UInt8) :
    Calls Try.prog 43 #[.pointer (some ⟨b, 0, none⟩), .int .u8 (c.toNat : Int)] w (Ret B w b C S (stColon S.abs c)) := by
  have HP := Lib.hid (single1_any (c.toNat : Int))
  obtain ⟨p, hp⟩ : ∃ p, one1 (c.toNat : Int) = p := ⟨_, rfl⟩
  have HE : Hid (stColon S.abs c = if p = true then (0, S.abs.push 2 ⟨S.abs.bu.toArray⟩ ⟨#[58, c]⟩) else (3, S.abs.turn 17)) := Lib.hid (by unfold stColon; rw [hp])
  rw [hp] at HP
  have H := Lib.hid h
  have HO := Lib.hid hok
  have S1 := Lib.hid (Stp.nob h (Kept.alloc w (.cells #[.int .u8 58, .int .u8 (c.toNat : Int)] 5) nob))
  have hcv := conv_new [58, c] 2 (alloc_blk w (.cells #[.int .u8 58, .int .u8 (c.toNat : Int)] 5))
  have hcv' : (Go.convert 51 9 (.slice (some ⟨w.heap.size, 0, none⟩) 2 2)).run Try.prog (w.alloc (.cells #[.int .u8 58, .int .u8 (c.toNat : Int)] 5)) = Result.ok (Value.string ⟨#[58, c]⟩) (w.alloc (.cells #[.int .u8 58, .int .u8 (c.toNat : Int)] 5)) := hcv
  clear h hok hp hcv
  go_enter Try.func43, Try.ntmps43
  go_wp2_with fail
  refine (HP.out _).mono ?_
  rintro e w' ⟨rfl, rfl⟩
  cases p with
  | false =>
    go_wp2_with fail
    refine (wrong_any H.out).mono ?_
    rintro e w' ⟨rfl, hs⟩
    go_wp2
    go_ret
    rw [HE.out]
    exact ⟨C, _, rfl, hs, rfl⟩
  | true =>
    go_wp2_with fail
    refine (operator_any S1.out.1 HO.out ⟨#[58, c]⟩).mono ?_
    rintro e w' hs
    obtain ⟨C', S', rfl, e2, e3⟩ := Pushed.ret hs
    go_wp2
    go_ret
    rw [HE.out]
    exact ⟨C', S', rfl, S1.out.trans e2, e3⟩
end Go.Proofs.Ytbmapjgajecgfaa

/-
  What is proved: what pop does. Conditions: those of each theorem.
-/
import Derived.Test.YtbmapjgajecgfaaW9
set_option linter.unusedVariables false
set_option linter.unusedSimpArgs false
namespace Go.Proofs.Ytbmapjgajecgfaa
open Go.RowKit
/-- The part that a level makes when it is closed. -/
def LvM.part (l : LvM) : Prt := if l.wh = 2 then .mk 5 l.nm l.op l.ps 0 else .mk 4 ⟨#[]⟩ ⟨#[]⟩ l.ps 0
/-- A part of the machine's, in a block of its own. -/
def MidQ (B : Nat) (w0 : World) (b : Nat) (C : Nat → Prop) (S T : Sn) (a : Value) (p : Array Value) (wc : World) : Prop :=
  ∃ q, a = .pointer (some ⟨q, 0, none⟩) ∧ Stp B w0 C (S.dat b) wc C (T.dat b) ∧ wc.heap[q]? = some (.cells p 49 (0, 0)) ∧ w0.heap.size ≤ q ∧ ¬ Foot C (T.dat b) q
def Popped (B : Nat) (w0 : World) (b : Nat) (C : Nat → Prop) (S : Sn) (lo' : List LvM) (t' : LvM) (e : Ending) (w' : World) : Prop :=
  ∃ (C' : Nat → Prop) (v0 v1 v2 v3 : Value), e = .returned (.int .i64 0) ∧ Stp B w0 C (S.dat b) w' C' (({S with lo := lo', tp := {t'.flushed v1 with ps := (t'.flushed v1).ps ++ [(S.tp.flushed v0).part], pv := v2}, lvv := v3, kd := 0} : Sn).dat b)
set_option maxHeartbeats 2000000 in
set_option maxRecDepth 100000 in
theorem pop_any {B : Nat} {w : World} {b : Nat} {C : Nat → Prop} {S : Sn} (h : Fam B w C (S.dat b)) (hl1 : S.tp.li.length ≤ 100000) (hl2 : S.tp.ps.length ≤ 100000) {lo' : List LvM} {t' : LvM} (hlo : S.lo = lo' ++ [t']) (hl3 : t'.li.length ≤ 100000) (hl4 : t'.ps.length ≤ 100000) :
    Calls Try.prog 62 #[.pointer (some ⟨b, 0, none⟩)] w (Popped B w b C S lo' t') := by
  have H := Lib.hid h
  clear h
  go_enter Try.func62, Try.ntmps62
  go_wp2_with fail
  refine (top_any H.out).mono ?_
  rintro e w1 ⟨rfl, q, rfl⟩
  have s1 := Lib.hid (Stp.nob H.out (Kept.drewN w q nob))
  go_wp2_with fail
  refine (flush_any s1.out.1 hl1 hl2).mono ?_
  rintro e w2 ⟨v1, rfl, s2⟩
  have S2 := Lib.hid (s1.out.trans s2)
  obtain ⟨T, hT⟩ : ∃ T, T = ({S with tp := S.tp.flushed v1} : Sn) := ⟨_, rfl⟩
  have htop : topA T = topA S := by rw [hT]; rfl
  rw [← hT] at S2
  have HT := Lib.hid hT
  obtain ⟨g, cap, pa, pc, l, n, vs, G⟩ := growf S2.out.1
  rw [← htop, G.top]
  have c1 := G.c1
  have GG := Lib.hid G
  have hlv : w2.ownsRow B 55 5 (.slice (some ⟨g, 0, none⟩) (n + 1) cap) (n + 1) (T.all.flatMap LvM.cells) := by
    have := S2.out.1.comp .lv
    have h2 : w2.ownsRow B 55 5 T.lvv (T.lo.length + 1) (T.all.flatMap LvM.cells) := this
    rw [G.lvv, G.hn] at h2
    exact h2
  have hgz := World.block_lt_of_cell? w2 _ G.c1
  have cg : ∀ (j : Nat) (v : Value), j < 5 → T.tp.cells[j]? = some v → ∀ o, (w2.alloc o).cell? ⟨g, n * 5 + j, none⟩ = some v := fun j v hj hv o => by
    rw [World.cell?_alloc_past _ _ _ hgz, own_cell hlv (by omega), ← G.hn, flat_at, hv]
  have g0 := cg 0 _ (by omega) rfl
  have g1 := cg 1 _ (by omega) rfl
  have g3 := cg 3 _ (by omega) rfl
  have g4 := cg 4 _ (by omega) rfl
  rw [G.pv] at g1
  have hbh : w2.heap[b]? = some (.cells (T.head b (nextv b T.kd)) 53 (0, 0)) := S2.out.1.comp .hd
  have h0 : ∀ o, (w2.alloc o).cell? ⟨b, 0, none⟩ = some (.slice (some ⟨g, 0, none⟩) (n + 1) cap) := fun o => by
    rw [World.cell?_alloc_past _ _ _ (lt_blk hbh), cell_blk hbh, ← G.hn, ← G.lvv]; rfl
  have hf0 : ∀ o, (w2.alloc o).frozen? ⟨b, 0, none⟩ = false := fun o => frz_blk (alloc_old hbh _) 0
  have HLVO := Lib.hid hlv
  have hbq : Hid (b ≠ w2.heap.size) := Lib.hid (by have := lt_blk hbh; omega)
  simp only [Nat.add_zero] at g0
  obtain ⟨wh, hwh⟩ : ∃ x, T.tp.wh = x := ⟨_, rfl⟩
  obtain ⟨nm, hnm⟩ : ∃ x, T.tp.nm = x := ⟨_, rfl⟩
  obtain ⟨op, hop⟩ : ∃ x, T.tp.op = x := ⟨_, rfl⟩
  rw [hwh] at g0
  rw [hnm] at g3
  rw [hop] at g4
  have HWH := Lib.hid hwh
  have HNM := Lib.hid hnm
  have HOP := Lib.hid hop
  have HNC : Hid (n + 1 ≤ cap ∧ cap ≤ 9223372036854775807) := Lib.hid (by
    rcases hlv.2 with ⟨e1, _⟩ | ⟨g', cap', cur, e1, _, _, e2, e3, _⟩
    · simp at e1
    · obtain ⟨_, rfl⟩ : g = g' ∧ cap = cap' := by simpa using e1
      unfold maxLen at e3
      omega)
  clear s2 hT htop G hlv cg hbh hgz hwh hnm hop
  by_cases h2 : wh = 2
  · have hb2 : (wh == 2) = true := by simpa using h2
    have H22 := Lib.hid h2
    clear h2
    have hp : ∀ v, ((w2.alloc (.cells #[.int .i64 5, .string nm, .string op, .slice pa l pc, .slice none 0 0] 49)).setCell ⟨b, 0, none⟩ v).heap[w2.heap.size]? = some (.cells #[.int .i64 5, .string nm, .string op, .slice pa l pc, .slice none 0 0] 49 (0, 0)) := fun v => (Below.heap_setCell _ ⟨b, 0, none⟩ v w2.heap.size (fun e => hbq.out e.symm)).trans (alloc_blk w2 _)
    have y0 := fun v => (pcell (hp v)).1
    have y1 := fun v => (pcell (hp v)).2.1
    have y2 := fun v => (pcell (hp v)).2.2.1
    have y3 := fun v => (pcell (hp v)).2.2.2.1
    have y4 := fun v => (pcell (hp v)).2.2.2.2
    have hnc : n + 1 ≤ cap ∧ cap ≤ 9223372036854775807 := HNC.out
    clear hp
    go_wp2
    go_region
    go_wp2
    go_region
    go_wp2_with fail
    obtain ⟨C', hs3, hcold⟩ := pop_all (lo' := lo') (t' := t') S2.out.1 GG.out.lvv (by rw [HT.out]; exact hlo) GG.out.hn (.cells #[.int .i64 5, .string nm, .string op, .slice pa l pc, .slice none 0 0] 49)
    rw [GG.out.pv] at hcold
    have HS3 := Lib.hid (hs3.trans (Stp.nob hs3.1 (Kept.drew _ nob)))
    have HCO := Lib.hid (hcold.kept (S := nob) (Kept.drew _ nob) (fun k hk => ⟨fun e => e, (hs3.1.bnd k (.inl hk)).2⟩))
    clear hs3 hcold
    refine (add_any (S := {T with lo := lo', tp := t', lvv := .slice (some ⟨g, 0, none⟩) n cap}) HS3.out.1 hl3 hl4 5 nm op pa l pc T.tp.ps none 0 0 HCO.out).mono ?_
    rintro e w7 ⟨v1', v2', rfl, hs4⟩
    have HS4 := Lib.hid hs4
    clear hs4
    go_wp2_with fail
    refine (goes_any HS4.out.1 0 (by omega)).mono ?_
    rintro e w8 ⟨rfl, hs5⟩
    have HS5 := Lib.hid hs5
    clear hs5
    go_wp2
    go_ret
    refine ⟨C', v1, v1', v2', .slice (some ⟨g, 0, none⟩) n cap, rfl, ?_⟩
    have s := ((S2.out.trans HS3.out).trans HS4.out).trans HS5.out
    have hpt : (S.tp.flushed v1).part = .mk 5 nm op (S.tp.flushed v1).ps 0 := by
      unfold LvM.part
      have u1 := HWH.out
      have u2 := HNM.out
      have u3 := HOP.out
      rw [HT.out] at u1 u2 u3
      rw [show (S.tp.flushed v1).nm = nm from u2, show (S.tp.flushed v1).op = op from u3, if_pos]
      rw [show (S.tp.flushed v1).wh = wh from u1]
      exact H22.out
    rw [hpt]
    have e1 : T.tp.ps = (S.tp.flushed v1).ps := by rw [HT.out]
    rw [e1, HT.out] at s
    exact s
  have hb2 : (wh == 2) = false := by simpa using h2
  have hz := alloc_blk w2 (.cells zcells 49)
  obtain ⟨z0, z1, z2, z3, z4⟩ := pcell (v0 := .int .i64 0) (v1 := .string ⟨#[]⟩) (v2 := .string ⟨#[]⟩) (v3 := .slice none 0 0) (v4 := .slice none 0 0) hz
  have hp : ∀ v, ((w2.alloc (.cells #[.int .i64 4, .string ⟨#[]⟩, .string ⟨#[]⟩, .slice pa l pc, .slice none 0 0] 49)).setCell ⟨b, 0, none⟩ v).heap[w2.heap.size]? = some (.cells #[.int .i64 4, .string ⟨#[]⟩, .string ⟨#[]⟩, .slice pa l pc, .slice none 0 0] 49 (0, 0)) := fun v => (Below.heap_setCell _ ⟨b, 0, none⟩ v w2.heap.size (fun e => hbq.out e.symm)).trans (alloc_blk w2 _)
  have y0 := fun v => (pcell (hp v)).1
  have y1 := fun v => (pcell (hp v)).2.1
  have y2 := fun v => (pcell (hp v)).2.2.1
  have y3 := fun v => (pcell (hp v)).2.2.2.1
  have y4 := fun v => (pcell (hp v)).2.2.2.2
  have hnc : n + 1 ≤ cap ∧ cap ≤ 9223372036854775807 := HNC.out
  clear hp
  go_wp2
  go_region
  go_wp2_with fail
  obtain ⟨C', hs3, hcold⟩ := pop_all (lo' := lo') (t' := t') S2.out.1 GG.out.lvv (by rw [HT.out]; exact hlo) GG.out.hn (.cells #[.int .i64 4, .string ⟨#[]⟩, .string ⟨#[]⟩, .slice pa l pc, .slice none 0 0] 49)
  rw [GG.out.pv] at hcold
  have HS3 := Lib.hid hs3
  have HCO := Lib.hid hcold
  clear hs3 hcold
  refine (add_any (S := {T with lo := lo', tp := t', lvv := .slice (some ⟨g, 0, none⟩) n cap}) HS3.out.1 hl3 hl4 4 ⟨#[]⟩ ⟨#[]⟩ pa l pc T.tp.ps none 0 0 HCO.out).mono ?_
  rintro e w7 ⟨v1', v2', rfl, hs4⟩
  have HS4 := Lib.hid hs4
  clear hs4
  go_wp2_with fail
  refine (goes_any HS4.out.1 0 (by omega)).mono ?_
  rintro e w8 ⟨rfl, hs5⟩
  have HS5 := Lib.hid hs5
  clear hs5
  go_wp2
  go_ret
  refine ⟨C', v1, v1', v2', .slice (some ⟨g, 0, none⟩) n cap, rfl, ?_⟩
  have s := ((S2.out.trans HS3.out).trans HS4.out).trans HS5.out
  have hpt : (S.tp.flushed v1).part = .mk 4 ⟨#[]⟩ ⟨#[]⟩ (S.tp.flushed v1).ps 0 := by
    unfold LvM.part
    rw [if_neg]
    have := HWH.out
    rw [HT.out] at this
    rw [show (S.tp.flushed v1).wh = wh from this]
    exact h2
  rw [hpt]
  have e1 : T.tp.ps = (S.tp.flushed v1).ps := by rw [HT.out]
  rw [e1, HT.out] at s
  exact s
end Go.Proofs.Ytbmapjgajecgfaa

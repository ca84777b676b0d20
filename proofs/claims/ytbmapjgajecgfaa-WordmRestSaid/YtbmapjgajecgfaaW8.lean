/-
  What is proved: what push does. Conditions: those of each theorem.
-/
import Derived.Test.YtbmapjgajecgfaaW7
set_option linter.unusedVariables false
set_option linter.unusedSimpArgs false
namespace Go.Proofs.Ytbmapjgajecgfaa
open Go.RowKit
def lzero : Value := .agg #[.int .i64 0, .slice none 0 0, .slice none 0 0, .string ⟨#[]⟩, .string ⟨#[]⟩]
theorem info_lev : (Try.prog.info? 55).map (fun i => (i.zero, i.size, i.bytes)) = some (some lzero, 5, 88) := by kernel_rfl
/-- A level that is opened. -/
def LvM.new (wh : Int) (nm op : ByteArray) : LvM := ⟨wh, [], [], nm, op, .slice none 0 0, .slice none 0 0⟩
theorem push_dat {S : Sn} {b : Nat} {wh : Int} {nm op : ByteArray} {v : Value} {n : Nat} {D : Tag → Dat} (hn : S.lo.length + 1 = n) (h1 : D .hd = .head b 53 (({S with lo := S.lo ++ [S.tp], tp := LvM.new wh nm op, lvv := v} : Sn).head b (nextv b S.kd))) (h2 : D .lv = .row 55 5 v (n + 1) (S.all.flatMap LvM.cells ++ (LvM.new wh nm op).cells))
    (h3 : D (.ps n) = .prow 49 (.slice none 0 0) []) (h4 : D (.li n) = .row 5 1 (.slice none 0 0) 0 []) (h5 : ∀ t, t ≠ .hd → t ≠ .lv → t ≠ .ps n → t ≠ .li n → D t = S.dat b t) :
    D = ({S with lo := S.lo ++ [S.tp], tp := LvM.new wh nm op, lvv := v} : Sn).dat b := by
  have hall : ({S with lo := S.lo ++ [S.tp], tp := LvM.new wh nm op, lvv := v} : Sn).all = S.all ++ [LvM.new wh nm op] := by simp [Sn.all]
  have hat : ∀ i, i ≠ n → (S.all ++ [LvM.new wh nm op])[i]? = S.all[i]? := fun i hi => by
    have hz : S.all.length = n := by simp [Sn.all, hn]
    by_cases h : i < n
    · rw [List.getElem?_append_left (by omega)]
    · rw [List.getElem?_eq_none (by simp; omega), List.getElem?_eq_none (by omega)]
  have htop : (S.all ++ [LvM.new wh nm op])[n]? = some (LvM.new wh nm op) := by
    have hz : S.all.length = n := by simp [Sn.all, hn]
    rw [List.getElem?_append_right (by omega), hz]
    simp
  funext t
  cases t with
  | hd => rw [h1]; rfl
  | lv =>
    rw [h2]
    show _ = Dat.row 55 5 v ((S.lo ++ [S.tp]).length + 1) (List.flatMap LvM.cells (Sn.all _))
    rw [hall]
    simp [hn]
  | tk => rw [h5 _ (by simp) (by simp) (by simp) (by simp)]; rfl
  | pl => rw [h5 _ (by simp) (by simp) (by simp) (by simp)]; rfl
  | bu => rw [h5 _ (by simp) (by simp) (by simp) (by simp)]; rfl
  | ps i =>
    by_cases e : i = n
    · subst e
      rw [h3]
      show _ = match (Sn.all _)[i]? with | some l => Dat.prow 49 l.pv l.ps | none => .nothing
      rw [hall, htop]
      rfl
    · rw [h5 _ (by simp) (by simp) (by simpa using e) (by simp)]
      show (match S.all[i]? with | some l => Dat.prow 49 l.pv l.ps | none => .nothing) = match (Sn.all _)[i]? with | some l => Dat.prow 49 l.pv l.ps | none => .nothing
      rw [hall, hat i e]
  | li i =>
    by_cases e : i = n
    · subst e
      rw [h4]
      show _ = match (Sn.all _)[i]? with | some l => Dat.row 5 1 l.tv l.li.length (bv l.li) | none => .nothing
      rw [hall, htop]
      rfl
    · rw [h5 _ (by simp) (by simp) (by simp) (by simpa using e)]
      show (match S.all[i]? with | some l => Dat.row 5 1 l.tv l.li.length (bv l.li) | none => .nothing) = match (Sn.all _)[i]? with | some l => Dat.row 5 1 l.tv l.li.length (bv l.li) | none => .nothing
      rw [hall, hat i e]
theorem push_step {B : Nat} {w w2 : World} {b : Nat} {C : Nat → Prop} {S : Sn} {g n cap : Nat} {o : Obj} {wh : Int} {nm op : ByteArray} (h : Fam B w C (S.dat b)) (hn : S.lo.length + 1 = n)
    (own2 : w2.ownsRow B 55 5 (.slice (some ⟨g, 0, none⟩) (n + 1) cap) (n + 1) (S.all.flatMap LvM.cells ++ (LvM.new wh nm op).cells)) (gr2 : ((w.alloc o).drew).grownBy w2 S.lvv.ownBlock) (ls2 : S.lvv.ownBlock = some g ∨ g = w.heap.size + 1) (lt2 : g < w2.heap.size) :
    Stp B w C (S.dat b) (w2.setCell ⟨b, 0, none⟩ (.slice (some ⟨g, 0, none⟩) (n + 1) cap)) C (({S with lo := S.lo ++ [S.tp], tp := LvM.new wh nm op, lvv := .slice (some ⟨g, 0, none⟩) (n + 1) cap} : Sn).dat b) := by
  have hBw : B ≤ w.heap.size := by have := h.bnd b (.inr ⟨.hd, rfl⟩); omega
  have s1 := Stp.nob h ((Kept.alloc w o nob).trans (Kept.drew _ nob) (fun _ _ h => h))
  have s2 := Stp.app s1.1 (t := .lv) (e := 55) (size := 5) rfl gr2 own2 (by simpa using ls2) lt2 (s1.hB hBw)
  have s3 := Stp.setHead s2.1 (t := .hd) (b := b) (ty := 53) (cs := S.head b (nextv b S.kd)) (by rw [upd_ne (by simp)]; rfl) 0 (.slice (some ⟨g, 0, none⟩) (n + 1) cap)
  have s4 := Stp.one s3.1 (.ps n) (.prow 49 (.slice none 0 0) []) (Kept.refl _ _) ⟨[], World.ownsRow_nil _ _ _ _, .nil⟩ (fun k hk => by cases hk) ((s1.trans s2).trans s3 |>.hB hBw)
  have s5 := Stp.one s4.1 (.li n) (.row 5 1 (.slice none 0 0) 0 []) (Kept.refl _ _) (World.ownsRow_nil _ _ _ _) (fun k hk => by cases hk) ((s1.trans s2).trans s3 |>.hB hBw)
  refine Eq.mp (congrArg (fun D => Stp B w C (S.dat b) _ C D) (push_dat hn ?_ ?_ ?_ ?_ ?_)) ((((s1.trans s2).trans s3).trans s4).trans s5)
  · rw [upd_ne (by simp), upd_ne (by simp), upd_at]; rfl
  · rw [upd_ne (by simp), upd_ne (by simp), upd_ne (by simp), upd_at]
  · rw [upd_ne (by simp), upd_at]
  · rw [upd_at]
  · intro t h1 h2 h3 h4; rw [upd_ne h4, upd_ne h3, upd_ne h1, upd_ne h2]

def Pushed (B : Nat) (w0 : World) (b : Nat) (C : Nat → Prop) (S : Sn) (wh : Int) (nm op : ByteArray) (e : Ending) (w' : World) : Prop :=
  ∃ v : Value, e = .returned (.int .i64 0) ∧ Stp B w0 C (S.dat b) w' C (({S with lo := S.lo ++ [S.tp], tp := LvM.new wh nm op, lvv := v, kd := 0} : Sn).dat b)
/-- Behind the append of push. -/
def MidP (B : Nat) (w0 : World) (b : Nat) (C : Nat → Prop) (S : Sn) (wh : Int) (nm op : ByteArray) (wc : World) : Prop :=
  ∃ v : Value, Stp B w0 C (S.dat b) wc C (({S with lo := S.lo ++ [S.tp], tp := LvM.new wh nm op, lvv := v} : Sn).dat b)
set_option maxHeartbeats 2000000 in
set_option maxRecDepth 100000 in
theorem push_any {B : Nat} {w : World} {b : Nat} {C : Nat → Prop} {S : Sn} (h : Fam B w C (S.dat b)) (hl1 : S.lo.length ≤ 100000) (wh : Int) (nm op : ByteArray) :
    Calls Try.prog 64 #[.pointer (some ⟨b, 0, none⟩), .agg #[.int .i64 wh, .slice none 0 0, .slice none 0 0, .string nm, .string op]] w (Pushed B w b C S wh nm op) := by
  obtain ⟨ti, hi, hz0, hz1, hz2⟩ := info_parts info_lev
  have H := Lib.hid h
  obtain ⟨g, cap, cur, hl, hB, hg, hn, hm, hcs, htk⟩ := lv_at h
  have hBw : B ≤ w.heap.size := by have := h.bnd b (.inr ⟨.hd, rfl⟩); omega
  have hb : w.heap[b]? = some (.cells (S.head b (nextv b S.kd)) 53 (0, 0)) := h.comp .hd
  have s0 := Stp.nob h (Kept.alloc w (.cells #[.int .i64 wh, .slice none 0 0, .slice none 0 0, .string nm, .string op] 55) nob)
  obtain ⟨n, hn'⟩ : ∃ n, S.lo.length + 1 = n := ⟨_, rfl⟩
  obtain ⟨w0, hw0⟩ : ∃ w0, w0 = w.alloc (.cells #[.int .i64 wh, .slice none 0 0, .slice none 0 0, .string nm, .string op] 55) := ⟨_, rfl⟩
  have hq0 : w0.heap[w.heap.size]? = some (.cells #[.int .i64 wh, .slice none 0 0, .slice none 0 0, .string nm, .string op] 55 (0, 0)) := by rw [hw0]; exact alloc_blk _ _
  rw [← hw0] at s0
  have o0 : w0.ownsRow B 55 5 (.slice (some ⟨g, 0, none⟩) n cap) n (S.all.flatMap LvM.cells) := by
    have h2 := s0.1.comp .lv
    have : w0.ownsRow B 55 5 S.lvv (S.lo.length + 1) (S.all.flatMap LvM.cells) := h2
    rw [hl, hn'] at this
    exact this
  have hb0 : w0.heap[b]? = some (.cells (S.head b (nextv b S.kd)) 53 (0, 0)) := s0.1.comp .hd
  have c0 : w0.cell? ⟨b, 0, none⟩ = some (.slice (some ⟨g, 0, none⟩) n cap) := by rw [cell_blk hb0, ← hn', ← hl]; rfl
  have p0 : w0.cell? ⟨w.heap.size, 0, none⟩ = some (.int .i64 wh) := by rw [cell_blk hq0]; rfl
  have p1 : w0.cell? ⟨w.heap.size, 1, none⟩ = some (.slice none 0 0) := by rw [cell_blk hq0]; rfl
  have p2 : w0.cell? ⟨w.heap.size, 2, none⟩ = some (.slice none 0 0) := by rw [cell_blk hq0]; rfl
  have p3 : w0.cell? ⟨w.heap.size, 3, none⟩ = some (.string nm) := by rw [cell_blk hq0]; rfl
  have p4 : w0.cell? ⟨w.heap.size, 4, none⟩ = some (.string op) := by rw [cell_blk hq0]; rfl
  have hbl := lt_blk hb0
  have hbg : Hid (some b ≠ (Value.slice (some ⟨g, 0, none⟩) n cap).ownBlock) := Lib.hid (fun e => by
    have e1 : (S.dat b .lv).blk = some b := by show S.lvv.ownBlock = _; rw [hl, e]; rfl
    have := h.inj .lv .hd b e1 rfl
    simp at this)
  have hBz : B ≤ w0.heap.size := s0.hB hBw
  have hcl : (w0.alloc (.cells #[.int .i64 wh, .slice none 0 0, .slice none 0 0, .string nm, .string op] 55)).drew.cell? ⟨b, 0, none⟩ = some (.slice (some ⟨g, 0, none⟩) n cap) := by show (w0.alloc _).cell? _ = _; rw [World.cell?_alloc_past _ _ _ hbl]; exact c0
  have hfz : (w0.alloc (.cells #[.int .i64 wh, .slice none 0 0, .slice none 0 0, .string nm, .string op] 55)).drew.frozen? ⟨b, 0, none⟩ = false := frz_blk (alloc_old hb0 _) 0
  have hbz : b < (w0.alloc (.cells #[.int .i64 wh, .slice none 0 0, .slice none 0 0, .string nm, .string op] 55)).drew.heap.size := by simp; omega
  have OWN := Lib.hid o0
  have S0 := Lib.hid s0
  have HL := Lib.hid hl
  have HCL := Lib.hid hcl
  have HFZ := Lib.hid hfz
  have HBZ := Lib.hid hbz
  have HBB := Lib.hid hBz
  have HBW := Lib.hid hBw
  have hcl0 : (w0.alloc (.cells #[.int .i64 wh, .slice none 0 0, .slice none 0 0, .string nm, .string op] 55)).cell? ⟨b, 0, none⟩ = some (.slice (some ⟨g, 0, none⟩) n cap) := hcl
  have hnn : n ≤ 100001 := by omega
  clear h hl hB hg hm hcs htk hb s0 o0 hb0 hcl hfz hbz hBz hBw hq0
  subst hw0
  go_enter Try.func64, Try.ntmps64
  go_wp2
  go_cut [] (fun wc => MidP B w b C S wh nm op wc)
  case first =>
    go_region_law? ((refine step_append_lies _ (by rfl) _ _ _ (by rfl) B 55 ti lzero 5 88 Try.underlying50 hi hz0 hz1 hz2 rfl (by decide) _ n (S.all.flatMap LvM.cells) (by rfl) ((OWN.out.alloc _).drew) ⟨w.heap.size + 1, 0, none⟩ 1 1 [.int .i64 wh, .slice none 0 0, .slice none 0 0, .string nm, .string op] (by rfl) (by rfl) (World.news_of_block (cs := #[.int .i64 wh, .slice none 0 0, .slice none 0 0, .string nm, .string op]) (t := 55) (fr := (0, 0)) (by have := heap_alloc_new (w.alloc (.cells #[.int .i64 wh, .slice none 0 0, .slice none 0 0, .string nm, .string op] 55)) (.cells #[.int .i64 wh, .slice none 0 0, .slice none 0 0, .string nm, .string op] 55); rw [World.size_alloc] at this; exact this)) (by simp [Value.oneCell']) (by omega) (by unfold maxLen; omega) (by omega) (by have := HBW.out; simp; omega) (w.heap.size + 2) (by simp) ?_; intro gg cap2 w3 own2 gr2 ls2 lt2; have kq := (gr2.cell_far _ HBZ.out hbg.out).trans HCL.out; have q1 := (gr2.frozen_far ⟨b, 0, none⟩ HBZ.out hbg.out).trans HFZ.out; have O2 := Lib.hid own2; have G2 := Lib.hid gr2; clear own2 gr2))
    all_goals
      go_wp2
      go_meet
      have G2' := G2.out
      rw [← hn', ← HL.out] at G2'
      have L2 : S.lvv.ownBlock = some gg ∨ gg = (w.alloc (.cells #[.int .i64 wh, .slice none 0 0, .slice none 0 0, .string nm, .string op] 55)).heap.size + 1 := by
        rw [HL.out, hn', World.size_alloc]
        exact ls2
      exact ⟨_, S0.out.trans (push_step (wh := wh) (nm := nm) (op := op) S0.out.1 hn' O2.out G2' L2 lt2)⟩
  case rest =>
    obtain ⟨v, hS⟩ := hcut
    have HS := Lib.hid hS
    clear hS
    go_wp2_with fail
    refine (goes_any HS.out.1 0 (by omega)).mono ?_
    rintro e w' ⟨rfl, hs⟩
    go_wp2
    go_ret
    exact ⟨v, rfl, HS.out.trans hs⟩
end Go.Proofs.Ytbmapjgajecgfaa

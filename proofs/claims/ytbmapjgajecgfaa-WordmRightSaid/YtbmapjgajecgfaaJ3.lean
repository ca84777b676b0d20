/-
  What is proved: lemmas: a byte is appended to a list of a machine; lemmas for text; what lit does; what text does; what behind does; what single does. Conditions: those of each theorem.
-/
import Derived.Test.YtbmapjgajecgfaaJ2
import Derived.Test.YtbmapjgajecgfaaJ1
set_option linter.unusedVariables false
set_option linter.unusedSimpArgs false
namespace Go.Proofs.Ytbmapjgajecgfaa
open Go.RowKit
/-- What a list of the machine's gives before a byte is appended to it. -/
structure AF (B : Nat) (w : World) (b : Nat) (j : Nat) (v : Value) (L : List UInt8) (c : UInt8) (a : Option Addr) (cap : Nat) : Prop where
  v : v = .slice a L.length cap
  own : (w.alloc (.cells #[.int .u8 (c.toNat : Int)] 5)).ownsRow B 5 1 (.slice a L.length cap) L.length (bv L)
  c0 : (w.alloc (.cells #[.int .u8 (c.toNat : Int)] 5)).cell? ⟨b, j, none⟩ = some (.slice a L.length cap)
  f0 : (w.alloc (.cells #[.int .u8 (c.toNat : Int)] 5)).frozen? ⟨b, j, none⟩ = false
  cw : w.cell? ⟨b, j, none⟩ = some (.slice a L.length cap)
  lt : b < (w.alloc (.cells #[.int .u8 (c.toNat : Int)] 5)).heap.size
  ne : some b ≠ (Value.slice a L.length cap).ownBlock
  hB : B ≤ (w.alloc (.cells #[.int .u8 (c.toNat : Int)] 5)).heap.size
  new : ∀ i u, ([Value.int .u8 (c.toNat : Int)])[i]? = some u → (w.alloc (.cells #[.int .u8 (c.toNat : Int)] 5)).cell? ((⟨w.heap.size, 0, none⟩ : Addr).add i) = some u

theorem af_tk {B : Nat} {w : World} {b : Nat} {C : Nat → Prop} {S : Sn} (h : Fam B w C (S.dat b)) (c : UInt8) : ∃ a cap, AF B w b 3 S.tkv S.tk c a cap := by
  have ho : w.ownsRow B 5 1 S.tkv S.tk.length (bv S.tk) := h.comp .tk
  obtain ⟨a, cap, e⟩ := own_slice ho
  have hb := hd_at h
  have s1 := Stp.nob h (Kept.alloc w (.cells #[.int .u8 (c.toNat : Int)] 5) nob)
  have ho1 : (w.alloc (.cells #[.int .u8 (c.toNat : Int)] 5)).ownsRow B 5 1 S.tkv S.tk.length (bv S.tk) := s1.1.comp .tk
  have hb1 := hd_at s1.1
  have hBw : B ≤ w.heap.size := by have := h.bnd b (.inr ⟨.hd, rfl⟩); omega
  refine ⟨a, cap, e, by rw [← e]; exact ho1, by rw [cell_blk hb1, ← e]; rfl, frz_blk hb1 3, by rw [cell_blk hb, ← e]; rfl, lt_blk hb1, fun e2 => ?_, by rw [World.size_alloc]; omega, World.news_of_block (cs := #[.int .u8 (c.toNat : Int)]) (alloc_blk w _)⟩
  have e1 : (S.dat b .tk).blk = some b := by show S.tkv.ownBlock = _; rw [e, ← e2]
  have := h.inj .tk .hd b e1 rfl
  simp at this
theorem app_tk {B : Nat} {w w2 : World} {b : Nat} {C : Nat → Prop} {S : Sn} {c : UInt8} {a : Option Addr} {cap g cap2 : Nat} (h : Fam B w C (S.dat b)) (hf : AF B w b 3 S.tkv S.tk c a cap)
    (own2 : w2.ownsRow B 5 1 (.slice (some ⟨g, 0, none⟩) (S.tk.length + 1) cap2) (S.tk.length + 1) (bv S.tk ++ [.int .u8 (c.toNat : Int)])) (gr : (w.alloc (.cells #[.int .u8 (c.toNat : Int)] 5)).grownBy w2 (Value.slice a S.tk.length cap).ownBlock) (ls : (Value.slice a S.tk.length cap).ownBlock = some g ∨ g = (w.alloc (.cells #[.int .u8 (c.toNat : Int)] 5)).heap.size) (lt : g < w2.heap.size) :
    Stp B w C (S.dat b) (w2.setCell ⟨b, 3, none⟩ (.slice (some ⟨g, 0, none⟩) (S.tk.length + 1) cap2)) C (({S with tk := S.tk ++ [c], tkv := .slice (some ⟨g, 0, none⟩) (S.tk.length + 1) cap2} : Sn).dat b) := by
  have s1 := Stp.nob h (Kept.alloc w (.cells #[.int .u8 (c.toNat : Int)] 5) nob)
  have s2 := Stp.app s1.1 (t := .tk) (e := 5) (size := 1) (v := S.tkv) rfl (by rw [hf.v]; exact gr) own2 (by rw [hf.v]; exact ls) lt hf.hB
  have s3 := Stp.setHead s2.1 (t := .hd) (b := b) (ty := 53) (cs := S.head b (nextv b S.kd)) (by rw [upd_ne (by simp)]; rfl) 3 (.slice (some ⟨g, 0, none⟩) (S.tk.length + 1) cap2)
  refine Eq.mp (congrArg (fun D => Stp B w C (S.dat b) _ C D) ?_) ((s1.trans s2).trans s3)
  have e1 : bv (S.tk ++ [c]) = bv S.tk ++ [.int .u8 (c.toNat : Int)] := by simp [bv]
  have e2 : (S.tk ++ [c]).length = S.tk.length + 1 := by simp
  funext t
  cases t with
  | hd => rw [upd_at]; rfl
  | tk =>
    rw [upd_ne (by simp), upd_at]
    show _ = Dat.row 5 1 _ (S.tk ++ [c]).length (bv (S.tk ++ [c]))
    rw [e1, e2]
  | _ => simp [upd] <;> rfl

theorem af_pl {B : Nat} {w : World} {b : Nat} {C : Nat → Prop} {S : Sn} (h : Fam B w C (S.dat b)) (c : UInt8) : ∃ a cap, AF B w b 4 S.plv S.pl c a cap := by
  have ho : w.ownsRow B 5 1 S.plv S.pl.length (bv S.pl) := h.comp .pl
  obtain ⟨a, cap, e⟩ := own_slice ho
  have hb := hd_at h
  have s1 := Stp.nob h (Kept.alloc w (.cells #[.int .u8 (c.toNat : Int)] 5) nob)
  have ho1 : (w.alloc (.cells #[.int .u8 (c.toNat : Int)] 5)).ownsRow B 5 1 S.plv S.pl.length (bv S.pl) := s1.1.comp .pl
  have hb1 := hd_at s1.1
  have hBw : B ≤ w.heap.size := by have := h.bnd b (.inr ⟨.hd, rfl⟩); omega
  refine ⟨a, cap, e, by rw [← e]; exact ho1, by rw [cell_blk hb1, ← e]; rfl, frz_blk hb1 4, by rw [cell_blk hb, ← e]; rfl, lt_blk hb1, fun e2 => ?_, by rw [World.size_alloc]; omega, World.news_of_block (cs := #[.int .u8 (c.toNat : Int)]) (alloc_blk w _)⟩
  have e1 : (S.dat b .pl).blk = some b := by show S.plv.ownBlock = _; rw [e, ← e2]
  have := h.inj .pl .hd b e1 rfl
  simp at this
theorem app_pl {B : Nat} {w w2 : World} {b : Nat} {C : Nat → Prop} {S : Sn} {c : UInt8} {a : Option Addr} {cap g cap2 : Nat} (h : Fam B w C (S.dat b)) (hf : AF B w b 4 S.plv S.pl c a cap)
    (own2 : w2.ownsRow B 5 1 (.slice (some ⟨g, 0, none⟩) (S.pl.length + 1) cap2) (S.pl.length + 1) (bv S.pl ++ [.int .u8 (c.toNat : Int)])) (gr : (w.alloc (.cells #[.int .u8 (c.toNat : Int)] 5)).grownBy w2 (Value.slice a S.pl.length cap).ownBlock) (ls : (Value.slice a S.pl.length cap).ownBlock = some g ∨ g = (w.alloc (.cells #[.int .u8 (c.toNat : Int)] 5)).heap.size) (lt : g < w2.heap.size) :
    Stp B w C (S.dat b) (w2.setCell ⟨b, 4, none⟩ (.slice (some ⟨g, 0, none⟩) (S.pl.length + 1) cap2)) C (({S with pl := S.pl ++ [c], plv := .slice (some ⟨g, 0, none⟩) (S.pl.length + 1) cap2} : Sn).dat b) := by
  have s1 := Stp.nob h (Kept.alloc w (.cells #[.int .u8 (c.toNat : Int)] 5) nob)
  have s2 := Stp.app s1.1 (t := .pl) (e := 5) (size := 1) (v := S.plv) rfl (by rw [hf.v]; exact gr) own2 (by rw [hf.v]; exact ls) lt hf.hB
  have s3 := Stp.setHead s2.1 (t := .hd) (b := b) (ty := 53) (cs := S.head b (nextv b S.kd)) (by rw [upd_ne (by simp)]; rfl) 4 (.slice (some ⟨g, 0, none⟩) (S.pl.length + 1) cap2)
  refine Eq.mp (congrArg (fun D => Stp B w C (S.dat b) _ C D) ?_) ((s1.trans s2).trans s3)
  have e1 : bv (S.pl ++ [c]) = bv S.pl ++ [.int .u8 (c.toNat : Int)] := by simp [bv]
  have e2 : (S.pl ++ [c]).length = S.pl.length + 1 := by simp
  funext t
  cases t with
  | hd => rw [upd_at]; rfl
  | pl =>
    rw [upd_ne (by simp), upd_at]
    show _ = Dat.row 5 1 _ (S.pl ++ [c]).length (bv (S.pl ++ [c]))
    rw [e1, e2]
  | _ => simp [upd] <;> rfl

theorem af_bu {B : Nat} {w : World} {b : Nat} {C : Nat → Prop} {S : Sn} (h : Fam B w C (S.dat b)) (c : UInt8) : ∃ a cap, AF B w b 7 S.buv S.bu c a cap := by
  have ho : w.ownsRow B 5 1 S.buv S.bu.length (bv S.bu) := h.comp .bu
  obtain ⟨a, cap, e⟩ := own_slice ho
  have hb := hd_at h
  have s1 := Stp.nob h (Kept.alloc w (.cells #[.int .u8 (c.toNat : Int)] 5) nob)
  have ho1 : (w.alloc (.cells #[.int .u8 (c.toNat : Int)] 5)).ownsRow B 5 1 S.buv S.bu.length (bv S.bu) := s1.1.comp .bu
  have hb1 := hd_at s1.1
  have hBw : B ≤ w.heap.size := by have := h.bnd b (.inr ⟨.hd, rfl⟩); omega
  refine ⟨a, cap, e, by rw [← e]; exact ho1, by rw [cell_blk hb1, ← e]; rfl, frz_blk hb1 7, by rw [cell_blk hb, ← e]; rfl, lt_blk hb1, fun e2 => ?_, by rw [World.size_alloc]; omega, World.news_of_block (cs := #[.int .u8 (c.toNat : Int)]) (alloc_blk w _)⟩
  have e1 : (S.dat b .bu).blk = some b := by show S.buv.ownBlock = _; rw [e, ← e2]
  have := h.inj .bu .hd b e1 rfl
  simp at this
theorem app_bu {B : Nat} {w w2 : World} {b : Nat} {C : Nat → Prop} {S : Sn} {c : UInt8} {a : Option Addr} {cap g cap2 : Nat} (h : Fam B w C (S.dat b)) (hf : AF B w b 7 S.buv S.bu c a cap)
    (own2 : w2.ownsRow B 5 1 (.slice (some ⟨g, 0, none⟩) (S.bu.length + 1) cap2) (S.bu.length + 1) (bv S.bu ++ [.int .u8 (c.toNat : Int)])) (gr : (w.alloc (.cells #[.int .u8 (c.toNat : Int)] 5)).grownBy w2 (Value.slice a S.bu.length cap).ownBlock) (ls : (Value.slice a S.bu.length cap).ownBlock = some g ∨ g = (w.alloc (.cells #[.int .u8 (c.toNat : Int)] 5)).heap.size) (lt : g < w2.heap.size) :
    Stp B w C (S.dat b) (w2.setCell ⟨b, 7, none⟩ (.slice (some ⟨g, 0, none⟩) (S.bu.length + 1) cap2)) C (({S with bu := S.bu ++ [c], buv := .slice (some ⟨g, 0, none⟩) (S.bu.length + 1) cap2} : Sn).dat b) := by
  have s1 := Stp.nob h (Kept.alloc w (.cells #[.int .u8 (c.toNat : Int)] 5) nob)
  have s2 := Stp.app s1.1 (t := .bu) (e := 5) (size := 1) (v := S.buv) rfl (by rw [hf.v]; exact gr) own2 (by rw [hf.v]; exact ls) lt hf.hB
  have s3 := Stp.setHead s2.1 (t := .hd) (b := b) (ty := 53) (cs := S.head b (nextv b S.kd)) (by rw [upd_ne (by simp)]; rfl) 7 (.slice (some ⟨g, 0, none⟩) (S.bu.length + 1) cap2)
  refine Eq.mp (congrArg (fun D => Stp B w C (S.dat b) _ C D) ?_) ((s1.trans s2).trans s3)
  have e1 : bv (S.bu ++ [c]) = bv S.bu ++ [.int .u8 (c.toNat : Int)] := by simp [bv]
  have e2 : (S.bu ++ [c]).length = S.bu.length + 1 := by simp
  funext t
  cases t with
  | hd => rw [upd_at]; rfl
  | bu =>
    rw [upd_ne (by simp), upd_at]
    show _ = Dat.row 5 1 _ (S.bu ++ [c]).length (bv (S.bu ++ [c]))
    rw [e1, e2]
  | _ => simp [upd] <;> rfl
end Go.Proofs.Ytbmapjgajecgfaa
set_option linter.unusedVariables false
set_option linter.unusedSimpArgs false
namespace Go.Proofs.Ytbmapjgajecgfaa
open Go.RowKit
def stText (s : St) (c : UInt8) : Int × St :=
  if c = 0 ∨ c = 96 then (3, s.turn 17)
  else if s.tp.wh = 0 ∧ (cls c.toNat = 1 ∨ cls c.toNat = 2 ∨ cls c.toNat = 5) then (1, {s with tp := s.tp.flush, kd := 16})
  else if (s.tp.wh = 1 ∧ c = 34) ∨ (s.tp.wh = 2 ∧ c = 125) then (0, s.pop)
  else if c = 92 then (0, {s with qu := true, kd := 1})
  else if c = 39 ∧ s.tp.wh ≠ 1 then (0, {s with qu := true, bu := [], kd := 12})
  else if c = 34 then (0, ({s with qu := true} : St).push 1 ⟨#[]⟩ ⟨#[]⟩)
  else if c = 36 then (0, s.turn 2)
  else (0, s.lit [c])
theorem u8_eq {c : UInt8} {k : Nat} (hk : k < 256) (h : c = k.toUInt8) : ((c.toNat : Int) == (k : Int)) = true := by
  subst h
  simp
  omega
/-- The levels of a machine: the first one is the word's own, no other. -/
def Sn.wf (S : Sn) : Prop := (S.lo = [] ∧ S.tp.wh = 0) ∨ (S.lo ≠ [] ∧ (S.tp.wh = 1 ∨ S.tp.wh = 2))
theorem qu_step {B : Nat} {w : World} {b : Nat} {C : Nat → Prop} {S : Sn} (h : Fam B w C (S.dat b)) : Stp B w C (S.dat b) (w.setCell ⟨b, 6, none⟩ (.bool true)) C (({S with qu := true} : Sn).dat b) :=
  fset (S' := {S with qu := true}) h 6 (.bool true) rfl (by funext t; cases t <;> rfl)
theorem Flushed.abs {S : Sn} {v : Value} : ({S with tp := S.tp.flushed v} : Sn).abs = {S.abs with tp := S.abs.tp.flush} := by
  show (⟨_, _, _, _, _, _, _, _, _, _, _⟩ : St) = ⟨_, _, _, _, _, _, _, _, _, _, _⟩
  rw [St.mk.injEq]
  exact ⟨rfl, LvM.flushed_abs _ _, rfl, rfl, rfl, rfl, rfl, rfl, rfl, rfl, rfl⟩
structure TF (B : Nat) (w : World) (b : Nat) (C : Nat → Prop) (S : Sn) (g n : Nat) : Prop where
  top : topA S = some ⟨g, n * 5, none⟩
  c0 : ∀ q, (w.drewN q).cell? ⟨g, n * 5, none⟩ = some (.int .i64 S.tp.wh)
theorem tf_at {B : Nat} {w : World} {b : Nat} {C : Nat → Prop} {S : Sn} (h : Fam B w C (S.dat b)) : ∃ g n, TF B w b C S g n := by
  obtain ⟨g, cap, cur, hl, hB, hg, hn, hm, hcs, htk⟩ := lv_at h
  have o0 : w.ownsRow B 55 5 (.slice (some ⟨g, 0, none⟩) (S.lo.length + 1) cap) (S.lo.length + 1) (S.all.flatMap LvM.cells) := by
    have := h.comp .lv
    simp only [Sn.dat, Comp, hl] at this
    exact this
  refine ⟨g, S.lo.length, by rw [topA, hl], fun q => ?_⟩
  have : w.cell? ⟨g, S.lo.length * 5 + 0, none⟩ = some (.int .i64 S.tp.wh) := by rw [own_cell o0 (by omega), flat_at]; rfl
  exact this
end Go.Proofs.Ytbmapjgajecgfaa
set_option linter.unusedVariables false
set_option linter.unusedSimpArgs false
namespace Go.Proofs.Ytbmapjgajecgfaa
open Go.RowKit
set_option maxRecDepth 100000 in
theorem lit_any {B : Nat} {w : World} {b : Nat} {C : Nat → Prop} {S : Sn} (h : Fam B w C (S.dat b)) (bs : List UInt8) (ad cap0 : Nat) (hbs : bs ≠ [] ∧ bs.length ≤ 2) (had : w.heap[ad]? = some (.cells (bv bs).toArray 5 (0, 0))) (hno : ¬ Foot C (S.dat b) ad)
    (hl1 : S.tp.li.length ≤ 100000) (hl2 : S.tk.length ≤ 100000) :
    Calls Try.prog 65 #[.pointer (some ⟨b, 0, none⟩), .slice (some ⟨ad, 0, none⟩) bs.length cap0] w fun e w' => ∃ v1 v2, e = .returned (.tuple #[]) ∧ Stp B w C (S.dat b) w' C ({S with tp := {S.tp with li := S.tp.li ++ bs, tv := v1}, tk := S.tk ++ bs, tkv := v2}.dat b) := by
  obtain ⟨ti, hi, hz0, hz1, hz2⟩ := info_parts info_u8
  obtain ⟨g, cap, cur, hl, hB, hg, hn, hm, hcs, htk⟩ := lv_at h
  have ht : topA S = some ⟨g, S.lo.length * 5, none⟩ := by rw [topA, hl]
  have hBw : B ≤ w.heap.size := by have := h.bnd b (.inr ⟨.hd, rfl⟩); omega
  have H := Lib.hid h
  have HAD := Lib.hid had
  have HNO := Lib.hid hno
  have HT := Lib.hid (top_any h)
  rw [ht] at HT
  have hlvo : ∀ {w1 : World} {C1 : Nat → Prop} {D1 : Tag → Dat}, Fam B w1 C1 D1 → D1 .lv = S.dat b .lv → w1.ownsRow B 55 5 (.slice (some ⟨g, 0, none⟩) (S.lo.length + 1) cap) (S.lo.length + 1) (S.all.flatMap LvM.cells) := fun f e => by
    have := f.comp .lv
    rw [e] at this
    have h' : _ := this
    simp only [Sn.dat, Comp, hl] at h'
    exact h'
  have HLV : ∀ {w1 : World} {C1 : Nat → Prop} {D1 : Tag → Dat}, Fam B w1 C1 D1 → D1 .lv = S.dat b .lv → Hid (w1.ownsRow B 55 5 (.slice (some ⟨g, 0, none⟩) (S.lo.length + 1) cap) (S.lo.length + 1) (S.all.flatMap LvM.cells)) := fun f e => Lib.hid (hlvo f e)
  have HL := Lib.hid hl
  have hb0 : B ≤ g := hB
  have f0 : Fam B w C (S.dat b) := h
  have o0 := HLV h rfl
  have c0 : w.cell? ⟨g, S.lo.length * 5 + 2, none⟩ = some S.tp.tv := by
    rw [own_cell o0.out (by omega), flat_at]; rfl
  have li0 : Hid (w.ownsRow B 5 1 S.tp.tv S.tp.li.length (bv S.tp.li)) := Lib.hid (by have := h.comp (.li S.lo.length); rw [dat_li] at this; exact this)
  clear h had hno ht hg hcs htk hl hlvo hB hm f0
  obtain ⟨n, hn'⟩ : ∃ n, S.lo.length = n := ⟨_, rfl⟩
  rw [hn'] at hn c0 HT HLV o0
  obtain ⟨m, hm'⟩ : ∃ m, bs.length = m := ⟨_, rfl⟩
  have hmm : 0 < m ∧ m ≤ 2 := by
    refine ⟨?_, by omega⟩
    have := List.length_pos_iff.2 hbs.1
    omega
  rw [hm']
  clear hbs
  go_enter Try.func65, Try.ntmps65
  go_wp2_with fail
  refine HT.out.mono ?_
  rintro e w1 ⟨rfl, q, rfl⟩
  have s1 := Lib.hid (Stp.nob H.out (Kept.drewN w q nob))
  have ow1 := Lib.hid (own_kept (Kept.drewN w q nob) li0.out (fun _ _ h => h))
  have c1 : (w.drewN q).cell? ⟨g, n * 5 + 2, none⟩ = some S.tp.tv := c0
  go_wp2_with (at_builtin; refine wpList_append_lies _ rfl _ _ 51 rfl B 5 ti (.int .u8 0) 1 1 Try.underlying51 hi hz0 hz1 hz2 rfl (by decide) _ _ _ rfl ow1.out ⟨ad, 0, none⟩ m cap0 (bv bs) rfl ?c1 ?c2 (bv_one bs) hmm.1 ?c3 ?c4 ?c5 _ rfl ?_)
  case c1 => rw [bv_len, hm']; omega
  case c2 => exact World.news_of_block (cs := (bv bs).toArray) HAD.out
  case c3 => unfold maxLen; omega
  case c4 => omega
  case c5 => exact hBw
  intro g1 cap1 w2 own2 gr2 ls2 lt2
  have s2 := Stp.app s1.out.1 (t := .li n) (by rw [← hn', dat_li]) gr2 own2 ls2 lt2 hBw
  have S2 := Lib.hid (s1.out.trans s2)
  have o2 := HLV S2.out.1 (by rw [upd_ne (by simp)])
  have c2 : w2.cell? ⟨g, n * 5 + 2, none⟩ = some S.tp.tv := by
    rw [own_cell o2.out (by omega), ← hn', flat_at]; rfl
  have fz2 := own_frz o2.out (n * 5 + 2)
  clear own2 gr2 s2 c0 c1 ls2
  have hlv2 : (S.dat b) .lv = .row 55 5 (.slice (some ⟨g, 0, none⟩) (n + 1) cap) (n + 1) (S.all.flatMap LvM.cells) := by
    have := HL.out
    rw [hn'] at this
    show Dat.row 55 5 S.lvv (S.lo.length + 1) _ = _
    rw [this, hn']
  have HLV2 := Lib.hid hlv2
  clear hlv2
  have s3 := fun u => Stp.setRow S2.out.1 (t := .lv) (by rw [upd_ne (by simp), HLV2.out]) (n * 5 + 2) u
  have S3 := Lib.hid (fun u => S2.out.trans (s3 u))
  have hd3 := fun u => (S3.out u).1.comp .hd
  have hd3' : ∀ u, (w2.setCell ⟨g, n * 5 + 2, none⟩ u).heap[b]? = some (.cells (S.head b (nextv b S.kd)) 53 (0, 0)) := fun u => by
    have := hd3 u
    rw [upd_ne (by simp), upd_ne (by simp)] at this
    exact this
  have c3 : ∀ u, (w2.setCell ⟨g, n * 5 + 2, none⟩ u).cell? ⟨b, 3, none⟩ = some S.tkv := fun u => by rw [cell_blk (hd3' u)]; rfl
  have ow3 : Hid (∀ u, (w2.setCell ⟨g, n * 5 + 2, none⟩ u).ownsRow B 5 1 S.tkv S.tk.length (bv S.tk)) := Lib.hid (fun u => by
    have := (S3.out u).1.comp .tk
    rw [upd_ne (by simp), upd_ne (by simp)] at this
    exact this)
  have ad3 : Hid (∀ u, (w2.setCell ⟨g, n * 5 + 2, none⟩ u).heap[ad]? = some (.cells (bv bs).toArray 5 (0, 0))) := Lib.hid (fun u => (S3.out u).2.1.get HAD.out (fun hh => HNO.out (.inr hh)))
  clear s3 hd3 hd3'
  go_wp2_with (at_builtin; refine wpList_append_lies _ rfl _ _ 51 rfl B 5 ti (.int .u8 0) 1 1 Try.underlying51 hi hz0 hz1 hz2 rfl (by decide) _ _ _ rfl (ow3.out _) ⟨ad, 0, none⟩ m cap0 (bv bs) rfl ?d1 ?d2 (bv_one bs) hmm.1 ?d3 ?d4 ?d5 _ rfl ?_)
  case d1 => rw [bv_len, hm']; omega
  case d2 => exact World.news_of_block (cs := (bv bs).toArray) (ad3.out _)
  case d3 => unfold maxLen; omega
  case d4 => omega
  case d5 => have := (S3.out (.bool false)).2.1.size; have h2 := (Kept.setCell w2 ⟨g, n * 5 + 2, none⟩ (.slice (some ⟨g1, 0, none⟩) (S.tp.li.length + m) cap1)).size; have := S2.out.2.1.size; omega
  intro g2 cap2 w4 own4 gr4 ls4 lt4
  have S3' := Lib.hid (S3.out (.slice (some ⟨g1, 0, none⟩) (S.tp.li.length + m) cap1))
  have s4 := Stp.app S3'.out.1 (t := .tk) (by rw [upd_ne (by simp), upd_ne (by simp)]; rfl) gr4 own4 (by simpa [World.setCell] using ls4) lt4 (S3'.out.hB hBw)
  have S4 := Lib.hid (S3'.out.trans s4)
  have hd4 : w4.heap[b]? = some (.cells (S.head b (nextv b S.kd)) 53 (0, 0)) := by
    have := S4.out.1.comp .hd
    rw [upd_ne (by simp), upd_ne (by simp), upd_ne (by simp)] at this
    exact this
  have HD4 := Lib.hid hd4
  have c4 : w4.cell? ⟨b, 3, none⟩ = some S.tkv := by rw [cell_blk hd4]; rfl
  have fz4 := frz_blk hd4 3
  clear own4 gr4 s4 hd4 ls4 c3
  go_wp2
  go_end0
  refine ⟨.slice (some ⟨g1, 0, none⟩) (S.tp.li.length + m) cap1, .slice (some ⟨g2, 0, none⟩) (S.tk.length + m) cap2, rfl, ?_⟩
  have s5 := Stp.setHead S4.out.1 (t := .hd) (by rw [upd_ne (by simp), upd_ne (by simp), upd_ne (by simp)]; rfl) 3 (.slice (some ⟨g2, 0, none⟩) (S.tk.length + m) cap2)
  have S5 := S4.out.trans s5
  refine cast ?_ S5
  congr 1
  refine dat_eq (S := S) rfl ?_ ?_ ?_ ?_ ?_ ?_ ?_ (fun i hi => ?_) (fun i hi => ?_)
  · rw [upd_at]; rfl
  · rw [upd_ne (by simp), upd_ne (by simp), upd_at]
    show Dat.row _ _ _ _ _ = Dat.row 55 5 S.lvv (S.lo.length + 1) _
    rw [HL.out, hn', ← hn', flat_set, all_flat]
    rfl
  · rw [upd_ne (by simp), upd_at]
    show Dat.row _ _ _ _ _ = Dat.row 5 1 _ (S.tk ++ bs).length _
    rw [List.length_append, hm']
    simp [bv]
  · rw [upd_ne (by simp), upd_ne (by simp), upd_ne (by simp), upd_ne (by simp)]; rfl
  · rw [upd_ne (by simp), upd_ne (by simp), upd_ne (by simp), upd_ne (by simp)]; rfl
  · rw [upd_ne (by simp), upd_ne (by simp), upd_ne (by simp), upd_ne (by simp), dat_ps]
  · rw [upd_ne (by simp), upd_ne (by simp), upd_ne (by simp), ← hn', upd_at]
    show Dat.row _ _ _ _ _ = Dat.row 5 1 _ (S.tp.li ++ bs).length _
    rw [List.length_append, hm']
    simp [bv]
  · rw [upd_ne (by simp), upd_ne (by simp), upd_ne (by simp), upd_ne (by simp)]
  · rw [upd_ne (by simp), upd_ne (by simp), upd_ne (by simp), upd_ne (by simp; omega)]
end Go.Proofs.Ytbmapjgajecgfaa
set_option linter.unusedVariables false
set_option linter.unusedSimpArgs false
namespace Go.Proofs.Ytbmapjgajecgfaa
open Go.RowKit
theorem z_eq {c : UInt8} {z : Int} (hz : (c.toNat : Int) = z) {k : Nat} (hk : k < 256) (h : c = k.toUInt8) : (z == (k : Int)) = true := by
  rw [← hz]; exact u8_eq hk h
theorem z_ne {c : UInt8} {z : Int} (hz : (c.toNat : Int) = z) {k : Nat} (hk : k < 256) (h : c ≠ k.toUInt8) : (z == (k : Int)) = false := by
  rw [← hz]; exact u8_ne hk h
set_option maxHeartbeats 8000000 in
theorem text_any {B : Nat} {w : World} {b : Nat} {C : Nat → Prop} {S : Sn} (h : Fam B w C (S.dat b)) (hok : S.ok) (hwf : S.wf) (c : UInt8) :
    Calls Try.prog 34 #[.pointer (some ⟨b, 0, none⟩), .int .u8 (c.toNat : Int)] w (Ret B w b C S (stText S.abs c)) := by
  obtain ⟨g, n, tf⟩ := tf_at h
  have c0 := tf.c0
  have H := Lib.hid h
  have HT := Lib.hid (top_any h)
  rw [tf.top] at HT
  have hc255 := c.toNat_lt
  have HCL := Lib.hid (class_any (c.toNat : Int))
  have HO := Lib.hid hok
  have HOT := Lib.hid hok.tp
  have HW := Lib.hid hwf
  obtain ⟨k, hk⟩ : ∃ k, cls (c.toNat : Int) = k := ⟨_, rfl⟩
  obtain ⟨wh, hwh⟩ : ∃ k, S.tp.wh = k := ⟨_, rfl⟩
  have hwh' : S.abs.tp.wh = wh := hwh
  have HE : Hid (stText S.abs c = (if c = 0 ∨ c = 96 then (3, S.abs.turn 17)
  else if wh = 0 ∧ (k = 1 ∨ k = 2 ∨ k = 5) then (1, {S.abs with tp := S.abs.tp.flush, kd := 16})
  else if (wh = 1 ∧ c = 34) ∨ (wh = 2 ∧ c = 125) then (0, S.abs.pop)
  else if c = 92 then (0, {S.abs with qu := true, kd := 1})
  else if c = 39 ∧ wh ≠ 1 then (0, {S.abs with qu := true, bu := [], kd := 12})
  else if c = 34 then (0, ({S.abs with qu := true} : St).push 1 ⟨#[]⟩ ⟨#[]⟩)
  else if c = 36 then (0, S.abs.turn 2)
  else (0, S.abs.lit [c]))) := Lib.hid (by unfold stText; rw [hk, hwh'])
  rw [hk] at HCL
  rw [hwh] at c0
  have HWH := Lib.hid hwh
  have hw3 : wh = 0 ∨ wh = 1 ∨ wh = 2 := by
    rw [← hwh]
    rcases hwf with h | h
    · exact .inl h.2
    · exact .inr h.2
  obtain ⟨z, hz⟩ : ∃ z : Int, (c.toNat : Int) = z := ⟨_, rfl⟩
  have hz0 : 0 ≤ z := by omega
  have hz1 : z ≤ 255 := by omega
  have HZ := Lib.hid hz
  rw [hz] at HCL ⊢
  have hf6 : Hid (∀ q, (w.drewN q).cell? ⟨b, 6, none⟩ = some (.bool S.qu) ∧ (w.drewN q).frozen? ⟨b, 6, none⟩ = false) := Lib.hid (fun q => by
    have := hd_at (Stp.nob h (Kept.drewN w q nob)).1
    exact ⟨by rw [cell_blk this]; rfl, frz_blk this 6⟩)
  have hf7 : Hid (∀ q, ((w.drewN q).setCell ⟨b, 6, none⟩ (.bool true)).cell? ⟨b, 7, none⟩ = some S.buv ∧ ((w.drewN q).setCell ⟨b, 6, none⟩ (.bool true)).frozen? ⟨b, 7, none⟩ = false) := Lib.hid (fun q => by
    have := hd_at (qu_step (Stp.nob h (Kept.drewN w q nob)).1).1
    exact ⟨by rw [cell_blk this]; rfl, frz_blk this 7⟩)
  clear h hok hwf hk hwh hwh' tf hz hc255


  by_cases hA : c = 0 ∨ c = 96
  · have HE2 := Lib.hid (HE.out.trans (if_pos hA))
    clear HE
    have key : (z == 0) = true ∨ ((z == 0) = false ∧ (z == 96) = true) := by
      by_cases h0 : c = 0
      · exact .inl (z_eq HZ.out (k := 0) (by omega) h0)
      · rcases hA with h | h
        · exact absurd h h0
        · exact .inr ⟨z_ne HZ.out (k := 0) (by omega) h0, z_eq HZ.out (k := 96) (by omega) h⟩
    clear hA
    rcases key with z0 | ⟨z0, z96⟩
    all_goals
      go_enter Try.func34, Try.ntmps34
      go_wp2_with fail
      refine HT.out.mono ?_
      rintro e w1 ⟨rfl, q, rfl⟩
      have s1 := Lib.hid (Stp.nob H.out (Kept.drewN w q nob))
      go_wp2_with fail
      refine (HCL.out _ ⟨hz0, hz1⟩).mono ?_
      rintro e w' ⟨rfl, rfl⟩
      go_wp2_with fail
      refine (wrong_any s1.out.1).mono ?_
      rintro e w' ⟨rfl, hs⟩
      go_wp2
      go_ret
      rw [HE2.out]
      exact ⟨C, _, rfl, s1.out.trans hs, rfl⟩
  have HE2 := Lib.hid (HE.out.trans (if_neg hA))
  clear HE
  have z0 : (z == 0) = false := z_ne HZ.out (k := 0) (by omega) (fun e => hA (.inl e))
  have z96 : (z == 96) = false := z_ne HZ.out (k := 96) (by omega) (fun e => hA (.inr e))
  clear hA
  by_cases hB : wh = 0 ∧ (k = 1 ∨ k = 2 ∨ k = 5)
  · have HE3 := Lib.hid (HE2.out.trans (if_pos hB))
    clear HE2
    have hwb : (wh == 0) = true := by simpa using hB.1
    have key : (k == 1) = true ∨ ((k == 1) = false ∧ (k == 2) = true) ∨ ((k == 1) = false ∧ (k == 2) = false ∧ (k == 5) = true) := by
      rcases hB.2 with rfl | rfl | rfl <;> simp
    clear hB hw3
    rcases key with k1 | ⟨k1, k2⟩ | ⟨k1, k2, k5⟩
    all_goals
      go_enter Try.func34, Try.ntmps34
      go_wp2_with fail
      refine HT.out.mono ?_
      rintro e w1 ⟨rfl, q, rfl⟩
      have s1 := Lib.hid (Stp.nob H.out (Kept.drewN w q nob))
      go_wp2_with fail
      refine (HCL.out _ ⟨hz0, hz1⟩).mono ?_
      rintro e w' ⟨rfl, rfl⟩
      go_wp2_with fail
      refine (top_any s1.out.1).mono ?_
      rintro e w2 ⟨rfl, q2, rfl⟩
      have s2 := Lib.hid (Stp.nob H.out (Kept.drewN w (q + q2) nob))
      go_wp2_with fail
      refine (flush_any s2.out.1 (by have := HOT.out; omega) (by have := HOT.out; omega)).mono ?_
      rintro e w3 ⟨v, rfl, s3⟩
      have S3 := Lib.hid (s2.out.trans s3)
      clear s3
      go_wp2_with fail
      refine (turn_any S3.out.1 16 (by omega)).mono ?_
      rintro e w4 ⟨rfl, s4⟩
      have S4 := Lib.hid (S3.out.trans s4)
      clear s4
      go_wp2
      go_ret
      rw [HE3.out]
      exact ⟨C, _, rfl, S4.out, congrArg (fun s => St.turn s 16) Flushed.abs⟩
  have hB' : wh = 0 → k ≠ 1 ∧ k ≠ 2 ∧ k ≠ 5 := fun h0 => ⟨fun e => hB ⟨h0, .inl e⟩, fun e => hB ⟨h0, .inr (.inl e)⟩, fun e => hB ⟨h0, .inr (.inr e)⟩⟩
  have HE3 := Lib.hid (HE2.out.trans (if_neg hB))
  clear HE2 hB
  rcases hw3 with rfl | rfl | rfl
  · have kk := hB' rfl
    have k1 : (k == 1) = false := by simpa using kk.1
    have k2 : (k == 2) = false := by simpa using kk.2.1
    have k5 : (k == 5) = false := by simpa using kk.2.2
    clear kk hB'
    by_cases h92 : c = 92
    · have HE4 : Hid (stText S.abs c = (0, {S.abs with qu := true, kd := 1})) := Lib.hid (by rw [HE3.out]; simp [h92])
      have z92 : (z == 92) = true := z_eq HZ.out (k := 92) (by omega) h92
      have z34 : (z == 34) = false := z_ne HZ.out (k := 34) (by omega) (by rw [h92]; decide)
      have z125 : (z == 125) = false := z_ne HZ.out (k := 125) (by omega) (by rw [h92]; decide)
      have z39 : (z == 39) = false := z_ne HZ.out (k := 39) (by omega) (by rw [h92]; decide)
      have z36 : (z == 36) = false := z_ne HZ.out (k := 36) (by omega) (by rw [h92]; decide)
      clear HE3 h92
      go_enter Try.func34, Try.ntmps34
      go_wp2_with fail
      refine HT.out.mono ?_
      rintro e w1 ⟨rfl, q, rfl⟩
      obtain ⟨c6, f6⟩ := hf6.out q
      have s1 := Lib.hid (Stp.nob H.out (Kept.drewN w q nob))
      go_wp2_with fail
      refine (HCL.out _ ⟨hz0, hz1⟩).mono ?_
      rintro e w' ⟨rfl, rfl⟩
      go_wp2_with fail
      have S2 := Lib.hid (s1.out.trans (qu_step s1.out.1))
      refine (goes_any S2.out.1 1 (by omega)).mono ?_
      rintro e w3 ⟨rfl, s3⟩
      go_wp2
      go_ret
      rw [HE4.out]
      exact ⟨C, _, rfl, S2.out.trans s3, rfl⟩
    by_cases h39 : c = 39
    · have HE4 : Hid (stText S.abs c = (0, {S.abs with qu := true, bu := [], kd := 12})) := Lib.hid (by rw [HE3.out]; simp [h39, h92])
      have z39 : (z == 39) = true := z_eq HZ.out (k := 39) (by omega) h39
      have z34 : (z == 34) = false := z_ne HZ.out (k := 34) (by omega) (by rw [h39]; decide)
      have z125 : (z == 125) = false := z_ne HZ.out (k := 125) (by omega) (by rw [h39]; decide)
      have z92 : (z == 92) = false := z_ne HZ.out (k := 92) (by omega) (by rw [h39]; decide)
      have z36 : (z == 36) = false := z_ne HZ.out (k := 36) (by omega) (by rw [h39]; decide)
      clear HE3 h39 h92
      go_enter Try.func34, Try.ntmps34
      go_wp2_with fail
      refine HT.out.mono ?_
      rintro e w1 ⟨rfl, q, rfl⟩
      obtain ⟨c6, f6⟩ := hf6.out q
      obtain ⟨c7, f7⟩ := hf7.out q
      have s1 := Lib.hid (Stp.nob H.out (Kept.drewN w q nob))
      go_wp2_with fail
      refine (HCL.out _ ⟨hz0, hz1⟩).mono ?_
      rintro e w' ⟨rfl, rfl⟩
      go_wp2_with fail
      have S2 := Lib.hid (s1.out.trans (qu_step s1.out.1))
      have S3 := Lib.hid (S2.out.trans (bu_nil S2.out.1))
      refine (goes_any S3.out.1 12 (by omega)).mono ?_
      rintro e w3 ⟨rfl, s3⟩
      go_wp2
      go_ret
      rw [HE4.out]
      exact ⟨C, _, rfl, S3.out.trans s3, rfl⟩
    by_cases h34 : c = 34
    · have HE4 : Hid (stText S.abs c = (0, ({S.abs with qu := true} : St).push 1 ⟨#[]⟩ ⟨#[]⟩)) := Lib.hid (by rw [HE3.out]; simp [h34, h92, h39])
      have z34 : (z == 34) = true := z_eq HZ.out (k := 34) (by omega) h34
      have z125 : (z == 125) = false := z_ne HZ.out (k := 125) (by omega) (by rw [h34]; decide)
      have z92 : (z == 92) = false := z_ne HZ.out (k := 92) (by omega) (by rw [h34]; decide)
      have z39 : (z == 39) = false := z_ne HZ.out (k := 39) (by omega) (by rw [h34]; decide)
      have z36 : (z == 36) = false := z_ne HZ.out (k := 36) (by omega) (by rw [h34]; decide)
      clear HE3 h34 h92 h39
      go_enter Try.func34, Try.ntmps34
      go_wp2_with fail
      refine HT.out.mono ?_
      rintro e w1 ⟨rfl, q, rfl⟩
      obtain ⟨c6, f6⟩ := hf6.out q
      have s1 := Lib.hid (Stp.nob H.out (Kept.drewN w q nob))
      go_wp2_with fail
      refine (HCL.out _ ⟨hz0, hz1⟩).mono ?_
      rintro e w' ⟨rfl, rfl⟩
      go_wp2_with fail
      have S2 := Lib.hid (s1.out.trans (qu_step s1.out.1))
      refine (push_any S2.out.1 (by have := HO.out.1; show S.lo.length ≤ _; omega) 1 ⟨#[]⟩ ⟨#[]⟩).mono ?_
      rintro e w3 hp
      have HP := Lib.hid (Pushed.ret hp)
      clear hp
      obtain ⟨C', S', e1, e2, e3⟩ := HP.out
      obtain rfl := e1
      go_wp2
      go_ret
      rw [HE4.out]
      exact ⟨C', S', rfl, S2.out.trans e2, e3⟩
    by_cases h36 : c = 36
    · have HE4 : Hid (stText S.abs c = (0, S.abs.turn 2)) := Lib.hid (by rw [HE3.out]; simp [h36, h92, h39, h34])
      have z36 : (z == 36) = true := z_eq HZ.out (k := 36) (by omega) h36
      have z34 : (z == 34) = false := z_ne HZ.out (k := 34) (by omega) (by rw [h36]; decide)
      have z125 : (z == 125) = false := z_ne HZ.out (k := 125) (by omega) (by rw [h36]; decide)
      have z92 : (z == 92) = false := z_ne HZ.out (k := 92) (by omega) (by rw [h36]; decide)
      have z39 : (z == 39) = false := z_ne HZ.out (k := 39) (by omega) (by rw [h36]; decide)
      clear HE3 h36 h92 h39 h34
      go_enter Try.func34, Try.ntmps34
      go_wp2_with fail
      refine HT.out.mono ?_
      rintro e w1 ⟨rfl, q, rfl⟩
      have s1 := Lib.hid (Stp.nob H.out (Kept.drewN w q nob))
      go_wp2_with fail
      refine (HCL.out _ ⟨hz0, hz1⟩).mono ?_
      rintro e w' ⟨rfl, rfl⟩
      go_wp2_with fail
      refine (goes_any s1.out.1 2 (by omega)).mono ?_
      rintro e w3 ⟨rfl, s3⟩
      go_wp2
      go_ret
      rw [HE4.out]
      exact ⟨C, _, rfl, s1.out.trans s3, rfl⟩
    have HE4 : Hid (stText S.abs c = (0, S.abs.lit [c])) := Lib.hid (by rw [HE3.out]; simp [h92, h39, h34, h36])
    have z92 : (z == 92) = false := z_ne HZ.out (k := 92) (by omega) h92
    have z39 : (z == 39) = false := z_ne HZ.out (k := 39) (by omega) h39
    have z34 : (z == 34) = false := z_ne HZ.out (k := 34) (by omega) h34
    have z36 : (z == 36) = false := z_ne HZ.out (k := 36) (by omega) h36
    clear HE3 h92 h39 h34 h36
    go_enter Try.func34, Try.ntmps34
    go_wp2_with fail
    refine HT.out.mono ?_
    rintro e w1 ⟨rfl, q, rfl⟩
    have s1 := Lib.hid (Stp.nob H.out (Kept.drewN w q nob))
    go_wp2_with fail
    refine (HCL.out _ ⟨hz0, hz1⟩).mono ?_
    rintro e w' ⟨rfl, rfl⟩
    go_wp2_with fail
    have S2 := Lib.hid (s1.out.trans (Stp.nob s1.out.1 (Kept.alloc (w.drewN q) (.cells #[.int .u8 z] 5) nob)))
    have HA := Lib.hid (alloc_blk (w.drewN q) (.cells #[.int .u8 z] 5))
    refine (lit_any S2.out.1 [c] w.heap.size 1 (by simp) (Eq.trans HA.out (by rw [← HZ.out]; rfl)) (fun hf => by have := s1.out.1.bnd _ hf; simp at this) (by have := HOT.out; omega) (by have := HO.out.2.1; omega)).mono ?_
    rintro e w3 ⟨v1, v2, rfl, s3⟩
    have S3 := Lib.hid (S2.out.trans s3)
    clear s3
    go_wp2
    go_ret
    rw [HE4.out]
    exact ⟨C, _, rfl, S3.out, rfl⟩
  · clear hB'
    have HPOP : Hid (∃ lo' t', Hid (S.lo = lo' ++ [t']) ∧ t'.li.length ≤ 90000 ∧ t'.ps.length ≤ 90000) := Lib.hid (by
      have hne : S.lo ≠ [] := by
        rcases HW.out with h | h
        · have := HWH.out; rw [h.2] at this; omega
        · exact h.1
      have := HO.out.2.2.2.2 (S.lo.getLast hne) (by unfold Sn.all; exact List.mem_append_left _ (List.getLast_mem hne))
      exact ⟨S.lo.dropLast, S.lo.getLast hne, Lib.hid (List.dropLast_concat_getLast hne).symm, this.1, this.2⟩)
    by_cases h34 : c = 34
    · have HE4 : Hid (stText S.abs c = (0, S.abs.pop)) := Lib.hid (by rw [HE3.out]; simp [h34])
      have z34 : (z == 34) = true := z_eq HZ.out (k := 34) (by omega) h34
      have z125 : (z == 125) = false := z_ne HZ.out (k := 125) (by omega) (by rw [h34]; decide)
      have z92 : (z == 92) = false := z_ne HZ.out (k := 92) (by omega) (by rw [h34]; decide)
      have z39 : (z == 39) = false := z_ne HZ.out (k := 39) (by omega) (by rw [h34]; decide)
      have z36 : (z == 36) = false := z_ne HZ.out (k := 36) (by omega) (by rw [h34]; decide)
      clear HE3 h34
      obtain ⟨lo', t', hlo, hb3, hb4⟩ := HPOP.out
      go_enter Try.func34, Try.ntmps34
      go_wp2_with fail
      refine HT.out.mono ?_
      rintro e w1 ⟨rfl, q, rfl⟩
      have s1 := Lib.hid (Stp.nob H.out (Kept.drewN w q nob))
      go_wp2_with fail
      refine (HCL.out _ ⟨hz0, hz1⟩).mono ?_
      rintro e w' ⟨rfl, rfl⟩
      go_wp2_with fail
      refine (pop_any s1.out.1 (by have := HOT.out; omega) (by have := HOT.out; omega) hlo.out (by omega) (by omega)).mono ?_
      rintro e w3 hp
      have HP := Lib.hid (Popped.ret hlo.out hp)
      clear hp
      obtain ⟨C', S', e1, e2, e3⟩ := HP.out
      obtain rfl := e1
      go_wp2
      go_ret
      rw [HE4.out]
      exact ⟨C', S', rfl, s1.out.trans e2, e3⟩
    by_cases h92 : c = 92
    · have HE4 : Hid (stText S.abs c = (0, {S.abs with qu := true, kd := 1})) := Lib.hid (by rw [HE3.out]; simp [h92, h34])
      have z92 : (z == 92) = true := z_eq HZ.out (k := 92) (by omega) h92
      have z34 : (z == 34) = false := z_ne HZ.out (k := 34) (by omega) (by rw [h92]; decide)
      have z125 : (z == 125) = false := z_ne HZ.out (k := 125) (by omega) (by rw [h92]; decide)
      have z39 : (z == 39) = false := z_ne HZ.out (k := 39) (by omega) (by rw [h92]; decide)
      have z36 : (z == 36) = false := z_ne HZ.out (k := 36) (by omega) (by rw [h92]; decide)
      clear HE3 h92 h34
      go_enter Try.func34, Try.ntmps34
      go_wp2_with fail
      refine HT.out.mono ?_
      rintro e w1 ⟨rfl, q, rfl⟩
      obtain ⟨c6, f6⟩ := hf6.out q
      have s1 := Lib.hid (Stp.nob H.out (Kept.drewN w q nob))
      go_wp2_with fail
      refine (HCL.out _ ⟨hz0, hz1⟩).mono ?_
      rintro e w' ⟨rfl, rfl⟩
      go_wp2_with fail
      have S2 := Lib.hid (s1.out.trans (qu_step s1.out.1))
      refine (goes_any S2.out.1 1 (by omega)).mono ?_
      rintro e w3 ⟨rfl, s3⟩
      go_wp2
      go_ret
      rw [HE4.out]
      exact ⟨C, _, rfl, S2.out.trans s3, rfl⟩
    by_cases h36 : c = 36
    · have HE4 : Hid (stText S.abs c = (0, S.abs.turn 2)) := Lib.hid (by rw [HE3.out]; simp [h36, h34, h92])
      have z36 : (z == 36) = true := z_eq HZ.out (k := 36) (by omega) h36
      have z34 : (z == 34) = false := z_ne HZ.out (k := 34) (by omega) (by rw [h36]; decide)
      have z125 : (z == 125) = false := z_ne HZ.out (k := 125) (by omega) (by rw [h36]; decide)
      have z92 : (z == 92) = false := z_ne HZ.out (k := 92) (by omega) (by rw [h36]; decide)
      have z39 : (z == 39) = false := z_ne HZ.out (k := 39) (by omega) (by rw [h36]; decide)
      clear HE3 h36 h34 h92
      go_enter Try.func34, Try.ntmps34
      go_wp2_with fail
      refine HT.out.mono ?_
      rintro e w1 ⟨rfl, q, rfl⟩
      have s1 := Lib.hid (Stp.nob H.out (Kept.drewN w q nob))
      go_wp2_with fail
      refine (HCL.out _ ⟨hz0, hz1⟩).mono ?_
      rintro e w' ⟨rfl, rfl⟩
      go_wp2_with fail
      refine (goes_any s1.out.1 2 (by omega)).mono ?_
      rintro e w3 ⟨rfl, s3⟩
      go_wp2
      go_ret
      rw [HE4.out]
      exact ⟨C, _, rfl, s1.out.trans s3, rfl⟩
    have HE4 : Hid (stText S.abs c = (0, S.abs.lit [c])) := Lib.hid (by rw [HE3.out]; simp [h34, h92, h36])
    have z34 : (z == 34) = false := z_ne HZ.out (k := 34) (by omega) h34
    have z92 : (z == 92) = false := z_ne HZ.out (k := 92) (by omega) h92
    have z36 : (z == 36) = false := z_ne HZ.out (k := 36) (by omega) h36
    clear HE3 h34 h92 h36
    by_cases h39 : (z == 39) = true
    · have z39 := h39
      clear h39
      go_enter Try.func34, Try.ntmps34
      go_wp2_with fail
      refine HT.out.mono ?_
      rintro e w1 ⟨rfl, q, rfl⟩
      have s1 := Lib.hid (Stp.nob H.out (Kept.drewN w q nob))
      go_wp2_with fail
      refine (HCL.out _ ⟨hz0, hz1⟩).mono ?_
      rintro e w' ⟨rfl, rfl⟩
      go_wp2_with fail
      have S2 := Lib.hid (s1.out.trans (Stp.nob s1.out.1 (Kept.alloc (w.drewN q) (.cells #[.int .u8 z] 5) nob)))
      have HA := Lib.hid (alloc_blk (w.drewN q) (.cells #[.int .u8 z] 5))
      refine (lit_any S2.out.1 [c] w.heap.size 1 (by simp) (Eq.trans HA.out (by rw [← HZ.out]; rfl)) (fun hf => by have := s1.out.1.bnd _ hf; simp at this) (by have := HOT.out; omega) (by have := HO.out.2.1; omega)).mono ?_
      rintro e w3 ⟨v1, v2, rfl, s3⟩
      have S3 := Lib.hid (S2.out.trans s3)
      clear s3
      go_wp2
      go_ret
      rw [HE4.out]
      exact ⟨C, _, rfl, S3.out, rfl⟩
    · have z39 : (z == 39) = false := by simpa using h39
      clear h39
      go_enter Try.func34, Try.ntmps34
      go_wp2_with fail
      refine HT.out.mono ?_
      rintro e w1 ⟨rfl, q, rfl⟩
      have s1 := Lib.hid (Stp.nob H.out (Kept.drewN w q nob))
      go_wp2_with fail
      refine (HCL.out _ ⟨hz0, hz1⟩).mono ?_
      rintro e w' ⟨rfl, rfl⟩
      go_wp2_with fail
      have S2 := Lib.hid (s1.out.trans (Stp.nob s1.out.1 (Kept.alloc (w.drewN q) (.cells #[.int .u8 z] 5) nob)))
      have HA := Lib.hid (alloc_blk (w.drewN q) (.cells #[.int .u8 z] 5))
      refine (lit_any S2.out.1 [c] w.heap.size 1 (by simp) (Eq.trans HA.out (by rw [← HZ.out]; rfl)) (fun hf => by have := s1.out.1.bnd _ hf; simp at this) (by have := HOT.out; omega) (by have := HO.out.2.1; omega)).mono ?_
      rintro e w3 ⟨v1, v2, rfl, s3⟩
      have S3 := Lib.hid (S2.out.trans s3)
      clear s3
      go_wp2
      go_ret
      rw [HE4.out]
      exact ⟨C, _, rfl, S3.out, rfl⟩
  · clear hB'
    have HPOP : Hid (∃ lo' t', Hid (S.lo = lo' ++ [t']) ∧ t'.li.length ≤ 90000 ∧ t'.ps.length ≤ 90000) := Lib.hid (by
      have hne : S.lo ≠ [] := by
        rcases HW.out with h | h
        · have := HWH.out; rw [h.2] at this; omega
        · exact h.1
      have := HO.out.2.2.2.2 (S.lo.getLast hne) (by unfold Sn.all; exact List.mem_append_left _ (List.getLast_mem hne))
      exact ⟨S.lo.dropLast, S.lo.getLast hne, Lib.hid (List.dropLast_concat_getLast hne).symm, this.1, this.2⟩)
    by_cases h125 : c = 125
    · have HE4 : Hid (stText S.abs c = (0, S.abs.pop)) := Lib.hid (by rw [HE3.out]; simp [h125])
      have z125 : (z == 125) = true := z_eq HZ.out (k := 125) (by omega) h125
      have z34 : (z == 34) = false := z_ne HZ.out (k := 34) (by omega) (by rw [h125]; decide)
      have z92 : (z == 92) = false := z_ne HZ.out (k := 92) (by omega) (by rw [h125]; decide)
      have z39 : (z == 39) = false := z_ne HZ.out (k := 39) (by omega) (by rw [h125]; decide)
      have z36 : (z == 36) = false := z_ne HZ.out (k := 36) (by omega) (by rw [h125]; decide)
      clear HE3 h125
      obtain ⟨lo', t', hlo, hb3, hb4⟩ := HPOP.out
      go_enter Try.func34, Try.ntmps34
      go_wp2_with fail
      refine HT.out.mono ?_
      rintro e w1 ⟨rfl, q, rfl⟩
      have s1 := Lib.hid (Stp.nob H.out (Kept.drewN w q nob))
      go_wp2_with fail
      refine (HCL.out _ ⟨hz0, hz1⟩).mono ?_
      rintro e w' ⟨rfl, rfl⟩
      go_wp2_with fail
      refine (pop_any s1.out.1 (by have := HOT.out; omega) (by have := HOT.out; omega) hlo.out (by omega) (by omega)).mono ?_
      rintro e w3 hp
      have HP := Lib.hid (Popped.ret hlo.out hp)
      clear hp
      obtain ⟨C', S', e1, e2, e3⟩ := HP.out
      obtain rfl := e1
      go_wp2
      go_ret
      rw [HE4.out]
      exact ⟨C', S', rfl, s1.out.trans e2, e3⟩
    by_cases h92 : c = 92
    · have HE4 : Hid (stText S.abs c = (0, {S.abs with qu := true, kd := 1})) := Lib.hid (by rw [HE3.out]; simp [h92, h125])
      have z92 : (z == 92) = true := z_eq HZ.out (k := 92) (by omega) h92
      have z34 : (z == 34) = false := z_ne HZ.out (k := 34) (by omega) (by rw [h92]; decide)
      have z125 : (z == 125) = false := z_ne HZ.out (k := 125) (by omega) (by rw [h92]; decide)
      have z39 : (z == 39) = false := z_ne HZ.out (k := 39) (by omega) (by rw [h92]; decide)
      have z36 : (z == 36) = false := z_ne HZ.out (k := 36) (by omega) (by rw [h92]; decide)
      clear HE3 h92 h125
      go_enter Try.func34, Try.ntmps34
      go_wp2_with fail
      refine HT.out.mono ?_
      rintro e w1 ⟨rfl, q, rfl⟩
      obtain ⟨c6, f6⟩ := hf6.out q
      have s1 := Lib.hid (Stp.nob H.out (Kept.drewN w q nob))
      go_wp2_with fail
      refine (HCL.out _ ⟨hz0, hz1⟩).mono ?_
      rintro e w' ⟨rfl, rfl⟩
      go_wp2_with fail
      have S2 := Lib.hid (s1.out.trans (qu_step s1.out.1))
      refine (goes_any S2.out.1 1 (by omega)).mono ?_
      rintro e w3 ⟨rfl, s3⟩
      go_wp2
      go_ret
      rw [HE4.out]
      exact ⟨C, _, rfl, S2.out.trans s3, rfl⟩
    by_cases h39 : c = 39
    · have HE4 : Hid (stText S.abs c = (0, {S.abs with qu := true, bu := [], kd := 12})) := Lib.hid (by rw [HE3.out]; simp [h39, h125, h92])
      have z39 : (z == 39) = true := z_eq HZ.out (k := 39) (by omega) h39
      have z34 : (z == 34) = false := z_ne HZ.out (k := 34) (by omega) (by rw [h39]; decide)
      have z125 : (z == 125) = false := z_ne HZ.out (k := 125) (by omega) (by rw [h39]; decide)
      have z92 : (z == 92) = false := z_ne HZ.out (k := 92) (by omega) (by rw [h39]; decide)
      have z36 : (z == 36) = false := z_ne HZ.out (k := 36) (by omega) (by rw [h39]; decide)
      clear HE3 h39 h125 h92
      go_enter Try.func34, Try.ntmps34
      go_wp2_with fail
      refine HT.out.mono ?_
      rintro e w1 ⟨rfl, q, rfl⟩
      obtain ⟨c6, f6⟩ := hf6.out q
      obtain ⟨c7, f7⟩ := hf7.out q
      have s1 := Lib.hid (Stp.nob H.out (Kept.drewN w q nob))
      go_wp2_with fail
      refine (HCL.out _ ⟨hz0, hz1⟩).mono ?_
      rintro e w' ⟨rfl, rfl⟩
      go_wp2_with fail
      have S2 := Lib.hid (s1.out.trans (qu_step s1.out.1))
      have S3 := Lib.hid (S2.out.trans (bu_nil S2.out.1))
      refine (goes_any S3.out.1 12 (by omega)).mono ?_
      rintro e w3 ⟨rfl, s3⟩
      go_wp2
      go_ret
      rw [HE4.out]
      exact ⟨C, _, rfl, S3.out.trans s3, rfl⟩
    by_cases h34 : c = 34
    · have HE4 : Hid (stText S.abs c = (0, ({S.abs with qu := true} : St).push 1 ⟨#[]⟩ ⟨#[]⟩)) := Lib.hid (by rw [HE3.out]; simp [h34, h125, h92, h39])
      have z34 : (z == 34) = true := z_eq HZ.out (k := 34) (by omega) h34
      have z125 : (z == 125) = false := z_ne HZ.out (k := 125) (by omega) (by rw [h34]; decide)
      have z92 : (z == 92) = false := z_ne HZ.out (k := 92) (by omega) (by rw [h34]; decide)
      have z39 : (z == 39) = false := z_ne HZ.out (k := 39) (by omega) (by rw [h34]; decide)
      have z36 : (z == 36) = false := z_ne HZ.out (k := 36) (by omega) (by rw [h34]; decide)
      clear HE3 h34 h125 h92 h39
      go_enter Try.func34, Try.ntmps34
      go_wp2_with fail
      refine HT.out.mono ?_
      rintro e w1 ⟨rfl, q, rfl⟩
      obtain ⟨c6, f6⟩ := hf6.out q
      have s1 := Lib.hid (Stp.nob H.out (Kept.drewN w q nob))
      go_wp2_with fail
      refine (HCL.out _ ⟨hz0, hz1⟩).mono ?_
      rintro e w' ⟨rfl, rfl⟩
      go_wp2_with fail
      have S2 := Lib.hid (s1.out.trans (qu_step s1.out.1))
      refine (push_any S2.out.1 (by have := HO.out.1; show S.lo.length ≤ _; omega) 1 ⟨#[]⟩ ⟨#[]⟩).mono ?_
      rintro e w3 hp
      have HP := Lib.hid (Pushed.ret hp)
      clear hp
      obtain ⟨C', S', e1, e2, e3⟩ := HP.out
      obtain rfl := e1
      go_wp2
      go_ret
      rw [HE4.out]
      exact ⟨C', S', rfl, S2.out.trans e2, e3⟩
    by_cases h36 : c = 36
    · have HE4 : Hid (stText S.abs c = (0, S.abs.turn 2)) := Lib.hid (by rw [HE3.out]; simp [h36, h125, h92, h39, h34])
      have z36 : (z == 36) = true := z_eq HZ.out (k := 36) (by omega) h36
      have z34 : (z == 34) = false := z_ne HZ.out (k := 34) (by omega) (by rw [h36]; decide)
      have z125 : (z == 125) = false := z_ne HZ.out (k := 125) (by omega) (by rw [h36]; decide)
      have z92 : (z == 92) = false := z_ne HZ.out (k := 92) (by omega) (by rw [h36]; decide)
      have z39 : (z == 39) = false := z_ne HZ.out (k := 39) (by omega) (by rw [h36]; decide)
      clear HE3 h36 h125 h92 h39 h34
      go_enter Try.func34, Try.ntmps34
      go_wp2_with fail
      refine HT.out.mono ?_
      rintro e w1 ⟨rfl, q, rfl⟩
      have s1 := Lib.hid (Stp.nob H.out (Kept.drewN w q nob))
      go_wp2_with fail
      refine (HCL.out _ ⟨hz0, hz1⟩).mono ?_
      rintro e w' ⟨rfl, rfl⟩
      go_wp2_with fail
      refine (goes_any s1.out.1 2 (by omega)).mono ?_
      rintro e w3 ⟨rfl, s3⟩
      go_wp2
      go_ret
      rw [HE4.out]
      exact ⟨C, _, rfl, s1.out.trans s3, rfl⟩
    have HE4 : Hid (stText S.abs c = (0, S.abs.lit [c])) := Lib.hid (by rw [HE3.out]; simp [h125, h92, h39, h34, h36])
    have z125 : (z == 125) = false := z_ne HZ.out (k := 125) (by omega) h125
    have z92 : (z == 92) = false := z_ne HZ.out (k := 92) (by omega) h92
    have z39 : (z == 39) = false := z_ne HZ.out (k := 39) (by omega) h39
    have z34 : (z == 34) = false := z_ne HZ.out (k := 34) (by omega) h34
    have z36 : (z == 36) = false := z_ne HZ.out (k := 36) (by omega) h36
    clear HE3 h125 h92 h39 h34 h36
    go_enter Try.func34, Try.ntmps34
    go_wp2_with fail
    refine HT.out.mono ?_
    rintro e w1 ⟨rfl, q, rfl⟩
    have s1 := Lib.hid (Stp.nob H.out (Kept.drewN w q nob))
    go_wp2_with fail
    refine (HCL.out _ ⟨hz0, hz1⟩).mono ?_
    rintro e w' ⟨rfl, rfl⟩
    go_wp2_with fail
    have S2 := Lib.hid (s1.out.trans (Stp.nob s1.out.1 (Kept.alloc (w.drewN q) (.cells #[.int .u8 z] 5) nob)))
    have HA := Lib.hid (alloc_blk (w.drewN q) (.cells #[.int .u8 z] 5))
    refine (lit_any S2.out.1 [c] w.heap.size 1 (by simp) (Eq.trans HA.out (by rw [← HZ.out]; rfl)) (fun hf => by have := s1.out.1.bnd _ hf; simp at this) (by have := HOT.out; omega) (by have := HO.out.2.1; omega)).mono ?_
    rintro e w3 ⟨v1, v2, rfl, s3⟩
    have S3 := Lib.hid (S2.out.trans s3)
    clear s3
    go_wp2
    go_ret
    rw [HE4.out]
    exact ⟨C, _, rfl, S3.out, rfl⟩
end Go.Proofs.Ytbmapjgajecgfaa
set_option linter.unusedVariables false
set_option linter.unusedSimpArgs false
namespace Go.Proofs.Ytbmapjgajecgfaa
open Go.RowKit
def stBehind (s : St) (c : UInt8) : Int × St :=
  if c = 125 then (0, (s.add (.mk 5 ⟨s.bu.toArray⟩ (if s.ln = true then ⟨#[108, 101, 110]⟩ else ⟨#[]⟩) [] 0)).turn 0)
  else if s.ln = true then (3, s.turn 17)
  else if c = 58 then (0, s.turn 10)
  else if c = 37 ∨ c = 35 then (0, {s with cu := c.toNat, kd := 11})
  else if one1 c.toNat = true then (0, s.push 2 ⟨s.bu.toArray⟩ ⟨#[c]⟩)
  else (3, s.turn 17)
theorem cu_step {B : Nat} {w : World} {b : Nat} {C : Nat → Prop} {S : Sn} (h : Fam B w C (S.dat b)) (z : Int) : Stp B w C (S.dat b) (w.setCell ⟨b, 10, none⟩ (.int .u8 z)) C (({S with cu := z} : Sn).dat b) :=
  fset (S' := {S with cu := z}) h 10 (.int .u8 z) rfl (by funext t; cases t <;> rfl)
set_option maxRecDepth 100000 in
set_option maxHeartbeats 8000000 in
theorem behind_any {B : Nat} {w : World} {b : Nat} {C : Nat → Prop} {S : Sn} (h : Fam B w C (S.dat b)) (hok : S.ok) (c : UInt8) :
    Calls Try.prog 42 #[.pointer (some ⟨b, 0, none⟩), .int .u8 (c.toNat : Int)] w (Ret B w b C S (stBehind S.abs c)) := by
  have hb := hd_at h
  have c7 : w.cell? ⟨b, 7, none⟩ = some S.buv := by rw [cell_blk hb]; rfl
  have c9 : w.cell? ⟨b, 9, none⟩ = some (.bool S.ln) := by rw [cell_blk hb]; rfl
  have c10 : w.cell? ⟨b, 10, none⟩ = some (.int .u8 S.cu) := by rw [cell_blk hb]; rfl
  have f10 := frz_blk hb 10
  have hcv := conv_own (h.comp .bu : w.ownsRow B 5 1 S.buv S.bu.length (bv S.bu))
  obtain ⟨ba, bc, hbu⟩ := own_slice (h.comp .bu : w.ownsRow B 5 1 S.buv S.bu.length (bv S.bu))
  rw [hbu] at c7 hcv
  have H := Lib.hid h
  have hc255 := c.toNat_lt
  have HO := Lib.hid hok
  have HOT := Lib.hid hok.tp
  have HSI := Lib.hid (single1_any (c.toNat : Int))
  obtain ⟨p, hp⟩ : ∃ p, one1 (c.toNat : Int) = p := ⟨_, rfl⟩
  obtain ⟨ln, hln⟩ : ∃ p, S.ln = p := ⟨_, rfl⟩
  have hln' : S.abs.ln = ln := hln
  have HE : Hid (stBehind S.abs c = (if c = 125 then (0, (S.abs.add (.mk 5 ⟨S.abs.bu.toArray⟩ (if ln = true then ⟨#[108, 101, 110]⟩ else ⟨#[]⟩) [] 0)).turn 0)
  else if ln = true then (3, S.abs.turn 17)
  else if c = 58 then (0, S.abs.turn 10)
  else if c = 37 ∨ c = 35 then (0, {S.abs with cu := c.toNat, kd := 11})
  else if p = true then (0, S.abs.push 2 ⟨S.abs.bu.toArray⟩ ⟨#[c]⟩)
  else (3, S.abs.turn 17))) := Lib.hid (by subst hp; subst hln; rfl)
  rw [hp] at HSI
  rw [hln] at c9
  obtain ⟨z, hz⟩ : ∃ z : Int, (c.toNat : Int) = z := ⟨_, rfl⟩
  have hz0 : 0 ≤ z := by omega
  have hz1 : z ≤ 255 := by omega
  have HZ := Lib.hid hz
  rw [hz] at HSI ⊢
  have hbz := lt_blk hb
  have ca9 : Hid (∀ o, (w.alloc o).cell? ⟨b, 9, none⟩ = some (.bool ln)) := Lib.hid (fun o => by rw [World.cell?_alloc_past _ _ _ hbz]; exact c9)
  clear h hok hp hz hc255 hb hbu hln hln' hbz
  by_cases hA : c = 125
  · have z125 : (z == 125) = true := z_eq HZ.out (k := 125) (by omega) hA
    cases ln with
    | true =>
      have HE2 : Hid (stBehind S.abs c = (0, (S.abs.add (.mk 5 ⟨S.abs.bu.toArray⟩ ⟨#[108, 101, 110]⟩ [] 0)).turn 0)) := Lib.hid (by rw [HE.out, if_pos hA]; simp)
      clear HE hA
      have a9 := ca9.out
      have S1 := Lib.hid (Stp.nob H.out (Kept.alloc w (.cells #[.int .i64 5, .string ⟨S.bu.toArray⟩, .string ⟨#[108, 101, 110]⟩, .slice none 0 0, .slice none 0 0] 49) nob))
      go_enter Try.func42, Try.ntmps42
      go_wp2_with fail
      refine (add_any S1.out.1 (by have := HOT.out; omega) (by have := HOT.out; omega) 5 ⟨S.bu.toArray⟩ ⟨#[108, 101, 110]⟩ none 0 0 [] none 0 0 (.inl ⟨none, 0, rfl, rfl⟩)).mono ?_
      rintro e w' ⟨v1, v2, rfl, hs⟩
      have HS := Lib.hid (S1.out.trans hs)
      clear hs
      go_wp2_with fail
      refine (goes_any HS.out.1 0 (by omega)).mono ?_
      rintro e w' ⟨rfl, hs⟩
      go_wp2
      go_ret
      rw [HE2.out]
      exact ⟨C, _, rfl, HS.out.trans hs, congrArg (fun s => St.turn s 0) (added_abs S (.mk 5 ⟨S.bu.toArray⟩ ⟨#[108, 101, 110]⟩ [] 0) v1 v2)⟩
    | false =>
      have HE2 : Hid (stBehind S.abs c = (0, (S.abs.add (.mk 5 ⟨S.abs.bu.toArray⟩ ⟨#[]⟩ [] 0)).turn 0)) := Lib.hid (by rw [HE.out, if_pos hA]; simp)
      clear HE hA
      have a9 := ca9.out
      have S1 := Lib.hid (Stp.nob H.out (Kept.alloc w (.cells #[.int .i64 5, .string ⟨S.bu.toArray⟩, .string ⟨#[]⟩, .slice none 0 0, .slice none 0 0] 49) nob))
      go_enter Try.func42, Try.ntmps42
      go_wp2_with fail
      refine (add_any S1.out.1 (by have := HOT.out; omega) (by have := HOT.out; omega) 5 ⟨S.bu.toArray⟩ ⟨#[]⟩ none 0 0 [] none 0 0 (.inl ⟨none, 0, rfl, rfl⟩)).mono ?_
      rintro e w' ⟨v1, v2, rfl, hs⟩
      have HS := Lib.hid (S1.out.trans hs)
      clear hs
      go_wp2_with fail
      refine (goes_any HS.out.1 0 (by omega)).mono ?_
      rintro e w' ⟨rfl, hs⟩
      go_wp2
      go_ret
      rw [HE2.out]
      exact ⟨C, _, rfl, HS.out.trans hs, congrArg (fun s => St.turn s 0) (added_abs S (.mk 5 ⟨S.bu.toArray⟩ ⟨#[]⟩ [] 0) v1 v2)⟩
  have z125 : (z == 125) = false := z_ne HZ.out (k := 125) (by omega) hA
  cases ln with
  | true =>
    have HE2 : Hid (stBehind S.abs c = (3, S.abs.turn 17)) := Lib.hid (by rw [HE.out, if_neg hA]; simp)
    clear HE hA
    go_enter Try.func42, Try.ntmps42
    go_wp2_with fail
    refine (wrong_any H.out).mono ?_
    rintro e w' ⟨rfl, hs⟩
    go_wp2
    go_ret
    rw [HE2.out]
    exact ⟨C, _, rfl, hs, rfl⟩
  | false =>
    have HE2 := Lib.hid (HE.out.trans (if_neg hA))
    clear HE hA
    by_cases h58 : c = 58
    · have z58 : (z == 58) = true := z_eq HZ.out (k := 58) (by omega) h58
      have HE3 : Hid (stBehind S.abs c = (0, S.abs.turn 10)) := Lib.hid (by rw [HE2.out]; simp [h58])
      clear HE2 h58
      go_enter Try.func42, Try.ntmps42
      go_wp2_with fail
      refine (goes_any H.out 10 (by omega)).mono ?_
      rintro e w' ⟨rfl, hs⟩
      go_wp2
      go_ret
      rw [HE3.out]
      exact ⟨C, _, rfl, hs, rfl⟩
    have z58 : (z == 58) = false := z_ne HZ.out (k := 58) (by omega) h58
    by_cases h2 : c = 37 ∨ c = 35
    · have HE3 : Hid (stBehind S.abs c = (0, {S.abs with cu := z, kd := 11})) := Lib.hid (by rw [HE2.out, ← HZ.out]; simp [h58, h2])
      have key : (z == 37) = true ∨ ((z == 37) = false ∧ (z == 35) = true) := by
        by_cases h0 : c = 37
        · exact .inl (z_eq HZ.out (k := 37) (by omega) h0)
        · rcases h2 with h | h
          · exact absurd h h0
          · exact .inr ⟨z_ne HZ.out (k := 37) (by omega) h0, z_eq HZ.out (k := 35) (by omega) h⟩
      clear HE2 h58 h2
      have S1 := Lib.hid (cu_step H.out z)
      rcases key with z37 | ⟨z37, z35⟩
      all_goals
        go_enter Try.func42, Try.ntmps42
        go_wp2_with fail
        refine (goes_any S1.out.1 11 (by omega)).mono ?_
        rintro e w' ⟨rfl, hs⟩
        go_wp2
        go_ret
        rw [HE3.out]
        exact ⟨C, _, rfl, S1.out.trans hs, rfl⟩
    have z37 : (z == 37) = false := z_ne HZ.out (k := 37) (by omega) (fun e => h2 (.inl e))
    have z35 : (z == 35) = false := z_ne HZ.out (k := 35) (by omega) (fun e => h2 (.inr e))
    have HE3 : Hid (stBehind S.abs c = if p = true then (0, S.abs.push 2 ⟨S.abs.bu.toArray⟩ ⟨#[c]⟩) else (3, S.abs.turn 17)) := Lib.hid (by rw [HE2.out]; simp [h58, h2])
    clear HE2 h58 h2
    have S1 := Lib.hid (Stp.nob H.out (Kept.alloc w (.cells #[.int .u8 z] 5) nob))
    have hcn := conv_new [c] 1 (alloc_blk w (.cells #[.int .u8 (c.toNat : Int)] 5))
    rw [HZ.out] at hcn
    have hcn' : (Go.convert 51 9 (.slice (some ⟨w.heap.size, 0, none⟩) 1 1)).run Try.prog (w.alloc (.cells #[.int .u8 z] 5)) = Result.ok (Value.string ⟨#[c]⟩) (w.alloc (.cells #[.int .u8 z] 5)) := hcn
    clear hcn
    go_enter Try.func42, Try.ntmps42
    go_wp2_with fail
    refine (HSI.out _).mono ?_
    rintro e w' ⟨rfl, rfl⟩
    cases p with
    | false =>
      go_wp2_with fail
      refine (wrong_any H.out).mono ?_
      rintro e w' ⟨rfl, hs⟩
      go_wp2
      go_ret
      rw [HE3.out]
      exact ⟨C, _, rfl, hs, rfl⟩
    | true =>
      go_wp2_with fail
      refine (operator_any S1.out.1 HO.out ⟨#[c]⟩).mono ?_
      rintro e w' hs
      obtain ⟨C', S', rfl, e2, e3⟩ := Pushed.ret hs
      go_wp2
      go_ret
      rw [HE3.out]
      exact ⟨C', S', rfl, S1.out.trans e2, e3⟩
end Go.Proofs.Ytbmapjgajecgfaa
set_option linter.unusedVariables false
set_option linter.unusedSimpArgs false
namespace Go.Proofs.Ytbmapjgajecgfaa
open Go.RowKit
/-- As AF, the byte as a number. -/
structure AZ (B : Nat) (w : World) (b : Nat) (j : Nat) (v : Value) (L : List UInt8) (z : Int) (a : Option Addr) (cap : Nat) : Prop where
  v : v = .slice a L.length cap
  own : (w.alloc (.cells #[.int .u8 z] 5)).ownsRow B 5 1 (.slice a L.length cap) L.length (bv L)
  c0 : (w.alloc (.cells #[.int .u8 z] 5)).cell? ⟨b, j, none⟩ = some (.slice a L.length cap)
  f0 : (w.alloc (.cells #[.int .u8 z] 5)).frozen? ⟨b, j, none⟩ = false
  cw : w.cell? ⟨b, j, none⟩ = some (.slice a L.length cap)
  lt : b < (w.alloc (.cells #[.int .u8 z] 5)).heap.size
  ne : some b ≠ (Value.slice a L.length cap).ownBlock
  hB : B ≤ (w.alloc (.cells #[.int .u8 z] 5)).heap.size
  new : ∀ i u, ([Value.int .u8 z])[i]? = some u → (w.alloc (.cells #[.int .u8 z] 5)).cell? ((⟨w.heap.size, 0, none⟩ : Addr).add i) = some u
theorem AF.z {B : Nat} {w : World} {b : Nat} {j : Nat} {v : Value} {L : List UInt8} {c : UInt8} {a : Option Addr} {cap : Nat} (h : AF B w b j v L c a cap) {z : Int} (hz : (c.toNat : Int) = z) : AZ B w b j v L z a cap := by
  subst hz
  exact ⟨h.v, h.own, h.c0, h.f0, h.cw, h.lt, h.ne, h.hB, h.new⟩
theorem app_bz {B : Nat} {w w2 : World} {b : Nat} {C : Nat → Prop} {S : Sn} {c : UInt8} {a : Option Addr} {cap g cap2 : Nat} {z : Int} (hz : (c.toNat : Int) = z) (h : Fam B w C (S.dat b)) (hf : AF B w b 7 S.buv S.bu c a cap)
    (own2 : w2.ownsRow B 5 1 (.slice (some ⟨g, 0, none⟩) (S.bu.length + 1) cap2) (S.bu.length + 1) (bv S.bu ++ [.int .u8 z])) (gr : (w.alloc (.cells #[.int .u8 z] 5)).grownBy w2 (Value.slice a S.bu.length cap).ownBlock) (ls : (Value.slice a S.bu.length cap).ownBlock = some g ∨ g = (w.alloc (.cells #[.int .u8 z] 5)).heap.size) (lt : g < w2.heap.size) :
    Stp B w C (S.dat b) (w2.setCell ⟨b, 7, none⟩ (.slice (some ⟨g, 0, none⟩) (S.bu.length + 1) cap2)) C (({S with bu := S.bu ++ [c], buv := .slice (some ⟨g, 0, none⟩) (S.bu.length + 1) cap2} : Sn).dat b) := by
  subst hz
  exact app_bu h hf own2 gr ls lt
theorem app_tz {B : Nat} {w w2 : World} {b : Nat} {C : Nat → Prop} {S : Sn} {c : UInt8} {a : Option Addr} {cap g cap2 : Nat} {z : Int} (hz : (c.toNat : Int) = z) (h : Fam B w C (S.dat b)) (hf : AF B w b 3 S.tkv S.tk c a cap)
    (own2 : w2.ownsRow B 5 1 (.slice (some ⟨g, 0, none⟩) (S.tk.length + 1) cap2) (S.tk.length + 1) (bv S.tk ++ [.int .u8 z])) (gr : (w.alloc (.cells #[.int .u8 z] 5)).grownBy w2 (Value.slice a S.tk.length cap).ownBlock) (ls : (Value.slice a S.tk.length cap).ownBlock = some g ∨ g = (w.alloc (.cells #[.int .u8 z] 5)).heap.size) (lt : g < w2.heap.size) :
    Stp B w C (S.dat b) (w2.setCell ⟨b, 3, none⟩ (.slice (some ⟨g, 0, none⟩) (S.tk.length + 1) cap2)) C (({S with tk := S.tk ++ [c], tkv := .slice (some ⟨g, 0, none⟩) (S.tk.length + 1) cap2} : Sn).dat b) := by
  subst hz
  exact app_tk h hf own2 gr ls lt
theorem one_z (z : Int) : ∀ u ∈ [Value.int .u8 z], u.oneCell' = true := by
  intro u hu
  obtain rfl : u = _ := by simpa using hu
  rfl
def stSingle (s : St) (c : UInt8) : Int × St :=
  if c = 0 then (3, s.turn 17) else if c = 39 then (0, (s.add (.mk 3 ⟨s.bu.toArray⟩ ⟨#[]⟩ [] 0)).turn 0) else (0, {s with bu := s.bu ++ [c], tk := s.tk ++ [c]})
set_option maxRecDepth 100000 in
set_option maxHeartbeats 8000000 in
theorem single_any {B : Nat} {w : World} {b : Nat} {C : Nat → Prop} {S : Sn} (h : Fam B w C (S.dat b)) (hok : S.ok) (c : UInt8) :
    Calls Try.prog 45 #[.pointer (some ⟨b, 0, none⟩), .int .u8 (c.toNat : Int)] w (Ret B w b C S (stSingle S.abs c)) := by
  obtain ⟨ti, hi, hz0, hz1, hz2⟩ := info_parts info_u8
  have hb := hd_at h
  have c7 : w.cell? ⟨b, 7, none⟩ = some S.buv := by rw [cell_blk hb]; rfl
  have hcv := conv_own (h.comp .bu : w.ownsRow B 5 1 S.buv S.bu.length (bv S.bu))
  obtain ⟨a, cap, hf⟩ := af_bu h c
  have hbu := hf.v
  rw [hbu] at c7 hcv
  have H := Lib.hid h
  have hc255 := c.toNat_lt
  have HO := Lib.hid hok
  have HOT := Lib.hid hok.tp
  have HF := Lib.hid hf
  obtain ⟨z, hz⟩ : ∃ z : Int, (c.toNat : Int) = z := ⟨_, rfl⟩
  have hzl : 0 ≤ z := by omega
  have hzh : z ≤ 255 := by omega
  have HZ := Lib.hid hz
  rw [hz]
  clear h hok hz hc255 hb hbu hf
  by_cases h0 : c = 0
  · have z0 : (z == 0) = true := z_eq HZ.out (k := 0) (by omega) h0
    have HE : Hid (stSingle S.abs c = (3, S.abs.turn 17)) := Lib.hid (by unfold stSingle; rw [if_pos h0])
    clear h0
    go_enter Try.func45, Try.ntmps45
    go_wp2_with fail
    refine (wrong_any H.out).mono ?_
    rintro e w' ⟨rfl, hs⟩
    go_wp2
    go_ret
    rw [HE.out]
    exact ⟨C, _, rfl, hs, rfl⟩
  have z0 : (z == 0) = false := z_ne HZ.out (k := 0) (by omega) h0
  by_cases h39 : c = 39
  · have z39 : (z == 39) = true := z_eq HZ.out (k := 39) (by omega) h39
    have HE : Hid (stSingle S.abs c = (0, (S.abs.add (.mk 3 ⟨S.abs.bu.toArray⟩ ⟨#[]⟩ [] 0)).turn 0)) := Lib.hid (by unfold stSingle; rw [if_neg h0, if_pos h39])
    clear h0 h39
    go_enter Try.func45, Try.ntmps45
    go_wp2_with fail
    refine (add_any H.out (by have := HOT.out; omega) (by have := HOT.out; omega) 3 ⟨S.bu.toArray⟩ ⟨#[]⟩ none 0 0 [] none 0 0 (.inl ⟨none, 0, rfl, rfl⟩)).mono ?_
    rintro e w' ⟨v1, v2, rfl, hs⟩
    have HS := Lib.hid hs
    clear hs
    go_wp2_with fail
    refine (goes_any HS.out.1 0 (by omega)).mono ?_
    rintro e w' ⟨rfl, hs⟩
    go_wp2
    go_ret
    rw [HE.out]
    exact ⟨C, _, rfl, HS.out.trans hs, congrArg (fun s => St.turn s 0) (added_abs S (.mk 3 ⟨S.bu.toArray⟩ ⟨#[]⟩ [] 0) v1 v2)⟩
  have z39 : (z == 39) = false := z_ne HZ.out (k := 39) (by omega) h39
  have HE : Hid (stSingle S.abs c = (0, {S.abs with bu := S.abs.bu ++ [c], tk := S.abs.tk ++ [c]})) := Lib.hid (by unfold stSingle; rw [if_neg h0, if_neg h39])
  clear h0 h39
  have AZ1 := Lib.hid (HF.out.z HZ.out)
  clear hcv
  go_enter Try.func45, Try.ntmps45
  go_wp2_with (at_builtin; refine wpList_append_lies _ rfl _ _ 51 rfl B 5 ti (.int .u8 0) 1 1 Try.underlying51 hi hz0 hz1 hz2 rfl (by decide) _ _ _ rfl AZ1.out.own ⟨w.heap.size, 0, none⟩ 1 1 [.int .u8 z] rfl rfl ?c2 (one_z z) (by omega) ?c3 ?c4 ?c5 _ rfl ?_)
  case c3 => unfold maxLen; have := HO.out.2.2.2.1; omega
  case c4 => have := HO.out.2.2.2.1; omega
  case c5 => have := AZ1.out.hB; simpa using this
  intro g1 cap1 w2 own2 gr2 ls2 lt2
  have S2 := Lib.hid (app_bz HZ.out H.out HF.out own2 gr2 (by simpa using ls2) lt2)
  have n2 := (gr2.cell_far ⟨b, 7, none⟩ AZ1.out.lt AZ1.out.ne).trans AZ1.out.c0
  have q2 := (gr2.frozen_far ⟨b, 7, none⟩ AZ1.out.lt AZ1.out.ne).trans AZ1.out.f0
  obtain ⟨a3, cap3, hf3⟩ := af_tk S2.out.1 c
  have AZ3 := Lib.hid (hf3.z HZ.out)
  have HF3 := Lib.hid hf3
  have cw3 := AZ3.out.cw
  clear own2 gr2 ls2 lt2 hf3
  go_wp2_with (at_builtin; refine wpList_append_lies _ rfl _ _ 51 rfl B 5 ti (.int .u8 0) 1 1 Try.underlying51 hi hz0 hz1 hz2 rfl (by decide) _ _ _ rfl AZ3.out.own ⟨w2.heap.size, 0, none⟩ 1 1 [.int .u8 z] rfl rfl ?d2 (one_z z) (by omega) ?d3 ?d4 ?d5 _ rfl ?_)
  case d3 => unfold maxLen; have := HO.out.2.1; show S.tk.length + 1 ≤ _; omega
  case d4 => have := HO.out.2.1; show S.tk.length ≤ _; omega
  case d5 => have := AZ3.out.hB; simpa [World.setCell] using this
  intro g4 cap4 w4 own4 gr4 ls4 lt4
  have S4 := Lib.hid (S2.out.trans (app_tz HZ.out S2.out.1 HF3.out own4 gr4 (by simpa [World.setCell] using ls4) lt4))
  have n4 := (gr4.cell_far ⟨b, 3, none⟩ AZ3.out.lt AZ3.out.ne).trans AZ3.out.c0
  have q4 := (gr4.frozen_far ⟨b, 3, none⟩ AZ3.out.lt AZ3.out.ne).trans AZ3.out.f0
  clear own4 gr4 ls4 lt4
  go_wp2
  go_ret
  rw [HE.out]
  exact ⟨C, _, rfl, S4.out, rfl⟩
end Go.Proofs.Ytbmapjgajecgfaa

/-
  What is proved: lemmas: a byte is appended to a list of a machine. Conditions: those of each theorem.
-/
import Derived.Test.YtbmapjgajecgfaaW22
set_option linter.unusedVariables false
set_option linter.unusedSimpArgs false
namespace Go.Proofs.Ytbmapjgajecgfaa
open Go.RowKit
/-- What a list of the machine's gives before a byte is appended to it. -/
structure AF (B : Nat) (w : World) (b : Nat) (j : Nat) (v : Value) (L : List UInt8) (c : UInt8) (a : Option Addr) (cap : Nat) : Prop where
  v : v = .slice a L.length cap
  own : (w.alloc (.cells #[.int .u8 (c.toNat : Int)] 5)).ownsRow B 5 1 (.slice a L.length cap) L.length (bv L)
  c0 : (w.alloc (.cells #[.int .u8 (c.toNat : Int)] 5)).cell? ⟨b, j, none⟩ = some (.slice a L.length cap)
  f0 : (w.alloc (.cells #[.int .u8 (c.toNat : Int)] 5)).frozen? ⟨b, j, none⟩ = false
  cw : w.cell? ⟨b, j, none⟩ = some (.slice a L.length cap)
  lt : b < (w.alloc (.cells #[.int .u8 (c.toNat : Int)] 5)).heap.size
  ne : some b ≠ (Value.slice a L.length cap).ownBlock
  hB : B ≤ (w.alloc (.cells #[.int .u8 (c.toNat : Int)] 5)).heap.size
  new : ∀ i u, ([Value.int .u8 (c.toNat : Int)])[i]? = some u → (w.alloc (.cells #[.int .u8 (c.toNat : Int)] 5)).cell? ((⟨w.heap.size, 0, none⟩ : Addr).add i) = some u

theorem af_tk {B : Nat} {w : World} {b : Nat} {C : Nat → Prop} {S : Sn} (h : Fam B w C (S.dat b)) (c : UInt8) : ∃ a cap, AF B w b 3 S.tkv S.tk c a cap := by
  have ho : w.ownsRow B 5 1 S.tkv S.tk.length (bv S.tk) := h.comp .tk
  obtain ⟨a, cap, e⟩ := own_slice ho
  have hb := hd_at h
  have s1 := Stp.nob h (Kept.alloc w (.cells #[.int .u8 (c.toNat : Int)] 5) nob)
  have ho1 : (w.alloc (.cells #[.int .u8 (c.toNat : Int)] 5)).ownsRow B 5 1 S.tkv S.tk.length (bv S.tk) := s1.1.comp .tk
  have hb1 := hd_at s1.1
  have hBw : B ≤ w.heap.size := by have := h.bnd b (.inr ⟨.hd, rfl⟩); omega
  refine ⟨a, cap, e, by rw [← e]; exact ho1, by rw [cell_blk hb1, ← e]; rfl, frz_blk hb1 3, by rw [cell_blk hb, ← e]; rfl, lt_blk hb1, fun e2 => ?_, by rw [World.size_alloc]; omega, World.news_of_block (cs := #[.int .u8 (c.toNat : Int)]) (alloc_blk w _)⟩
  have e1 : (S.dat b .tk).blk = some b := by show S.tkv.ownBlock = _; rw [e, ← e2]
  have := h.inj .tk .hd b e1 rfl
  simp at this
theorem app_tk {B : Nat} {w w2 : World} {b : Nat} {C : Nat → Prop} {S : Sn} {c : UInt8} {a : Option Addr} {cap g cap2 : Nat} (h : Fam B w C (S.dat b)) (hf : AF B w b 3 S.tkv S.tk c a cap)
    (own2 : w2.ownsRow B 5 1 (.slice (some ⟨g, 0, none⟩) (S.tk.length + 1) cap2) (S.tk.length + 1) (bv S.tk ++ [.int .u8 (c.toNat : Int)])) (gr : (w.alloc (.cells #[.int .u8 (c.toNat : Int)] 5)).grownBy w2 (Value.slice a S.tk.length cap).ownBlock) (ls : (Value.slice a S.tk.length cap).ownBlock = some g ∨ g = (w.alloc (.cells #[.int .u8 (c.toNat : Int)] 5)).heap.size) (lt : g < w2.heap.size) :
    Stp B w C (S.dat b) (w2.setCell ⟨b, 3, none⟩ (.slice (some ⟨g, 0, none⟩) (S.tk.length + 1) cap2)) C (({S with tk := S.tk ++ [c], tkv := .slice (some ⟨g, 0, none⟩) (S.tk.length + 1) cap2} : Sn).dat b) := by
  have s1 := Stp.nob h (Kept.alloc w (.cells #[.int .u8 (c.toNat : Int)] 5) nob)
  have s2 := Stp.app s1.1 (t := .tk) (e := 5) (size := 1) (v := S.tkv) rfl (by rw [hf.v]; exact gr) own2 (by rw [hf.v]; exact ls) lt hf.hB
  have s3 := Stp.setHead s2.1 (t := .hd) (b := b) (ty := 53) (cs := S.head b (nextv b S.kd)) (by rw [upd_ne (by simp)]; rfl) 3 (.slice (some ⟨g, 0, none⟩) (S.tk.length + 1) cap2)
  refine Eq.mp (congrArg (fun D => Stp B w C (S.dat b) _ C D) ?_) ((s1.trans s2).trans s3)
  have e1 : bv (S.tk ++ [c]) = bv S.tk ++ [.int .u8 (c.toNat : Int)] := by simp [bv]
  have e2 : (S.tk ++ [c]).length = S.tk.length + 1 := by simp
  funext t
  cases t with
  | hd => rw [upd_at]; rfl
  | tk =>
    rw [upd_ne (by simp), upd_at]
    show _ = Dat.row 5 1 _ (S.tk ++ [c]).length (bv (S.tk ++ [c]))
    rw [e1, e2]
  | _ => simp [upd] <;> rfl

theorem af_pl {B : Nat} {w : World} {b : Nat} {C : Nat → Prop} {S : Sn} (h : Fam B w C (S.dat b)) (c : UInt8) : ∃ a cap, AF B w b 4 S.plv S.pl c a cap := by
  have ho : w.ownsRow B 5 1 S.plv S.pl.length (bv S.pl) := h.comp .pl
  obtain ⟨a, cap, e⟩ := own_slice ho
  have hb := hd_at h
  have s1 := Stp.nob h (Kept.alloc w (.cells #[.int .u8 (c.toNat : Int)] 5) nob)
  have ho1 : (w.alloc (.cells #[.int .u8 (c.toNat : Int)] 5)).ownsRow B 5 1 S.plv S.pl.length (bv S.pl) := s1.1.comp .pl
  have hb1 := hd_at s1.1
  have hBw : B ≤ w.heap.size := by have := h.bnd b (.inr ⟨.hd, rfl⟩); omega
  refine ⟨a, cap, e, by rw [← e]; exact ho1, by rw [cell_blk hb1, ← e]; rfl, frz_blk hb1 4, by rw [cell_blk hb, ← e]; rfl, lt_blk hb1, fun e2 => ?_, by rw [World.size_alloc]; omega, World.news_of_block (cs := #[.int .u8 (c.toNat : Int)]) (alloc_blk w _)⟩
  have e1 : (S.dat b .pl).blk = some b := by show S.plv.ownBlock = _; rw [e, ← e2]
  have := h.inj .pl .hd b e1 rfl
  simp at this
theorem app_pl {B : Nat} {w w2 : World} {b : Nat} {C : Nat → Prop} {S : Sn} {c : UInt8} {a : Option Addr} {cap g cap2 : Nat} (h : Fam B w C (S.dat b)) (hf : AF B w b 4 S.plv S.pl c a cap)
    (own2 : w2.ownsRow B 5 1 (.slice (some ⟨g, 0, none⟩) (S.pl.length + 1) cap2) (S.pl.length + 1) (bv S.pl ++ [.int .u8 (c.toNat : Int)])) (gr : (w.alloc (.cells #[.int .u8 (c.toNat : Int)] 5)).grownBy w2 (Value.slice a S.pl.length cap).ownBlock) (ls : (Value.slice a S.pl.length cap).ownBlock = some g ∨ g = (w.alloc (.cells #[.int .u8 (c.toNat : Int)] 5)).heap.size) (lt : g < w2.heap.size) :
    Stp B w C (S.dat b) (w2.setCell ⟨b, 4, none⟩ (.slice (some ⟨g, 0, none⟩) (S.pl.length + 1) cap2)) C (({S with pl := S.pl ++ [c], plv := .slice (some ⟨g, 0, none⟩) (S.pl.length + 1) cap2} : Sn).dat b) := by
  have s1 := Stp.nob h (Kept.alloc w (.cells #[.int .u8 (c.toNat : Int)] 5) nob)
  have s2 := Stp.app s1.1 (t := .pl) (e := 5) (size := 1) (v := S.plv) rfl (by rw [hf.v]; exact gr) own2 (by rw [hf.v]; exact ls) lt hf.hB
  have s3 := Stp.setHead s2.1 (t := .hd) (b := b) (ty := 53) (cs := S.head b (nextv b S.kd)) (by rw [upd_ne (by simp)]; rfl) 4 (.slice (some ⟨g, 0, none⟩) (S.pl.length + 1) cap2)
  refine Eq.mp (congrArg (fun D => Stp B w C (S.dat b) _ C D) ?_) ((s1.trans s2).trans s3)
  have e1 : bv (S.pl ++ [c]) = bv S.pl ++ [.int .u8 (c.toNat : Int)] := by simp [bv]
  have e2 : (S.pl ++ [c]).length = S.pl.length + 1 := by simp
  funext t
  cases t with
  | hd => rw [upd_at]; rfl
  | pl =>
    rw [upd_ne (by simp), upd_at]
    show _ = Dat.row 5 1 _ (S.pl ++ [c]).length (bv (S.pl ++ [c]))
    rw [e1, e2]
  | _ => simp [upd] <;> rfl

theorem af_bu {B : Nat} {w : World} {b : Nat} {C : Nat → Prop} {S : Sn} (h : Fam B w C (S.dat b)) (c : UInt8) : ∃ a cap, AF B w b 7 S.buv S.bu c a cap := by
  have ho : w.ownsRow B 5 1 S.buv S.bu.length (bv S.bu) := h.comp .bu
  obtain ⟨a, cap, e⟩ := own_slice ho
  have hb := hd_at h
  have s1 := Stp.nob h (Kept.alloc w (.cells #[.int .u8 (c.toNat : Int)] 5) nob)
  have ho1 : (w.alloc (.cells #[.int .u8 (c.toNat : Int)] 5)).ownsRow B 5 1 S.buv S.bu.length (bv S.bu) := s1.1.comp .bu
  have hb1 := hd_at s1.1
  have hBw : B ≤ w.heap.size := by have := h.bnd b (.inr ⟨.hd, rfl⟩); omega
  refine ⟨a, cap, e, by rw [← e]; exact ho1, by rw [cell_blk hb1, ← e]; rfl, frz_blk hb1 7, by rw [cell_blk hb, ← e]; rfl, lt_blk hb1, fun e2 => ?_, by rw [World.size_alloc]; omega, World.news_of_block (cs := #[.int .u8 (c.toNat : Int)]) (alloc_blk w _)⟩
  have e1 : (S.dat b .bu).blk = some b := by show S.buv.ownBlock = _; rw [e, ← e2]
  have := h.inj .bu .hd b e1 rfl
  simp at this
theorem app_bu {B : Nat} {w w2 : World} {b : Nat} {C : Nat → Prop} {S : Sn} {c : UInt8} {a : Option Addr} {cap g cap2 : Nat} (h : Fam B w C (S.dat b)) (hf : AF B w b 7 S.buv S.bu c a cap)
    (own2 : w2.ownsRow B 5 1 (.slice (some ⟨g, 0, none⟩) (S.bu.length + 1) cap2) (S.bu.length + 1) (bv S.bu ++ [.int .u8 (c.toNat : Int)])) (gr : (w.alloc (.cells #[.int .u8 (c.toNat : Int)] 5)).grownBy w2 (Value.slice a S.bu.length cap).ownBlock) (ls : (Value.slice a S.bu.length cap).ownBlock = some g ∨ g = (w.alloc (.cells #[.int .u8 (c.toNat : Int)] 5)).heap.size) (lt : g < w2.heap.size) :
    Stp B w C (S.dat b) (w2.setCell ⟨b, 7, none⟩ (.slice (some ⟨g, 0, none⟩) (S.bu.length + 1) cap2)) C (({S with bu := S.bu ++ [c], buv := .slice (some ⟨g, 0, none⟩) (S.bu.length + 1) cap2} : Sn).dat b) := by
  have s1 := Stp.nob h (Kept.alloc w (.cells #[.int .u8 (c.toNat : Int)] 5) nob)
  have s2 := Stp.app s1.1 (t := .bu) (e := 5) (size := 1) (v := S.buv) rfl (by rw [hf.v]; exact gr) own2 (by rw [hf.v]; exact ls) lt hf.hB
  have s3 := Stp.setHead s2.1 (t := .hd) (b := b) (ty := 53) (cs := S.head b (nextv b S.kd)) (by rw [upd_ne (by simp)]; rfl) 7 (.slice (some ⟨g, 0, none⟩) (S.bu.length + 1) cap2)
  refine Eq.mp (congrArg (fun D => Stp B w C (S.dat b) _ C D) ?_) ((s1.trans s2).trans s3)
  have e1 : bv (S.bu ++ [c]) = bv S.bu ++ [.int .u8 (c.toNat : Int)] := by simp [bv]
  have e2 : (S.bu ++ [c]).length = S.bu.length + 1 := by simp
  funext t
  cases t with
  | hd => rw [upd_at]; rfl
  | bu =>
    rw [upd_ne (by simp), upd_at]
    show _ = Dat.row 5 1 _ (S.bu ++ [c]).length (bv (S.bu ++ [c]))
    rw [e1, e2]
  | _ => simp [upd] <;> rfl
end Go.Proofs.Ytbmapjgajecgfaa

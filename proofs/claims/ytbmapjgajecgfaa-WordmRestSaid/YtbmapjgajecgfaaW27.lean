/-
  What is proved: what single does. Conditions: those of each theorem.
-/
import Derived.Test.YtbmapjgajecgfaaW26
set_option linter.unusedVariables false
set_option linter.unusedSimpArgs false
namespace Go.Proofs.Ytbmapjgajecgfaa
open Go.RowKit
/-- As AF, the byte as a number. -/
structure AZ (B : Nat) (w : World) (b : Nat) (j : Nat) (v : Value) (L : List UInt8) (z : Int) (a : Option Addr) (cap : Nat) : Prop where
  v : v = .slice a L.length cap
  own : (w.alloc (.cells #[.int .u8 z] 5)).ownsRow B 5 1 (.slice a L.length cap) L.length (bv L)
  c0 : (w.alloc (.cells #[.int .u8 z] 5)).cell? ⟨b, j, none⟩ = some (.slice a L.length cap)
  f0 : (w.alloc (.cells #[.int .u8 z] 5)).frozen? ⟨b, j, none⟩ = false
  cw : w.cell? ⟨b, j, none⟩ = some (.slice a L.length cap)
  lt : b < (w.alloc (.cells #[.int .u8 z] 5)).heap.size
  ne : some b ≠ (Value.slice a L.length cap).ownBlock
  hB : B ≤ (w.alloc (.cells #[.int .u8 z] 5)).heap.size
  new : ∀ i u, ([Value.int .u8 z])[i]? = some u → (w.alloc (.cells #[.int .u8 z] 5)).cell? ((⟨w.heap.size, 0, none⟩ : Addr).add i) = some u
theorem AF.z {B : Nat} {w : World} {b : Nat} {j : Nat} {v : Value} {L : List UInt8} {c : UInt8} {a : Option Addr} {cap : Nat} (h : AF B w b j v L c a cap) {z : Int} (hz : (c.toNat : Int) = z) : AZ B w b j v L z a cap := by
  subst hz
  exact ⟨h.v, h.own, h.c0, h.f0, h.cw, h.lt, h.ne, h.hB, h.new⟩
theorem app_bz {B : Nat} {w w2 : World} {b : Nat} {C : Nat → Prop} {S : Sn} {c : UInt8} {a : Option Addr} {cap g cap2 : Nat} {z : Int} (hz : (c.toNat : Int) = z) (h : Fam B w C (S.dat b)) (hf : AF B w b 7 S.buv S.bu c a cap)
    (own2 : w2.ownsRow B 5 1 (.slice (some ⟨g, 0, none⟩) (S.bu.length + 1) cap2) (S.bu.length + 1) (bv S.bu ++ [.int .u8 z])) (gr : (w.alloc (.cells #[.int .u8 z] 5)).grownBy w2 (Value.slice a S.bu.length cap).ownBlock) (ls : (Value.slice a S.bu.length cap).ownBlock = some g ∨ g = (w.alloc (.cells #[.int .u8 z] 5)).heap.size) (lt : g < w2.heap.size) :
    Stp B w C (S.dat b) (w2.setCell ⟨b, 7, none⟩ (.slice (some ⟨g, 0, none⟩) (S.bu.length + 1) cap2)) C (({S with bu := S.bu ++ [c], buv := .slice (some ⟨g, 0, none⟩) (S.bu.length + 1) cap2} : Sn).dat b) := by
  subst hz
  exact app_bu h hf own2 gr ls lt
theorem app_tz {B : Nat} {w w2 : World} {b : Nat} {C : Nat → Prop} {S : Sn} {c : UInt8} {a : Option Addr} {cap g cap2 : Nat} {z : Int} (hz : (c.toNat : Int) = z) (h : Fam B w C (S.dat b)) (hf : AF B w b 3 S.tkv S.tk c a cap)
    (own2 : w2.ownsRow B 5 1 (.slice (some ⟨g, 0, none⟩) (S.tk.length + 1) cap2) (S.tk.length + 1) (bv S.tk ++ [.int .u8 z])) (gr : (w.alloc (.cells #[.int .u8 z] 5)).grownBy w2 (Value.slice a S.tk.length cap).ownBlock) (ls : (Value.slice a S.tk.length cap).ownBlock = some g ∨ g = (w.alloc (.cells #[.int .u8 z] 5)).heap.size) (lt : g < w2.heap.size) :
    Stp B w C (S.dat b) (w2.setCell ⟨b, 3, none⟩ (.slice (some ⟨g, 0, none⟩) (S.tk.length + 1) cap2)) C (({S with tk := S.tk ++ [c], tkv := .slice (some ⟨g, 0, none⟩) (S.tk.length + 1) cap2} : Sn).dat b) := by
  subst hz
  exact app_tk h hf own2 gr ls lt
theorem one_z (z : Int) : ∀ u ∈ [Value.int .u8 z], u.oneCell' = true := by
  intro u hu
  obtain rfl : u = _ := by simpa using hu
  rfl
def stSingle (s : St) (c : UInt8) : Int × St :=
  if c = 0 then (3, s.turn 17) else if c = 39 then (0, (s.add (.mk 3 ⟨s.bu.toArray⟩ ⟨#[]⟩ [] 0)).turn 0) else (0, {s with bu := s.bu ++ [c], tk := s.tk ++ [c]})
set_option maxRecDepth 100000 in
set_option maxHeartbeats 8000000 in
theorem single_any {B : Nat} {w : World} {b : Nat} {C : Nat → Prop} {S : Sn} (h : Fam B w C (S.dat b)) (hok : S.ok) (c : UInt8) :
    Calls Try.prog 45 #[.pointer (some ⟨b, 0, none⟩), .int .u8 (c.toNat : Int)] w (Ret B w b C S (stSingle S.abs c)) := by
  obtain ⟨ti, hi, hz0, hz1, hz2⟩ := info_parts info_u8
  have hb := hd_at h
  have c7 : w.cell? ⟨b, 7, none⟩ = some S.buv := by rw [cell_blk hb]; rfl
  have hcv := conv_own (h.comp .bu : w.ownsRow B 5 1 S.buv S.bu.length (bv S.bu))
  obtain ⟨a, cap, hf⟩ := af_bu h c
  have hbu := hf.v
  rw [hbu] at c7 hcv
  have H := Lib.hid h
  have hc255 := c.toNat_lt
  have HO := Lib.hid hok
  have HOT := Lib.hid hok.tp
  have HF := Lib.hid hf
  obtain ⟨z, hz⟩ : ∃ z : Int, (c.toNat : Int) = z := ⟨_, rfl⟩
  have hzl : 0 ≤ z := by omega
  have hzh : z ≤ 255 := by omega
  have HZ := Lib.hid hz
  rw [hz]
  clear h hok hz hc255 hb hbu hf
  by_cases h0 : c = 0
  · have z0 : (z == 0) = true := z_eq HZ.out (k := 0) (by omega) h0
    have HE : Hid (stSingle S.abs c = (3, S.abs.turn 17)) := Lib.hid (by unfold stSingle; rw [if_pos h0])
    clear h0
    go_enter Try.func45, Try.ntmps45
    go_wp2_with fail
    refine (wrong_any H.out).mono ?_
    rintro e w' ⟨rfl, hs⟩
    go_wp2
    go_ret
    rw [HE.out]
    exact ⟨C, _, rfl, hs, rfl⟩
  have z0 : (z == 0) = false := z_ne HZ.out (k := 0) (by omega) h0
  by_cases h39 : c = 39
  · have z39 : (z == 39) = true := z_eq HZ.out (k := 39) (by omega) h39
    have HE : Hid (stSingle S.abs c = (0, (S.abs.add (.mk 3 ⟨S.abs.bu.toArray⟩ ⟨#[]⟩ [] 0)).turn 0)) := Lib.hid (by unfold stSingle; rw [if_neg h0, if_pos h39])
    clear h0 h39
    go_enter Try.func45, Try.ntmps45
    go_wp2_with fail
    refine (add_any H.out (by have := HOT.out; omega) (by have := HOT.out; omega) 3 ⟨S.bu.toArray⟩ ⟨#[]⟩ none 0 0 [] none 0 0 (.inl ⟨none, 0, rfl, rfl⟩)).mono ?_
    rintro e w' ⟨v1, v2, rfl, hs⟩
    have HS := Lib.hid hs
    clear hs
    go_wp2_with fail
    refine (goes_any HS.out.1 0 (by omega)).mono ?_
    rintro e w' ⟨rfl, hs⟩
    go_wp2
    go_ret
    rw [HE.out]
    exact ⟨C, _, rfl, HS.out.trans hs, congrArg (fun s => St.turn s 0) (added_abs S (.mk 3 ⟨S.bu.toArray⟩ ⟨#[]⟩ [] 0) v1 v2)⟩
  have z39 : (z == 39) = false := z_ne HZ.out (k := 39) (by omega) h39
  have HE : Hid (stSingle S.abs c = (0, {S.abs with bu := S.abs.bu ++ [c], tk := S.abs.tk ++ [c]})) := Lib.hid (by unfold stSingle; rw [if_neg h0, if_neg h39])
  clear h0 h39
  have AZ1 := Lib.hid (HF.out.z HZ.out)
  clear hcv
  go_enter Try.func45, Try.ntmps45
  go_wp2_with (at_builtin; refine wpList_append_lies _ rfl _ _ 51 rfl B 5 ti (.int .u8 0) 1 1 Try.underlying51 hi hz0 hz1 hz2 rfl (by decide) _ _ _ rfl AZ1.out.own ⟨w.heap.size, 0, none⟩ 1 1 [.int .u8 z] rfl rfl ?c2 (one_z z) (by omega) ?c3 ?c4 ?c5 _ rfl ?_)
  case c3 => unfold maxLen; have := HO.out.2.2.2.1; omega
  case c4 => have := HO.out.2.2.2.1; omega
  case c5 => have := AZ1.out.hB; simpa using this
  intro g1 cap1 w2 own2 gr2 ls2 lt2
  have S2 := Lib.hid (app_bz HZ.out H.out HF.out own2 gr2 (by simpa using ls2) lt2)
  have n2 := (gr2.cell_far ⟨b, 7, none⟩ AZ1.out.lt AZ1.out.ne).trans AZ1.out.c0
  have q2 := (gr2.frozen_far ⟨b, 7, none⟩ AZ1.out.lt AZ1.out.ne).trans AZ1.out.f0
  obtain ⟨a3, cap3, hf3⟩ := af_tk S2.out.1 c
  have AZ3 := Lib.hid (hf3.z HZ.out)
  have HF3 := Lib.hid hf3
  have cw3 := AZ3.out.cw
  clear own2 gr2 ls2 lt2 hf3
  go_wp2_with (at_builtin; refine wpList_append_lies _ rfl _ _ 51 rfl B 5 ti (.int .u8 0) 1 1 Try.underlying51 hi hz0 hz1 hz2 rfl (by decide) _ _ _ rfl AZ3.out.own ⟨w2.heap.size, 0, none⟩ 1 1 [.int .u8 z] rfl rfl ?d2 (one_z z) (by omega) ?d3 ?d4 ?d5 _ rfl ?_)
  case d3 => unfold maxLen; have := HO.out.2.1; show S.tk.length + 1 ≤ _; omega
  case d4 => have := HO.out.2.1; show S.tk.length ≤ _; omega
  case d5 => have := AZ3.out.hB; simpa [World.setCell] using this
  intro g4 cap4 w4 own4 gr4 ls4 lt4
  have S4 := Lib.hid (S2.out.trans (app_tz HZ.out S2.out.1 HF3.out own4 gr4 (by simpa [World.setCell] using ls4) lt4))
  have n4 := (gr4.cell_far ⟨b, 3, none⟩ AZ3.out.lt AZ3.out.ne).trans AZ3.out.c0
  have q4 := (gr4.frozen_far ⟨b, 3, none⟩ AZ3.out.lt AZ3.out.ne).trans AZ3.out.f0
  clear own4 gr4 ls4 lt4
  go_wp2
  go_ret
  rw [HE.out]
  exact ⟨C, _, rfl, S4.out, rfl⟩
end Go.Proofs.Ytbmapjgajecgfaa

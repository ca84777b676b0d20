/-
  What is proved: what lit does. Conditions: those of each theorem.
-/
import Derived.Test.YtbmapjgajecgfaaW3
set_option linter.unusedVariables false
set_option linter.unusedSimpArgs false
namespace Go.Proofs.Ytbmapjgajecgfaa
open Go.RowKit
set_option maxRecDepth 100000 in
theorem lit_any {B : Nat} {w : World} {b : Nat} {C : Nat → Prop} {S : Sn} (h : Fam B w C (S.dat b)) (bs : List UInt8) (ad cap0 : Nat) (hbs : bs ≠ [] ∧ bs.length ≤ 2) (had : w.heap[ad]? = some (.cells (bv bs).toArray 5 (0, 0))) (hno : ¬ Foot C (S.dat b) ad)
    (hl1 : S.tp.li.length ≤ 100000) (hl2 : S.tk.length ≤ 100000) :
    Calls Try.prog 65 #[.pointer (some ⟨b, 0, none⟩), .slice (some ⟨ad, 0, none⟩) bs.length cap0] w fun e w' => ∃ v1 v2, e = .returned (.tuple #[]) ∧ Stp B w C (S.dat b) w' C ({S with tp := {S.tp with li := S.tp.li ++ bs, tv := v1}, tk := S.tk ++ bs, tkv := v2}.dat b) := by
  obtain ⟨ti, hi, hz0, hz1, hz2⟩ := info_parts info_u8
  obtain ⟨g, cap, cur, hl, hB, hg, hn, hm, hcs, htk⟩ := lv_at h
  have ht : topA S = some ⟨g, S.lo.length * 5, none⟩ := by rw [topA, hl]
  have hBw : B ≤ w.heap.size := by have := h.bnd b (.inr ⟨.hd, rfl⟩); omega
  have H := Lib.hid h
  have HAD := Lib.hid had
  have HNO := Lib.hid hno
  have HT := Lib.hid (top_any h)
  rw [ht] at HT
  have hlvo : ∀ {w1 : World} {C1 : Nat → Prop} {D1 : Tag → Dat}, Fam B w1 C1 D1 → D1 .lv = S.dat b .lv → w1.ownsRow B 55 5 (.slice (some ⟨g, 0, none⟩) (S.lo.length + 1) cap) (S.lo.length + 1) (S.all.flatMap LvM.cells) := fun f e => by
    have := f.comp .lv
    rw [e] at this
    have h' : _ := this
    simp only [Sn.dat, Comp, hl] at h'
    exact h'
  have HLV : ∀ {w1 : World} {C1 : Nat → Prop} {D1 : Tag → Dat}, Fam B w1 C1 D1 → D1 .lv = S.dat b .lv → Hid (w1.ownsRow B 55 5 (.slice (some ⟨g, 0, none⟩) (S.lo.length + 1) cap) (S.lo.length + 1) (S.all.flatMap LvM.cells)) := fun f e => Lib.hid (hlvo f e)
  have HL := Lib.hid hl
  have hb0 : B ≤ g := hB
  have f0 : Fam B w C (S.dat b) := h
  have o0 := HLV h rfl
  have c0 : w.cell? ⟨g, S.lo.length * 5 + 2, none⟩ = some S.tp.tv := by
    rw [own_cell o0.out (by omega), flat_at]; rfl
  have li0 : Hid (w.ownsRow B 5 1 S.tp.tv S.tp.li.length (bv S.tp.li)) := Lib.hid (by have := h.comp (.li S.lo.length); rw [dat_li] at this; exact this)
  clear h had hno ht hg hcs htk hl hlvo hB hm f0
  obtain ⟨n, hn'⟩ : ∃ n, S.lo.length = n := ⟨_, rfl⟩
  rw [hn'] at hn c0 HT HLV o0
  obtain ⟨m, hm'⟩ : ∃ m, bs.length = m := ⟨_, rfl⟩
  have hmm : 0 < m ∧ m ≤ 2 := by
    refine ⟨?_, by omega⟩
    have := List.length_pos_iff.2 hbs.1
    omega
  rw [hm']
  clear hbs
  go_enter Try.func65, Try.ntmps65
  go_wp2_with fail
  refine HT.out.mono ?_
  rintro e w1 ⟨rfl, q, rfl⟩
  have s1 := Lib.hid (Stp.nob H.out (Kept.drewN w q nob))
  have ow1 := Lib.hid (own_kept (Kept.drewN w q nob) li0.out (fun _ _ h => h))
  have c1 : (w.drewN q).cell? ⟨g, n * 5 + 2, none⟩ = some S.tp.tv := c0
  go_wp2_with (at_builtin; refine wpList_append_lies _ rfl _ _ 51 rfl B 5 ti (.int .u8 0) 1 1 Try.underlying51 hi hz0 hz1 hz2 rfl (by decide) _ _ _ rfl ow1.out ⟨ad, 0, none⟩ m cap0 (bv bs) rfl ?c1 ?c2 (bv_one bs) hmm.1 ?c3 ?c4 ?c5 _ rfl ?_)
  case c1 => rw [bv_len, hm']; omega
  case c2 => exact World.news_of_block (cs := (bv bs).toArray) HAD.out
  case c3 => unfold maxLen; omega
  case c4 => omega
  case c5 => exact hBw
  intro g1 cap1 w2 own2 gr2 ls2 lt2
  have s2 := Stp.app s1.out.1 (t := .li n) (by rw [← hn', dat_li]) gr2 own2 ls2 lt2 hBw
  have S2 := Lib.hid (s1.out.trans s2)
  have o2 := HLV S2.out.1 (by rw [upd_ne (by simp)])
  have c2 : w2.cell? ⟨g, n * 5 + 2, none⟩ = some S.tp.tv := by
    rw [own_cell o2.out (by omega), ← hn', flat_at]; rfl
  have fz2 := own_frz o2.out (n * 5 + 2)
  clear own2 gr2 s2 c0 c1 ls2
  have hlv2 : (S.dat b) .lv = .row 55 5 (.slice (some ⟨g, 0, none⟩) (n + 1) cap) (n + 1) (S.all.flatMap LvM.cells) := by
    have := HL.out
    rw [hn'] at this
    show Dat.row 55 5 S.lvv (S.lo.length + 1) _ = _
    rw [this, hn']
  have HLV2 := Lib.hid hlv2
  clear hlv2
  have s3 := fun u => Stp.setRow S2.out.1 (t := .lv) (by rw [upd_ne (by simp), HLV2.out]) (n * 5 + 2) u
  have S3 := Lib.hid (fun u => S2.out.trans (s3 u))
  have hd3 := fun u => (S3.out u).1.comp .hd
  have hd3' : ∀ u, (w2.setCell ⟨g, n * 5 + 2, none⟩ u).heap[b]? = some (.cells (S.head b (nextv b S.kd)) 53 (0, 0)) := fun u => by
    have := hd3 u
    rw [upd_ne (by simp), upd_ne (by simp)] at this
    exact this
  have c3 : ∀ u, (w2.setCell ⟨g, n * 5 + 2, none⟩ u).cell? ⟨b, 3, none⟩ = some S.tkv := fun u => by rw [cell_blk (hd3' u)]; rfl
  have ow3 : Hid (∀ u, (w2.setCell ⟨g, n * 5 + 2, none⟩ u).ownsRow B 5 1 S.tkv S.tk.length (bv S.tk)) := Lib.hid (fun u => by
    have := (S3.out u).1.comp .tk
    rw [upd_ne (by simp), upd_ne (by simp)] at this
    exact this)
  have ad3 : Hid (∀ u, (w2.setCell ⟨g, n * 5 + 2, none⟩ u).heap[ad]? = some (.cells (bv bs).toArray 5 (0, 0))) := Lib.hid (fun u => (S3.out u).2.1.get HAD.out (fun hh => HNO.out (.inr hh)))
  clear s3 hd3 hd3'
  go_wp2_with (at_builtin; refine wpList_append_lies _ rfl _ _ 51 rfl B 5 ti (.int .u8 0) 1 1 Try.underlying51 hi hz0 hz1 hz2 rfl (by decide) _ _ _ rfl (ow3.out _) ⟨ad, 0, none⟩ m cap0 (bv bs) rfl ?d1 ?d2 (bv_one bs) hmm.1 ?d3 ?d4 ?d5 _ rfl ?_)
  case d1 => rw [bv_len, hm']; omega
  case d2 => exact World.news_of_block (cs := (bv bs).toArray) (ad3.out _)
  case d3 => unfold maxLen; omega
  case d4 => omega
  case d5 => have := (S3.out (.bool false)).2.1.size; have h2 := (Kept.setCell w2 ⟨g, n * 5 + 2, none⟩ (.slice (some ⟨g1, 0, none⟩) (S.tp.li.length + m) cap1)).size; have := S2.out.2.1.size; omega
  intro g2 cap2 w4 own4 gr4 ls4 lt4
  have S3' := Lib.hid (S3.out (.slice (some ⟨g1, 0, none⟩) (S.tp.li.length + m) cap1))
  have s4 := Stp.app S3'.out.1 (t := .tk) (by rw [upd_ne (by simp), upd_ne (by simp)]; rfl) gr4 own4 (by simpa [World.setCell] using ls4) lt4 (S3'.out.hB hBw)
  have S4 := Lib.hid (S3'.out.trans s4)
  have hd4 : w4.heap[b]? = some (.cells (S.head b (nextv b S.kd)) 53 (0, 0)) := by
    have := S4.out.1.comp .hd
    rw [upd_ne (by simp), upd_ne (by simp), upd_ne (by simp)] at this
    exact this
  have HD4 := Lib.hid hd4
  have c4 : w4.cell? ⟨b, 3, none⟩ = some S.tkv := by rw [cell_blk hd4]; rfl
  have fz4 := frz_blk hd4 3
  clear own4 gr4 s4 hd4 ls4 c3
  go_wp2
  go_end0
  refine ⟨.slice (some ⟨g1, 0, none⟩) (S.tp.li.length + m) cap1, .slice (some ⟨g2, 0, none⟩) (S.tk.length + m) cap2, rfl, ?_⟩
  have s5 := Stp.setHead S4.out.1 (t := .hd) (by rw [upd_ne (by simp), upd_ne (by simp), upd_ne (by simp)]; rfl) 3 (.slice (some ⟨g2, 0, none⟩) (S.tk.length + m) cap2)
  have S5 := S4.out.trans s5
  refine cast ?_ S5
  congr 1
  refine dat_eq (S := S) rfl ?_ ?_ ?_ ?_ ?_ ?_ ?_ (fun i hi => ?_) (fun i hi => ?_)
  · rw [upd_at]; rfl
  · rw [upd_ne (by simp), upd_ne (by simp), upd_at]
    show Dat.row _ _ _ _ _ = Dat.row 55 5 S.lvv (S.lo.length + 1) _
    rw [HL.out, hn', ← hn', flat_set, all_flat]
    rfl
  · rw [upd_ne (by simp), upd_at]
    show Dat.row _ _ _ _ _ = Dat.row 5 1 _ (S.tk ++ bs).length _
    rw [List.length_append, hm']
    simp [bv]
  · rw [upd_ne (by simp), upd_ne (by simp), upd_ne (by simp), upd_ne (by simp)]; rfl
  · rw [upd_ne (by simp), upd_ne (by simp), upd_ne (by simp), upd_ne (by simp)]; rfl
  · rw [upd_ne (by simp), upd_ne (by simp), upd_ne (by simp), upd_ne (by simp), dat_ps]
  · rw [upd_ne (by simp), upd_ne (by simp), upd_ne (by simp), ← hn', upd_at]
    show Dat.row _ _ _ _ _ = Dat.row 5 1 _ (S.tp.li ++ bs).length _
    rw [List.length_append, hm']
    simp [bv]
  · rw [upd_ne (by simp), upd_ne (by simp), upd_ne (by simp), upd_ne (by simp)]
  · rw [upd_ne (by simp), upd_ne (by simp), upd_ne (by simp), upd_ne (by simp; omega)]
end Go.Proofs.Ytbmapjgajecgfaa

/-
  What is proved: what the document's Cmds gives for a word in memory. Conditions: those of each theorem.
-/
import Derived.Test.YtbmapjgajecgfaaW45
set_option linter.unusedVariables false
set_option linter.unusedSimpArgs false
namespace Go.Proofs.Ytbmapjgajecgfaa
open Go.RowKit
theorem info_nodes : (Try.prog.info? 29).map (fun i => (i.zero, i.size, i.bytes)) = some (some (.slice none 0 0), 1, 24) := by kernel_rfl
def slen : Value → Option Nat
  | .slice _ n _ => some n
  | _ => none
theorem Rds.at {w : World} {C : Nat → Prop} {us : List Value} {L : List Prt} (h : Rds w C us L) (k : Nat) {kk : Int} {tx op : ByteArray} {K : List Prt} {cm : Nat} (hk : L[k]? = some (.mk kk tx op K cm)) :
    ∃ a cap ca cc, (∀ j, j < 5 → us[k * 5 + j]? = ([.int .i64 kk, .string tx, .string op, .slice a K.length cap, .slice ca cm cc] : List Value)[j]?) ∧ Cold w C (.slice a K.length cap) K := by
  induction k generalizing us L with
  | zero =>
    rcases L with _ | ⟨p, L⟩
    · simp at hk
    · obtain rfl : p = .mk kk tx op K cm := by simpa using hk
      obtain ⟨a, cap, ca, cc, vs, rfl, _, h2⟩ := h.inv
      refine ⟨a, cap, ca, cc, fun j hj => ?_, h2⟩
      rcases j with _ | _ | _ | _ | _ | j
      · rfl
      · rfl
      · rfl
      · rfl
      · rfl
      · omega
  | succ k ih =>
    rcases L with _ | ⟨⟨pk, ptx, pop, pK, pcm⟩, L⟩
    · simp at hk
    · obtain ⟨a0, cap0, ca0, cc0, vs, rfl, h1, _⟩ := h.inv
      obtain ⟨a, cap, ca, cc, h3, h4⟩ := ih h1 (by simpa using hk)
      refine ⟨a, cap, ca, cc, fun j hj => ?_, h4⟩
      rw [← h3 j hj, show (k + 1) * 5 + j = (k * 5 + j) + 5 by omega]
      rfl
mutual
def Prt.short : Prt → Prop
  | .mk _ _ _ kids _ => kids.length ≤ 100000 ∧ shortAll kids
def shortAll : List Prt → Prop
  | [] => True
  | p :: r => p.short ∧ shortAll r
end
/-- No list of parts is longer than memory bears, nor one within. -/
def Short (K : List Prt) : Prop := K.length ≤ 100000 ∧ shortAll K
theorem short_at {K : List Prt} (h : shortAll K) {k : Nat} {p : Prt} (hk : K[k]? = some p) : p.short := by
  induction K generalizing k with
  | nil => simp at hk
  | cons q r ih =>
    simp only [shortAll] at h
    rcases k with _ | k
    · obtain rfl : q = p := by simpa using hk
      exact h.1
    · exact ih h.2 (by simpa using hk)
theorem short_kids {K : List Prt} (h : shortAll K) {k : Nat} {kk : Int} {tx op : ByteArray} {K' : List Prt} {cm : Nat} (hk : K[k]? = some (.mk kk tx op K' cm)) : Short K' := by
  have := short_at h hk
  simp only [Prt.short] at this
  exact this
theorem short_app {K L : List Prt} (h : shortAll K) (h' : shortAll L) : shortAll (K ++ L) := by
  induction K with
  | nil => exact h'
  | cons q r ih =>
    simp only [shortAll] at h
    simp only [List.cons_append, shortAll]
    exact ⟨h.1, ih h.2⟩
/-- What Cmds gives: rows of commands, as long as the parts say. -/
def Cm (B : Nat) (w : World) (v : Value) (L : List Nat) : Prop := ∃ xs, w.ownsRow B 29 1 v L.length xs ∧ (L = [] → v = .slice none 0 0) ∧ xs.map slen = L.map some
def CmdsM (w0 : World) (K : List Prt) (e : Ending) (w' : World) : Prop := ∃ v, e = .returned v ∧ Kept nob w0 w' ∧ Cm w0.heap.size w' v (cmdsOf K)
theorem Cm.kept {B : Nat} {w w' : World} {v : Value} {L : List Nat} (h : Cm B w v L) (hk : Kept nob w w') : Cm B w' v L := by
  obtain ⟨xs, h1, h2, h3⟩ := h
  exact ⟨xs, own_kept hk h1 (fun _ _ h => h), h2, h3⟩
theorem Cm.shape {B : Nat} {w : World} {v : Value} {L : List Nat} (h : Cm B w v L) : ∃ a c, v = .slice a L.length c := by
  obtain ⟨xs, h1, _⟩ := h
  exact own_slice h1
theorem Cm.nil (B : Nat) (w : World) : Cm B w (.slice none 0 0) [] := ⟨[], World.ownsRow_nil _ _ _ _, fun _ => rfl, rfl⟩
theorem cmdsOf_take {K : List Prt} {k : Nat} {p : Prt} (hk : K[k]? = some p) : cmdsOf (K.take (k + 1)) = cmdsOf (K.take k) ++ p.cmds := by
  rw [List.take_add_one, hk, cmdsOf_app]
  simp [cmdsOf]
theorem cmdsOf_take_le (K : List Prt) (k : Nat) : (cmdsOf (K.take k)).length ≤ (cmdsOf K).length := by
  conv => rhs; rw [← List.take_append_drop k K, cmdsOf_app]
  simp
theorem own_ge {w : World} {base : Nat} {e : TypeId} {size : Nat} {v : Value} {n : Nat} {xs : List Value} (h : w.ownsRow base e size v n xs) {g : Nat} (hg : v.ownBlock = some g) : base ≤ g := by
  rcases h.2 with ⟨e1, _⟩ | ⟨g', cap, cur, e1, h2, _⟩
  · rw [e1] at hg; cases hg
  · rw [e1] at hg
    obtain rfl : g' = g := by simpa [Value.ownBlock] using hg
    exact h2
/-- What was there before a call is there when a row of the call's own has grown. -/
theorem kept_app {W w w' : World} {e : TypeId} {size : Nat} {v : Value} {n : Nat} {xs : List Value} {o : Obj} (hk : Kept nob W w) (h : w.ownsRow W.heap.size e size v n xs) (gr : (w.alloc o).grownBy w' v.ownBlock) : Kept nob W w' :=
  (hk.trans (Kept.alloc w o nob) (fun _ _ h => h)).trans (Kept.ofGrown gr) (fun i hi he => by have := own_ge h he.symm; omega)
theorem kept_app0 {W w w' : World} {e : TypeId} {size : Nat} {v : Value} {n : Nat} {xs : List Value} (hk : Kept nob W w) (h : w.ownsRow W.heap.size e size v n xs) (gr : w.grownBy w' v.ownBlock) : Kept nob W w' :=
  hk.trans (Kept.ofGrown gr) (fun i hi he => by have := own_ge h he.symm; omega)
theorem Cm.app {B : Nat} {w : World} {g cap : Nat} {L L' : List Nat} {xs news : List Value} (h : xs.map slen = L.map some) (own : w.ownsRow B 29 1 (.slice (some ⟨g, 0, none⟩) (L.length + L'.length) cap) (L.length + L'.length) (xs ++ news)) (hn : news.map slen = L'.map some) (hne : L' ≠ []) : Cm B w (.slice (some ⟨g, 0, none⟩) (L.length + L'.length) cap) (L ++ L') :=
  ⟨xs ++ news, by rw [List.length_append]; exact own, fun e => absurd (List.append_eq_nil_iff.1 e).2 hne, by rw [List.map_append, List.map_append, h, hn]⟩
theorem sz_kids {K : List Prt} {k : Nat} {kk : Int} {tx op : ByteArray} {K' : List Prt} {cm : Nat} (hk : K[k]? = some (.mk kk tx op K' cm)) : SizeOf.sizeOf K' < SizeOf.sizeOf K := by
  obtain ⟨h1, h2⟩ := List.getElem?_eq_some_iff.1 hk
  have := List.sizeOf_lt_of_mem (List.getElem_mem h1)
  rw [h2] at this
  simp at this
  omega
structure PCell (w : World) (C : Nat → Prop) (va : Option Addr) (n k : Nat) (kk : Int) (K' : List Prt) (cm : Nat) (g o : Nat) (ka : Option Addr) (kc : Nat) (ca : Option Addr) (cc : Nat) : Prop where
  va : va = some ⟨g, o, none⟩
  cell : ∀ w', Kept nob w w' → w'.cell? ⟨g, o + k * 5, none⟩ = some (.int .i64 kk) ∧ w'.cell? ⟨g, o + k * 5 + 3, none⟩ = some (.slice ka K'.length kc) ∧ w'.cell? ⟨g, o + k * 5 + 4, none⟩ = some (.slice ca cm cc)
  cold : Cold w C (.slice ka K'.length kc) K'
theorem pcell_at {w : World} {C : Nat → Prop} {va : Option Addr} {vc : Nat} {K : List Prt} (hc : Cold w C (.slice va K.length vc) K) (hC : ∀ k, C k → k < w.heap.size) {k : Nat} {kk : Int} {tx op : ByteArray} {K' : List Prt} {cm : Nat} (hk : K[k]? = some (.mk kk tx op K' cm)) :
    ∃ g o ka kc ca cc, PCell w C va K.length k kk K' cm g o ka kc ca cc := by
  rcases hc with ⟨a, cap, e1, e2⟩ | ⟨g, o, cap, us, e1, hg, hcell, hr⟩
  · rw [e2] at hk; simp at hk
  · obtain ⟨ka, kc, ca, cc, h1, h2⟩ := hr.at k hk
    obtain ⟨rfl, rfl⟩ : va = some ⟨g, o, none⟩ ∧ vc = cap := by simpa using e1
    have hlt : k < K.length := (List.getElem?_eq_some_iff.1 hk).1
    have hul := hr.len
    have hat : ∀ j, j < 5 → w.cell? ⟨g, o + k * 5 + j, none⟩ = ([.int .i64 kk, .string tx, .string op, .slice ka K'.length kc, .slice ca cm cc] : List Value)[j]? := fun j hj => by
      rw [← h1 j hj, ← hcell (k * 5 + j) (by omega), Nat.add_assoc]
    refine ⟨g, o, ka, kc, ca, cc, rfl, fun w' hk' => ?_, h2⟩
    have hb := hk'.block g (hC g hg) (fun h => h)
    refine ⟨?_, ?_, ?_⟩
    · rw [World.cell?_of_block hb]; exact hat 0 (by omega)
    · rw [World.cell?_of_block hb]; exact hat 3 (by omega)
    · rw [World.cell?_of_block hb]; exact hat 4 (by omega)
set_option maxRecDepth 100000 in
set_option maxHeartbeats 8000000 in
theorem cmds_any (N : Nat) : ∀ (K : List Prt), SizeOf.sizeOf K < N → ∀ (w : World) (C : Nat → Prop) (v : Value), Cold w C v K → (∀ k, C k → k < w.heap.size) → (cmdsOf K).length ≤ 90000 → Short K → Calls Try.prog 16 #[v] w (CmdsM w K) := by
  induction N with
  | zero => intro K h; omega
  | succ N ih =>
    intro K hN w C v hc hC hlen hKs
    have hKl := hKs.1
    have HKL := Lib.hid hKs.2
    obtain ⟨ti, hi, hz0, hz1, hz2⟩ := info_parts info_nodes
    obtain ⟨va, vc, hv⟩ : ∃ va vc, v = .slice va K.length vc := by
      rcases hc with ⟨a, cap, e1, e2⟩ | ⟨g, o, cap, us, e1, _⟩
      · exact ⟨a, cap, by rw [e1, e2]; rfl⟩
      · exact ⟨_, _, e1⟩
    have HC := Lib.hid hc
    have HCB := Lib.hid hC
    have HL := Lib.hid hlen
    have HIH := Lib.hid ih
    have HN := Lib.hid hN
    subst hv
    clear hc hC hlen ih hN hKs
    go_enter Try.func16, Try.ntmps16
    go_wp2
    go_loopw [3, 4] (fun out i wr => ∃ (k : Nat), k ≤ K.length ∧ i = .int .i64 k ∧ (∃ oa on oc, out = .slice oa on oc) ∧ Hid (Kept nob w wr ∧ Cm w.heap.size wr out (cmdsOf (K.take k)))) (fun _ i _ => K.length - (intOf i).toNat)
    case atStart => exact ⟨0, Nat.zero_le _, rfl, ⟨none, 0, 0, rfl⟩, Lib.hid ⟨Kept.refl _ _, Cm.nil _ _⟩⟩
    case round =>
      obtain ⟨k, hk, rfl, ⟨oa, on, oc, rfl⟩, HR⟩ := hrel
      by_cases hlt : k < K.length
      · obtain ⟨p, hp⟩ : ∃ p, K[k]? = some p := ⟨_, List.getElem?_eq_getElem hlt⟩
        obtain ⟨kk, tx, op, K', cm⟩ := p
        have hcw := HC.out
        obtain ⟨g, o, ka, kc, ca, cc, pc⟩ := pcell_at hcw HCB.out hp
        have hva := pc.va
        have HSZ := Lib.hid (sz_kids hp)
        have htk := cmdsOf_take hp
        have hle := cmdsOf_take_le K (k + 1)
        have HLK2 : Hid (Short K') := Lib.hid (short_kids HKL.out hp)
        have PC := Lib.hid pc
        subst hva
        have hki : (k : Int) < (K.length : Int) := by omega
        have d0 := (PC.out.cell wr HR.out.1).1
        have d3 := (PC.out.cell wr HR.out.1).2.1
        have d4 := (PC.out.cell wr HR.out.1).2.2
        have HKR := Lib.hid HR.out.1
        have HMR := Lib.hid HR.out.2
        clear hcw pc hp
        by_cases h6 : kk = 6
        · have k6 : (kk == 6) = true := by simpa using h6
          obtain ⟨l, hl⟩ : ∃ l, (cmdsOf (K.take k)).length = l := ⟨_, rfl⟩
          have hpc : cmdsOf (K.take (k + 1)) = (cmdsOf (K.take k) ++ [cm]) ++ cmdsOf K' := by rw [htk, h6]; simp [Prt.cmds]
          have HLK : Hid (l + 1 + (cmdsOf K').length ≤ (cmdsOf K).length) := Lib.hid (by rw [hpc] at hle; simp at hle; omega)
          have HTK := Lib.hid hpc
          obtain ⟨xs0, hx1, hx2, hx3⟩ := HMR.out
          rw [hl] at hx1
          obtain ⟨_, _, ho⟩ := own_slice hx1
          obtain ⟨rfl, rfl, rfl⟩ : on = l ∧ _ = oa ∧ _ = oc := by simp at ho; exact ⟨ho.2.1, ho.1.symm, ho.2.2.symm⟩
          have H0 := Lib.hid hx1
          have HX3 := Lib.hid hx3
          have HLL := Lib.hid hl
          have own0 := Lib.hid (own_kept (Kept.alloc wr (.cells #[.slice ca cm cc] 29) nob) hx1 (fun _ _ h => h))
          have T3 : Hid (on + 1 ≤ maxLen) := Lib.hid (by unfold maxLen; have := HL.out; have := HLK.out; omega)
          have T4 : Hid ((on + 1) * 24 ≤ 140737488355328) := Lib.hid (by have := HL.out; have := HLK.out; omega)
          have T5 : Hid (w.heap.size ≤ (wr.alloc (.cells #[.slice ca cm cc] 29)).heap.size) := Lib.hid (by have := HKR.out.size; simp; omega)
          have hnews : Hid (∀ i u, ([Value.slice ca cm cc])[i]? = some u → (wr.alloc (.cells #[.slice ca cm cc] 29)).cell? ((⟨wr.heap.size, 0, none⟩ : Addr).add i) = some u) := Lib.hid (World.news_of_block (cs := #[.slice ca cm cc]) (alloc_blk wr _))
          clear hx1 hx2 hx3 hl hpc htk hle h6 ho
          go_wp2_with (at_builtin; refine wpList_append_lies _ rfl _ _ 36 rfl w.heap.size 29 ti (.slice none 0 0) 1 24 Try.underlying36 hi hz0 hz1 hz2 rfl (by decide) _ _ _ rfl own0.out ⟨wr.heap.size, 0, none⟩ 1 1 [.slice ca cm cc] rfl rfl hnews.out (by simp [Value.oneCell']) (by omega) T3.out T4.out T5.out _ rfl ?_)
          intro g1 cap1 w2 own1 gr1 ls1 lt1
          have HK2 := Lib.hid (kept_app HKR.out H0.out gr1)
          have HO2 : Hid (Cm w.heap.size w2 (.slice (some ⟨g1, 0, none⟩) (on + 1) cap1) (cmdsOf (K.take k) ++ [cm])) := Lib.hid (by
            have := Cm.app (B := w.heap.size) (w := w2) (g := g1) (cap := cap1) (L := cmdsOf (K.take k)) (L' := [cm]) HX3.out (by rw [HLL.out]; exact own1) rfl (by simp)
            rw [HLL.out] at this
            exact this)
          have HLEN : Hid ((cmdsOf (K.take k) ++ [cm]).length = on + 1) := Lib.hid (by rw [List.length_append, HLL.out]; rfl)
          have f0 := (PC.out.cell w2 HK2.out).1
          have f3 := (PC.out.cell w2 HK2.out).2.1
          clear own1 gr1 ls1 lt1 d0 d3 d4
          have hcK : Cold w2 C (.slice ka K'.length kc) K' := PC.out.cold.kept HK2.out (fun j hj => ⟨fun h => h, HCB.out j hj⟩)
          go_wp2_with fail
          refine (HIH.out K' (by have := HSZ.out; have := HN.out; omega) w2 C _ hcK (fun j hj => Nat.lt_of_lt_of_le (HCB.out j hj) HK2.out.size) (by have := HL.out; have := HLK.out; omega) HLK2.out).mono ?_
          rintro e w3 ⟨v3, rfl, hk3, hm3⟩
          have HK3 := Lib.hid (HK2.out.trans hk3 (fun _ _ h => h))
          have HO3 := Lib.hid (HO2.out.kept hk3)
          have HM3 := Lib.hid hm3
          clear hk3 hm3 hcK
          by_cases hz : cmdsOf K' = []
          · have ez : v3 = .slice none 0 0 := by
              obtain ⟨xs, h1, h2, h3⟩ := HM3.out
              exact h2 hz
            subst ez
            obtain ⟨xs, h1, h2, h3⟩ := HO3.out
            rw [HLEN.out] at h1
            have H1 := Lib.hid h1
            have HFIN : Hid (Cm w.heap.size w3 (.slice (some ⟨g1, 0, none⟩) (on + 1) cap1) (cmdsOf (K.take (k + 1)))) := Lib.hid (by rw [HTK.out, hz, List.append_nil]; exact HO3.out)
            clear h1 h2 h3 hz
            go_wp2_with (at_builtin; refine wpList_append_own_none rfl _ _ 36 rfl w.heap.size 29 ti 1 Try.underlying36 hi _ _ _ rfl H1.out rfl ?_)
            go_wp2
            go_roundw
            case rel => exact ⟨k + 1, by omega, by go_num, ⟨_, _, _, rfl⟩, Lib.hid ⟨HK3.out, HFIN.out⟩⟩
            case measure => simp [intOf]; omega
          · obtain ⟨m, hm⟩ : ∃ m, (cmdsOf K').length = m := ⟨_, rfl⟩
            have hmp : 0 < m := by
              have := List.length_pos_iff.2 hz
              omega
            obtain ⟨g3, c3, ns, e3, hns, hnm, hnl⟩ : ∃ (g3 c3 : Nat) (ns : List Value), v3 = .slice (some ⟨g3, 0, none⟩) m c3 ∧ (∀ j u, ns[j]? = some u → w3.cell? ((⟨g3, 0, none⟩ : Addr).add j) = some u) ∧ ns.map slen = (cmdsOf K').map some ∧ ns.length = m := by
              obtain ⟨xs, h1, h2, h3⟩ := HM3.out
              rw [hm] at h1
              obtain ⟨g3, c3, e3, _, _⟩ := h1.form hmp
              refine ⟨g3, c3, xs, e3, fun j u hj => ?_, h3, by have := h1.1; omega⟩
              have hlt : j < xs.length := (List.getElem?_eq_some_iff.1 hj).1
              rw [e3] at h1
              have : (⟨g3, 0, none⟩ : Addr).add j = ⟨g3, j, none⟩ := by unfold Addr.add; split <;> simp_all
              rw [this, own_cell h1 (by have := h1.1; omega), hj]
            subst e3
            obtain ⟨xs, h1, h2, h3⟩ := HO3.out
            rw [HLEN.out] at h1
            have H1 := Lib.hid h1
            have H3 := Lib.hid h3
            have HNS := Lib.hid hns
            have HNM := Lib.hid hnm
            have HNL := Lib.hid hnl
            have HMM := Lib.hid hm
            have HZ := Lib.hid hz
            have HONE : Hid (∀ u ∈ ns, u.oneCell' = true) := Lib.hid (fun u hu => by
              have : slen u ∈ ns.map slen := List.mem_map_of_mem hu
              rw [hnm] at this
              obtain ⟨x, _, hx⟩ := List.mem_map.1 this
              cases u <;> simp [slen] at hx <;> rfl)
            have T3 : Hid ((on + 1) + m ≤ maxLen) := Lib.hid (by unfold maxLen; have := HL.out; have := HLK.out; omega)
            have T4 : Hid (((on + 1) + m) * 24 ≤ 140737488355328) := Lib.hid (by have := HL.out; have := HLK.out; omega)
            have T5 : Hid (w.heap.size ≤ w3.heap.size) := Lib.hid HK3.out.size
            clear h1 h2 h3 hns hnm hm hz hnl
            go_wp2_with (at_builtin; refine wpList_append_lies _ rfl _ _ 36 rfl w.heap.size 29 ti (.slice none 0 0) 1 24 Try.underlying36 hi hz0 hz1 hz2 rfl (by decide) _ _ _ rfl H1.out ⟨g3, 0, none⟩ m c3 ns rfl (by rw [HNL.out, Nat.mul_one]) HNS.out HONE.out hmp T3.out T4.out T5.out _ rfl ?_)
            intro g4 cap4 w4 own4 gr4 ls4 lt4
            have HK4 := Lib.hid (kept_app0 HK3.out H1.out gr4)
            have HFIN : Hid (Cm w.heap.size w4 (.slice (some ⟨g4, 0, none⟩) ((on + 1) + m) cap4) (cmdsOf (K.take (k + 1)))) := Lib.hid (by
              rw [HTK.out]
              have := Cm.app (B := w.heap.size) (w := w4) (g := g4) (cap := cap4) (L := cmdsOf (K.take k) ++ [cm]) (L' := cmdsOf K') H3.out (by rw [HMM.out, HLEN.out]; exact own4) HNM.out HZ.out
              rw [HMM.out, HLEN.out] at this
              exact this)
            clear own4 gr4 ls4 lt4
            go_wp2
            go_roundw
            case rel => exact ⟨k + 1, by omega, by go_num, ⟨_, _, _, rfl⟩, Lib.hid ⟨HK4.out, HFIN.out⟩⟩
            case measure => simp [intOf]; omega
        · have k6 : (kk == 6) = false := by simpa using h6
          obtain ⟨l, hl⟩ : ∃ l, (cmdsOf (K.take k)).length = l := ⟨_, rfl⟩
          have hpc : cmdsOf (K.take (k + 1)) = cmdsOf (K.take k) ++ cmdsOf K' := by rw [htk]; simp [Prt.cmds, h6]
          have HLK : Hid (l + (cmdsOf K').length ≤ (cmdsOf K).length) := Lib.hid (by rw [hpc] at hle; simp at hle; omega)
          have HTK := Lib.hid hpc
          obtain ⟨oa', oc', ho⟩ := HMR.out.shape
          rw [hl] at ho
          obtain ⟨rfl, rfl, rfl⟩ : on = l ∧ oa = oa' ∧ oc = oc' := by simp at ho; exact ⟨ho.2.1, ho.1, ho.2.2⟩
          have HLEN : Hid ((cmdsOf (K.take k)).length = on) := Lib.hid hl
          clear hl hpc htk hle h6 ho
          have hcK : Cold wr C (.slice ka K'.length kc) K' := PC.out.cold.kept HKR.out (fun j hj => ⟨fun h => h, HCB.out j hj⟩)
          go_wp2_with fail
          refine (HIH.out K' (by have := HSZ.out; have := HN.out; omega) wr C _ hcK (fun j hj => Nat.lt_of_lt_of_le (HCB.out j hj) HKR.out.size) (by have := HL.out; have := HLK.out; omega) HLK2.out).mono ?_
          rintro e w3 ⟨v3, rfl, hk3, hm3⟩
          have HK3 := Lib.hid (HKR.out.trans hk3 (fun _ _ h => h))
          have HO3 := Lib.hid (HMR.out.kept hk3)
          have HM3 := Lib.hid hm3
          clear hk3 hm3 hcK
          by_cases hz : cmdsOf K' = []
          · have ez : v3 = .slice none 0 0 := by
              obtain ⟨xs, h1, h2, h3⟩ := HM3.out
              exact h2 hz
            subst ez
            obtain ⟨xs, h1, h2, h3⟩ := HO3.out
            rw [HLEN.out] at h1
            have H1 := Lib.hid h1
            have HFIN : Hid (Cm w.heap.size w3 (.slice oa on oc) (cmdsOf (K.take (k + 1)))) := Lib.hid (by rw [HTK.out, hz, List.append_nil]; exact HO3.out)
            clear h1 h2 h3 hz
            go_wp2_with (at_builtin; refine wpList_append_own_none rfl _ _ 36 rfl w.heap.size 29 ti 1 Try.underlying36 hi _ _ _ rfl H1.out rfl ?_)
            go_wp2
            go_roundw
            case rel => exact ⟨k + 1, by omega, by go_num, ⟨_, _, _, rfl⟩, Lib.hid ⟨HK3.out, HFIN.out⟩⟩
            case measure => simp [intOf]; omega
          · obtain ⟨m, hm⟩ : ∃ m, (cmdsOf K').length = m := ⟨_, rfl⟩
            have hmp : 0 < m := by
              have := List.length_pos_iff.2 hz
              omega
            obtain ⟨g3, c3, ns, e3, hns, hnm, hnl⟩ : ∃ (g3 c3 : Nat) (ns : List Value), v3 = .slice (some ⟨g3, 0, none⟩) m c3 ∧ (∀ j u, ns[j]? = some u → w3.cell? ((⟨g3, 0, none⟩ : Addr).add j) = some u) ∧ ns.map slen = (cmdsOf K').map some ∧ ns.length = m := by
              obtain ⟨xs, h1, h2, h3⟩ := HM3.out
              rw [hm] at h1
              obtain ⟨g3, c3, e3, _, _⟩ := h1.form hmp
              refine ⟨g3, c3, xs, e3, fun j u hj => ?_, h3, by have := h1.1; omega⟩
              have hlt : j < xs.length := (List.getElem?_eq_some_iff.1 hj).1
              rw [e3] at h1
              have : (⟨g3, 0, none⟩ : Addr).add j = ⟨g3, j, none⟩ := by unfold Addr.add; split <;> simp_all
              rw [this, own_cell h1 (by have := h1.1; omega), hj]
            subst e3
            obtain ⟨xs, h1, h2, h3⟩ := HO3.out
            rw [HLEN.out] at h1
            have H1 := Lib.hid h1
            have H3 := Lib.hid h3
            have HNS := Lib.hid hns
            have HNM := Lib.hid hnm
            have HNL := Lib.hid hnl
            have HMM := Lib.hid hm
            have HZ := Lib.hid hz
            have HONE : Hid (∀ u ∈ ns, u.oneCell' = true) := Lib.hid (fun u hu => by
              have : slen u ∈ ns.map slen := List.mem_map_of_mem hu
              rw [hnm] at this
              obtain ⟨x, _, hx⟩ := List.mem_map.1 this
              cases u <;> simp [slen] at hx <;> rfl)
            have T3 : Hid (on + m ≤ maxLen) := Lib.hid (by unfold maxLen; have := HL.out; have := HLK.out; omega)
            have T4 : Hid ((on + m) * 24 ≤ 140737488355328) := Lib.hid (by have := HL.out; have := HLK.out; omega)
            have T5 : Hid (w.heap.size ≤ w3.heap.size) := Lib.hid HK3.out.size
            clear h1 h2 h3 hns hnm hm hz hnl
            go_wp2_with (at_builtin; refine wpList_append_lies _ rfl _ _ 36 rfl w.heap.size 29 ti (.slice none 0 0) 1 24 Try.underlying36 hi hz0 hz1 hz2 rfl (by decide) _ _ _ rfl H1.out ⟨g3, 0, none⟩ m c3 ns rfl (by rw [HNL.out, Nat.mul_one]) HNS.out HONE.out hmp T3.out T4.out T5.out _ rfl ?_)
            intro g4 cap4 w4 own4 gr4 ls4 lt4
            have HK4 := Lib.hid (kept_app0 HK3.out H1.out gr4)
            have HFIN : Hid (Cm w.heap.size w4 (.slice (some ⟨g4, 0, none⟩) (on + m) cap4) (cmdsOf (K.take (k + 1)))) := Lib.hid (by
              rw [HTK.out]
              have := Cm.app (B := w.heap.size) (w := w4) (g := g4) (cap := cap4) (L := cmdsOf (K.take k)) (L' := cmdsOf K') H3.out (by rw [HMM.out, HLEN.out]; exact own4) HNM.out HZ.out
              rw [HMM.out, HLEN.out] at this
              exact this)
            clear own4 gr4 ls4 lt4
            go_wp2
            go_roundw
            case rel => exact ⟨k + 1, by omega, by go_num, ⟨_, _, _, rfl⟩, Lib.hid ⟨HK4.out, HFIN.out⟩⟩
            case measure => simp [intOf]; omega
      · have HE : Hid (K.take k = K) := Lib.hid (List.take_of_length_le (by omega))
        go_wp2
        go_ret
        exact ⟨_, rfl, HR.out.1, by have := HR.out.2; rw [HE.out] at this; exact this⟩
end Go.Proofs.Ytbmapjgajecgfaa

/-
  What is proved: a map that counts names; what the program's once answers. Conditions: those of each theorem.
-/
import Derived.Test.YthddfkemagpiaaaL9
set_option linter.unusedVariables false
set_option linter.unusedSimpArgs false
namespace Go.Proofs.Ythddfkemagpiaaa
open Go.RowKit
/-- The entries of a map that counts: its keys. -/
structure CEnt (D : List ByteArray) (es : Array MapEntry) : Prop where
  size : es.size = D.length
  key : ∀ i (h : i < D.length) (h' : i < es.size), es[i].key = .string D[i] ∧ ∃ n : Int, es[i].val = .int .i64 n
theorem findNow_cnt (s : ByteArray) : ∀ (D : List ByteArray) (es : List MapEntry) (i : Nat), es.length = D.length → (∀ j (h : j < D.length) (h' : j < es.length), es[j].key = .string D[j] ∧ ∃ n : Int, es[j].val = .int .i64 n) →
    (¬ s ∈ D ∧ Instr.findNow .string (.string s) es i = some none) ∨ (s ∈ D ∧ ∃ (j : Nat) (n : Int), j < D.length ∧ D[j]? = some s ∧ Instr.findNow .string (.string s) es i = some (some (i + j, .int .i64 n))) := by
  intro D
  induction D with
  | nil =>
    intro es i h _
    obtain rfl : es = [] := List.eq_nil_of_length_eq_zero (by simpa using h)
    exact .inl ⟨by simp, rfl⟩
  | cons t D ih =>
    intro es i h hk
    cases es with
    | nil => simp at h
    | cons e es =>
      have h0 := hk 0 (by simp) (by simp)
      simp at h0
      have ih' := ih es (i + 1) (by simpa using h) (fun j hj hj' => by
        have := hk (j + 1) (by simp; omega) (by simp; omega)
        simpa using this)
      obtain ⟨hkey, n0, hval⟩ := h0
      simp only [Instr.findNow, hkey, Instr.sameNow]
      have hst := ba_beq s t
      by_cases e : s = t
      · subst e
        right
        refine ⟨by simp, 0, n0, by simp, by simp, ?_⟩
        simp [hval, hst]
      · simp only [e, decide_false] at hst
        rcases ih' with ⟨h1, h2⟩ | ⟨h1, j, n, h2, h3, h4⟩
        · left
          refine ⟨by simp [e, h1], ?_⟩
          simp [hst, h2]
        · right
          refine ⟨by simp [h1], j + 1, n, by simp; omega, by simpa using h3, ?_⟩
          simp [hst, h4]
          omega
theorem run_lookup_cnt {P : Program} {t k e : TypeId} (ht : P.underlying t = some (.map k e)) (hk : P.underlying k = some .string) (hz : ∀ w : World, (zeroValue e).run P w = .ok (.int .i64 0) w) {w : World} {r : Nat} {es : Array MapEntry} {c : Nat} {D : List ByteArray}
    (hm : w.heap[r]? = some (.map es c)) (hE : CEnt D es) (s : ByteArray) :
    ∃ n : Int, (Instr.lookup t (.map (some r)) (.string s) false).run P w = .ok (.int .i64 n) w := by
  have hf := findNow_cnt s D es.toList 0 (by simpa using hE.size) (fun j h h' => by have := hE.key j h (by simpa using h'); simpa using this)
  have hck : (Instr.checkKey es.isEmpty 10000 k (.string s)).run P w = .ok () w := run_checkKey_str (P := P) hk es.isEmpty 9999 s w
  unfold Instr.lookup
  simp only [Sem.run_bind, run_underlying ht, Result.andThen_ok]
  simp only [getObj, Sem.run, hm]
  simp only [Sem.run_bind, Sem.run_pure, Result.andThen_ok]
  rw [hck]
  rcases hf with ⟨_, hf⟩ | ⟨_, j, n, _, _, hf⟩
  · simp only [Result.andThen_ok, Instr.findKey, Sem.run_bind, run_underlying hk, hf, Sem.run_pure]
    exact ⟨0, by simp [hz]⟩
  · simp only [Result.andThen_ok, Instr.findKey, Sem.run_bind, run_underlying hk, hf, Sem.run_pure]
    exact ⟨n, by simp⟩
theorem CEnt.push {D : List ByteArray} {es : Array MapEntry} (h : CEnt D es) (s : ByteArray) (c : Nat) (n : Int) : CEnt (D ++ [s]) (es.push { key := .string s, val := .int .i64 n, born := c }) := by
  refine ⟨by simp [h.size], fun i hi hi' => ?_⟩
  by_cases e : i < D.length
  · have := h.key i e (by rw [h.size]; exact e)
    rw [Array.getElem_push_lt (by rw [h.size]; exact e), List.getElem_append_left e]
    exact this
  · have : i = D.length := by simp at hi; omega
    subst this
    have e2 : D.length = es.size := h.size.symm
    simp [Array.getElem_push, e2]
theorem run_update_cnt {P : Program} {t k e : TypeId} (ht : P.underlying t = some (.map k e)) (hk : P.underlying k = some .string) {w : World} {r : Nat} {es : Array MapEntry} {c : Nat} {D : List ByteArray}
    (hm : w.heap[r]? = some (.map es c)) (hE : CEnt D es) (s : ByteArray) (v : Int) :
    ∃ es' c', (Instr.mapUpdate t (.map (some r)) (.string s) (.int .i64 v)).run P w = .ok () (setObjW w r (.map es' c')) ∧ (s ∈ D → CEnt D es') ∧ (¬ s ∈ D → CEnt (D ++ [s]) es') := by
  have hf := findNow_cnt s D es.toList 0 (by simpa using hE.size) (fun j h h' => by have := hE.key j h (by simpa using h'); simpa using this)
  have hck : (Instr.checkKey false 10000 k (.string s)).run P w = .ok () w := run_checkKey_str (P := P) hk false 9999 s w
  unfold Instr.mapUpdate
  simp only [Sem.run_bind, run_underlying ht, Result.andThen_ok]
  simp only [getObj, Sem.run, hm]
  simp only [Result.andThen_ok, Sem.run_bind]
  rw [hck]
  rcases hf with ⟨hn, hf⟩ | ⟨hy, j, n, hj, hjs, hf⟩
  · simp only [Result.andThen_ok, Instr.findKey, Sem.run_bind, run_underlying hk, hf, Sem.run_pure]
    simp only [setObj, Sem.run, hm]
    exact ⟨_, _, rfl, fun h => absurd h hn, fun _ => hE.push s _ v⟩
  · simp only [Result.andThen_ok, Instr.findKey, Sem.run_bind, run_underlying hk, hf, Sem.run_pure]
    have hjs' : es.size = D.length := hE.size
    have hjlt : j < es.size := by omega
    have hkj := (hE.key j hj hjlt).1
    have hDj : D[j] = s := by rw [List.getElem?_eq_getElem hj] at hjs; exact Option.some.inj hjs
    rw [hDj] at hkj
    have hst : Instr.keyThatStays (((es[0 + j]?).map (fun x => x.key)).getD (.string s)) (.string s) = pure (.string s) := by
      simp [Instr.keyThatStays, hjlt, hkj, Instr.sameBits, ba_beq]
    rw [hst]
    simp only [Sem.run_pure, Result.andThen_ok]
    simp only [setObj, Sem.run, hm]
    refine ⟨_, _, rfl, fun _ => ⟨by simp [hE.size], fun i hi hi' => ?_⟩, fun h => absurd hy h⟩
    simp only [Nat.zero_add] at hi' ⊢
    rw [Array.getElem_modify]
    split
    · rename_i e
      subst e
      exact ⟨by rw [hDj], v, rfl⟩
    · exact hE.key i hi _
/-- What a counting map holds behind the first k names. -/
def Cnt (w : World) (r : Nat) (L : List ByteArray) (k : Nat) : Prop :=
  ∃ es c D, w.heap[r]? = some (.map es c) ∧ CEnt D es ∧ (∀ s, s ∈ D ↔ s ∈ L.take k) ∧ D.length ≤ k ∧ (D.length = k ↔ (L.take k).Nodup)
theorem take_snoc {α : Type} {L : List α} {k : Nat} {s : α} (h : L[k]? = some s) : L.take (k + 1) = L.take k ++ [s] := by
  rw [List.take_add_one, h]; rfl
theorem nodup_snoc {α : Type} {l : List α} {s : α} : (l ++ [s]).Nodup ↔ l.Nodup ∧ ¬ s ∈ l := by
  rw [List.nodup_append]
  simp
  intro _
  constructor
  · intro h hs; exact h s hs rfl
  · intro h a ha e; exact h (e ▸ ha)
theorem Cnt.step {w : World} {r : Nat} {L : List ByteArray} {k : Nat} {s : ByteArray} (h : Cnt w r L k) (hk : k < L.length) (hs : L[k]? = some s) :
    ∃ n : Int, (Instr.lookup 110 (.map (some r)) (.string s) false).run Try.prog w = .ok (.int .i64 n) w ∧ ∀ v : Int, ∃ es' c', (Instr.mapUpdate 110 (.map (some r)) (.string s) (.int .i64 v)).run Try.prog w = .ok () (setObjW w r (.map es' c')) ∧ Cnt (setObjW w r (.map es' c')) r L (k + 1) := by
  obtain ⟨es, c, D, h1, h2, h3, h4, h5⟩ := h
  obtain ⟨n, hn⟩ := run_lookup_cnt (P := Try.prog) (t := 110) Try.underlying110 Try.underlying9 (fun w => by kernel_rfl) h1 h2 s
  refine ⟨n, hn, fun v => ?_⟩
  obtain ⟨es', c', hu, ha, hb⟩ := run_update_cnt (P := Try.prog) (t := 110) Try.underlying110 Try.underlying9 h1 h2 s v
  refine ⟨es', c', hu, ?_⟩
  have hat := setObjW_at h1 (.map es' c')
  have ht := take_snoc hs
  by_cases hm : s ∈ D
  · refine ⟨es', c', D, hat, ha hm, fun x => ?_, by omega, ?_⟩
    · rw [ht, h3 x]
      simp
      intro e
      subst e
      exact (h3 x).1 hm
    · constructor
      · intro e; omega
      · intro e
        rw [ht, nodup_snoc] at e
        exact absurd ((h3 s).1 hm) e.2
  · refine ⟨es', c', D ++ [s], hat, hb hm, fun x => ?_, by simp; omega, ?_⟩
    · rw [ht, List.mem_append, List.mem_append, h3 x]
    · rw [ht, nodup_snoc, ← h5]
      have := fun e => hm ((h3 s).2 e)
      simp
      exact fun _ => this
theorem run_len_map {P : Program} {t k e : TypeId} (ht : P.underlying t = some (.map k e)) (ty : TypeId) {w : World} {r : Nat} {es : Array MapEntry} {c : Nat} (hm : w.heap[r]? = some (.map es c)) : (Builtin.len_ #[t] ty #[.map (some r)]).run P w = .ok (.int .i64 (es.size : Int)) w := by
  simp [Builtin.len_, run_underlying ht, getObj, Sem.run, hm, goInt]
theorem GB.nobut {w w' : World} {b r : Nat} {p : Gp} {g : Gm} (h : GB w b p g) (hK : Kept (ib r) w w') (hr : ¬ b = r) : GB w' b p g := hK.get h hr
set_option maxRecDepth 100000 in
set_option maxHeartbeats 4000000 in
theorem once_any (w : World) (p : Gp) (g : Gm) (hA : GA w p g) (hs : Sm g) : Calls Try.prog 63 #[gv p g] w (RetB1 w (decide ((g.T ++ g.N).Nodup))) := by
  have HB := Lib.hid (GB.new w p g)
  have HTOP := Lib.hid (fun w => top_any w p g hs)
  obtain ⟨T, N, R, st⟩ := g
  obtain ⟨ta, tc, na, nc, ra, rc⟩ := p
  have HT := Lib.hid hA.t
  have HN := Lib.hid hA.n
  have hl := hs.n
  unfold gv at HTOP ⊢
  simp only [Gm.top] at HT HN hl HB HTOP ⊢
  have hl' : T.length + N.length ≤ 1000 := by omega
  clear hA hs hl
  have hmm := @run_makeMap Try.prog
  obtain ⟨bx, hbx⟩ : ∃ bx : Obj, bx = .cells #[.slice ta T.length tc, .slice na N.length nc, .slice ra R.length rc, .int .i64 st] 25 := ⟨_, rfl⟩
  have HCC := Lib.hid (concat_any (((w.alloc bx).alloc (.map #[] 0)).alloc (.cells #[.slice ta T.length tc, .slice na N.length nc] 22)) (w.heap.size + 1 + 1) ta na tc nc T N
    (by rw [show w.heap.size + 1 + 1 = ((w.alloc bx).alloc (.map #[] 0)).heap.size by simp, cell_blk (alloc_blk _ _)]; rfl) (by rw [show w.heap.size + 1 + 1 = ((w.alloc bx).alloc (.map #[] 0)).heap.size by simp, cell_blk (alloc_blk _ _)]; rfl)
    (HT.out.nob (((Kept.alloc w bx nob).trans (Kept.alloc _ _ nob) (fun _ _ h => h)).trans (Kept.alloc _ _ nob) (fun _ _ h => h))) (HN.out.nob (((Kept.alloc w bx nob).trans (Kept.alloc _ _ nob) (fun _ _ h => h)).trans (Kept.alloc _ _ nob) (fun _ _ h => h))) hl')
  have HM0 : Hid ((((w.alloc bx).alloc (.map #[] 0)).alloc (.cells #[.slice ta T.length tc, .slice na N.length nc] 22)).heap[w.heap.size + 1]? = some (.map #[] 0)) := Lib.hid (by
    have := alloc_blk (w.alloc bx) (.map #[] 0)
    rw [World.size_alloc] at this
    exact alloc_old this _)
  have HB0 := Lib.hid ((HB.out.nob (Kept.alloc _ (.map #[] 0) nob)).nob (Kept.alloc _ (.cells #[.slice ta T.length tc, .slice na N.length nc] 22) nob))
  have HK0 : Hid (Kept nob w (((w.alloc bx).alloc (.map #[] 0)).alloc (.cells #[.slice ta T.length tc, .slice na N.length nc] 22))) := Lib.hid (((Kept.alloc w bx nob).trans (Kept.alloc _ _ nob) (fun _ _ h => h)).trans (Kept.alloc _ _ nob) (fun _ _ h => h))
  rw [← hbx] at HB0
  rw [hbx] at HCC HM0 HB0 HK0
  clear hbx HB
  obtain ⟨w0, hw0⟩ : ∃ x, x = (((w.alloc (.cells #[.slice ta T.length tc, .slice na N.length nc, .slice ra R.length rc, .int .i64 st] 25)).alloc (.map #[] 0)).alloc (.cells #[.slice ta T.length tc, .slice na N.length nc] 22)) := ⟨_, rfl⟩
  rw [← hw0] at HCC HM0 HB0 HK0
  have HW0 := Lib.hid hw0
  clear hw0
  have HR : Hid (w.heap.size + 1 < w0.heap.size) := Lib.hid (by rw [HW0.out]; simp)
  obtain ⟨L, hL⟩ : ∃ L, L = T ++ N := ⟨_, rfl⟩
  have hlen : T.length + N.length = L.length := by rw [hL]; simp
  rw [← hL] at HCC ⊢
  go_enter Try.func63, Try.ntmps63
  go_wp2_with fail
  rw [← HW0.out]
  refine HCC.out.mono ?_
  rintro e w2 ⟨a, cap, rfl, ho, hk⟩
  have HRD := Lib.hid (Rd.own ho)
  have HFAR : Hid (∀ b o, a = some ⟨b, o, none⟩ → ¬ ib (w.heap.size + 1) b) := Lib.hid (fun b o e h => by
    rw [e] at ho
    have := ho.lt b rfl
    have hr := HR.out
    have : b = w.heap.size + 1 := h
    omega)
  have HM2 := Lib.hid (hk.get HM0.out (fun h => h))
  have HB2 := Lib.hid (HB0.out.nob hk)
  have HK2 := Lib.hid (HK0.out.trans hk (fun _ _ h => h))
  rw [sv_len]
  clear ho hk hL
  obtain ⟨r, hr⟩ : ∃ r, w.heap.size + 1 = r := ⟨_, rfl⟩
  rw [hr] at HFAR HM2 HR ⊢
  have HR2 := Lib.hid hr
  clear hr hmm
  go_wp2
  go_loopw [14] (fun i wr => ∃ k : Nat, i = .int .i64 (k : Int) ∧ k ≤ L.length ∧ Hid (Cnt wr r L k) ∧ Hid (Kept (ib r) w2 wr)) (fun i _ => L.length - (intOf i).toNat)
  case atStart => exact ⟨0, rfl, by omega, Lib.hid ⟨#[], 0, [], HM2.out, ⟨rfl, fun i h _ => by simp at h⟩, by simp, by simp, by simp⟩, Lib.hid (Kept.refl _ _)⟩
  case round =>
    obtain ⟨k, rfl, hkl, HC, HK⟩ := hrel
    by_cases hlt : k < L.length
    · obtain ⟨b, o, s, hab, hs, d⟩ := sv_at (HRD.out.kept HK.out HFAR.out) hlt
      subst hab
      obtain ⟨n, hlk, hupd⟩ := HC.out.step hlt hs
      obtain ⟨es', c', hup, hc'⟩ := hupd (wrap64 (n + 1))
      have HC1 := Lib.hid hc'
      have HKR := Lib.hid (setObjW_kept wr r (.map es' c'))
      obtain ⟨w3, hw3⟩ : ∃ w3, setObjW wr r (.map es' c') = w3 := ⟨_, rfl⟩
      rw [hw3] at hup HC1 HKR
      clear hupd hc' hs hw3
      go_wp2
      go_roundw
      case rel => exact ⟨k + 1, by go_num, by omega, HC1, Lib.hid (HK.out.trans HKR.out (fun _ _ h => h))⟩
      case measure => simp [intOf]; omega
    · have hke : k = L.length := by omega
      subst hke
      obtain ⟨es, c, D, hm, hE, _, _, hnd⟩ := HC.out
      rw [List.take_length] at hnd
      have hsz := hE.size
      have hb := HB2.out
      have HN2 := Lib.hid hnd
      have hln := run_len_map (P := Try.prog) Try.underlying110 3 hm
      rw [hsz] at hln
      obtain ⟨m, hmm⟩ : ∃ m, D.length = m := ⟨_, rfl⟩
      rw [hmm] at hln HN2
      clear hm hE hsz hmm
      have hbk := hb.nobut HK.out (by have := HR2.out; show ¬ w.heap.size = r; omega)
      obtain ⟨b0, b1, b2, b3⟩ := hbk.c
      simp only at b0 b1 b2 b3
      have HK3 : Hid (Kept nob w wr) := Lib.hid ⟨HK.out.os.trans HK2.out.os, HK.out.tape.trans HK2.out.tape, HK.out.output.trans HK2.out.output, Nat.le_trans HK2.out.size HK.out.size, fun i hi h => (HK.out.block i (Nat.lt_of_lt_of_le hi HK2.out.size) (fun e => by have : i = r := e; have := HR2.out; omega)).trans (HK2.out.block i hi h)⟩
      clear hb hbk hnd
      go_wp2_with fail
      refine (HTOP.out _).mono ?_
      rintro e w4 ⟨rfl, hk⟩
      go_wp2
      go_ret
      refine ⟨ret_bool ?_, HK3.out.trans hk (fun _ _ h => h)⟩
      rw [Bool.eq_iff_iff]
      simp only [decide_eq_true_eq, beq_iff_eq]
      rw [← HN2.out]
      omega
end Go.Proofs.Ythddfkemagpiaaa

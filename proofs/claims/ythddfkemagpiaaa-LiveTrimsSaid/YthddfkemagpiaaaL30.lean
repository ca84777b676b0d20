/-
  What is proved: what an argument that is a grammar reads as in memory. Condition: it can be read, and it is of the size that a row takes.
-/
import Derived.Test.YthddfkemagpiaaaL29
import Derived.Test.YthddfkemagpiaaaLift
import Derived.SliceStrings
import Derived.ChangeSlices
import Derived.Deep.SlicePairs
import Derived.Lib.SmallJoins
import Derived.SizedLaws
set_option linter.unusedVariables false
set_option linter.unusedSimpArgs false
namespace Go.Proofs.Ythddfkemagpiaaa
open Go.RowKit Go.ChangeShapes Go.WideShapes Go.ChangeAt Go.Deep Go.Joins
theorem cells_int : Try.prog.cellsOf 3 = 1 := by kernel_rfl
theorem cells_str : Try.prog.cellsOf 9 = 1 := by kernel_rfl
theorem ba_empty : (ByteArray.empty : ByteArray) = ⟨#[]⟩ := rfl
theorem rdo_of_add {w : World} {a : Addr} {vs : List Value} (h : ∀ i, i < vs.length → w.cell? (a.add i) = vs[i]?) : Rd w (some a) vs := by
  by_cases hv : vs = []
  · exact .inl hv
  · have h0 := h 0 (List.length_pos_iff.2 hv)
    have ha : a.add 0 = a := by simp [Addr.add]
    rw [ha, List.getElem?_eq_getElem (List.length_pos_iff.2 hv)] at h0
    obtain ⟨b, o, s⟩ := a
    have hs : s = none := by
      cases s with
      | none => rfl
      | some x =>
        simp only [World.cell?] at h0
        split at h0 <;> simp at h0
    subst hs
    refine .inr ⟨b, o, rfl, fun j hj => ?_⟩
    rw [← h j hj]
    congr 1
    unfold Addr.add
    split
    · rename_i e; subst e; rfl
    · rfl
theorem mem_weightsAll {H : Type} {P : Program} {e : TypeId} {d : DataW H} {n : Nat} : ∀ {l : List (DataW H)}, d ∈ l → n ∈ d.weights P e → n ∈ DataW.weightsAll P e l
  | [], h, _ => by cases h
  | x :: l, h, hn => by
    rw [DataW.weightsAll, List.mem_append]
    rcases List.mem_cons.1 h with rfl | h
    · exact .inl hn
    · exact .inr (mem_weightsAll h hn)
theorem rb_le {n : Nat} (h : n ≤ reachBytes) : n ≤ rb := by
  have : reachBytes = 140737488351232 := by decide
  unfold rb; omega
section
variable {H : Type} {enc : TypeId × Value → H} {W : World} {base : Nat}
theorem slice_w {t e : TypeId} {l s : List (DataW H)} (ht : Try.prog.underlying t = some (.slice e)) (hb : 1 ≤ Try.prog.bytesOf e) (hz : ∀ n ∈ (DataW.slice l s).weights Try.prog t, n ≤ reachBytes) :
    l.length ≤ reachBytes ∧ ∀ d, d ∈ l → ∀ n ∈ d.weights Try.prog e, n ≤ reachBytes := by
  rw [DataW.weights, ht] at hz
  constructor
  · have h1 := hz _ (List.mem_cons_self ..)
    have h2 : l.length * 1 ≤ (l.length + s.length) * Try.prog.bytesOf e := Nat.mul_le_mul (by omega) hb
    omega
  · intro d hd n hn
    exact hz n (List.mem_cons_of_mem _ (List.mem_append_left _ (mem_weightsAll hd hn)))
theorem open_strs_sized {fuel : Nat} {v : Value} {y : DataW H × List MemPlace} (h : DataW.trod enc Try.prog W base (fun _ => true) true fuel 22 [v] = some y) (hz : ∀ n ∈ y.1.weights Try.prog 22, n ≤ reachBytes) :
    ∃ a c L, v = .slice a (L : List ByteArray).length c ∧ Rd W a (sv L) ∧ L.length ≤ rb ∧ ∀ s, s ∈ L → s.size ≤ rb := by
  rcases open_strings Try.underlying22 Try.underlying9 cells_str h with ⟨hcs, hx⟩ | ⟨a, len, cap, ss, hcs, _, hl, hm, hzz, hx, hcell, hwz⟩
  · simp at hcs
    subst hcs
    exact ⟨none, 0, [], rfl, .inl rfl, by simp, by simp⟩
  · simp at hcs
    subst hcs
    subst hx
    simp at hzz
    obtain ⟨h1, h2⟩ := slice_w Try.underlying22 (by rw [show Try.prog.bytesOf 9 = 16 by kernel_rfl]; decide) hz
    refine ⟨some a, cap, ss.take len, by simp [hzz, hl], rdo_of_add fun i hi => ?_, ?_, fun s hs => ?_⟩
    · rw [sv_len] at hi
      have hi' : i < len ∧ i < ss.length := by simp at hi; omega
      have hgt : (ss.take len).getD i ⟨#[]⟩ = ss.getD i ⟨#[]⟩ := by simp [List.getD, List.getElem?_take, hi'.1]
      rw [hcell i hi'.2, sv_get _ _ hi, hgt, ba_empty]
    · simpa [strs] using rb_le h1
    · have := h2 (.lit (.string s.data.toList)) (by unfold strs; exact List.mem_map.2 ⟨s, hs, rfl⟩) s.data.toList.length (by rw [DataW.weights]; exact List.mem_singleton.2 rfl)
      have h3 := rb_le this
      rw [Array.length_toList] at h3
      exact h3
theorem open_ints_sized {fuel : Nat} {v : Value} {y : DataW H × List MemPlace} (h : DataW.trod enc Try.prog W base (fun _ => true) true fuel 34 [v] = some y) (hz : ∀ n ∈ y.1.weights Try.prog 34, n ≤ reachBytes) :
    ∃ a c L, v = .slice a (L : List Int).length c ∧ Rd W a (iv L) ∧ L.length ≤ rb ∧ L.length ≤ c := by
  rcases open_ints Try.underlying34 Try.underlying3 cells_int h with ⟨hcs, hx⟩ | ⟨a, len, cap, zs, hcs, _, hl, hm, hzz, hx, hcell, hwz⟩
  · simp at hcs
    subst hcs
    exact ⟨none, 0, [], rfl, .inl rfl, by simp, by simp⟩
  · simp at hcs
    subst hcs
    subst hx
    simp at hzz
    obtain ⟨h1, h2⟩ := slice_w Try.underlying34 (by rw [show Try.prog.bytesOf 3 = 8 by kernel_rfl]; decide) hz
    refine ⟨some a, cap, zs.take len, by simp [hzz, hl], rdo_of_add fun i hi => ?_, ?_, by simp; omega⟩
    · have hi' : i < len ∧ i < zs.length := by simp [iv] at hi; omega
      rw [hcell i hi'.2]
      simp [iv, List.getD, List.getElem?_take, hi'.1, hi'.2]
    · simpa [lits] using rb_le h1
theorem open_rules_sized {fuel : Nat} {v : Value} {y : DataW H × List MemPlace} (h : DataW.trod enc Try.prog W base (fun _ => true) true fuel 23 [v] = some y) (hz : ∀ n ∈ y.1.weights Try.prog 23, n ≤ reachBytes) :
    ∃ a c L, v = .slice a (L : List Rl).length c ∧ RdR W a L ∧ L.length ≤ rb ∧ L.length ≤ c ∧ ∀ r, r ∈ L → r.2.length ≤ rb := by
  rcases open_slice_pairs Try.underlying23 Try.underlying40 (by kernel_rfl) rfl rfl (by kernel_rfl) (by kernel_rfl) h with ⟨hcs, hx⟩ | ⟨a, len, cap, m, n, V0, V1, D0, D1, P0, P1, hcs, _, hl, hm, hmm, hx, hcell⟩
  · simp at hcs
    subst hcs
    exact ⟨none, 0, [], rfl, .inl rfl, by simp, by simp, by simp⟩
  · simp at hcs
    subst hcs
    subst hx
    simp at hmm
    obtain ⟨h1, h2⟩ := slice_w Try.underlying23 (by rw [show Try.prog.bytesOf 40 = 32 by kernel_rfl]; decide) hz
    have key : ∀ i, i < len → ∃ q : Rl, ∃ ra rc, W.cell? (a.add (i * 2)) = some (.int .i64 q.1) ∧ W.cell? (a.add (i * 2 + 1)) = some (.slice ra q.2.length rc) ∧ Rd W ra (iv q.2) ∧ q.2.length ≤ rb ∧ q.2.length ≤ rc := by
      intro i hi
      obtain ⟨g1, g2, g3, g4⟩ := hcell i (by omega)
      obtain ⟨x, e1, _, _⟩ := DataW.trod_int Try.underlying3 g3
      have hw : ∀ n ∈ (D1 i).weights Try.prog 34, n ≤ reachBytes := fun n hn =>
        h2 (.agg [D0 i, D1 i]) (List.mem_map.2 ⟨i, List.mem_range.2 hi, rfl⟩) n (by
          rw [DataW.weights, Try.underlying40]
          exact DataW.weights_mem_each (j := 1) (t := 34) rfl rfl n hn)
      obtain ⟨ra, rc, L, e2, hr, hb1, hb2⟩ := open_ints_sized g4 hw
      simp at e1
      exact ⟨(x, L), ra, rc, by rw [g1, e1], by rw [g2, e2], hr, hb1, hb2⟩
    classical
    let q : Nat → Rl := fun i => if h : i < len then Classical.choose (key i h) else (0, [])
    have hq : ∀ i, i < len → ∃ ra rc, W.cell? (a.add (i * 2)) = some (.int .i64 (q i).1) ∧ W.cell? (a.add (i * 2 + 1)) = some (.slice ra (q i).2.length rc) ∧ Rd W ra (iv (q i).2) ∧ (q i).2.length ≤ rb ∧ (q i).2.length ≤ rc := by
      intro i hi
      have : q i = Classical.choose (key i hi) := by simp [q, hi]
      rw [this]
      exact Classical.choose_spec (key i hi)
    refine ⟨some a, cap, (List.range len).map q, by simp, ?_, by simpa using rb_le h1, by simpa using hl, fun r hr => ?_⟩
    · by_cases h0 : len = 0
      · left; simp [h0]
      · right
        obtain ⟨b, o, s⟩ := a
        have hs : s = none := by
          obtain ⟨_, _, h0, _⟩ := hq 0 (by omega)
          cases s with
          | none => rfl
          | some x =>
            simp [Addr.add, World.cell?] at h0
            split at h0 <;> simp at h0
        subst hs
        refine ⟨b, o, rfl, fun j r hj => ?_⟩
        have hj' : j < len := by have := (List.getElem?_eq_some_iff.1 hj).1; simpa using this
        obtain rfl : q j = r := by simpa [hj'] using hj
        obtain ⟨ra, rc, c0, c1, hr, hb1, hb2⟩ := hq j hj'
        have ea : (⟨b, o, none⟩ : Addr).add (j * 2) = ⟨b, o + j * 2, none⟩ := by unfold Addr.add; split <;> simp_all
        have eb : (⟨b, o, none⟩ : Addr).add (j * 2 + 1) = ⟨b, o + j * 2 + 1, none⟩ := by unfold Addr.add; simp; omega
        rw [ea] at c0
        rw [eb] at c1
        exact ⟨ra, rc, c0, c1, hr, by unfold rb at hb1; unfold big; omega, hb2⟩
    · obtain ⟨j, hj, rfl⟩ := List.mem_map.1 hr
      obtain ⟨_, _, _, _, _, hb1, _⟩ := hq j (List.mem_range.1 hj)
      exact hb1
set_option maxRecDepth 100000 in
theorem open_gram {r : Reach} {b0 : Nat} {v : Value} {d : DataW H} {p : List MemPlace} (hv : Value.okWide Try.prog W r b0 25 v) (h : DataW.Trod enc Try.prog W base (fun _ => true) true 25 v d p) (hz : ∀ n ∈ d.weights Try.prog 25, n ≤ reachBytes) :
    ∃ q g, v = gv q g ∧ GA W q g ∧ Bg g := by
  obtain ⟨v0, v1, v2, v3, y0, y1, y2, y3, n, rfl, rfl, rfl, h0, h1, h2, h3⟩ := open_agg4 Try.underlying25 (by kernel_rfl) (by kernel_rfl) hv h
  have hw : ∀ (j : Nat) (t : TypeId) (x : DataW H), [22, 22, 23, 3][j]? = some t → [y0.1, y1.1, y2.1, y3.1][j]? = some x → ∀ n ∈ x.weights Try.prog t, n ≤ reachBytes := fun j t x e1 e2 n hn =>
    hz n (by
      rw [DataW.weights, Try.underlying25]
      exact DataW.weights_mem_each (j := j) e1 e2 n hn)
  obtain ⟨a0, c0, L0, rfl, r0, m0, k0⟩ := open_strs_sized h0 (hw 0 22 _ rfl rfl)
  obtain ⟨a1, c1, L1, rfl, r1, m1, k1⟩ := open_strs_sized h1 (hw 1 22 _ rfl rfl)
  obtain ⟨a2, c2, L2, rfl, r2, m2, l2, k2⟩ := open_rules_sized h2 (hw 2 23 _ rfl rfl)
  obtain ⟨x, e3, _, _⟩ := DataW.trod_int Try.underlying3 h3
  simp at e3
  subst e3
  unfold rb at m0 m1 m2
  exact ⟨⟨a0, c0, a1, c1, a2, c2⟩, ⟨L0, L1, L2, x⟩, rfl, ⟨r0, r1, r2, by simp only; unfold big; omega, by simp only; unfold big; omega, by simp only; unfold big; omega, l2⟩, ⟨m0, m1, m2, k0, k1, k2⟩⟩
end
end Go.Proofs.Ythddfkemagpiaaa

/-
  What is proved: append of any slice, nil or not, empty or not, to a row of the call's own; what slices.Grow and slices.Concat answer at two lists of names. Conditions: those of each theorem.
-/
import Derived.Test.YthddfkemagpiaaaL8
import Derived.Deep.Upon
import Derived.Lib.AppendZerosOnto
set_option linter.unusedVariables false
set_option linter.unusedSimpArgs false
namespace Go.Proofs.Ythddfkemagpiaaa
open Go.RowKit
theorem wpList_app {P : Program} {w : World} {ops : Array Oper} {rest : List Oper} {o : Oper} {a : Act} {Q : Exit → Act → World → Prop} (hgd : o.guard = none) (s x : Operand) (t : TypeId)
    (ho : o.op = .call { callee := .builtin .append, args := #[s, x], argTypes := #[t, t] })
    (base : Nat) (e : TypeId) (i : TypeInfo) (z : Value) (size bytes : Nat) (ht : P.underlying t = some (.slice e)) (hi : P.info? e = some i) (hz : i.zero = some z)
    (hsize : i.size = size) (hby : i.bytes = bytes) (hzs : z.cells.size = size) (hsz : 0 < size)
    (v : Value) (n : Nat) (xs : List Value) (hs : a.eval s = v) (hown : w.ownsRow base e size v n xs)
    (ao : Option Addr) (m c : Nat) (news : List Value) (hx : a.eval x = .slice ao m c) (hl : news.length = m * size)
    (hnews : m = 0 ∨ ∃ ad, ao = some ad ∧ ∀ j u, news[j]? = some u → w.cell? (ad.add j) = some u) (h1 : ∀ u ∈ news, u.oneCell' = true)
    (h63 : n + m ≤ maxLen) (hbytes : (n + m) * bytes ≤ 140737488355328) (hbase : base ≤ w.heap.size)
    (h : ∀ v' w', w'.ownsRow base e size v' (n + m) (xs ++ news) → w.grownBy w' v.ownBlock → wpList P ops Q rest (a.put o.dst v') w') : wpList P ops Q (o :: rest) a w := by
  by_cases h0 : m = 0
  · subst h0
    have hn0 : news = [] := List.length_eq_zero_iff.1 (by simpa using hl)
    subst hn0
    have hsrc : Src P i.size t (.slice ao 0 c) 0 [] w := by
      cases ao with
      | none => exact Src.ofNil w ht c
      | some ad => exact Src.ofSlice w ht ad 0 c [] (by simp) (fun j u hj => by simp at hj) (by simp)
    obtain ⟨b0, l0, c0, hv, hle⟩ : ∃ b0 l0 c0, v = .slice b0 l0 c0 ∧ l0 ≤ c0 := by
      rcases hown.2 with ⟨rfl, _⟩ | ⟨g, cap, cur, rfl, _, _, hle, _⟩
      · exact ⟨none, 0, 0, rfl, Nat.le_refl _⟩
      · exact ⟨_, _, _, rfl, hle⟩
    have hfin := h v w (by simpa using hown) ⟨rfl, rfl, rfl, Nat.le_refl _, fun _ _ _ => rfl⟩
    refine wpList_plain hgd fun K hK => ?_
    have hrun := run_append_nothing (P := P) w t t o.type e i ht hi b0 l0 c0 hle (.slice ao 0 c) hsrc
    unfold Oper.wp
    simp [execOp, ho, resolve, invoke, builtin, hs, hx, hv, hrun, Result.andThen]
    rw [← hv]
    exact hK _ _ hfin
  · rcases hnews with h2 | ⟨ad, rfl, hnews⟩
    · exact absurd h2 h0
    exact wpList_append_lies w hgd s x t ho base e i z size bytes ht hi hz hsize hby hzs hsz v n xs hs hown ad m c news hx hl hnews h1 (by omega) h63 hbytes hbase _ rfl (fun g cap w' h3 h4 _ _ => h _ w' h3 h4)
theorem rd_news {w : World} {a : Option Addr} {vs : List Value} (h : Rd w a vs) : vs.length = 0 ∨ ∃ ad, a = some ad ∧ ∀ j u, vs[j]? = some u → w.cell? (ad.add j) = some u := by
  rcases h with h | ⟨b, o, rfl, hc⟩
  · exact .inl (by rw [h]; rfl)
  · refine .inr ⟨_, rfl, fun j u hj => ?_⟩
    have hlt : j < vs.length := (List.getElem?_eq_some_iff.1 hj).1
    have : (⟨b, o, none⟩ : Addr).add j = ⟨b, o + j, none⟩ := by unfold Addr.add; split <;> simp_all
    rw [this, hc j hlt, hj]
theorem wpList_app_run {P : Program} {w w' : World} {ops : Array Oper} {rest : List Oper} {o : Oper} {a : Act} {Q : Exit → Act → World → Prop} (hgd : o.guard = none) (s x : Operand) (t tn : TypeId)
    (ho : o.op = .call { callee := .builtin .append, args := #[s, x], argTypes := #[t, tn] }) (v0 x0 v' : Value) (hs : a.eval s = v0) (hx : a.eval x = x0)
    (hrun : (Builtin.append_ #[t, tn] o.type #[v0, x0]).run P w = .ok v' w') (h : wpList P ops Q rest (a.put o.dst v') w') : wpList P ops Q (o :: rest) a w := by
  refine wpList_plain hgd fun K hK => ?_
  unfold Oper.wp
  simp [execOp, ho, resolve, invoke, builtin, hs, hx, hrun, Result.andThen]
  exact hK _ _ h
theorem kept_app2 {w0 wr w2 w1 : World} {t : TypeId} {s : Nat} {v : Value} {n : Nat} {vs : List Value} (hk : Kept nob w0 wr) (ho : wr.ownsRow w0.heap.size t s v n vs) (hk2 : Kept nob wr w2) (hg : w2.grownBy w1 v.ownBlock) : Kept nob w0 w1 :=
  (hk.trans hk2 (fun i hi h => h)).trans (Kept.ofGrown hg) (fun i hi h => by
    have := (ho.lt i h.symm).1
    omega)
theorem info_strings : (Try.prog.info? 9).map (fun i => (i.zero, i.size, i.bytes)) = some (some (.string ⟨#[]⟩), 1, 16) := by kernel_rfl
set_option maxRecDepth 100000 in
set_option maxHeartbeats 1000000 in
theorem grow_any (w : World) (n : Nat) (h0 : 0 < n) (hn : n ≤ 100000) : Calls Try.prog 125 #[.slice none 0 0, .int .i64 (n : Int)] w fun e w' => ∃ v, e = .returned v ∧ w'.ownsRow w.heap.size 9 1 v 0 [] ∧ Kept nob w w' := by
  obtain ⟨ti, hi, hz0, hz1, hz2⟩ := info_parts info_strings
  have hcap := nextslicecap_le (show 0 < 0 + n by omega)
  have hrun := fun ty kq => Lib.run_append_grow_zeros (P := Try.prog) w 22 3 ty 9 ti (.string ⟨#[]⟩) kq .i64 Try.underlying22 Try.underlying3 hi hz0 none 0 0 [] (run_firstCells_none w.drew ti.size 0 0 0) n h0 (by omega) (by omega) (by omega) (by rw [hz2]; omega) (by rw [hz2]; omega)
  obtain ⟨cap, hcp⟩ : ∃ cap, grownCap w (0 + n) 0 9 = cap := ⟨_, rfl⟩
  have hcm : cap ≤ maxLen := by rw [← hcp]; exact grownCap_le_maxLen w (0 + n) 0 9 (by unfold maxLen; omega)
  rw [hcp] at hrun
  go_enter Try.func125, Try.ntmps125
  have HRUN := Lib.hid hrun
  clear hrun hcap
  go_wp2_with (at_builtin; refine wpList_app_run rfl _ _ 22 3 rfl _ _ _ rfl rfl (HRUN.out _ _) ?_)
  go_ret
  refine ⟨_, rfl, ⟨rfl, .inr ⟨w.heap.size, cap, _, rfl, Nat.le_refl _, alloc_blk _ _, Nat.zero_le _, hcm, ?_, by simp⟩⟩, (Kept.alloc _ _ _).trans (Kept.drew _ _) (fun _ _ h => h)⟩
  have := grownCap_ge w (0 + n) 0 9
  rw [hcp] at this
  simp only [Array.size_append, size_zeroCells]
  simp
  omega
theorem grow_all (w : World) (n : Nat) (hn : n ≤ 100000) : Calls Try.prog 125 #[.slice none 0 0, .int .i64 (n : Int)] w fun e w' => ∃ a m c, e = .returned (.slice a m c) ∧ Hid (w'.ownsRow w.heap.size 9 1 (.slice a m c) 0 []) ∧ Hid (Kept nob w w') := by
  by_cases h0 : 0 < n
  · refine (grow_any w n h0 hn).mono ?_
    rintro e w' ⟨v, rfl, h1, h2⟩
    obtain ⟨a, c, hv⟩ := own_slice1 h1
    exact ⟨a, 0, c, by rw [hv], Lib.hid (by rw [← hv]; exact h1), Lib.hid h2⟩
  · obtain rfl : n = 0 := by omega
    go_enter Try.func125, Try.ntmps125
    go_wp2
    go_ret
    exact ⟨none, 0, 0, rfl, Lib.hid (World.ownsRow_nil _ _ _ _), Lib.hid (Kept.refl _ _)⟩
def CcRel (w0 : World) (T N : List ByteArray) (v i : Value) (wr : World) : Prop :=
  ∃ k : Nat, i = .int .i64 (k : Int) ∧ k ≤ 2 ∧ (∃ a n c, v = .slice a n c) ∧ Hid (wr.ownsRow w0.heap.size 9 1 v (((if 0 < k then T else []) ++ (if 1 < k then N else [])).length) (sv ((if 0 < k then T else []) ++ (if 1 < k then N else [])))) ∧ Hid (Kept nob w0 wr)
set_option maxRecDepth 100000 in
set_option maxHeartbeats 4000000 in
theorem concat_any (w : World) (q : Nat) (ta na : Option Addr) (tc nc : Nat) (T N : List ByteArray) (h0 : w.cell? ⟨q, 0, none⟩ = some (.slice ta T.length tc)) (h1 : w.cell? ⟨q, 1, none⟩ = some (.slice na N.length nc)) (hT : Rd w ta (sv T)) (hN : Rd w na (sv N)) (hl : T.length + N.length ≤ 1000) :
    Calls Try.prog 105 #[.slice (some ⟨q, 0, none⟩) 2 2] w (RetRow w 9 (sv (T ++ N))) := by
  obtain ⟨ti, hi, hz0, hz1, hz2⟩ := info_parts info_strings
  have HT := Lib.hid hT
  have HN := Lib.hid hN
  have H0 := Lib.hid h0
  have H1 := Lib.hid h1
  clear hT hN h0 h1
  go_enter Try.func105, Try.ntmps105
  go_wp2
  go_loop [3, 11] (fun s i => ∃ k m : Nat, i = .int .i64 (k : Int) ∧ s = .int .i64 (m : Int) ∧ k ≤ 2 ∧ m = (if 0 < k then T.length else 0) + (if 1 < k then N.length else 0)) (fun _ i => 2 - (intOf i).toNat)
  case atStart => exact ⟨0, 0, rfl, rfl, by omega, rfl⟩
  case round =>
    obtain ⟨k, m, rfl, rfl, hk, hm⟩ := hrel
    have hk3 : k = 0 ∨ k = 1 ∨ k = 2 := by omega
    rcases hk3 with rfl | rfl | rfl
    · have d := H0.out
      obtain rfl : m = 0 := by simpa using hm
      clear hm hk
      go_wp2
      go_round
      case rel => exact ⟨1, T.length, rfl, by go_num, by omega, by simp⟩
      case measure => simp [intOf]
    · have d := H1.out
      obtain rfl : m = T.length := by simpa using hm
      clear hm hk
      go_wp2
      go_round
      case rel => exact ⟨2, T.length + N.length, rfl, by go_num, by omega, by simp⟩
      case measure => simp [intOf]
    · obtain rfl : m = T.length + N.length := by simpa using hm
      clear hm hk
      have HG := Lib.hid (grow_all w (T.length + N.length) (by omega))
      obtain ⟨n0, hn0⟩ : ∃ n0 : Nat, T.length + N.length = n0 := ⟨_, rfl⟩
      rw [hn0] at HG hl ⊢
      go_wp2_with fail
      refine HG.out.mono ?_
      rintro e w1 ⟨a1, m1, c1, rfl, ho, hk⟩
      have H0' := Lib.hid (kcell hk.out H0.out)
      have H1' := Lib.hid (kcell hk.out H1.out)
      go_wp2
      go_loopw [6, 27] (fun v i wr => CcRel w T N v i wr) (fun _ i _ => 2 - (intOf i).toNat)
      case atStart => exact ⟨0, rfl, by omega, ⟨_, _, _, rfl⟩, Lib.hid (by simpa [sv] using ho.out), hk⟩
      case round =>
        obtain ⟨k, rfl, hk2, ⟨av, nv, cv, rfl⟩, HO, HK⟩ := hrel
        have hk3 : k = 0 ∨ k = 1 ∨ k = 2 := by omega
        have hb := HK.out.size
        rcases hk3 with rfl | rfl | rfl
        · have d := kcell HK.out H0.out
          have hr := HT.out.nob HK.out
          have hnew := rd_news hr
          rw [sv_len] at hnew
          have HOO : Hid (wr.ownsRow w.heap.size 9 1 (.slice av nv cv) 0 []) := Lib.hid (by simpa [sv] using HO.out)
          have HB := Lib.hid hb
          have HNW := Lib.hid hnew
          have T3 : Hid (0 + T.length ≤ maxLen) := Lib.hid (by unfold maxLen; omega)
          have T4 : Hid ((0 + T.length) * 16 ≤ 140737488355328) := Lib.hid (by omega)
          clear hnew hr hb hk2 HO
          go_wp2_with (at_builtin; refine wpList_app rfl _ _ 22 rfl w.heap.size 9 ti (.string ⟨#[]⟩) 1 16 Try.underlying22 hi hz0 hz1 hz2 rfl (by decide) _ _ _ rfl HOO.out _ _ _ (sv T) rfl (by simp [sv]) HNW.out (sv_one T) T3.out T4.out HB.out ?_)
          intro v' w2 hown hgrow
          obtain ⟨a', c', rfl⟩ := own_slice1 hown
          have HK2 := Lib.hid (kept_app2 HK.out HOO.out (Kept.refl _ _) hgrow)
          have HO2 := Lib.hid hown
          clear hown hgrow HNW
          go_wp2
          go_roundw
          case rel => exact ⟨1, rfl, by omega, ⟨_, _, _, rfl⟩, Lib.hid (by simpa using HO2.out), HK2⟩
          case measure => simp [intOf]
        · have d := kcell HK.out H1.out
          have hr := HN.out.nob HK.out
          have hnew := rd_news hr
          rw [sv_len] at hnew
          have HOO : Hid (wr.ownsRow w.heap.size 9 1 (.slice av nv cv) T.length (sv T)) := Lib.hid (by simpa using HO.out)
          have HB := Lib.hid hb
          have HNW := Lib.hid hnew
          have T3 : Hid (T.length + N.length ≤ maxLen) := Lib.hid (by unfold maxLen; omega)
          have T4 : Hid ((T.length + N.length) * 16 ≤ 140737488355328) := Lib.hid (by omega)
          clear hnew hr hb hk2 HO
          go_wp2_with (at_builtin; refine wpList_app rfl _ _ 22 rfl w.heap.size 9 ti (.string ⟨#[]⟩) 1 16 Try.underlying22 hi hz0 hz1 hz2 rfl (by decide) _ _ _ rfl HOO.out _ _ _ (sv N) rfl (by simp [sv]) HNW.out (sv_one N) T3.out T4.out HB.out ?_)
          intro v' w2 hown hgrow
          obtain ⟨a', c', rfl⟩ := own_slice1 hown
          have HK2 := Lib.hid (kept_app2 HK.out HOO.out (Kept.refl _ _) hgrow)
          have HO2 := Lib.hid hown
          clear hown hgrow HNW
          go_wp2
          go_roundw
          case rel => exact ⟨2, rfl, by omega, ⟨_, _, _, rfl⟩, Lib.hid (by simpa [sv, hn0] using HO2.out), HK2⟩
          case measure => simp [intOf]
        · have HO2 : Hid (wr.ownsRow w.heap.size 9 1 (.slice av nv cv) (T.length + N.length) (sv (T ++ N))) := Lib.hid (by simpa using HO.out)
          clear hb hk2 HO
          go_wp2
          go_ret
          exact RetRow.mk HO2.out HK.out
end Go.Proofs.Ythddfkemagpiaaa

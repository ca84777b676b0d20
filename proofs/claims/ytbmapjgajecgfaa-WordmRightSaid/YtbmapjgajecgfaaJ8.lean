/-
  What is proved: what Rest gives ends a machine's word, in states alone; what Rest gives ends a machine's word, in every state; how long it is; how long Rest is, and in which states a byte that is taken leaves a machine; a text whose bytes end as a word behind its first byte gives a right word. Conditions: those of each theorem.
-/
import Derived.Test.YtbmapjgajecgfaaJ7
set_option linter.unusedVariables false
set_option linter.unusedSimpArgs false
namespace Go.Proofs.Ytbmapjgajecgfaa
open Go.RowKit
def St.whs (s : St) : List Int := s.all.map Lvl.wh
def whEnd (w : Int) : UInt8 := if w = 1 then 34 else 125
def ends (l : List Int) : List UInt8 := l.tail.reverse.map whEnd
theorem ends_eq (s : St) : s.all.tail.reverse.map lvEnd = ends s.whs := by
  unfold ends St.whs
  rw [← List.map_tail, ← List.map_reverse, List.map_map]
  rfl
theorem feed_of {s t : St} {c : UInt8} (h : stNext s c = (0, t)) : stFeed s c = (0, {t with pl := t.pl ++ [c]}) := by
  unfold stFeed
  rw [h]
  rfl
theorem whs_eq (s : St) : s.whs = s.lo.map Lvl.wh ++ [s.tp.wh] := by simp [St.whs, St.all]
theorem whs_add (s : St) (p : Prt) : (s.add p).whs = s.whs := by
  rw [whs_eq, whs_eq]
  show _ ++ [s.tp.flush.wh] = _
  rw [flush_wh]
  rfl
theorem whs_lit (s : St) (bs : List UInt8) : (s.lit bs).whs = s.whs := by rw [whs_eq, whs_eq]; rfl
theorem whs_push (s : St) (wh : Int) (nm op : ByteArray) : (s.push wh nm op).whs = s.whs ++ [wh] := by
  rw [whs_eq, whs_eq]
  show (s.lo ++ [s.tp]).map _ ++ [wh] = _
  simp
theorem whs_pop {s : St} (hne : s.lo ≠ []) : s.whs = s.pop.whs ++ [s.tp.wh] := by
  have hd : s.lo.dropLast ++ [s.lo.getLastD s.tp] = s.lo := by
    rw [List.getLastD_eq_getLast?, List.getLast?_eq_some_getLast hne]
    exact List.dropLast_concat_getLast hne
  have e : s.pop.whs = (({s with lo := s.lo.dropLast, tp := s.lo.getLastD s.tp} : St).add s.tp.flush.part).whs := rfl
  rw [e, whs_add, whs_eq, whs_eq]
  show _ = (s.lo.dropLast.map _ ++ [(s.lo.getLastD s.tp).wh]) ++ _
  have := congrArg (fun l : List Lvl => l.map Lvl.wh) hd
  simp only [List.map_append, List.map_cons, List.map_nil] at this
  rw [this]
/-- The last byte of all: a blank. -/
theorem text_blank {s : St} (hlo : s.lo = []) (hw : s.wf) : ∃ x, stText s 32 = (1, x) ∧ x.kd = 16 := by
  have h0 : s.tp.wh = 0 := by
    obtain ⟨l, r, h1, h2, _⟩ := hw
    unfold St.all at h1
    rw [hlo] at h1
    simp at h1
    rw [h1.1, h2]
  refine ⟨{s with tp := s.tp.flush, kd := 16}, ?_, rfl⟩
  unfold stText
  rw [if_neg (by decide), if_pos ⟨h0, by decide⟩]
theorem text_end {s : St} (hne : s.lo ≠ []) (hw : s.wf) : stText s (whEnd s.tp.wh) = (0, s.pop) := by
  have h12 : s.tp.wh = 1 ∨ s.tp.wh = 2 := by
    obtain ⟨l, r, h1, h2, h3⟩ := hw
    unfold St.all at h1
    obtain ⟨x, t, hs⟩ := List.exists_cons_of_ne_nil hne
    rw [hs] at h1
    simp at h1
    exact h3 s.tp (by rw [← h1.2]; simp)
  unfold stText whEnd
  rcases h12 with h | h
  · rw [h]; simp
  · rw [h]; simp
theorem close_text (n : Nat) : ∀ (s : St) (i : Nat), s.lo.length = n → s.kd = 0 → s.wf → ∃ x, run s (ends s.whs ++ [32]) i = (x, i + (ends s.whs).length, 1) ∧ x.kd = 16 := by
  induction n with
  | zero =>
    intro s i hl hk hw
    have hlo : s.lo = [] := List.eq_nil_of_length_eq_zero hl
    obtain ⟨x, h1, h2⟩ := text_blank hlo hw
    have he : ends s.whs = [] := by rw [whs_eq, hlo]; rfl
    rw [he]
    have hn : stNext s 32 = (1, x) := by unfold stNext; rw [hk]; exact h1
    have hf : stFeed s 32 = (1, x) := by unfold stFeed; rw [hn]; rfl
    refine ⟨x, ?_, h2⟩
    show run s [32] i = _
    rw [run_cons, hf]
    rfl
  | succ n ih =>
    intro s i hl hk hw
    have hne : s.lo ≠ [] := by intro e; rw [e] at hl; cases hl
    have hp := whs_pop hne
    have hlo : s.pop.lo.length = n := by show s.lo.dropLast.length = n; simp; omega
    have hpw : s.pop.wf := by
      obtain ⟨l, r, h1, h2, h3⟩ := hw
      have hd : s.lo.dropLast ++ [s.lo.getLastD s.tp] = s.lo := by
        rw [List.getLastD_eq_getLast?, List.getLast?_eq_some_getLast hne]
        exact List.dropLast_concat_getLast hne
      have h0 : ({s with lo := s.lo.dropLast, tp := s.lo.getLastD s.tp} : St).wf := by
        obtain ⟨x, t, hs⟩ := List.exists_cons_of_ne_nil hne
        unfold St.all at h1
        rw [hs] at h1
        simp at h1
        have e : ({s with lo := s.lo.dropLast, tp := s.lo.getLastD s.tp} : St).all = s.lo := hd
        exact ⟨l, t, e.trans (hs.trans (by rw [h1.1])), h2, fun y hy => h3 y (by rw [← h1.2]; simp [hy])⟩
      exact add_wf h0 _
    have hwne : s.pop.whs ≠ [] := by rw [whs_eq]; simp
    have he : ends s.whs = whEnd s.tp.wh :: ends s.pop.whs := by
      rw [hp]
      unfold ends
      obtain ⟨a, b, hab⟩ := List.exists_cons_of_ne_nil hwne
      rw [hab]
      simp
    have hn : stNext s (whEnd s.tp.wh) = (0, s.pop) := by unfold stNext; rw [hk]; exact text_end hne hw
    obtain ⟨x, h1, h2⟩ := ih {s.pop with pl := s.pop.pl ++ [whEnd s.tp.wh]} (i + 1) hlo rfl hpw
    refine ⟨x, ?_, h2⟩
    rw [he, List.cons_append, run_goes (feed_of hn)]
    have e2 : ({s.pop with pl := s.pop.pl ++ [whEnd s.tp.wh]} : St).whs = s.pop.whs := rfl
    rw [e2] at h1
    rw [h1]
    simp only [List.length_cons]
    congr 2
    omega
/-- What text does with a byte that ends a level, or the word, another state does too. -/
theorem close_as {s t : St} (h : ∀ c, c = 34 ∨ c = 125 ∨ c = 32 → stNext s c = stNext t c) (hw : t.whs = s.whs) (hk : t.kd = 0) (hwf : t.wf) (i : Nat) : ∃ x, run s (ends s.whs ++ [32]) i = (x, i + (ends s.whs).length, 1) ∧ x.kd = 16 := by
  obtain ⟨x, h1, h2⟩ := close_text _ t i rfl hk hwf
  rw [hw] at h1
  refine ⟨x, ?_, h2⟩
  rw [← h1]
  have hf : ∀ c, c = 34 ∨ c = 125 ∨ c = 32 → stFeed s c = stFeed t c := fun c hc => by unfold stFeed; rw [h c hc]
  have hrun : ∀ c r, c = 34 ∨ c = 125 ∨ c = 32 → run s (c :: r) i = run t (c :: r) i := fun c r hc => by rw [run_cons, run_cons, hf c hc]
  rcases he : ends s.whs with _ | ⟨c, r⟩
  · exact hrun 32 [] (.inr (.inr rfl))
  · refine hrun c _ ?_
    have : c ∈ ends s.whs := by rw [he]; simp
    unfold ends at this
    obtain ⟨w, _, hw⟩ := List.mem_map.1 this
    unfold whEnd at hw
    split at hw
    · exact .inl hw.symm
    · exact .inr (.inl hw.symm)
end Go.Proofs.Ytbmapjgajecgfaa
set_option linter.unusedVariables false
set_option linter.unusedSimpArgs false
namespace Go.Proofs.Ytbmapjgajecgfaa
open Go.RowKit
def EndsAt (s : St) (L : List UInt8) (i : Nat) : Prop := ∃ x, run s (L ++ [32]) i = (x, i + L.length, 1) ∧ x.kd = 16
/-- One byte of what is missing. -/
theorem EndsAt.cons {s t : St} {c : UInt8} {L : List UInt8} {i : Nat} (h : stFeed s c = (0, t)) (h2 : EndsAt t L (i + 1)) : EndsAt s (c :: L) i := by
  obtain ⟨x, h3, h4⟩ := h2
  refine ⟨x, ?_, h4⟩
  rw [List.cons_append, run_goes h, h3]
  simp only [List.length_cons]
  congr 2
  omega
/-- A state in which a text goes on. -/
theorem ends_text {s t : St} (hk : t.kd = 0) (hw : t.whs = s.whs) (hwf : t.wf) (i : Nat) : EndsAt t (ends s.whs) i := by
  obtain ⟨x, h1, h2⟩ := close_text _ t i rfl hk hwf
  rw [hw] at h1
  exact ⟨x, h1, h2⟩
theorem step_text {s t : St} {c : UInt8} (h : stNext s c = (0, t)) (hk : t.kd = 0) (hw : t.whs = s.whs) (hwf : t.wf) (i : Nat) : EndsAt s (c :: ends s.whs) i :=
  EndsAt.cons (feed_of h) (ends_text (s := s) (t := {t with pl := t.pl ++ [c]}) hk hw hwf _)
theorem feed_add {s : St} {c : UInt8} {p : Prt} (h : stNext s c = (0, (s.add p).turn 0)) (hwf : s.wf) (i : Nat) : EndsAt s (c :: ends s.whs) i :=
  step_text h rfl (whs_add s p) (add_wf hwf p) i
theorem cls_q : cls (34 : UInt8).toNat = 6 ∧ cls (125 : UInt8).toNat = 8 ∧ cls (32 : UInt8).toNat = 1 := by decide
theorem spc_q : spc (34 : UInt8).toNat = false ∧ spc (125 : UInt8).toNat = false ∧ spc (32 : UInt8).toNat = false := by decide
theorem dollar_as {s : St} (hk : s.kd = 2) : ∀ c, c = 34 ∨ c = 125 ∨ c = 32 → stNext s c = stNext ((s.lit [36]).turn 0) c := by
  intro c hc
  have e : stNext s c = stDollar s c := by unfold stNext; rw [hk]; rfl
  have e2 : stNext ((s.lit [36]).turn 0) c = stText ((s.lit [36]).turn 0) c := rfl
  rw [e, e2]
  unfold stDollar
  rcases hc with rfl | rfl | rfl
  · rw [if_neg (by decide), if_neg (by decide), if_neg (by decide), if_neg (by decide)]
  · rw [if_neg (by decide), if_neg (by decide), if_neg (by decide), if_neg (by decide)]
  · rw [if_neg (by decide), if_neg (by decide), if_neg (by decide), if_neg (by decide)]
theorem bare_as {s : St} (hk : s.kd = 4) : ∀ c, c = 34 ∨ c = 125 ∨ c = 32 → stNext s c = stNext ((s.add (.mk 5 ⟨s.bu.toArray⟩ ⟨#[]⟩ [] 0)).turn 0) c := by
  intro c hc
  have e : stNext s c = stBare s c := by unfold stNext; rw [hk]; rfl
  have e2 : stNext ((s.add (.mk 5 ⟨s.bu.toArray⟩ ⟨#[]⟩ [] 0)).turn 0) c = stText ((s.add (.mk 5 ⟨s.bu.toArray⟩ ⟨#[]⟩ [] 0)).turn 0) c := rfl
  rw [e, e2]
  unfold stBare
  rcases hc with rfl | rfl | rfl
  · rw [if_neg (by decide)]
  · rw [if_neg (by decide)]
  · rw [if_neg (by decide)]
theorem behind_end {s : St} (hwf : s.wf) (i : Nat) (h : ∀ c, stNext s c = stBehind s c) : EndsAt s (125 :: ends s.whs) i := by
  refine feed_add (p := .mk 5 ⟨s.bu.toArray⟩ (if s.ln = true then ⟨#[108, 101, 110]⟩ else ⟨#[]⟩) [] 0) ?_ hwf i
  rw [h]
  unfold stBehind
  rw [if_pos rfl]
theorem name_end {s : St} (hwf : s.wf) (hk : s.kd = 7 ∨ s.kd = 8) (i : Nat) : EndsAt s (125 :: ends s.whs) i := by
  have e : stNext s 125 = (0, ((s.turn 9).add (.mk 5 ⟨s.bu.toArray⟩ (if s.ln = true then ⟨#[108, 101, 110]⟩ else ⟨#[]⟩) [] 0)).turn 0) := by
    have e1 : stNext s 125 = stName s 125 := by unfold stNext; rcases hk with h | h <;> rw [h] <;> rfl
    rw [e1]
    unfold stName
    rw [if_neg (by rw [cls_q.2.1]; omega)]
    unfold stBehind
    rw [if_pos rfl]
    rfl
  exact step_text e rfl (whs_add (s.turn 9) _) (add_wf (s := s.turn 9) hwf _) _
/-- What is missing of arithmetic. -/
theorem arith_end (n : Nat) : ∀ (s : St) (i : Nat), s.kd = 13 → s.dp = (n : Int) → s.wf → EndsAt s (List.replicate n 41 ++ ([41, 41] ++ ends s.whs)) i := by
  induction n with
  | zero =>
    intro s i hk hd hwf
    have e1 : stNext s 41 = (0, s.turn 14) := by
      have : stNext s 41 = stArith s 41 := by unfold stNext; rw [hk]; rfl
      rw [this]
      unfold stArith
      rw [if_neg (by decide), if_pos ⟨rfl, hd⟩]
    refine EndsAt.cons (feed_of e1) ?_
    exact feed_add (s := {s.turn 14 with pl := (s.turn 14).pl ++ [41]}) (p := .mk 7 ⟨s.bu.toArray⟩ ⟨#[]⟩ [] 0) rfl hwf _
  | succ n ih =>
    intro s i hk hd hwf
    have e1 : stNext s 41 = (0, {s with bu := s.bu ++ [41], dp := (n : Int)}) := by
      have : stNext s 41 = stArith s 41 := by unfold stNext; rw [hk]; rfl
      rw [this]
      unfold stArith
      rw [if_neg (by decide), if_neg (by rw [hd]; omega), if_pos rfl, hd]
      congr 2
      omega
    exact EndsAt.cons (feed_of e1) (ih {s with bu := s.bu ++ [41], dp := (n : Int), pl := s.pl ++ [41]} (i + 1) hk rfl hwf)
theorem rest_ends {s : St} (hwf : s.wf) (hk : s.kd ≤ 14) (hd : 0 ≤ s.dp) (hcu : s.kd = 11 → s.cu = 37 ∨ s.cu = 35) (i : Nat) : EndsAt s (stRest s) i := by
  have hr : stRest s = stMissing s ++ ends s.whs := by
    unfold stRest
    rw [if_neg (by omega), ends_eq]
  rw [hr]
  obtain ⟨k, hk'⟩ : ∃ k, s.kd = k := ⟨_, rfl⟩
  unfold stMissing
  rw [hk'] at hk hcu ⊢
  have key : k = 0 ∨ k = 1 ∨ k = 2 ∨ k = 3 ∨ k = 4 ∨ k = 5 ∨ k = 6 ∨ k = 7 ∨ k = 8 ∨ k = 9 ∨ k = 10 ∨ k = 11 ∨ k = 12 ∨ k = 13 ∨ k = 14 := by omega
  rcases key with rfl | rfl | rfl | rfl | rfl | rfl | rfl | rfl | rfl | rfl | rfl | rfl | rfl | rfl | rfl
  · exact ends_text hk' rfl hwf i
  · have e : stNext s 120 = stEscaped s 120 := by unfold stNext; rw [hk']; rfl
    unfold stEscaped at e
    rw [if_neg (by decide)] at e
    split at e
    · exact step_text e rfl (whs_lit s _) (lit_wf hwf _) _
    · exact step_text e rfl (whs_add {s with tk := s.tk ++ [120]} _) (add_wf (s := {s with tk := s.tk ++ [120]}) hwf _) _
  · exact close_as (dollar_as hk') (whs_lit s _) rfl (lit_wf hwf _) i
  · obtain ⟨x, hx, _⟩ := ari_run hk' i
    obtain ⟨lo, tp, kd, tk, pl, ex, qu, bu, dp, ln, cu⟩ := s
    obtain rfl : kd = 3 := hk'
    have f1 : stFeed (⟨lo, tp, 3, tk, pl, ex, qu, bu, dp, ln, cu⟩ : St) 40 = (0, ⟨lo, tp, 13, tk, pl ++ [40], ex, qu, [], 0, ln, cu⟩) := rfl
    have f2 : stFeed (⟨lo, tp, 13, tk, pl ++ [40], ex, qu, [], 0, ln, cu⟩ : St) 48 = (0, ⟨lo, tp, 13, tk, pl ++ [40] ++ [48], ex, qu, [48], 0, ln, cu⟩) := rfl
    exact EndsAt.cons f1 (EndsAt.cons f2 (arith_end 0 (⟨lo, tp, 13, tk, pl ++ [40] ++ [48], ex, qu, [48], 0, ln, cu⟩ : St) _ rfl rfl hwf))
  · exact close_as (bare_as hk') (whs_add s _) rfl (add_wf hwf _) i
  · have e : stNext s 120 = (0, ({s with ln := false, bu := [120]} : St).turn 7) := by
      have : stNext s 120 = stHead s 120 := by unfold stNext; rw [hk']; rfl
      rw [this]
      unfold stHead
      rw [if_neg (by decide)]
      unfold stParameter
      simp only
      rw [if_pos (by decide)]
    exact EndsAt.cons (feed_of e) (name_end (s := {({s with ln := false, bu := [120]} : St).turn 7 with pl := s.pl ++ [120]}) hwf (.inl rfl) _)
  · have e : stNext s 125 = (0, (s.add (.mk 5 ⟨#[35]⟩ ⟨#[]⟩ [] 0)).turn 0) := by
      have : stNext s 125 = stHash s 125 := by unfold stNext; rw [hk']; rfl
      rw [this]
      unfold stHash
      rw [if_pos rfl]
    exact feed_add e hwf i
  · exact name_end hwf (.inl hk') i
  · exact name_end hwf (.inr hk') i
  · exact behind_end hwf i (fun c => by unfold stNext; rw [hk']; rfl)
  · have e : stNext s 45 = (0, s.push 2 ⟨s.bu.toArray⟩ ⟨#[58, 45]⟩) := by
      have : stNext s 45 = stColon s 45 := by unfold stNext; rw [hk']; rfl
      rw [this]
      unfold stColon
      rw [if_pos (by decide)]
    refine EndsAt.cons (feed_of e) ?_
    have hp : EndsAt {s.push 2 ⟨s.bu.toArray⟩ ⟨#[58, 45]⟩ with pl := s.pl ++ [45]} (ends (s.push 2 ⟨s.bu.toArray⟩ ⟨#[58, 45]⟩).whs) (i + 1) := ends_text (s := s.push 2 ⟨s.bu.toArray⟩ ⟨#[58, 45]⟩) (t := {s.push 2 ⟨s.bu.toArray⟩ ⟨#[58, 45]⟩ with pl := s.pl ++ [45]}) rfl rfl (push_wf hwf (.inr rfl) _ _) _
    rw [whs_push] at hp
    have : ends (s.whs ++ [2]) = 125 :: ends s.whs := by
      have hne : s.whs ≠ [] := by rw [whs_eq]; simp
      obtain ⟨a, b, hab⟩ := List.exists_cons_of_ne_nil hne
      unfold ends
      rw [hab]
      simp [whEnd]
    rw [this] at hp
    exact hp
  · have e : stNext s 125 = (0, (s.push 2 ⟨s.bu.toArray⟩ ⟨#[s.cu.toNat.toUInt8]⟩).pop) := by
      have : stNext s 125 = stDouble s 125 := by unfold stNext; rw [hk']; rfl
      rw [this]
      unfold stDouble
      rw [if_neg (by rcases hcu rfl with h | h <;> rw [h] <;> decide)]
      exact text_end (s := s.push 2 ⟨s.bu.toArray⟩ ⟨#[s.cu.toNat.toUInt8]⟩) (by show s.lo ++ [s.tp] ≠ []; simp) (push_wf hwf (.inr rfl) _ _)
    refine EndsAt.cons (feed_of e) ?_
    have hw2 : (s.push 2 ⟨s.bu.toArray⟩ ⟨#[s.cu.toNat.toUInt8]⟩).pop.whs = s.whs := by
      have h1 := whs_pop (s := s.push 2 ⟨s.bu.toArray⟩ ⟨#[s.cu.toNat.toUInt8]⟩) (by show s.lo ++ [s.tp] ≠ []; simp)
      rw [whs_push] at h1
      exact (List.append_inj_left' h1 rfl).symm
    have hwf2 : (s.push 2 ⟨s.bu.toArray⟩ ⟨#[s.cu.toNat.toUInt8]⟩).pop.wf := by
      refine add_wf (s := {s.push 2 ⟨s.bu.toArray⟩ ⟨#[s.cu.toNat.toUInt8]⟩ with lo := (s.lo ++ [s.tp]).dropLast, tp := (s.lo ++ [s.tp]).getLastD _}) ?_ _
      obtain ⟨l, r, h1, h2, h3⟩ := hwf
      refine ⟨l, r, ?_, h2, h3⟩
      rw [← h1]
      show (s.lo ++ [s.tp]).dropLast ++ [(s.lo ++ [s.tp]).getLastD _] = s.lo ++ [s.tp]
      simp
    exact ends_text (s := s) (t := {(s.push 2 ⟨s.bu.toArray⟩ ⟨#[s.cu.toNat.toUInt8]⟩).pop with pl := s.pl ++ [125]}) rfl hw2 hwf2 _
  · have e : stNext s 39 = (0, (s.add (.mk 3 ⟨s.bu.toArray⟩ ⟨#[]⟩ [] 0)).turn 0) := by
      have : stNext s 39 = stSingle s 39 := by unfold stNext; rw [hk']; rfl
      rw [this]
      unfold stSingle
      rw [if_neg (by decide), if_pos rfl]
    exact feed_add e hwf i
  · have := arith_end s.dp.toNat s i hk' (by omega) hwf
    show EndsAt s ((List.replicate s.dp.toNat 41 ++ [41, 41]) ++ ends s.whs) i
    rw [List.append_assoc]
    exact this
  · have e : stNext s 41 = (0, (s.add (.mk 7 ⟨s.bu.toArray⟩ ⟨#[]⟩ [] 0)).turn 0) := by
      have : stNext s 41 = stArithEnd s 41 := by unfold stNext; rw [hk']; rfl
      rw [this]
      unfold stArithEnd
      rw [if_pos rfl]
    exact feed_add e hwf i
end Go.Proofs.Ytbmapjgajecgfaa
set_option linter.unusedVariables false
set_option linter.unusedSimpArgs false
namespace Go.Proofs.Ytbmapjgajecgfaa
open Go.RowKit
structure St.sml (n : Nat) (s : St) : Prop where
  lo : s.lo.length ≤ n
  dp : s.dp ≤ n
  cu : s.kd = 11 → s.cu = 37 ∨ s.cu = 35
def SmlR (n : Nat) (r : Int × St) : Prop := r.2.sml n ∧ (r.1 = 0 → r.2.kd ≤ 14)
theorem sml_of {n : Nat} {s : St} (h : s.sml n) (v : Int) (k : Nat) (t : St) (h1 : t.lo.length ≤ s.lo.length + 2) (h2 : t.dp ≤ s.dp + 1) (hk : t.kd = k) (h3 : k ≠ 11) (h4 : v = 0 → k ≤ 14) : SmlR (n + 2) (v, t) :=
  ⟨⟨by have := h.lo; show t.lo.length ≤ _; omega, by have := h.dp; show t.dp ≤ _; omega, fun e => absurd (hk.symm.trans e) h3⟩, fun e => by show t.kd ≤ 14; rw [hk]; exact h4 e⟩
theorem text_sml {n : Nat} {s t : St} (h : s.sml n) (h1 : t.lo.length ≤ s.lo.length + 1) (h2 : t.dp = s.dp) (hk : t.kd = 0) (c : UInt8) : SmlR (n + 2) (stText t c) := by
  have hp : ∀ (v : Int) (k : Nat) (x : St), x.lo.length ≤ t.lo.length + 1 → x.dp = t.dp → x.kd = k → k ≠ 11 → (v = 0 → k ≤ 14) → SmlR (n + 2) (v, x) := fun v k x a b e d f => sml_of h v k x (by omega) (by omega) e d f
  unfold stText
  split
  · exact hp 3 17 _ (by show t.lo.length ≤ _; omega) rfl rfl (by omega) (by omega)
  split
  · exact hp 1 16 _ (by show t.lo.length ≤ _; omega) rfl rfl (by omega) (by omega)
  split
  · exact hp 0 0 _ (by show t.lo.dropLast.length ≤ _; simp; omega) rfl rfl (by omega) (by omega)
  split
  · exact hp 0 1 _ (by show t.lo.length ≤ _; omega) rfl rfl (by omega) (by omega)
  split
  · exact hp 0 12 _ (by show t.lo.length ≤ _; omega) rfl rfl (by omega) (by omega)
  split
  · exact hp 0 0 _ (by show (t.lo ++ [t.tp]).length ≤ _; simp) rfl rfl (by omega) (by omega)
  split
  · exact hp 0 2 _ (by show t.lo.length ≤ _; omega) rfl rfl (by omega) (by omega)
  · exact hp 0 0 _ (by show t.lo.length ≤ _; omega) rfl hk (by omega) (by omega)
theorem behind_sml {n : Nat} {s t : St} (h : s.sml n) (h1 : t.lo = s.lo) (h2 : t.dp = s.dp) (c : UInt8) : SmlR (n + 2) (stBehind t c) := by
  have hp : ∀ (v : Int) (k : Nat) (x : St), x.lo.length ≤ t.lo.length + 1 → x.dp = t.dp → x.kd = k → k ≠ 11 → (v = 0 → k ≤ 14) → SmlR (n + 2) (v, x) := fun v k x a b e d f => sml_of h v k x (by rw [h1] at a; omega) (by omega) e d f
  unfold stBehind
  split
  · exact hp 0 0 _ (by show t.lo.length ≤ _; omega) rfl rfl (by omega) (by omega)
  split
  · exact hp 3 17 _ (by show t.lo.length ≤ _; omega) rfl rfl (by omega) (by omega)
  split
  · exact hp 0 10 _ (by show t.lo.length ≤ _; omega) rfl rfl (by omega) (by omega)
  split
  · rename_i hc
    refine ⟨⟨by have := h.lo; show t.lo.length ≤ _; rw [h1]; omega, by have := h.dp; show t.dp ≤ _; omega, fun _ => ?_⟩, fun _ => by show 11 ≤ 14; omega⟩
    rcases hc with rfl | rfl
    · exact .inl rfl
    · exact .inr rfl
  split
  · exact hp 0 0 _ (by show (t.lo ++ [t.tp]).length ≤ _; simp) rfl rfl (by omega) (by omega)
  · exact hp 3 17 _ (by show t.lo.length ≤ _; omega) rfl rfl (by omega) (by omega)
theorem parameter_sml {n : Nat} {s t : St} (h : s.sml n) (h1 : t.lo = s.lo) (h2 : t.dp = s.dp) (c : UInt8) : SmlR (n + 2) (stParameter t c) := by
  have hp : ∀ (v : Int) (k : Nat) (x : St), x.lo.length ≤ t.lo.length + 1 → x.dp = t.dp → x.kd = k → k ≠ 11 → (v = 0 → k ≤ 14) → SmlR (n + 2) (v, x) := fun v k x a b e d f => sml_of h v k x (by rw [h1] at a; omega) (by omega) e d f
  unfold stParameter
  simp only
  split
  · exact hp 0 7 _ (by show t.lo.length ≤ _; omega) rfl rfl (by omega) (by omega)
  split
  · exact hp 0 8 _ (by show t.lo.length ≤ _; omega) rfl rfl (by omega) (by omega)
  split
  · exact hp 0 9 _ (by show t.lo.length ≤ _; omega) rfl rfl (by omega) (by omega)
  · exact hp 3 17 _ (by show t.lo.length ≤ _; omega) rfl rfl (by omega) (by omega)
theorem next_sml {n : Nat} {s : St} (h : s.sml n) (c : UInt8) : SmlR (n + 2) (stNext s c) := by
  have hp : ∀ (v : Int) (k : Nat) (x : St), x.lo.length ≤ s.lo.length + 1 → x.dp ≤ s.dp + 1 → x.kd = k → k ≠ 11 → (v = 0 → k ≤ 14) → SmlR (n + 2) (v, x) := fun v k x a b e d f => sml_of h v k x (by omega) (by omega) e d f
  have hl : s.lo.length ≤ s.lo.length + 1 := by omega
  have hd : s.dp ≤ s.dp + 1 := by omega
  have hpu : (s.lo ++ [s.tp]).length ≤ s.lo.length + 1 := by simp
  have hname : (s.kd = 7 ∨ s.kd = 8) → SmlR (n + 2) (stName s c) := fun hk => by
    unfold stName
    split
    · exact hp 0 s.kd _ hl hd rfl (by omega) (by omega)
    · exact behind_sml (t := s.turn 9) h rfl rfl c
  unfold stNext
  split
  · exact text_sml h hl rfl (by assumption) c
  · unfold stEscaped
    split
    · exact hp 3 17 _ hl hd rfl (by omega) (by omega)
    split
    · exact hp 0 0 _ hl hd rfl (by omega) (by omega)
    · exact hp 0 0 _ hl hd rfl (by omega) (by omega)
  · unfold stDollar
    split
    · exact hp 0 5 _ hl hd rfl (by omega) (by omega)
    split
    · exact hp 0 3 _ hl hd rfl (by omega) (by omega)
    split
    · exact hp 0 4 _ hl hd rfl (by omega) (by omega)
    split
    · exact hp 0 0 _ hl hd rfl (by omega) (by omega)
    · exact text_sml (t := (s.lit [36]).turn 0) h hl rfl rfl c
  · unfold stOpened
    split
    · rename_i hk _
      refine ⟨⟨by have := h.lo; show s.lo.length ≤ _; omega, by show (0 : Int) ≤ _; omega, fun e => absurd e (by show ¬ (13 = 11); omega)⟩, fun _ => by show 13 ≤ 14; omega⟩
    · exact hp 2 15 _ hl hd rfl (by omega) (by omega)
  · unfold stBare
    split
    · rename_i hk _
      exact hp 0 s.kd _ hl hd rfl (by omega) (by omega)
    · exact text_sml (t := (s.add _).turn 0) h hl rfl rfl c
  · unfold stHead
    split
    · exact hp 0 6 _ hl hd rfl (by omega) (by omega)
    · exact parameter_sml (t := {s with ln := false}) h rfl rfl c
  · unfold stHash
    split
    · exact hp 0 0 _ hl hd rfl (by omega) (by omega)
    · exact parameter_sml h rfl rfl c
  · exact hname (.inl (by assumption))
  · exact hname (.inr (by assumption))
  · exact behind_sml h rfl rfl c
  · unfold stColon
    split
    · exact hp 0 0 _ hpu hd rfl (by omega) (by omega)
    · exact hp 3 17 _ hl hd rfl (by omega) (by omega)
  · unfold stDouble
    split
    · exact hp 0 0 _ hpu hd rfl (by omega) (by omega)
    · exact text_sml (t := s.push 2 _ _) h hpu rfl rfl c
  · unfold stSingle
    split
    · exact hp 3 17 _ hl hd rfl (by omega) (by omega)
    split
    · exact hp 0 0 _ hl hd rfl (by omega) (by omega)
    · rename_i hk _ _
      exact hp 0 s.kd _ hl hd rfl (by omega) (by omega)
  · unfold stArith
    split
    · exact hp 3 17 _ hl hd rfl (by omega) (by omega)
    split
    · exact hp 0 14 _ hl hd rfl (by omega) (by omega)
    · rename_i hk _ _
      refine hp 0 s.kd _ hl ?_ rfl (by omega) (by omega)
      show (if c = 41 then s.dp - 1 else if c = 40 then s.dp + 1 else s.dp) ≤ _
      split
      · omega
      · split <;> omega
  · unfold stArithEnd
    split
    · exact hp 0 0 _ hl hd rfl (by omega) (by omega)
    · exact hp 3 17 _ hl hd rfl (by omega) (by omega)
  · exact ⟨⟨by have := h.lo; show s.lo.length ≤ _; omega, by have := h.dp; show s.dp ≤ _; omega, h.cu⟩, fun e => absurd e (by show ¬ ((1 : Int) = 0); omega)⟩
  · exact ⟨⟨by have := h.lo; show s.lo.length ≤ _; omega, by have := h.dp; show s.dp ≤ _; omega, h.cu⟩, fun e => absurd e (by show ¬ ((3 : Int) = 0); omega)⟩
theorem feed_sml {n : Nat} {s : St} (h : s.sml n) (c : UInt8) : SmlR (n + 2) (stFeed s c) := by
  have hn := next_sml h c
  unfold stFeed
  split
  · rename_i h0
    exact ⟨⟨hn.1.lo, hn.1.dp, hn.1.cu⟩, fun _ => hn.2 h0⟩
  · exact hn
theorem run_sml (l : List UInt8) : ∀ (s : St) (i n : Nat), s.sml n → s.kd ≤ 14 → (run s l i).2.2 = 0 → (run s l i).1.sml (n + 2 * l.length) ∧ (run s l i).1.kd ≤ 14 := by
  induction l with
  | nil => intro s i n h hk _; exact ⟨h, hk⟩
  | cons c r ih =>
    intro s i n h hk h0
    have hf := feed_sml h c
    rw [run_cons] at h0 ⊢
    split at h0
    · rename_i hz
      rw [if_pos hz]
      obtain ⟨a, b⟩ := ih _ _ _ hf.1 (hf.2 hz) h0
      exact ⟨⟨by have := a.lo; simp only [List.length_cons]; omega, by have := a.dp; simp only [List.length_cons]; omega, a.cu⟩, b⟩
    · rename_i hz
      exact absurd h0 hz
theorem rest_len {n : Nat} {s : St} (h : s.sml n) : (stRest s).length ≤ 2 * n + 4 := by
  have hm : (stMissing s).length ≤ n + 4 := by
    have := h.dp
    unfold stMissing
    split <;> simp <;> omega
  unfold stRest
  split
  · simp
  · have hl := h.lo
    simp [St.all]
    omega
end Go.Proofs.Ytbmapjgajecgfaa
set_option linter.unusedVariables false
set_option linter.unusedSimpArgs false
namespace Go.Proofs.Ytbmapjgajecgfaa
open Go.RowKit
theorem init_lvs : Lvs St.init := by
  refine ⟨fun l hl => ?_, ⟨trivial, trivial⟩, init_good.wf⟩
  obtain rfl : l = _ := by simpa [St.all, St.init] using hl
  exact new_ok 0 _ _ (fun e => absurd e (by decide))
theorem first_inv {c : UInt8} (hc : c ≠ 35) (h0 : (stFeed St.init c).1 = 0) : Inv (stFeed St.init c).2 := by
  have hn : (stNext St.init c).1 = 0 := by
    unfold stFeed at h0
    split at h0
    · assumption
    · exact h0
  have hp : Post (stText St.init c) := text_post init_lvs rfl c (fun e => absurd (show endsDol ([] : List UInt8) = true from e) (by decide)) (fun x hx _ _ => by
    have : x = 35 := by
      have hb : St.init.tp.bad = some 35 := rfl
      rw [hb] at hx
      simpa using hx.symm
    refine ⟨by rw [this]; exact hc, ?_⟩
    show (stNext St.init c).1 ≠ 1
    rw [hn]; decide)
  have hi := hp.1 hn
  unfold stFeed
  rw [if_pos hn]
  exact hi.pl _
theorem run_right (l : List UInt8) : ∀ (s : St) (i n : Nat), Inv s → s.sml n → s.kd ≤ 14 → (run s l i).2.2 = 1 → FinP (run s l i).1 := by
  induction l with
  | nil => intro s i n _ _ _ h1; exact absurd (show (0 : Int) = 1 from h1) (by decide)
  | cons c r ih =>
    intro s i n h hs hk h1
    have hp := feed_post h hk c
    have hf := feed_sml hs c
    rw [run_cons] at h1 ⊢
    split at h1
    · rename_i h0
      rw [if_pos h0]
      exact ih _ _ _ (hp.1 h0) hf.1 (hf.2 h0) h1
    · rename_i h0
      rw [if_neg h0]
      exact hp.2 h1
/-- The word of a text. -/
theorem word_right {c : UInt8} {l : List UInt8} (hc : c ≠ 35) (h1 : (run St.init (c :: l) 0).2.2 = 1) (hat : (run St.init (c :: l) 0).2.1 ≠ 0) : FinP (run St.init (c :: l) 0).1 := by
  rw [run_cons] at h1 hat ⊢
  split at h1
  · rename_i h0
    rw [if_pos h0]
    have hf := feed_sml (n := 0) (s := St.init) ⟨by simp [St.init], by simp [St.init], fun e => by cases e⟩ c
    exact run_right l _ _ _ (first_inv hc h0) hf.1 (hf.2 h0) h1
  · rename_i h0
    rw [if_neg h0] at hat
    exact absurd rfl hat
theorem text_16 (s : St) (c : UInt8) (h : (stText s c).1 = 1) : (stText s c).2.kd = 16 := by
  unfold stText at h ⊢
  split at h
  · cases h
  rename_i h1; rw [if_neg h1]
  split at h
  · rename_i h2; rw [if_pos h2]
  rename_i h2; rw [if_neg h2]
  split at h
  · cases h
  rename_i h3; rw [if_neg h3]
  split at h
  · cases h
  rename_i h4; rw [if_neg h4]
  split at h
  · cases h
  rename_i h5; rw [if_neg h5]
  split at h
  · cases h
  rename_i h6; rw [if_neg h6]
  split at h
  · cases h
  · cases h
theorem behind_16 (s : St) (c : UInt8) : (stBehind s c).1 ≠ 1 := by
  unfold stBehind
  repeat' split
  all_goals (first | (show (0 : Int) ≠ 1; decide) | (show (3 : Int) ≠ 1; decide))
theorem parameter_16 (s : St) (c : UInt8) : (stParameter s c).1 ≠ 1 := by
  unfold stParameter
  simp only
  repeat' split
  all_goals (first | (show (0 : Int) ≠ 1; decide) | (show (3 : Int) ≠ 1; decide))
theorem next_16 (s : St) (c : UInt8) (h : (stNext s c).1 = 1) : (stNext s c).2.kd = 16 := by
  unfold stNext at h ⊢
  split at h
  · exact text_16 s c h
  · unfold stEscaped at h
    repeat' split at h
    all_goals cases h
  · unfold stDollar at h ⊢
    split at h
    · cases h
    rename_i h1; rw [if_neg h1]
    split at h
    · cases h
    rename_i h2; rw [if_neg h2]
    split at h
    · cases h
    rename_i h3; rw [if_neg h3]
    split at h
    · cases h
    rename_i h4; rw [if_neg h4]
    exact text_16 _ c h
  · unfold stOpened at h
    split at h <;> cases h
  · unfold stBare at h ⊢
    split at h
    · cases h
    rename_i h1; rw [if_neg h1]
    exact text_16 _ c h
  · unfold stHead at h
    split at h
    · cases h
    · exact absurd h (parameter_16 _ c)
  · unfold stHash at h
    split at h
    · cases h
    · exact absurd h (parameter_16 _ c)
  · unfold stName at h
    split at h
    · cases h
    · exact absurd h (behind_16 _ c)
  · unfold stName at h
    split at h
    · cases h
    · exact absurd h (behind_16 _ c)
  · exact absurd h (behind_16 _ c)
  · unfold stColon at h
    split at h <;> cases h
  · unfold stDouble at h ⊢
    split at h
    · cases h
    rename_i h1; rw [if_neg h1]
    exact text_16 _ c h
  · unfold stSingle at h
    repeat' split at h
    all_goals cases h
  · unfold stArith at h
    repeat' split at h
    all_goals cases h
  · unfold stArithEnd at h
    split at h <;> cases h
  · assumption
  · cases h
theorem feed_16 (s : St) (c : UInt8) (h : (stFeed s c).1 = 1) : (stFeed s c).2.kd = 16 := by
  unfold stFeed at h ⊢
  split at h
  · cases h
  · rename_i h0
    rw [if_neg h0]
    exact next_16 s c h
theorem run_16 (l : List UInt8) : ∀ (s : St) (i : Nat), (run s l i).2.2 = 1 → (run s l i).1.kd = 16 := by
  induction l with
  | nil => intro s i h; exact absurd (show (0 : Int) = 1 from h) (by decide)
  | cons c r ih =>
    intro s i h
    rw [run_cons] at h ⊢
    split at h
    · rename_i h0
      rw [if_pos h0]
      exact ih _ _ h
    · rename_i h0
      rw [if_neg h0]
      exact feed_16 s c h
end Go.Proofs.Ytbmapjgajecgfaa

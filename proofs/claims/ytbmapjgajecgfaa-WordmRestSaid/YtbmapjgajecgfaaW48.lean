/-
  What is proved: calls on one of two machines leave the other one alone. Conditions: those of each theorem.
-/
import Derived.Test.YtbmapjgajecgfaaW47
set_option linter.unusedVariables false
set_option linter.unusedSimpArgs false
namespace Go.Proofs.Ytbmapjgajecgfaa
open Go.RowKit
theorem own_base {w : World} {B B' : Nat} {e : TypeId} {size : Nat} {v : Value} {n : Nat} {xs : List Value} (h : w.ownsRow B e size v n xs) (hb : B' ≤ B) : w.ownsRow B' e size v n xs := by
  refine ⟨h.1, ?_⟩
  rcases h.2 with h | ⟨g, cap, cur, h1, h2, h3⟩
  · exact .inl h
  · exact .inr ⟨g, cap, cur, h1, by omega, h3⟩
theorem Comp.base {B B' : Nat} {w : World} {C : Nat → Prop} {d : Dat} (h : Comp B w C d) (hb : B' ≤ B) : Comp B' w C d := by
  cases d with
  | nothing => trivial
  | head b t cs => exact h
  | row e size v n xs => exact own_base h hb
  | prow e v L =>
    obtain ⟨vs, h1, h2⟩ := h
    exact ⟨vs, own_base h1 hb, h2⟩
theorem Fam.base {τ : Type} {B B' : Nat} {w : World} {C : Nat → Prop} {D : τ → Dat} (h : Fam B w C D) (hb : B' ≤ B) : Fam B' w C D :=
  ⟨fun t => (h.comp t).base hb, h.inj, fun k hk => by have := h.bnd k hk; omega, h.cold⟩
def Two (W w : World) (b1 : Nat) (s1 : St) (b2 : Nat) (s2 : St) : Prop :=
  ∃ (C1 : Nat → Prop) (S1 : Sn) (C2 : Nat → Prop) (S2 : Sn), Fam W.heap.size w C1 (S1.dat b1) ∧ Fam W.heap.size w C2 (S2.dat b2) ∧ (∀ k, Foot C1 (S1.dat b1) k → ¬ Foot C2 (S2.dat b2) k) ∧ S1.abs = s1 ∧ S2.abs = s2 ∧ Kept nob W w
theorem Two.symm {W w : World} {b1 b2 : Nat} {s1 s2 : St} (h : Two W w b1 s1 b2 s2) : Two W w b2 s2 b1 s1 := by
  obtain ⟨C1, S1, C2, S2, h1, h2, h3, h4, h5, h6⟩ := h
  exact ⟨C2, S2, C1, S1, h2, h1, fun k hk hk' => h3 k hk' hk, h5, h4, h6⟩
theorem Two.kept {W w : World} {b1 b2 : Nat} {s1 s2 : St} (h : Two W w b1 s1 b2 s2) : Kept nob W w := by
  obtain ⟨C1, S1, C2, S2, h1, h2, h3, h4, h5, h6⟩ := h
  exact h6
theorem Two.fst {W w : World} {b1 b2 : Nat} {s1 s2 : St} (h : Two W w b1 s1 b2 s2) : Mac W w b1 s1 := by
  obtain ⟨C1, S1, C2, S2, h1, h2, h3, h4, h5, h6⟩ := h
  exact ⟨C1, S1, h1, h4, h6⟩
theorem Two.snd {W w : World} {b1 b2 : Nat} {s1 s2 : St} (h : Two W w b1 s1 b2 s2) : Mac W w b2 s2 := h.symm.fst
theorem Two.frame {W w w' : World} {b1 b2 : Nat} {s1 s2 : St} (h : Two W w b1 s1 b2 s2) (hk : Kept nob w w') : Two W w' b1 s1 b2 s2 := by
  obtain ⟨C1, S1, C2, S2, h1, h2, h3, h4, h5, h6⟩ := h
  exact ⟨C1, S1, C2, S2, h1.frame hk (fun _ _ h => h), h2.frame hk (fun _ _ h => h), h3, h4, h5, h6.trans hk (fun _ _ h => h)⟩
/-- A second machine is made. -/
theorem Two.mk' {W w w' : World} {b1 b2 : Nat} {s1 s2 : St} (h : Mac W w b1 s1) (h2 : Mac w w' b2 s2) : Two W w' b1 s1 b2 s2 := by
  obtain ⟨C1, S1, a1, a2, a3⟩ := h
  obtain ⟨C2, S2, c1, c2, c3⟩ := h2
  refine ⟨C1, S1, C2, S2, a1.frame c3 (fun _ _ h => h), c1.base a3.size, fun k hk hk' => ?_, a2, c2, a3.trans c3 (fun _ _ h => h)⟩
  have := (a1.bnd k hk).2
  have := (c1.bnd k hk').1
  omega
def FeedT (W : World) (b1 : Nat) (r : Int × St) (b2 : Nat) (s2 : St) (e : Ending) (w' : World) : Prop := e = .returned (.int .i64 r.1) ∧ Two W w' b1 r.2 b2 s2
theorem two_feed {W w : World} {b1 b2 : Nat} {s1 s2 : St} (h : Two W w b1 s1 b2 s2) (hg : s1.good 70000) (c : UInt8) : Calls Try.prog 12 #[.pointer (some ⟨b1, 0, none⟩), .int .u8 (c.toNat : Int)] w (FeedT W b1 (stFeed s1 c) b2 s2) := by
  obtain ⟨C1, S1, C2, S2, h1, h2, h3, rfl, h5, h6⟩ := h
  refine (feed_ok c h1 hg).mono ?_
  rintro e w' ⟨C', S', rfl, hs, ha⟩
  refine ⟨rfl, C', S', C2, S2, hs.1, h2.frame hs.2.1 (fun k hk ⟨t, ht⟩ => h3 k (.inr ⟨t, ht⟩) hk), fun k hk hk' => ?_, ha, h5, h6.trans hs.2.1 (fun i hi ⟨t, ht⟩ => by have := (h1.bnd i (.inr ⟨t, ht⟩)).1; omega)⟩
  rcases hs.foot k hk with h | h
  · exact h3 k h hk'
  · have := (h2.bnd k hk').2; omega
def FeedT2 (W : World) (b1 : Nat) (s1 : St) (b2 : Nat) (r : Int × St) (e : Ending) (w' : World) : Prop := e = .returned (.int .i64 r.1) ∧ Two W w' b1 s1 b2 r.2
theorem two_feed2 {W w : World} {b1 b2 : Nat} {s1 s2 : St} (h : Two W w b1 s1 b2 s2) (hg : s2.good 70000) (c : UInt8) : Calls Try.prog 12 #[.pointer (some ⟨b2, 0, none⟩), .int .u8 (c.toNat : Int)] w (FeedT2 W b1 s1 b2 (stFeed s2 c)) := by
  refine (two_feed h.symm hg c).mono ?_
  rintro e w' ⟨rfl, h⟩
  exact ⟨rfl, h.symm⟩
theorem mac_restK {W w : World} {b : Nat} {s : St} (h : Mac W w b s) (hg : s.good 70000) : Calls Try.prog 11 #[.pointer (some ⟨b, 0, none⟩)] w (GotS w (stRest s)) := by
  obtain ⟨C, S, h1, rfl, h3⟩ := h
  exact rest_any h1 hg
theorem mac_raw {W w : World} {b : Nat} {s : St} (h : Mac W w b s) : Calls Try.prog 10 #[.pointer (some ⟨b, 0, none⟩)] w fun e w' => e = .returned (.bool (stRaw s)) ∧ w = w' := by
  obtain ⟨C, S, h1, rfl, h3⟩ := h
  exact raw_any h1
theorem mac_deep {W w : World} {b : Nat} {s : St} (h : Mac W w b s) : Calls Try.prog 14 #[.pointer (some ⟨b, 0, none⟩)] w fun e w' => e = .returned (.int .i64 (s.lo.length : Int)) ∧ w = w' := by
  obtain ⟨C, S, h1, rfl, h3⟩ := h
  exact deep_any h1
def CloseM (W : World) (b : Nat) (r : Bool × St) (e : Ending) (w' : World) : Prop := e = .returned (.bool r.1) ∧ Mac W w' b r.2
theorem mac_close {W w : World} {b : Nat} {s : St} (h : Mac W w b s) (hg : s.good 70000) (ca : Option Addr) (cm cc : Nat) : Calls Try.prog 13 #[.pointer (some ⟨b, 0, none⟩), .slice ca cm cc] w (CloseM W b (stClose s cm)) := by
  obtain ⟨C, S, h1, rfl, h3⟩ := h
  refine (close_any h1 (ok_of hg.lim (by omega)) ca cm cc).mono ?_
  rintro e w' ⟨C', S', rfl, h4, h5⟩
  exact ⟨rfl, by rw [← h5]; exact Mac.step h1 h3 h4⟩
def WordK (w0 : World) (L : List Prt) (e : Ending) (w' : World) : Prop := ∃ v, e = .returned (.tuple #[.agg #[v], .bool true]) ∧ Kept nob w0 w' ∧ Wd w' v L
theorem mac_wordK {W w : World} {b : Nat} {s : St} (h : Mac W w b s) (hk : s.kd = 16) : Calls Try.prog 15 #[.pointer (some ⟨b, 0, none⟩)] w (WordK w s.bot.ps) := by
  obtain ⟨C, S, h1, rfl, h3⟩ := h
  refine (word_ok h1 hk).mono ?_
  rintro e w' ⟨rfl, h4⟩
  have h1' := h1.frame h4 (fun _ _ h => h)
  refine ⟨_, rfl, h4, fun k => C k ∨ (S.dat b (.ps 0)).blk = some k, ?_, fun k hk => ?_⟩
  · rw [← bot_abs]
    obtain ⟨r, hr⟩ := all_bot S
    have e : S.dat b (.ps 0) = .prow 49 S.bot.pv S.bot.ps := by
      show (match S.all[0]? with | some l => Dat.prow 49 l.pv l.ps | none => .nothing) = _
      rw [hr]; rfl
    have hc := h1'.comp (.ps 0)
    rw [e] at hc ⊢
    obtain ⟨vs, ho, hr⟩ := hc
    have hlen := hr.len
    rcases ho.2 with ⟨e1, e2⟩ | ⟨g, cap, cur, e1, _⟩
    · exact .inl ⟨none, 0, e1, List.eq_nil_of_length_eq_zero e2⟩
    · refine .inr ⟨g, 0, cap, vs, e1, .inr (by show S.bot.pv.ownBlock = _; rw [e1]; rfl), fun j hj => ?_, hr.mono (fun k hk => .inl hk)⟩
      rw [e1] at ho
      rw [Nat.zero_add, own_cell ho (by omega)]
  · rcases hk with hk | hk
    · exact (h1'.bnd k (.inl hk)).2
    · exact (h1'.bnd k (.inr ⟨_, hk⟩)).2
theorem Wd.kept {w w' : World} {v : Value} {L : List Prt} (h : Wd w v L) (hk : Kept nob w w') : Wd w' v L := by
  obtain ⟨C, h1, h2⟩ := h
  exact ⟨C, h1.kept hk (fun k hk' => ⟨fun h => h, h2 k hk'⟩), fun k hk' => Nat.lt_of_lt_of_le (h2 k hk') hk.size⟩
theorem mac_wordN {W w : World} {b : Nat} {s : St} (h : Mac W w b s) (hk : s.kd ≠ 16) : Calls Try.prog 15 #[.pointer (some ⟨b, 0, none⟩)] w (WordNo w) := by
  obtain ⟨C, S, h1, rfl, h3⟩ := h
  exact word_no h1 hk
end Go.Proofs.Ytbmapjgajecgfaa

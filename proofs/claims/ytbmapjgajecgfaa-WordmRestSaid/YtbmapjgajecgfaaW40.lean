/-
  What is proved: the law package function awake returns true. Conditions: those of each theorem.
-/
import Derived.Test.YtbmapjgajecgfaaW39
set_option linter.unusedVariables false
set_option linter.unusedSimpArgs false
namespace Go.Proofs.Ytbmapjgajecgfaa
open Go.RowKit
/-- A machine that a call has made, in a state; what was there before is as it was. -/
def Mac (W w : World) (b : Nat) (s : St) : Prop := ∃ (C : Nat → Prop) (S : Sn), Fam W.heap.size w C (S.dat b) ∧ S.abs = s ∧ Kept nob W w
theorem Mac.kept {W w : World} {b : Nat} {s : St} (h : Mac W w b s) : Kept nob W w := by
  obtain ⟨C, S, h1, h2, h3⟩ := h
  exact h3
theorem Mac.step {W w w' : World} {b : Nat} {C C' : Nat → Prop} {S S' : Sn} (h : Fam W.heap.size w C (S.dat b)) (hk : Kept nob W w) (hs : Stp W.heap.size w C (S.dat b) w' C' (S'.dat b)) : Mac W w' b S'.abs :=
  ⟨C', S', hs.1, rfl, hk.trans hs.2.1 (fun i hi ⟨t, ht⟩ => by have := (h.bnd i (.inr ⟨t, ht⟩)).1; omega)⟩
theorem Mac.frame {W w w' : World} {b : Nat} {s : St} (h : Mac W w b s) (hk : Kept nob w w') : Mac W w' b s := by
  obtain ⟨C, S, h1, h2, h3⟩ := h
  exact ⟨C, S, h1.frame hk (fun _ _ h => h), h2, h3.trans hk (fun _ _ h => h)⟩
def NewM (W : World) (e : Ending) (w' : World) : Prop := ∃ b, e = .returned (.pointer (some ⟨b, 0, none⟩)) ∧ Mac W w' b St.init
def FeedM (W : World) (b : Nat) (r : Int × St) (e : Ending) (w' : World) : Prop := e = .returned (.int .i64 r.1) ∧ Mac W w' b r.2
theorem mac_new (W w : World) (hk : Kept nob W w) : Calls Try.prog 24 #[] w (NewM W) := by
  refine (new_any W.heap.size w hk.size).mono ?_
  rintro e w' ⟨b, S, rfl, h1, h2, h3, h4⟩
  exact ⟨b, rfl, _, S, h1, h4, hk.trans h2 (fun _ _ h => h)⟩
theorem mac_feed {W w : World} {b : Nat} {s : St} (h : Mac W w b s) (hg : s.good 70000) (c : UInt8) : Calls Try.prog 12 #[.pointer (some ⟨b, 0, none⟩), .int .u8 (c.toNat : Int)] w (FeedM W b (stFeed s c)) := by
  obtain ⟨C, S, h1, rfl, h3⟩ := h
  refine (feed_ok c h1 hg).mono ?_
  rintro e w' ⟨C', S', rfl, h4, h5⟩
  exact ⟨rfl, by rw [← h5]; exact Mac.step h1 h3 h4⟩
def RestM (W w : World) (b : Nat) (s : St) (L : List UInt8) (e : Ending) (w' : World) : Prop := e = .returned (.string (bs L)) ∧ Mac W w' b s
theorem mac_rest_no {W w : World} {b : Nat} {s : St} (h : Mac W w b s) (hg : s.good 70000) (h13 : s.kd ≠ 13) : Calls Try.prog 11 #[.pointer (some ⟨b, 0, none⟩)] w (RestM W w b s (stRest s)) := by
  obtain ⟨C, S, h1, rfl, h3⟩ := h
  refine (rest_of h1 hg.kd (hg.lim.mono (by omega)) (missing_no h1 hg.kd h13)).mono ?_
  rintro e w' ⟨rfl, h4⟩
  exact ⟨rfl, C, S, h1.frame h4 (fun _ _ h => h), rfl, h3.trans h4 (fun _ _ h => h)⟩
/-- What a word reads as. -/
def Wd (w : World) (v : Value) (L : List Prt) : Prop := ∃ (C : Nat → Prop), Cold w C v L ∧ ∀ k, C k → k < w.heap.size
def WordM (W : World) (b : Nat) (s : St) (L : List Prt) (e : Ending) (w' : World) : Prop := ∃ v, e = .returned (.tuple #[.agg #[v], .bool true]) ∧ Mac W w' b s ∧ Wd w' v L
def St.bot (s : St) : Lvl := s.lo.headD s.tp
theorem bot_abs (S : Sn) : S.bot.abs = S.abs.bot := by
  unfold Sn.bot St.bot Sn.abs
  rcases S.lo with _ | ⟨x, t⟩ <;> rfl
theorem mac_word {W w : World} {b : Nat} {s : St} (h : Mac W w b s) (hk : s.kd = 16) : Calls Try.prog 15 #[.pointer (some ⟨b, 0, none⟩)] w (WordM W b s s.bot.ps) := by
  obtain ⟨C, S, h1, rfl, h3⟩ := h
  refine (word_ok h1 hk).mono ?_
  rintro e w' ⟨rfl, h4⟩
  have h1' := h1.frame h4 (fun _ _ h => h)
  refine ⟨_, rfl, ⟨C, S, h1', rfl, h3.trans h4 (fun _ _ h => h)⟩, fun k => C k ∨ (S.dat b (.ps 0)).blk = some k, ?_, fun k hk => ?_⟩
  · rw [← bot_abs]
    obtain ⟨r, hr⟩ := all_bot S
    have e : S.dat b (.ps 0) = .prow 49 S.bot.pv S.bot.ps := by
      show (match S.all[0]? with | some l => Dat.prow 49 l.pv l.ps | none => .nothing) = _
      rw [hr]; rfl
    have hc := h1'.comp (.ps 0)
    rw [e] at hc ⊢
    obtain ⟨vs, ho, hr⟩ := hc
    have hlen := hr.len
    rcases ho.2 with ⟨e1, e2⟩ | ⟨g, cap, cur, e1, _⟩
    · exact .inl ⟨none, 0, e1, List.eq_nil_of_length_eq_zero e2⟩
    · refine .inr ⟨g, 0, cap, vs, e1, .inr (by show S.bot.pv.ownBlock = _; rw [e1]; rfl), fun j hj => ?_, hr.mono (fun k hk => .inl hk)⟩
      rw [e1] at ho
      rw [Nat.zero_add, own_cell ho (by omega)]
  · rcases hk with hk | hk
    · exact (h1'.bnd k (.inl hk)).2
    · exact (h1'.bnd k (.inr ⟨_, hk⟩)).2
def aw1 : St := (stFeed St.init 97).2
def aw2 : St := (stFeed aw1 34).2
def aw3 : St := (stFeed aw2 36).2
def aw4 : St := (stFeed aw3 120).2
def aw5 : St := (stFeed aw4 34).2
def aw6 : St := (stFeed aw5 32).2
theorem aw_sig : (stFeed St.init 97).1 = 0 ∧ (stFeed aw1 34).1 = 0 ∧ (stFeed aw2 36).1 = 0 ∧ (stFeed aw3 120).1 = 0 ∧ (stFeed aw4 34).1 = 0 ∧ (stFeed aw5 32).1 = 1 := by decide
theorem aw_kd : aw6.kd = 16 := by decide
theorem aw_kd3 : aw3.kd = 2 := by decide
theorem aw_rest : stRest aw3 = [34] := by rfl
theorem aw_bot : aw6.bot.ps = [.mk 1 ⟨#[97]⟩ ⟨#[]⟩ [] 0, .mk 4 ⟨#[]⟩ ⟨#[]⟩ [.mk 5 ⟨#[120]⟩ ⟨#[]⟩ [] 0] 0] := rfl
theorem Rds.inv {w : World} {C : Nat → Prop} {vs : List Value} {k : Int} {tx op : ByteArray} {K L : List Prt} {cm : Nat} (h : Rds w C vs (.mk k tx op K cm :: L)) :
    ∃ a cap ca cc vs', vs = .int .i64 k :: .string tx :: .string op :: .slice a K.length cap :: .slice ca cm cc :: vs' ∧ Rds w C vs' L ∧ Cold w C (.slice a K.length cap) K := by
  cases h with
  | bare h => exact ⟨_, _, _, _, _, rfl, h, .inl ⟨_, _, rfl, rfl⟩⟩
  | kids hg hc hk h => exact ⟨_, _, _, _, _, rfl, h, .inr ⟨_, _, _, _, rfl, hg, hc, hk⟩⟩
theorem Cold.inv {w : World} {C : Nat → Prop} {v : Value} {p : Prt} {L : List Prt} (h : Cold w C v (p :: L)) : ∃ g o cap us, v = .slice (some ⟨g, o, none⟩) (L.length + 1) cap ∧ C g ∧ (∀ j, j < us.length → w.cell? ⟨g, o + j, none⟩ = us[j]?) ∧ Rds w C us (p :: L) := by
  rcases h with ⟨_, _, _, e⟩ | h
  · cases e
  · exact h
theorem aw_cells {w : World} {v : Value} (h : Wd w v [.mk 1 ⟨#[97]⟩ ⟨#[]⟩ [] 0, .mk 4 ⟨#[]⟩ ⟨#[]⟩ [.mk 5 ⟨#[120]⟩ ⟨#[]⟩ [] 0] 0]) :
    ∃ g o c g2 o2 c2, v = .slice (some ⟨g, o, none⟩) 2 c ∧ w.cell? ⟨g, o + 8, none⟩ = some (.slice (some ⟨g2, o2, none⟩) 1 c2) ∧ w.cell? ⟨g2, o2 + 1, none⟩ = some (.string ⟨#[120]⟩) ∧ g < w.heap.size ∧ g2 < w.heap.size := by
  obtain ⟨C, h, hC⟩ := h
  obtain ⟨g, o, c, us, rfl, hg, hc, hr⟩ := h.inv
  obtain ⟨_, _, _, _, v1, rfl, hr, _⟩ := hr.inv
  obtain ⟨_, _, _, _, v2, rfl, hr, hk⟩ := hr.inv
  obtain ⟨g2, o2, c2, us2, e2, hg2, hc2, hr2⟩ := hk.inv
  obtain ⟨_, _, _, _, v3, rfl, _, _⟩ := hr2.inv
  rw [e2] at hc
  exact ⟨g, o, c, g2, o2, c2, rfl, hc 8 (by simp), hc2 1 (by simp), hC _ hg, hC _ hg2⟩
set_option maxRecDepth 100000 in
set_option maxHeartbeats 4000000 in
theorem awake_any (w : World) : Calls Try.prog 8 #[] w fun e w' => e = .returned (.bool true) ∧ Kept nob w w' := by
  have M1 := fun b w1 (h : Mac w w1 b St.init) => mac_feed h (init_good.mono (by omega)) 97
  have M2 := fun b w1 (h : Mac w w1 b aw1) => mac_feed h ((feed_good init_good 97).mono (by omega)) 34
  have M3 := fun b w1 (h : Mac w w1 b aw2) => mac_feed h ((feed_good (feed_good init_good 97) 34).mono (by omega)) 36
  have MR := fun b w1 (h : Mac w w1 b aw3) => mac_rest_no h ((feed_good (feed_good (feed_good init_good 97) 34) 36).mono (by omega)) (by decide)
  have M4 := fun b w1 (h : Mac w w1 b aw3) => mac_feed h ((feed_good (feed_good (feed_good init_good 97) 34) 36).mono (by omega)) 120
  have M5 := fun b w1 (h : Mac w w1 b aw4) => mac_feed h ((feed_good (feed_good (feed_good (feed_good init_good 97) 34) 36) 120).mono (by omega)) 34
  have M6 := fun b w1 (h : Mac w w1 b aw5) => mac_feed h ((feed_good (feed_good (feed_good (feed_good (feed_good init_good 97) 34) 36) 120) 34).mono (by omega)) 32
  have N1 := Lib.hid M1
  have N2 := Lib.hid M2
  have N3 := Lib.hid M3
  have NR := Lib.hid MR
  have N4 := Lib.hid M4
  have N5 := Lib.hid M5
  have N6 := Lib.hid M6
  clear M1 M2 M3 MR M4 M5 M6
  go_enter Try.func8, Try.ntmps8
  go_wp2_with fail
  refine (mac_new w w (Kept.refl _ _)).mono ?_
  rintro e w0 ⟨b, rfl, h⟩
  have H0 := Lib.hid h
  clear h
  go_wp2_with fail
  refine (N1.out b _ H0.out).mono ?_
  rintro e w1 ⟨rfl, h⟩
  rw [aw_sig.1]
  have H1 := Lib.hid h
  clear h
  go_wp2_with fail
  refine (N2.out b _ H1.out).mono ?_
  rintro e w2 ⟨rfl, h⟩
  rw [aw_sig.2.1]
  have H2 := Lib.hid h
  clear h
  go_wp2_with fail
  refine (N3.out b _ H2.out).mono ?_
  rintro e w3 ⟨rfl, h⟩
  rw [aw_sig.2.2.1]
  have H3 := Lib.hid h
  clear h
  go_wp2_with fail
  refine (NR.out b _ H3.out).mono ?_
  rintro e w4 ⟨rfl, h⟩
  rw [aw_rest, show bs [34] = ⟨#[34]⟩ from rfl]
  have H4 := Lib.hid h
  clear h
  go_wp2_with fail
  refine (N4.out b _ H4.out).mono ?_
  rintro e w5 ⟨rfl, h⟩
  rw [aw_sig.2.2.2.1]
  have H5 := Lib.hid h
  clear h
  go_wp2_with fail
  refine (N5.out b _ H5.out).mono ?_
  rintro e w6 ⟨rfl, h⟩
  rw [aw_sig.2.2.2.2.1]
  have H6 := Lib.hid h
  clear h
  go_wp2_with fail
  refine (N6.out b _ H6.out).mono ?_
  rintro e w7 ⟨rfl, h⟩
  rw [aw_sig.2.2.2.2.2]
  have H7 := Lib.hid h
  clear h
  go_wp2_with fail
  refine (mac_word H7.out aw_kd).mono ?_
  rintro e w8 ⟨v, rfl, h, hw⟩
  have H8 := Lib.hid h
  rw [show (stFeed aw5 32).2.bot.ps = _ from aw_bot] at hw
  obtain ⟨g, o, c, g2, o2, c2, rfl, d1, d2, l1, l2⟩ := aw_cells hw
  have a1 : ∀ x, (w8.alloc x).cell? ⟨g, o + 8, none⟩ = some (.slice (some ⟨g2, o2, none⟩) 1 c2) := fun x => by rw [World.cell?_alloc_past _ _ _ l1]; exact d1
  have a2 : ∀ x, (w8.alloc x).cell? ⟨g2, o2 + 1, none⟩ = some (.string ⟨#[120]⟩) := fun x => by rw [World.cell?_alloc_past _ _ _ l2]; exact d2
  have HK := Lib.hid (h.kept.trans (Kept.alloc w8 (.cells #[.slice (some ⟨g, o, none⟩) 2 c] 33) nob) (fun _ _ h => h))
  clear h hw d1 d2 l1 l2
  go_wp2
  go_ret
  exact ⟨rfl, HK.out⟩
end Go.Proofs.Ytbmapjgajecgfaa

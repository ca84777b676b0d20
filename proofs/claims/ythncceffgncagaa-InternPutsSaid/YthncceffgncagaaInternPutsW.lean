/-
  What is proved: the law's function returns true. Condition: the bounds of its arguments.
-/
import Derived.Test.YthncceffgncagaaInternStaysW
import Derived.Deep.RegionHeld3
set_option linter.unusedVariables false
set_option linter.unusedSimpArgs false
namespace Go.Proofs.Ythncceffgncagaa
open Go.RowKit

theorem RN.bnd {B : Nat} {w : World} {b : Nat} {av : Value} {L : List ByteArray} {most : Nat} (h : RN B w b av L most) : ∀ k, RF b av k → k < w.heap.size := by
  intro k hk
  rcases hk with rfl | hk
  · exact lt_blk h.hd
  · exact (h.own.lt k hk.symm).2
/-- The program's names and the document's, side by side. -/
structure Both (B : Nat) (b r bx : Nat) (L : List ByteArray) (R : Nat) (av ax : Value) (w : World) : Prop where
  n : NW B w b r av L R
  x : RN B w bx ax L R
  dis : ∀ k, NF b r av k → ¬ RF bx ax k
  own : ∀ k, NF b r av k → B ≤ k
  owx : ∀ k, RF bx ax k → B ≤ k
theorem Both.kept {B b r bx : Nat} {L : List ByteArray} {R : Nat} {av ax : Value} {w w' : World} (h : Both B b r bx L R av ax w) (k : Kept nob w w') : Both B b r bx L R av ax w' :=
  ⟨h.n.kept k (fun _ _ h => h), h.x.kept k (fun _ _ h => h), h.dis, h.own, h.owx⟩
theorem cellKept {a : Addr} {v : Value} {wr w1 w2 : World} (h : w1.cell? a = some v ∧ Kept nob wr w1) (k : Kept nob w1 w2) : w2.cell? a = some v ∧ Kept nob wr w2 :=
  ⟨k.cell h.1 (fun h => h), h.2.trans k (fun _ _ h => h)⟩
theorem eqs_refl (L : List ByteArray) : eqs L L = true := by simp [eqs]
def IRel (w0 : World) (b r bx R : Nat) (n : Nat) (i : Value) (wr : World) : Prop :=
  ∃ (k : Nat) (L : List ByteArray) (av ax : Value), i = .int .i64 (k : Int) ∧ k ≤ n ∧ Hid (Both w0.heap.size b r bx L R av ax wr) ∧ Kept (ab w0.heap.size) w0 wr

set_option maxHeartbeats 4000000 in
set_option maxRecDepth 100000 in
theorem internPuts_walk (w : World) (most : Int) (_hm : -9223372036854775808 ≤ most ∧ most ≤ 9223372036854775807) (a : Option Addr) (cap : Nat) (xs : List ByteArray) (hx : Rd w a (sv xs)) (hl : xs.length ≤ 9223372036854775807) (hm : ∀ j, j < xs.length → (xs.getD j ⟨#[]⟩).size ≤ 9223372036854775807) (s : ByteArray) (hs : s.size ≤ 9223372036854775807) (i : Int) (hi : -9223372036854775808 ≤ i ∧ i ≤ 9223372036854775807) :
    Calls Try.prog 4 #[.int .i64 most, .slice a xs.length cap, .string s, .int .i64 i] w (RetT w) := by
  have HX := Lib.hid hx
  have HM := Lib.hid hm
  clear hx hm
  by_cases hg : xs.length ≤ 60 ∧ s.size ≤ 1000
  · obtain ⟨g1, g2⟩ := hg
    obtain ⟨R, hR⟩ : ∃ R, R = roomOf most := ⟨_, rfl⟩
    have HR := Lib.hid hR
    clear hR
    go_enter Try.func4, Try.ntmps4
    go_wp2_with fail
    refine (nnew_any most w w.heap.size).mono ?_
    rintro e w1 ⟨b, r, rfl, h1, k1, hb, hr⟩
    have z1 := k1.size
    rw [← HR.out] at h1
    have bn1 := h1.bnd
    have H1 := Lib.hid h1
    have BN1 := Lib.hid bn1
    clear h1 bn1
    go_wp2_with fail
    refine (rnnew_any most w1 w.heap.size).mono ?_
    rintro e w2 ⟨bx, rfl, h2, k2, hbx⟩
    rw [← HR.out] at h2
    have B2 : Hid (Both w.heap.size b r bx [] R (.slice none 0 0) (.slice none 0 0) w2) :=
      ⟨H1.out.kept k2 (fun _ _ h => h), h2, fun k hk hk2 => by
        have := BN1.out k hk
        rcases hk2 with rfl | hk2
        · omega
        · simp [Value.ownBlock] at hk2, own_new hb hr, fun k hk => by
        rcases hk with rfl | hk
        · omega
        · simp [Value.ownBlock] at hk⟩
    have K2 := Lib.hid ((Kept.ofNob k1 (B := w.heap.size)).abt k2.ofNob)
    clear h2
    go_wp2
    go_loopw [11] (fun i wr => IRel w b r bx R xs.length i wr) (fun i _ => xs.length - (intOf i).toNat)
    case atStart => exact ⟨0, [], _, _, rfl, by omega, B2, K2.out⟩
    case round =>
      obtain ⟨k, L, av, ax, rfl, hkl, hB, hK⟩ := hrel
      have zr := hK.size
      by_cases hlt : k < xs.length
      · rcases HX.out with h | ⟨b1, o1, rfl, hc1⟩
        · have := sv_len xs; rw [h] at this; simp at this; omega
        have hd0 := (hc1 k (by rw [sv_len]; exact hlt)).trans (sv_get xs k hlt)
        have hbb := World.block_lt_of_cell? w _ hd0
        have d1 := hK.toNob.cell hd0 (fun h => h)
        have hxs := HM.out k hlt
        obtain ⟨x, hxx⟩ : ∃ x, x = xs.getD k ⟨#[]⟩ := ⟨_, rfl⟩
        rw [← hxx] at d1 hxs hd0
        have HD0 := Lib.hid hd0
        clear hxx hc1 hd0
        rcases Nat.lt_or_ge 1000 x.size with hbig | hbig
        · go_wp2_with (go_at_call 9; refine (nawake _).mono ?_; rintro e w' ⟨rfl, hk⟩)
          go_ret
          exact ⟨rfl, (hK.abt hk.ofNob).toNob⟩
        · go_wp2_with fail
          refine (nput_any hB.out.n x zr).mono ?_
          rintro e w3 ⟨av3, rfl, h3, k3, f3⟩
          have z3 := k3.size
          have x3 := hB.out.x.kept k3 (fun q hq hn => hB.out.dis q hn hq)
          have K3 := Lib.hid (hK.abt (k3.mono (fun q _ hq => hB.out.own q hq)))
          have bx3 : ∀ q, RF bx ax q → q < wr.heap.size := hB.out.x.bnd
          have dis3 : ∀ q, NF b r av3 q → ¬ RF bx ax q := fun q hq hr => by
            rcases f3 q hq with h | h
            · exact hB.out.dis q h hr
            · have := bx3 q hr; omega
          have own3 : ∀ q, NF b r av3 q → w.heap.size ≤ q := fun q hq => by
            rcases f3 q hq with h | h
            · exact hB.out.own q h
            · omega
          have HH3 : Hid (Both w.heap.size b r bx (putL L R x) R av3 ax w3 ∨ True) := .inr trivial
          have N3 := Lib.hid h3
          have X3 := Lib.hid x3
          have D3 := Lib.hid dis3
          have O3 := Lib.hid own3
          have d3 := K3.out.toNob.cell HD0.out (fun h => h)
          clear h3 x3 dis3 own3 bx3 f3 d1
          go_wp2_with fail
          refine (rnput_any X3.out x (by omega)).mono ?_
          rintro e w4 ⟨ax4, rfl, h4, k4, f4⟩
          have bn3 := N3.out.bnd
          have B4 : Hid (Both w.heap.size b r bx (putL L R x) R av3 ax4 w4) :=
            ⟨N3.out.kept k4 (fun q hq hn => D3.out q hq (.inl hn)), h4, fun q hq hr => by
              rcases f4 q hr with h | h
              · exact D3.out q hq h
              · have := bn3 q hq; omega, O3.out, fun q hq => by
              rcases f4 q hq with h | h
              · exact hB.out.owx q h
              · omega⟩
          have K4 := Lib.hid (K3.out.abt (k4.mono (fun q _ hq => hB.out.owx q (.inl hq))))
          have d4 := K4.out.toNob.cell HD0.out (fun h => h)
          clear h4 f4 bn3 d3
          obtain ⟨p, cp, hax⟩ := B4.out.x.av
          have c4 := B4.out.x.c0
          have hle := B4.out.x.le
          have hR := B4.out.x.most
          obtain ⟨L', hL'⟩ : ∃ L', L' = putL L R x := ⟨_, rfl⟩
          rw [← hL'] at B4 hax hle
          rw [hax] at c4
          have HAX := Lib.hid hax
          clear hL' hax
          have hfs : ∀ (w' : World), w'.cell? ⟨b1, o1 + k, none⟩ = some (.string x) ∧ w'.cell? ⟨bx, 0, none⟩ = some (.slice p L'.length cp) ∧ Kept nob w4 w' → Both w.heap.size b r bx L' R av3 (.slice p L'.length cp) w' := fun w' h => by
            have := B4.out.kept h.2.2
            rwa [HAX.out] at this
          have HFS := Lib.hid hfs
          clear hfs
          go_wp2
          go_region_held3 (fun w' => w'.cell? ⟨b1, o1 + k, none⟩ = some (.string x) ∧ w'.cell? ⟨bx, 0, none⟩ = some (.slice p L'.length cp) ∧ Kept nob w4 w') (first | exact ⟨d4, c4, Kept.drew _ _⟩ | assumption)
            (first | (go_at_call 16; refine (nlen_any (HFS.out _ (by assumption)).n).mono ?_; rintro e w5 ⟨rfl, rfl⟩) | (go_at_call 13; refine (nfind_any (HFS.out _ (by assumption)).n _).mono ?_; rintro e w5 ⟨rfl, rfl⟩) | (go_at_call 17; refine (place_any p cp L' _ _ (HFS.out _ (by assumption)).x.rd (by omega)).mono ?_; rintro e w5 ⟨rfl, rfl⟩))
          go_wp2
          go_roundw
          case rel => exact ⟨k + 1, L', av3, ax4, by go_num, by omega, B4.out.kept (Kept.drew _ nob), K4.out.abt (Kept.drew _ _)⟩
          case measure => simp [intOf]; omega
      · have hle := hB.out.x.le
        have hR4 := hB.out.x.most
        obtain ⟨p, cp, hax⟩ := hB.out.x.av
        have c0 := hB.out.x.c0
        rw [hax] at c0
        have HAX := Lib.hid hax
        clear hax
        by_cases hin : 0 ≤ i ∧ i < L.length
        · obtain ⟨q, rfl⟩ : ∃ q : Nat, i = (q : Int) := ⟨i.toNat, by omega⟩
          have hq : q < L.length := by omega
          have HT := Lib.hid (ntext_in hB.out.n q hq)
          have hrd := hB.out.x.own
          rw [HAX.out] at hrd
          rcases Rd.own hrd with h | ⟨g, o, hp, hcs⟩
          · have := sv_len L; rw [h] at this; simp at this; omega
          have dq := (hcs q (by rw [sv_len]; exact hq)).trans (sv_get L q hq)
          obtain ⟨t, ht⟩ : ∃ t, t = L.getD q ⟨#[]⟩ := ⟨_, rfl⟩
          rw [← ht] at dq HT
          rw [hp] at c0 HAX
          clear ht hcs hp hrd hin
          go_wp2_with fail
          refine HT.out.mono ?_
          rintro e w5 ⟨rfl, rfl⟩
          go_wp2
          have HFS : Hid (∀ (w' : World), w'.cell? ⟨bx, 0, none⟩ = some (.slice (some ⟨g, o, none⟩) L.length cp) ∧ Kept nob wr w' → NW w.heap.size w' b r av L R) := Lib.hid (fun w' h => hB.out.n.kept h.2 (fun _ _ h => h))
          have HRD : Hid (∀ (w' : World), w'.cell? ⟨bx, 0, none⟩ = some (.slice (some ⟨g, o, none⟩) L.length cp) ∧ Kept nob wr w' → Rd w' (some ⟨g, o, none⟩) (sv L)) := Lib.hid (fun w' h => by
            have := hB.out.x.kept h.2 (fun _ _ h => h)
            rw [HAX.out] at this
            exact this.rd)
          go_region_held3 (fun w' => w'.cell? ⟨bx, 0, none⟩ = some (.slice (some ⟨g, o, none⟩) L.length cp) ∧ Kept nob wr w') (first | exact ⟨c0, Kept.drew _ _⟩ | assumption) (first | (go_at_call 19; refine (nall_any (HFS.out _ (by assumption))).mono ?_; rintro e w5 ⟨a5, c5, rfl, r5, k5⟩; have s5 := cellKept (by assumption) k5) | (go_at_call 18; refine (strsame_any _ _ _ _ L L _ (by assumption) (HRD.out _ (by assumption)) (by omega) (by omega)).mono ?_; rintro e w6 ⟨rfl, k6⟩; have s6 := cellKept (by assumption) k6; rw [eqs_refl]) | (go_at_call 9; refine (nawake _).mono ?_; rintro e w7 ⟨rfl, k7⟩; have s7 := cellKept (by assumption) k7))
          go_wp2
          go_ret
          exact ⟨rfl, (hK.abt (‹_ ∧ Kept nob wr _›.2).ofNob).toNob⟩
        · have HT := Lib.hid (ntext_out (nlen_any hB.out.n) i (by omega))
          have hii : i < 0 ∨ (0 ≤ i ∧ (L.length : Int) ≤ i) := by omega
          clear hin
          rcases hii with hneg | ⟨hpos, hbig⟩
          all_goals
            go_wp2_with fail
            refine HT.out.mono ?_
            rintro e w5 ⟨rfl, rfl⟩
            go_wp2
            have HFS : Hid (∀ (w' : World), w'.cell? ⟨bx, 0, none⟩ = some (.slice p L.length cp) ∧ Kept nob wr w' → NW w.heap.size w' b r av L R) := Lib.hid (fun w' h => hB.out.n.kept h.2 (fun _ _ h => h))
            have HRD : Hid (∀ (w' : World), w'.cell? ⟨bx, 0, none⟩ = some (.slice p L.length cp) ∧ Kept nob wr w' → Rd w' p (sv L)) := Lib.hid (fun w' h => by
              have := hB.out.x.kept h.2 (fun _ _ h => h)
              rw [HAX.out] at this
              exact this.rd)
            go_region_held3 (fun w' => w'.cell? ⟨bx, 0, none⟩ = some (.slice p L.length cp) ∧ Kept nob wr w') (first | exact ⟨c0, Kept.drew _ _⟩ | assumption) (first | (go_at_call 19; refine (nall_any (HFS.out _ (by assumption))).mono ?_; rintro e w5 ⟨a5, c5, rfl, r5, k5⟩; have s5 := cellKept (by assumption) k5) | (go_at_call 18; refine (strsame_any _ _ _ _ L L _ (by assumption) (HRD.out _ (by assumption)) (by omega) (by omega)).mono ?_; rintro e w6 ⟨rfl, k6⟩; have s6 := cellKept (by assumption) k6; rw [eqs_refl]) | (go_at_call 9; refine (nawake _).mono ?_; rintro e w7 ⟨rfl, k7⟩; have s7 := cellKept (by assumption) k7))
            go_wp2
            go_ret
            exact ⟨rfl, (hK.abt (‹_ ∧ Kept nob wr _›.2).ofNob).toNob⟩
  · rcases Nat.lt_or_ge 60 xs.length with c1 | c1
    · clear hg
      go_enter Try.func4, Try.ntmps4
      go_wp2_with (go_at_call 9; refine (nawake _).mono ?_; rintro e w' ⟨rfl, hk⟩)
      go_ret
      exact ⟨rfl, hk⟩
    · have c2 : 1000 < s.size := by omega
      clear hg
      go_enter Try.func4, Try.ntmps4
      go_wp2_with (go_at_call 9; refine (nawake _).mono ?_; rintro e w' ⟨rfl, hk⟩)
      go_ret
      exact ⟨rfl, hk⟩

end Go.Proofs.Ythncceffgncagaa

/-
  What is proved: each byte that a machine takes keeps what makes its word right; the word that ends is right; what the document's Cmds gives for a word in memory; a machine's parts are short lists of short parts; calls on one of two machines leave the other one alone; what a machine does behind commands, and behind arithmetic instead, in states alone. Conditions: those of each theorem.
-/
import Derived.Test.YtbmapjgajecgfaaJ6
set_option linter.unusedVariables false
set_option linter.unusedSimpArgs false
namespace Go.Proofs.Ytbmapjgajecgfaa
open Go.RowKit
theorem post_no {v : Int} {s : St} (h0 : v ≠ 0) (h1 : v ≠ 1) : Post (v, s) := ⟨fun e => absurd e h0, fun e => absurd e h1⟩
theorem post_0 {s : St} (h : Inv s) : Post (0, s) := ⟨fun _ => h, fun e => absurd (show (0 : Int) = 1 from e) (by decide)⟩
/-- An inner state of a kind without conditions of its own. -/
theorem inv_k {s : St} (h : Lvs s) (hd : endsDol s.tp.li = false) (k : Nat) (hk : s.kd = k) (hx : k = 3 ∨ k = 5) : Inv s :=
  inv_of h k hk (fun e => absurd (hd.symm.trans e) (by simp)) (fun e => by omega) (fun e => by omega) (fun e => by omega) (fun e => by omega) (fun e => by omega) (fun e => by omega) (fun e => by omega) (fun e => by omega) (fun e => by omega) (fun e => by omega) (fun e => by omega)
/-- A part more, and a text goes on. -/
theorem add_inv {s : St} (h : Lvs s) {p : Prt} (hp : okP s.tp.wh p = true) (hk : p.k ≠ 1) (hd : endsDol s.tp.li = true → p.k ≠ 5 ∧ p.k ≠ 6 ∧ p.k ≠ 7) : Lvs ((s.add p).turn 0) ∧ ((s.add p).turn 0).tp.li = [] ∧ ((s.add p).turn 0).tp.ps ≠ [] :=
  ⟨h.set (t := (s.add p).turn 0) rfl (flush_wh s.tp) (addP_ok h.tp hp hk hd), flush_li s.tp, by show s.tp.flush.ps ++ [p] ≠ []; simp⟩
theorem add_post {s : St} (h : Lvs s) {p : Prt} (hp : okP s.tp.wh p = true) (hk : p.k ≠ 1) (hd : endsDol s.tp.li = true → p.k ≠ 5 ∧ p.k ≠ 6 ∧ p.k ≠ 7) : Post (0, (s.add p).turn 0) := by
  obtain ⟨a, b, d⟩ := add_inv h hp hk hd
  exact post_0 (inv_0 a rfl (by rw [b]; rfl) (fun _ e => d e.1))
theorem Inv.nd {s : St} (h : Inv s) (hk : s.kd ≠ 1 ∧ s.kd ≠ 12) : endsDol s.tp.li = false := by
  by_cases e : endsDol s.tp.li = true
  · rcases h.dol e with h | h
    · exact absurd h hk.1
    · exact absurd h hk.2
  · simpa using e
theorem okP_par (pl : Int) {l : List UInt8} {op : ByteArray} (h : parB l = true) (ho : op = ⟨#[]⟩ ∨ op = lenOp) : okP pl (.mk 5 ⟨l.toArray⟩ op [] 0) = true := by
  simp [okP, h, ho]
theorem nd_of {l : List UInt8} (h : endsDol l = false) {P : Prop} : endsDol l = true → P := fun e => absurd (h.symm.trans e) (by simp)
theorem parB_of_name {l : List UInt8} (h : nameB l = true) : parB l = true := by simp [parB, h]
theorem parB_of_dig {l : List UInt8} (h : digB l = true) : parB l = true := by simp [parB, h]
theorem parB_one {c : UInt8} (h : cls c.toNat = 3 ∨ spc c.toNat = true) : parB [c] = true := by
  rcases h with h | h
  · simp [parB, digB, h]
  · simp [parB, spcB, h]
theorem name_ne {l : List UInt8} (h : nameB l = true) : l ≠ [35] := by
  intro e
  rw [e] at h
  exact absurd h (by decide)
theorem dig_ne {l : List UInt8} (h : digB l = true) : l ≠ [35] := by
  intro e
  rw [e] at h
  exact absurd h (by decide)
theorem parameter_post {s : St} (h : Lvs s) (hd : endsDol s.tp.li = false) (c : UInt8) (hl : s.ln = false → c ≠ 35) : Post (stParameter s c) := by
  unfold stParameter
  simp only
  have hs : ∀ k, Lvs (({s with bu := [c]} : St).turn k) := fun k => h.same rfl rfl
  split
  · rename_i h4
    exact post_0 (inv_of (hs 7) 7 rfl (nd_of hd) (fun e => by omega) (fun e => by omega) (fun e => by omega) (fun _ => by show nameB [c] = true; simp [nameB, h4]) (fun e => by omega) (fun e => by omega) (fun e => by omega) (fun e => by omega) (fun e => by omega) (fun e => by omega) (fun e => by omega))
  split
  · rename_i h3
    exact post_0 (inv_of (hs 8) 8 rfl (nd_of hd) (fun e => by omega) (fun e => by omega) (fun e => by omega) (fun e => by omega) (fun _ => by show digB [c] = true; simp [digB, h3]) (fun e => by omega) (fun e => by omega) (fun e => by omega) (fun e => by omega) (fun e => by omega) (fun e => by omega))
  split
  · rename_i hsp
    exact post_0 (inv_of (hs 9) 9 rfl (nd_of hd) (fun e => by omega) (fun e => by omega) (fun e => by omega) (fun e => by omega) (fun e => by omega) (fun _ => ⟨parB_one (.inr hsp), fun e x => hl e (by have x' : [c] = [35] := x; simpa using x')⟩) (fun e => by omega) (fun e => by omega) (fun e => by omega) (fun e => by omega) (fun e => by omega))
  · exact post_no (by decide) (by decide)
theorem one1_ops (c : UInt8) (h : one1 c.toNat = true) : (⟨#[c]⟩ : ByteArray) ∈ opsL ∧ (⟨#[58, c]⟩ : ByteArray) ∈ opsL ∧ c ≠ 37 ∧ c ≠ 35 := by
  have h4 : c = 45 ∨ c = 61 ∨ c = 63 ∨ c = 43 := (byte_all (P := fun c => one1 c.toNat = false ∨ c = 45 ∨ c = 61 ∨ c = 63 ∨ c = 43) (by decide +kernel) c).resolve_left (by rw [h]; decide)
  rcases h4 with rfl | rfl | rfl | rfl <;> simp [opsL]
/-- A level is opened behind a parameter. -/
theorem push2_post {s : St} (h : Lvs s) (hd : endsDol s.tp.li = false) (op : ByteArray) (hb : parB s.bu = true) (hb2 : s.bu ≠ [35]) (ho : op ∈ opsL) : Lvs (s.push 2 ⟨s.bu.toArray⟩ op) := by
  refine h.push 2 _ op (.inr rfl) ⟨nd_of hd, fun e => absurd (show (2 : Int) = 1 from e) (by decide)⟩ (fun _ => ⟨by simpa using hb, fun e => hb2 ?_, ho⟩)
  have := congrArg (fun x : ByteArray => x.data.toList) e
  simpa using this
theorem behind_post {s : St} (h : Lvs s) (hd : endsDol s.tp.li = false) (hb : parB s.bu = true) (hb2 : s.ln = false → s.bu ≠ [35]) (c : UInt8) : Post (stBehind s c) := by
  unfold stBehind
  split
  · refine add_post h (okP_par _ hb ?_) (by simp [Prt.k]) (nd_of hd)
    split
    · exact .inr rfl
    · exact .inl rfl
  split
  · exact post_no (by decide) (by decide)
  rename_i hln
  have hln' : s.ln = false := by simpa using hln
  split
  · exact post_0 (inv_of (s := s.turn 10) (h.same rfl rfl) 10 rfl (nd_of hd) (fun e => by omega) (fun e => by omega) (fun e => by omega) (fun e => by omega) (fun e => by omega) (fun e => by omega) (fun _ => ⟨hb, hb2 hln'⟩) (fun e => by omega) (fun e => by omega) (fun e => by omega) (fun e => by omega))
  split
  · rename_i hc
    refine post_0 (inv_of (s := {s with cu := c.toNat, kd := 11}) (h.same rfl rfl) 11 rfl (nd_of hd) (fun e => by omega) (fun e => by omega) (fun e => by omega) (fun e => by omega) (fun e => by omega) (fun e => by omega) (fun e => by omega) (fun _ => ⟨hb, hb2 hln', ?_⟩) (fun e => by omega) (fun e => by omega) (fun e => by omega))
    rcases hc with rfl | rfl
    · exact .inl rfl
    · exact .inr rfl
  split
  · rename_i h1
    obtain ⟨o1, _, o3, o4⟩ := one1_ops c h1
    refine post_0 (inv_0 (push2_post h hd _ hb (hb2 hln') o1) rfl rfl (fun hn => absurd ?_ hn))
    show Lvl.bad ⟨2, [], [], ⟨s.bu.toArray⟩, ⟨#[c]⟩⟩ = none
    unfold Lvl.bad
    simp [o3, o4]
  · exact post_no (by decide) (by decide)
theorem nameB_snoc {l : List UInt8} {c : UInt8} (h : nameB l = true) (hc : cls c.toNat = 4 ∨ cls c.toNat = 3) : nameB (l ++ [c]) = true := by
  cases l with
  | nil => cases h
  | cons d r =>
    simp only [nameB, Bool.and_eq_true] at h
    simp only [List.cons_append, nameB, List.all_append, h.1, h.2]
    simp [hc]
theorem digB_snoc {l : List UInt8} {c : UInt8} (h : digB l = true) (hc : cls c.toNat = 3) : digB (l ++ [c]) = true := by
  simp only [digB, Bool.and_eq_true] at h
  simp only [digB, List.all_append, h.2]
  simp [hc]
theorem name_post {s : St} (h : Inv s) (hk : s.kd = 7 ∨ s.kd = 8) (c : UInt8) : Post (stName s c) := by
  have hd := h.nd (by omega)
  unfold stName
  split
  · rename_i hc
    have hl : Lvs ({s with bu := s.bu ++ [c]} : St) := h.lvs.same rfl rfl
    rcases hk with hk | hk
    · have hc' : cls c.toNat = 4 ∨ cls c.toNat = 3 := hc.elim .inr (fun h => .inl h.1)
      exact post_0 (inv_of hl 7 hk (nd_of hd) (fun e => by omega) (fun e => by omega) (fun e => by omega) (fun _ => nameB_snoc (h.k7 hk) hc') (fun e => by omega) (fun e => by omega) (fun e => by omega) (fun e => by omega) (fun e => by omega) (fun e => by omega) (fun e => by omega))
    · have hc' : cls c.toNat = 3 := hc.elim id (fun h => by omega)
      exact post_0 (inv_of hl 8 hk (nd_of hd) (fun e => by omega) (fun e => by omega) (fun e => by omega) (fun e => by omega) (fun _ => digB_snoc (h.k8 hk) hc') (fun e => by omega) (fun e => by omega) (fun e => by omega) (fun e => by omega) (fun e => by omega) (fun e => by omega))
  · refine behind_post (s := s.turn 9) (h.lvs.same rfl rfl) hd ?_ ?_ c
    · rcases hk with hk | hk
      · exact parB_of_name (h.k7 hk)
      · exact parB_of_dig (h.k8 hk)
    · intro _
      rcases hk with hk | hk
      · exact name_ne (h.k7 hk)
      · exact dig_ne (h.k8 hk)
theorem arith_snoc {b : List UInt8} {n : Int} (h : ∀ r, arithB (b ++ r) 0 = arithB r n) {c : UInt8} {m : Int} (hc : ∀ r, arithB (c :: r) n = arithB r m) : ∀ r, arithB ((b ++ [c]) ++ r) 0 = arithB r m := by
  intro r
  rw [List.append_assoc, h]
  exact hc r
theorem next_post {s : St} (h : Inv s) (hk : s.kd ≤ 14) (c : UInt8) : Post (stNext s c) := by
  obtain ⟨k, hks⟩ : ∃ k, s.kd = k := ⟨_, rfl⟩
  have hdn : k ≠ 1 ∧ k ≠ 12 → endsDol s.tp.li = false := fun x => h.nd (by rw [hks]; exact x)
  have hbare : ∀ r, r = stText ((s.add (.mk 5 ⟨s.bu.toArray⟩ ⟨#[]⟩ [] 0)).turn 0) c → nameB s.bu = true → endsDol s.tp.li = false → Post r := fun r hr hn hd => by
    obtain ⟨a, b, d⟩ := add_inv h.lvs (okP_par s.tp.wh (parB_of_name hn) (.inl rfl)) (by simp [Prt.k]) (nd_of hd)
    rw [hr]
    exact text_post a rfl c (by rw [b]; exact fun e => absurd e (by decide)) (fun x _ e => absurd e d)
  unfold stNext
  rw [hks] at hk ⊢
  split
  · refine text_post h.lvs hks c (fun e => absurd e (by rw [hdn (by omega)]; decide)) (fun x hx a b => absurd ⟨a, b⟩ (h.nf hks (by rw [hx]; simp)))
  · unfold stEscaped
    split
    · exact post_no (by decide) (by decide)
    rename_i h1
    split
    · rename_i h2
      obtain ⟨a, b⟩ := lit2_ok h.lvs.tp h2.1 h2.2 (fun e => h1 (.inl e)) (fun e => h1 (.inr e))
      exact post_0 (inv_0 (s := (s.lit [92, c]).turn 0) (h.lvs.set rfl rfl a) rfl b (fun _ e => by have : s.tp.li ++ [92, c] = [] := e.2; simp at this))
    · rename_i h2
      refine add_post (s := {s with tk := s.tk ++ [c]}) (h.lvs.same rfl rfl) ?_ (by simp [Prt.k]) (fun _ => by simp [Prt.k])
      have hsp : s.tp.wh = 1 → specB c = true := fun e => by
        have := esc_spec c
        by_cases he : esc4 c.toNat = true
        · exact absurd ⟨e, he⟩ h2
        · rw [this] at he
          simpa using he
      have h0 : c ≠ 0 := fun e => h1 (.inl e)
      have h10 : c ≠ 10 := fun e => h1 (.inr e)
      show okP s.tp.wh _ = true
      by_cases hw : s.tp.wh = 1
      · simp [okP, h0, h10, hw, hsp hw]
      · simp [okP, h0, h10, hw]
  · have hd := hdn (by omega)
    unfold stDollar
    split
    · exact post_0 (inv_k (s := {s with ex := true, kd := 5}) (h.lvs.same rfl rfl) hd 5 rfl (.inr rfl))
    split
    · exact post_0 (inv_k (s := {s with ex := true, kd := 3}) (h.lvs.same rfl rfl) hd 3 rfl (.inl rfl))
    split
    · rename_i h4
      exact post_0 (inv_of (s := {s with ex := true, bu := [c], kd := 4}) (h.lvs.same rfl rfl) 4 rfl (nd_of hd) (fun e => by omega) (fun _ => by show nameB [c] = true; simp [nameB, h4]) (fun e => by omega) (fun e => by omega) (fun e => by omega) (fun e => by omega) (fun e => by omega) (fun e => by omega) (fun e => by omega) (fun e => by omega) (fun e => by omega))
    split
    · rename_i h3
      exact add_post (s := {s with ex := true}) (h.lvs.same rfl rfl) (okP_par _ (parB_one h3) (.inl rfl)) (by simp [Prt.k]) (nd_of hd)
    · rename_i c1 c2 c3 c4
      have hdc : dolOK c = true := by
        unfold dolOK
        simp only [not_or] at c4
        simp [c1, c2, c3, c4.1, c4.2]
      have hw012 : s.tp.wh = 0 ∨ s.tp.wh = 1 ∨ s.tp.wh = 2 := by
        obtain ⟨l, r, e1, e2, e3⟩ := h.lvs.wf
        have : s.tp ∈ l :: r := by rw [← e1]; simp [St.all]
        rcases List.mem_cons.1 this with e | e
        · left; rw [e]; exact e2
        · right; exact e3 _ e
      have h36 : byteOK s.tp.wh 36 = true := by rcases hw012 with e | e | e <;> rw [e] <;> decide
      have hbad : ∀ x, s.tp.bad = some x → (36 : UInt8) ≠ x := by
        intro x hx
        unfold Lvl.bad at hx
        split at hx
        · simp at hx; rw [← hx]; decide
        split at hx
        · simp at hx; rw [← hx]; decide
        split at hx
        · simp at hx; rw [← hx]; decide
        · cases hx
      have hl := lit1_ok h.lvs.tp h36 (fun _ => by decide) (nd_of hd) (fun x hx _ _ => hbad x hx)
      refine text_post (t := (s.lit [36]).turn 0) (h.lvs.set rfl rfl hl) rfl c (fun _ => hdc) (fun x _ _ e => ?_)
      have : s.tp.li ++ [36] = [] := e
      simp at this
  · have hd := hdn (by omega)
    unfold stOpened
    split
    · exact post_0 (inv_of (s := {s with bu := [], dp := 0, kd := 13}) (h.lvs.same rfl rfl) 13 rfl (nd_of hd) (fun e => by omega) (fun e => by omega) (fun e => by omega) (fun e => by omega) (fun e => by omega) (fun e => by omega) (fun e => by omega) (fun e => by omega) (fun e => by omega) (fun _ => ⟨by show (0 : Int) ≤ 0; omega, fun r => rfl⟩) (fun e => by omega))
    · exact post_no (by decide) (by decide)
  · have hd := hdn (by omega)
    unfold stBare
    split
    · rename_i hc
      exact post_0 (inv_of (s := {s with bu := s.bu ++ [c]}) (h.lvs.same rfl rfl) 4 hks (nd_of hd) (fun e => by omega) (fun _ => nameB_snoc (h.k4 hks) hc) (fun e => by omega) (fun e => by omega) (fun e => by omega) (fun e => by omega) (fun e => by omega) (fun e => by omega) (fun e => by omega) (fun e => by omega) (fun e => by omega))
    · exact hbare _ rfl (h.k4 hks) hd
  · have hd := hdn (by omega)
    unfold stHead
    split
    · exact post_0 (inv_of (s := ({s with ln := true} : St).turn 6) (h.lvs.same rfl rfl) 6 rfl (nd_of hd) (fun e => by omega) (fun e => by omega) (fun _ => rfl) (fun e => by omega) (fun e => by omega) (fun e => by omega) (fun e => by omega) (fun e => by omega) (fun e => by omega) (fun e => by omega) (fun e => by omega))
    · rename_i hc
      exact parameter_post (s := {s with ln := false}) (h.lvs.same rfl rfl) hd c (fun _ => hc)
  · have hd := hdn (by omega)
    unfold stHash
    split
    · exact add_post h.lvs (okP_par (l := [35]) _ (by decide) (.inl rfl)) (by simp [Prt.k]) (nd_of hd)
    · exact parameter_post h.lvs hd c (fun e => absurd (e.symm.trans (h.k6 hks)) (by decide))
  · exact name_post h (.inl hks) c
  · exact name_post h (.inr hks) c
  · exact behind_post h.lvs (hdn (by omega)) (h.k9 hks).1 (h.k9 hks).2 c
  · have hd := hdn (by omega)
    unfold stColon
    split
    · rename_i h1
      obtain ⟨_, o2, _, _⟩ := one1_ops c h1
      refine post_0 (inv_0 (push2_post h.lvs hd _ (h.k10 hks).1 (h.k10 hks).2 o2) rfl rfl (fun hn => absurd ?_ hn))
      show Lvl.bad ⟨2, [], [], ⟨s.bu.toArray⟩, ⟨#[58, c]⟩⟩ = none
      unfold Lvl.bad
      simp
    · exact post_no (by decide) (by decide)
  · have hd := hdn (by omega)
    obtain ⟨b1, b2, b3⟩ := h.k11 hks
    unfold stDouble
    split
    · rename_i hc
      have hcc : c = 37 ∨ c = 35 := by
        rcases b3 with e | e
        · left; rw [e] at hc; exact UInt8.toNat_inj.1 (by show c.toNat = 37; omega)
        · right; rw [e] at hc; exact UInt8.toNat_inj.1 (by show c.toNat = 35; omega)
      have ho : (⟨#[c, c]⟩ : ByteArray) ∈ opsL := by rcases hcc with rfl | rfl <;> simp [opsL]
      refine post_0 (inv_0 (push2_post h.lvs hd _ b1 b2 ho) rfl rfl (fun hn => absurd ?_ hn))
      show Lvl.bad ⟨2, [], [], ⟨s.bu.toArray⟩, ⟨#[c, c]⟩⟩ = none
      unfold Lvl.bad
      simp
    · rename_i hc
      have hop : (⟨#[s.cu.toNat.toUInt8]⟩ : ByteArray) ∈ opsL := by rcases b3 with e | e <;> rw [e] <;> simp [opsL]
      refine text_post (push2_post h.lvs hd _ b1 b2 hop) rfl c (fun e => absurd (show endsDol ([] : List UInt8) = true from e) (by decide)) (fun x hx _ _ => ⟨fun e => ?_, ?_⟩)
      · have hx' : Lvl.bad ⟨2, [], [], ⟨s.bu.toArray⟩, ⟨#[s.cu.toNat.toUInt8]⟩⟩ = some x := hx
        rcases b3 with e3 | e3
        · rw [e3] at hx' hc
          have : x = 37 := by
            unfold Lvl.bad at hx'
            simp at hx'
            exact hx'.symm
          rw [e, this] at hc
          exact hc rfl
        · rw [e3] at hx' hc
          have : x = 35 := by
            unfold Lvl.bad at hx'
            simp at hx'
            exact hx'.symm
          rw [e, this] at hc
          exact hc rfl
      · unfold stText
        split
        · show ¬ ((3 : Int) = 1); decide
        rw [if_neg (fun h => absurd h.1 (by show ¬ ((2 : Int) = 0); decide))]
        split
        · show ¬ ((0 : Int) = 1); decide
        split
        · show ¬ ((0 : Int) = 1); decide
        split
        · show ¬ ((0 : Int) = 1); decide
        split
        · show ¬ ((0 : Int) = 1); decide
        split
        · show ¬ ((0 : Int) = 1); decide
        · show ¬ ((0 : Int) = 1); decide
  · obtain ⟨b1, b2⟩ := h.k12 hks
    unfold stSingle
    split
    · exact post_no (by decide) (by decide)
    rename_i h0
    split
    · refine add_post h.lvs ?_ (by simp [Prt.k]) (fun _ => by simp [Prt.k])
      simp [okP, b1, b2]
    · rename_i h39
      refine post_0 (inv_of (s := {s with bu := s.bu ++ [c], tk := s.tk ++ [c]}) (h.lvs.same rfl rfl) 12 hks (fun _ => .inr rfl) (fun e => by omega) (fun e => by omega) (fun e => by omega) (fun e => by omega) (fun e => by omega) (fun e => by omega) (fun e => by omega) (fun e => by omega) (fun _ => ⟨?_, b2⟩) (fun e => by omega) (fun e => by omega))
      show clearB (s.bu ++ [c]) = true
      unfold clearB at b1 ⊢
      rw [List.all_append, b1]
      simp [h0, h39]
  · have hd := hdn (by omega)
    obtain ⟨b1, b2⟩ := h.k13 hks
    unfold stArith
    split
    · exact post_no (by decide) (by decide)
    rename_i h0
    split
    · rename_i h1
      refine post_0 (inv_of (s := s.turn 14) (h.lvs.same rfl rfl) 14 rfl (nd_of hd) (fun e => by omega) (fun e => by omega) (fun e => by omega) (fun e => by omega) (fun e => by omega) (fun e => by omega) (fun e => by omega) (fun e => by omega) (fun e => by omega) (fun e => by omega) (fun _ => ?_))
      have := b2 []
      rw [List.append_nil] at this
      show arithB s.bu 0 = true
      rw [this, h1.2]
      rfl
    · rename_i h1
      have hk13 : ∀ m : Int, 0 ≤ m → (∀ r, arithB (c :: r) s.dp = arithB r m) → Inv ({s with bu := s.bu ++ [c], dp := m} : St) := fun m hm hr =>
        inv_of (s := {s with bu := s.bu ++ [c], dp := m}) (h.lvs.same rfl rfl) 13 hks (nd_of hd) (fun e => by omega) (fun e => by omega) (fun e => by omega) (fun e => by omega) (fun e => by omega) (fun e => by omega) (fun e => by omega) (fun e => by omega) (fun e => by omega) (fun _ => ⟨hm, arith_snoc b2 hr⟩) (fun e => by omega)
      refine post_0 (hk13 _ ?_ ?_)
      · by_cases h41 : c = 41
        · rw [if_pos h41]
          have : s.dp ≠ 0 := fun e => h1 ⟨h41, e⟩
          omega
        · rw [if_neg h41]
          split <;> omega
      · intro r
        by_cases h41 : c = 41
        · have hne : s.dp ≠ 0 := fun e => h1 ⟨h41, e⟩
          rw [if_pos h41]
          have h40 : c ≠ 40 := by rw [h41]; decide
          have hpos : 0 < s.dp := by omega
          simp [arithB, h0, h40, h41, hpos]
        · rw [if_neg h41]
          by_cases h40 : c = 40
          · rw [if_pos h40]
            simp [arithB, h40]
          · rw [if_neg h40]
            simp [arithB, h0, h40, h41]
  · have hd := hdn (by omega)
    unfold stArithEnd
    split
    · refine add_post h.lvs ?_ (by simp [Prt.k]) (nd_of hd)
      have := h.k14 hks
      simp [okP, this]
    · exact post_no (by decide) (by decide)
  · exact absurd hk (by omega)
  · exact post_no (by decide) (by decide)
theorem Inv.pl {s : St} (h : Inv s) (l : List UInt8) : Inv ({s with pl := l} : St) := ⟨h.lvs.same rfl rfl, h.dol, h.nf, h.k4, h.k6, h.k7, h.k8, h.k9, h.k10, h.k11, h.k12, h.k13, h.k14⟩
theorem feed_post {s : St} (h : Inv s) (hk : s.kd ≤ 14) (c : UInt8) : Post (stFeed s c) := by
  have hp := next_post h hk c
  unfold stFeed
  split
  · rename_i h0
    exact post_0 ((hp.1 h0).pl _)
  · exact hp
end Go.Proofs.Ytbmapjgajecgfaa
set_option linter.unusedVariables false
set_option linter.unusedSimpArgs false
namespace Go.Proofs.Ytbmapjgajecgfaa
open Go.RowKit
theorem info_nodes : (Try.prog.info? 29).map (fun i => (i.zero, i.size, i.bytes)) = some (some (.slice none 0 0), 1, 24) := by kernel_rfl
def slen : Value → Option Nat
  | .slice _ n _ => some n
  | _ => none
theorem Rds.at {w : World} {C : Nat → Prop} {us : List Value} {L : List Prt} (h : Rds w C us L) (k : Nat) {kk : Int} {tx op : ByteArray} {K : List Prt} {cm : Nat} (hk : L[k]? = some (.mk kk tx op K cm)) :
    ∃ a cap ca cc, (∀ j, j < 5 → us[k * 5 + j]? = ([.int .i64 kk, .string tx, .string op, .slice a K.length cap, .slice ca cm cc] : List Value)[j]?) ∧ Cold w C (.slice a K.length cap) K := by
  induction k generalizing us L with
  | zero =>
    rcases L with _ | ⟨p, L⟩
    · simp at hk
    · obtain rfl : p = .mk kk tx op K cm := by simpa using hk
      obtain ⟨a, cap, ca, cc, vs, rfl, _, h2⟩ := h.inv
      refine ⟨a, cap, ca, cc, fun j hj => ?_, h2⟩
      rcases j with _ | _ | _ | _ | _ | j
      · rfl
      · rfl
      · rfl
      · rfl
      · rfl
      · omega
  | succ k ih =>
    rcases L with _ | ⟨⟨pk, ptx, pop, pK, pcm⟩, L⟩
    · simp at hk
    · obtain ⟨a0, cap0, ca0, cc0, vs, rfl, h1, _⟩ := h.inv
      obtain ⟨a, cap, ca, cc, h3, h4⟩ := ih h1 (by simpa using hk)
      refine ⟨a, cap, ca, cc, fun j hj => ?_, h4⟩
      rw [← h3 j hj, show (k + 1) * 5 + j = (k * 5 + j) + 5 by omega]
      rfl
mutual
def Prt.short : Prt → Prop
  | .mk _ _ _ kids _ => kids.length ≤ 100000 ∧ shortAll kids
def shortAll : List Prt → Prop
  | [] => True
  | p :: r => p.short ∧ shortAll r
end
/-- No list of parts is longer than memory bears, nor one within. -/
def Short (K : List Prt) : Prop := K.length ≤ 100000 ∧ shortAll K
theorem short_at {K : List Prt} (h : shortAll K) {k : Nat} {p : Prt} (hk : K[k]? = some p) : p.short := by
  induction K generalizing k with
  | nil => simp at hk
  | cons q r ih =>
    simp only [shortAll] at h
    rcases k with _ | k
    · obtain rfl : q = p := by simpa using hk
      exact h.1
    · exact ih h.2 (by simpa using hk)
theorem short_kids {K : List Prt} (h : shortAll K) {k : Nat} {kk : Int} {tx op : ByteArray} {K' : List Prt} {cm : Nat} (hk : K[k]? = some (.mk kk tx op K' cm)) : Short K' := by
  have := short_at h hk
  simp only [Prt.short] at this
  exact this
theorem short_app {K L : List Prt} (h : shortAll K) (h' : shortAll L) : shortAll (K ++ L) := by
  induction K with
  | nil => exact h'
  | cons q r ih =>
    simp only [shortAll] at h
    simp only [List.cons_append, shortAll]
    exact ⟨h.1, ih h.2⟩
/-- What Cmds gives: rows of commands, as long as the parts say. -/
def Cm (B : Nat) (w : World) (v : Value) (L : List Nat) : Prop := ∃ xs, w.ownsRow B 29 1 v L.length xs ∧ (L = [] → v = .slice none 0 0) ∧ xs.map slen = L.map some
def CmdsM (w0 : World) (K : List Prt) (e : Ending) (w' : World) : Prop := ∃ v, e = .returned v ∧ Kept nob w0 w' ∧ Cm w0.heap.size w' v (cmdsOf K)
theorem Cm.kept {B : Nat} {w w' : World} {v : Value} {L : List Nat} (h : Cm B w v L) (hk : Kept nob w w') : Cm B w' v L := by
  obtain ⟨xs, h1, h2, h3⟩ := h
  exact ⟨xs, own_kept hk h1 (fun _ _ h => h), h2, h3⟩
theorem Cm.shape {B : Nat} {w : World} {v : Value} {L : List Nat} (h : Cm B w v L) : ∃ a c, v = .slice a L.length c := by
  obtain ⟨xs, h1, _⟩ := h
  exact own_slice h1
theorem Cm.nil (B : Nat) (w : World) : Cm B w (.slice none 0 0) [] := ⟨[], World.ownsRow_nil _ _ _ _, fun _ => rfl, rfl⟩
theorem cmdsOf_take {K : List Prt} {k : Nat} {p : Prt} (hk : K[k]? = some p) : cmdsOf (K.take (k + 1)) = cmdsOf (K.take k) ++ p.cmds := by
  rw [List.take_add_one, hk, cmdsOf_app]
  simp [cmdsOf]
theorem cmdsOf_take_le (K : List Prt) (k : Nat) : (cmdsOf (K.take k)).length ≤ (cmdsOf K).length := by
  conv => rhs; rw [← List.take_append_drop k K, cmdsOf_app]
  simp
theorem own_ge {w : World} {base : Nat} {e : TypeId} {size : Nat} {v : Value} {n : Nat} {xs : List Value} (h : w.ownsRow base e size v n xs) {g : Nat} (hg : v.ownBlock = some g) : base ≤ g := by
  rcases h.2 with ⟨e1, _⟩ | ⟨g', cap, cur, e1, h2, _⟩
  · rw [e1] at hg; cases hg
  · rw [e1] at hg
    obtain rfl : g' = g := by simpa [Value.ownBlock] using hg
    exact h2
/-- What was there before a call is there when a row of the call's own has grown. -/
theorem kept_app {W w w' : World} {e : TypeId} {size : Nat} {v : Value} {n : Nat} {xs : List Value} {o : Obj} (hk : Kept nob W w) (h : w.ownsRow W.heap.size e size v n xs) (gr : (w.alloc o).grownBy w' v.ownBlock) : Kept nob W w' :=
  (hk.trans (Kept.alloc w o nob) (fun _ _ h => h)).trans (Kept.ofGrown gr) (fun i hi he => by have := own_ge h he.symm; omega)
theorem kept_app0 {W w w' : World} {e : TypeId} {size : Nat} {v : Value} {n : Nat} {xs : List Value} (hk : Kept nob W w) (h : w.ownsRow W.heap.size e size v n xs) (gr : w.grownBy w' v.ownBlock) : Kept nob W w' :=
  hk.trans (Kept.ofGrown gr) (fun i hi he => by have := own_ge h he.symm; omega)
theorem Cm.app {B : Nat} {w : World} {g cap : Nat} {L L' : List Nat} {xs news : List Value} (h : xs.map slen = L.map some) (own : w.ownsRow B 29 1 (.slice (some ⟨g, 0, none⟩) (L.length + L'.length) cap) (L.length + L'.length) (xs ++ news)) (hn : news.map slen = L'.map some) (hne : L' ≠ []) : Cm B w (.slice (some ⟨g, 0, none⟩) (L.length + L'.length) cap) (L ++ L') :=
  ⟨xs ++ news, by rw [List.length_append]; exact own, fun e => absurd (List.append_eq_nil_iff.1 e).2 hne, by rw [List.map_append, List.map_append, h, hn]⟩
theorem sz_kids {K : List Prt} {k : Nat} {kk : Int} {tx op : ByteArray} {K' : List Prt} {cm : Nat} (hk : K[k]? = some (.mk kk tx op K' cm)) : SizeOf.sizeOf K' < SizeOf.sizeOf K := by
  obtain ⟨h1, h2⟩ := List.getElem?_eq_some_iff.1 hk
  have := List.sizeOf_lt_of_mem (List.getElem_mem h1)
  rw [h2] at this
  simp at this
  omega
structure PCell (w : World) (C : Nat → Prop) (va : Option Addr) (n k : Nat) (kk : Int) (K' : List Prt) (cm : Nat) (g o : Nat) (ka : Option Addr) (kc : Nat) (ca : Option Addr) (cc : Nat) : Prop where
  va : va = some ⟨g, o, none⟩
  cell : ∀ w', Kept nob w w' → w'.cell? ⟨g, o + k * 5, none⟩ = some (.int .i64 kk) ∧ w'.cell? ⟨g, o + k * 5 + 3, none⟩ = some (.slice ka K'.length kc) ∧ w'.cell? ⟨g, o + k * 5 + 4, none⟩ = some (.slice ca cm cc)
  cold : Cold w C (.slice ka K'.length kc) K'
theorem pcell_at {w : World} {C : Nat → Prop} {va : Option Addr} {vc : Nat} {K : List Prt} (hc : Cold w C (.slice va K.length vc) K) (hC : ∀ k, C k → k < w.heap.size) {k : Nat} {kk : Int} {tx op : ByteArray} {K' : List Prt} {cm : Nat} (hk : K[k]? = some (.mk kk tx op K' cm)) :
    ∃ g o ka kc ca cc, PCell w C va K.length k kk K' cm g o ka kc ca cc := by
  rcases hc with ⟨a, cap, e1, e2⟩ | ⟨g, o, cap, us, e1, hg, hcell, hr⟩
  · rw [e2] at hk; simp at hk
  · obtain ⟨ka, kc, ca, cc, h1, h2⟩ := hr.at k hk
    obtain ⟨rfl, rfl⟩ : va = some ⟨g, o, none⟩ ∧ vc = cap := by simpa using e1
    have hlt : k < K.length := (List.getElem?_eq_some_iff.1 hk).1
    have hul := hr.len
    have hat : ∀ j, j < 5 → w.cell? ⟨g, o + k * 5 + j, none⟩ = ([.int .i64 kk, .string tx, .string op, .slice ka K'.length kc, .slice ca cm cc] : List Value)[j]? := fun j hj => by
      rw [← h1 j hj, ← hcell (k * 5 + j) (by omega), Nat.add_assoc]
    refine ⟨g, o, ka, kc, ca, cc, rfl, fun w' hk' => ?_, h2⟩
    have hb := hk'.block g (hC g hg) (fun h => h)
    refine ⟨?_, ?_, ?_⟩
    · rw [World.cell?_of_block hb]; exact hat 0 (by omega)
    · rw [World.cell?_of_block hb]; exact hat 3 (by omega)
    · rw [World.cell?_of_block hb]; exact hat 4 (by omega)
set_option maxRecDepth 100000 in
set_option maxHeartbeats 8000000 in
theorem cmds_any (N : Nat) : ∀ (K : List Prt), SizeOf.sizeOf K < N → ∀ (w : World) (C : Nat → Prop) (v : Value), Cold w C v K → (∀ k, C k → k < w.heap.size) → (cmdsOf K).length ≤ 90000 → Short K → Calls Try.prog 16 #[v] w (CmdsM w K) := by
  induction N with
  | zero => intro K h; omega
  | succ N ih =>
    intro K hN w C v hc hC hlen hKs
    have hKl := hKs.1
    have HKL := Lib.hid hKs.2
    obtain ⟨ti, hi, hz0, hz1, hz2⟩ := info_parts info_nodes
    obtain ⟨va, vc, hv⟩ : ∃ va vc, v = .slice va K.length vc := by
      rcases hc with ⟨a, cap, e1, e2⟩ | ⟨g, o, cap, us, e1, _⟩
      · exact ⟨a, cap, by rw [e1, e2]; rfl⟩
      · exact ⟨_, _, e1⟩
    have HC := Lib.hid hc
    have HCB := Lib.hid hC
    have HL := Lib.hid hlen
    have HIH := Lib.hid ih
    have HN := Lib.hid hN
    subst hv
    clear hc hC hlen ih hN hKs
    go_enter Try.func16, Try.ntmps16
    go_wp2
    go_loopw [3, 4] (fun out i wr => ∃ (k : Nat), k ≤ K.length ∧ i = .int .i64 k ∧ (∃ oa on oc, out = .slice oa on oc) ∧ Hid (Kept nob w wr ∧ Cm w.heap.size wr out (cmdsOf (K.take k)))) (fun _ i _ => K.length - (intOf i).toNat)
    case atStart => exact ⟨0, Nat.zero_le _, rfl, ⟨none, 0, 0, rfl⟩, Lib.hid ⟨Kept.refl _ _, Cm.nil _ _⟩⟩
    case round =>
      obtain ⟨k, hk, rfl, ⟨oa, on, oc, rfl⟩, HR⟩ := hrel
      by_cases hlt : k < K.length
      · obtain ⟨p, hp⟩ : ∃ p, K[k]? = some p := ⟨_, List.getElem?_eq_getElem hlt⟩
        obtain ⟨kk, tx, op, K', cm⟩ := p
        have hcw := HC.out
        obtain ⟨g, o, ka, kc, ca, cc, pc⟩ := pcell_at hcw HCB.out hp
        have hva := pc.va
        have HSZ := Lib.hid (sz_kids hp)
        have htk := cmdsOf_take hp
        have hle := cmdsOf_take_le K (k + 1)
        have HLK2 : Hid (Short K') := Lib.hid (short_kids HKL.out hp)
        have PC := Lib.hid pc
        subst hva
        have hki : (k : Int) < (K.length : Int) := by omega
        have d0 := (PC.out.cell wr HR.out.1).1
        have d3 := (PC.out.cell wr HR.out.1).2.1
        have d4 := (PC.out.cell wr HR.out.1).2.2
        have HKR := Lib.hid HR.out.1
        have HMR := Lib.hid HR.out.2
        clear hcw pc hp
        by_cases h6 : kk = 6
        · have k6 : (kk == 6) = true := by simpa using h6
          obtain ⟨l, hl⟩ : ∃ l, (cmdsOf (K.take k)).length = l := ⟨_, rfl⟩
          have hpc : cmdsOf (K.take (k + 1)) = (cmdsOf (K.take k) ++ [cm]) ++ cmdsOf K' := by rw [htk, h6]; simp [Prt.cmds]
          have HLK : Hid (l + 1 + (cmdsOf K').length ≤ (cmdsOf K).length) := Lib.hid (by rw [hpc] at hle; simp at hle; omega)
          have HTK := Lib.hid hpc
          obtain ⟨xs0, hx1, hx2, hx3⟩ := HMR.out
          rw [hl] at hx1
          obtain ⟨_, _, ho⟩ := own_slice hx1
          obtain ⟨rfl, rfl, rfl⟩ : on = l ∧ _ = oa ∧ _ = oc := by simp at ho; exact ⟨ho.2.1, ho.1.symm, ho.2.2.symm⟩
          have H0 := Lib.hid hx1
          have HX3 := Lib.hid hx3
          have HLL := Lib.hid hl
          have own0 := Lib.hid (own_kept (Kept.alloc wr (.cells #[.slice ca cm cc] 29) nob) hx1 (fun _ _ h => h))
          have T3 : Hid (on + 1 ≤ maxLen) := Lib.hid (by unfold maxLen; have := HL.out; have := HLK.out; omega)
          have T4 : Hid ((on + 1) * 24 ≤ 140737488355328) := Lib.hid (by have := HL.out; have := HLK.out; omega)
          have T5 : Hid (w.heap.size ≤ (wr.alloc (.cells #[.slice ca cm cc] 29)).heap.size) := Lib.hid (by have := HKR.out.size; simp; omega)
          have hnews : Hid (∀ i u, ([Value.slice ca cm cc])[i]? = some u → (wr.alloc (.cells #[.slice ca cm cc] 29)).cell? ((⟨wr.heap.size, 0, none⟩ : Addr).add i) = some u) := Lib.hid (World.news_of_block (cs := #[.slice ca cm cc]) (alloc_blk wr _))
          clear hx1 hx2 hx3 hl hpc htk hle h6 ho
          go_wp2_with (at_builtin; refine wpList_append_lies _ rfl _ _ 36 rfl w.heap.size 29 ti (.slice none 0 0) 1 24 Try.underlying36 hi hz0 hz1 hz2 rfl (by decide) _ _ _ rfl own0.out ⟨wr.heap.size, 0, none⟩ 1 1 [.slice ca cm cc] rfl rfl hnews.out (by simp [Value.oneCell']) (by omega) T3.out T4.out T5.out _ rfl ?_)
          intro g1 cap1 w2 own1 gr1 ls1 lt1
          have HK2 := Lib.hid (kept_app HKR.out H0.out gr1)
          have HO2 : Hid (Cm w.heap.size w2 (.slice (some ⟨g1, 0, none⟩) (on + 1) cap1) (cmdsOf (K.take k) ++ [cm])) := Lib.hid (by
            have := Cm.app (B := w.heap.size) (w := w2) (g := g1) (cap := cap1) (L := cmdsOf (K.take k)) (L' := [cm]) HX3.out (by rw [HLL.out]; exact own1) rfl (by simp)
            rw [HLL.out] at this
            exact this)
          have HLEN : Hid ((cmdsOf (K.take k) ++ [cm]).length = on + 1) := Lib.hid (by rw [List.length_append, HLL.out]; rfl)
          have f0 := (PC.out.cell w2 HK2.out).1
          have f3 := (PC.out.cell w2 HK2.out).2.1
          clear own1 gr1 ls1 lt1 d0 d3 d4
          have hcK : Cold w2 C (.slice ka K'.length kc) K' := PC.out.cold.kept HK2.out (fun j hj => ⟨fun h => h, HCB.out j hj⟩)
          go_wp2_with fail
          refine (HIH.out K' (by have := HSZ.out; have := HN.out; omega) w2 C _ hcK (fun j hj => Nat.lt_of_lt_of_le (HCB.out j hj) HK2.out.size) (by have := HL.out; have := HLK.out; omega) HLK2.out).mono ?_
          rintro e w3 ⟨v3, rfl, hk3, hm3⟩
          have HK3 := Lib.hid (HK2.out.trans hk3 (fun _ _ h => h))
          have HO3 := Lib.hid (HO2.out.kept hk3)
          have HM3 := Lib.hid hm3
          clear hk3 hm3 hcK
          by_cases hz : cmdsOf K' = []
          · have ez : v3 = .slice none 0 0 := by
              obtain ⟨xs, h1, h2, h3⟩ := HM3.out
              exact h2 hz
            subst ez
            obtain ⟨xs, h1, h2, h3⟩ := HO3.out
            rw [HLEN.out] at h1
            have H1 := Lib.hid h1
            have HFIN : Hid (Cm w.heap.size w3 (.slice (some ⟨g1, 0, none⟩) (on + 1) cap1) (cmdsOf (K.take (k + 1)))) := Lib.hid (by rw [HTK.out, hz, List.append_nil]; exact HO3.out)
            clear h1 h2 h3 hz
            go_wp2_with (at_builtin; refine wpList_append_own_none rfl _ _ 36 rfl w.heap.size 29 ti 1 Try.underlying36 hi _ _ _ rfl H1.out rfl ?_)
            go_wp2
            go_roundw
            case rel => exact ⟨k + 1, by omega, by go_num, ⟨_, _, _, rfl⟩, Lib.hid ⟨HK3.out, HFIN.out⟩⟩
            case measure => simp [intOf]; omega
          · obtain ⟨m, hm⟩ : ∃ m, (cmdsOf K').length = m := ⟨_, rfl⟩
            have hmp : 0 < m := by
              have := List.length_pos_iff.2 hz
              omega
            obtain ⟨g3, c3, ns, e3, hns, hnm, hnl⟩ : ∃ (g3 c3 : Nat) (ns : List Value), v3 = .slice (some ⟨g3, 0, none⟩) m c3 ∧ (∀ j u, ns[j]? = some u → w3.cell? ((⟨g3, 0, none⟩ : Addr).add j) = some u) ∧ ns.map slen = (cmdsOf K').map some ∧ ns.length = m := by
              obtain ⟨xs, h1, h2, h3⟩ := HM3.out
              rw [hm] at h1
              obtain ⟨g3, c3, e3, _, _⟩ := h1.form hmp
              refine ⟨g3, c3, xs, e3, fun j u hj => ?_, h3, by have := h1.1; omega⟩
              have hlt : j < xs.length := (List.getElem?_eq_some_iff.1 hj).1
              rw [e3] at h1
              have : (⟨g3, 0, none⟩ : Addr).add j = ⟨g3, j, none⟩ := by unfold Addr.add; split <;> simp_all
              rw [this, own_cell h1 (by have := h1.1; omega), hj]
            subst e3
            obtain ⟨xs, h1, h2, h3⟩ := HO3.out
            rw [HLEN.out] at h1
            have H1 := Lib.hid h1
            have H3 := Lib.hid h3
            have HNS := Lib.hid hns
            have HNM := Lib.hid hnm
            have HNL := Lib.hid hnl
            have HMM := Lib.hid hm
            have HZ := Lib.hid hz
            have HONE : Hid (∀ u ∈ ns, u.oneCell' = true) := Lib.hid (fun u hu => by
              have : slen u ∈ ns.map slen := List.mem_map_of_mem hu
              rw [hnm] at this
              obtain ⟨x, _, hx⟩ := List.mem_map.1 this
              cases u <;> simp [slen] at hx <;> rfl)
            have T3 : Hid ((on + 1) + m ≤ maxLen) := Lib.hid (by unfold maxLen; have := HL.out; have := HLK.out; omega)
            have T4 : Hid (((on + 1) + m) * 24 ≤ 140737488355328) := Lib.hid (by have := HL.out; have := HLK.out; omega)
            have T5 : Hid (w.heap.size ≤ w3.heap.size) := Lib.hid HK3.out.size
            clear h1 h2 h3 hns hnm hm hz hnl
            go_wp2_with (at_builtin; refine wpList_append_lies _ rfl _ _ 36 rfl w.heap.size 29 ti (.slice none 0 0) 1 24 Try.underlying36 hi hz0 hz1 hz2 rfl (by decide) _ _ _ rfl H1.out ⟨g3, 0, none⟩ m c3 ns rfl (by rw [HNL.out, Nat.mul_one]) HNS.out HONE.out hmp T3.out T4.out T5.out _ rfl ?_)
            intro g4 cap4 w4 own4 gr4 ls4 lt4
            have HK4 := Lib.hid (kept_app0 HK3.out H1.out gr4)
            have HFIN : Hid (Cm w.heap.size w4 (.slice (some ⟨g4, 0, none⟩) ((on + 1) + m) cap4) (cmdsOf (K.take (k + 1)))) := Lib.hid (by
              rw [HTK.out]
              have := Cm.app (B := w.heap.size) (w := w4) (g := g4) (cap := cap4) (L := cmdsOf (K.take k) ++ [cm]) (L' := cmdsOf K') H3.out (by rw [HMM.out, HLEN.out]; exact own4) HNM.out HZ.out
              rw [HMM.out, HLEN.out] at this
              exact this)
            clear own4 gr4 ls4 lt4
            go_wp2
            go_roundw
            case rel => exact ⟨k + 1, by omega, by go_num, ⟨_, _, _, rfl⟩, Lib.hid ⟨HK4.out, HFIN.out⟩⟩
            case measure => simp [intOf]; omega
        · have k6 : (kk == 6) = false := by simpa using h6
          obtain ⟨l, hl⟩ : ∃ l, (cmdsOf (K.take k)).length = l := ⟨_, rfl⟩
          have hpc : cmdsOf (K.take (k + 1)) = cmdsOf (K.take k) ++ cmdsOf K' := by rw [htk]; simp [Prt.cmds, h6]
          have HLK : Hid (l + (cmdsOf K').length ≤ (cmdsOf K).length) := Lib.hid (by rw [hpc] at hle; simp at hle; omega)
          have HTK := Lib.hid hpc
          obtain ⟨oa', oc', ho⟩ := HMR.out.shape
          rw [hl] at ho
          obtain ⟨rfl, rfl, rfl⟩ : on = l ∧ oa = oa' ∧ oc = oc' := by simp at ho; exact ⟨ho.2.1, ho.1, ho.2.2⟩
          have HLEN : Hid ((cmdsOf (K.take k)).length = on) := Lib.hid hl
          clear hl hpc htk hle h6 ho
          have hcK : Cold wr C (.slice ka K'.length kc) K' := PC.out.cold.kept HKR.out (fun j hj => ⟨fun h => h, HCB.out j hj⟩)
          go_wp2_with fail
          refine (HIH.out K' (by have := HSZ.out; have := HN.out; omega) wr C _ hcK (fun j hj => Nat.lt_of_lt_of_le (HCB.out j hj) HKR.out.size) (by have := HL.out; have := HLK.out; omega) HLK2.out).mono ?_
          rintro e w3 ⟨v3, rfl, hk3, hm3⟩
          have HK3 := Lib.hid (HKR.out.trans hk3 (fun _ _ h => h))
          have HO3 := Lib.hid (HMR.out.kept hk3)
          have HM3 := Lib.hid hm3
          clear hk3 hm3 hcK
          by_cases hz : cmdsOf K' = []
          · have ez : v3 = .slice none 0 0 := by
              obtain ⟨xs, h1, h2, h3⟩ := HM3.out
              exact h2 hz
            subst ez
            obtain ⟨xs, h1, h2, h3⟩ := HO3.out
            rw [HLEN.out] at h1
            have H1 := Lib.hid h1
            have HFIN : Hid (Cm w.heap.size w3 (.slice oa on oc) (cmdsOf (K.take (k + 1)))) := Lib.hid (by rw [HTK.out, hz, List.append_nil]; exact HO3.out)
            clear h1 h2 h3 hz
            go_wp2_with (at_builtin; refine wpList_append_own_none rfl _ _ 36 rfl w.heap.size 29 ti 1 Try.underlying36 hi _ _ _ rfl H1.out rfl ?_)
            go_wp2
            go_roundw
            case rel => exact ⟨k + 1, by omega, by go_num, ⟨_, _, _, rfl⟩, Lib.hid ⟨HK3.out, HFIN.out⟩⟩
            case measure => simp [intOf]; omega
          · obtain ⟨m, hm⟩ : ∃ m, (cmdsOf K').length = m := ⟨_, rfl⟩
            have hmp : 0 < m := by
              have := List.length_pos_iff.2 hz
              omega
            obtain ⟨g3, c3, ns, e3, hns, hnm, hnl⟩ : ∃ (g3 c3 : Nat) (ns : List Value), v3 = .slice (some ⟨g3, 0, none⟩) m c3 ∧ (∀ j u, ns[j]? = some u → w3.cell? ((⟨g3, 0, none⟩ : Addr).add j) = some u) ∧ ns.map slen = (cmdsOf K').map some ∧ ns.length = m := by
              obtain ⟨xs, h1, h2, h3⟩ := HM3.out
              rw [hm] at h1
              obtain ⟨g3, c3, e3, _, _⟩ := h1.form hmp
              refine ⟨g3, c3, xs, e3, fun j u hj => ?_, h3, by have := h1.1; omega⟩
              have hlt : j < xs.length := (List.getElem?_eq_some_iff.1 hj).1
              rw [e3] at h1
              have : (⟨g3, 0, none⟩ : Addr).add j = ⟨g3, j, none⟩ := by unfold Addr.add; split <;> simp_all
              rw [this, own_cell h1 (by have := h1.1; omega), hj]
            subst e3
            obtain ⟨xs, h1, h2, h3⟩ := HO3.out
            rw [HLEN.out] at h1
            have H1 := Lib.hid h1
            have H3 := Lib.hid h3
            have HNS := Lib.hid hns
            have HNM := Lib.hid hnm
            have HNL := Lib.hid hnl
            have HMM := Lib.hid hm
            have HZ := Lib.hid hz
            have HONE : Hid (∀ u ∈ ns, u.oneCell' = true) := Lib.hid (fun u hu => by
              have : slen u ∈ ns.map slen := List.mem_map_of_mem hu
              rw [hnm] at this
              obtain ⟨x, _, hx⟩ := List.mem_map.1 this
              cases u <;> simp [slen] at hx <;> rfl)
            have T3 : Hid (on + m ≤ maxLen) := Lib.hid (by unfold maxLen; have := HL.out; have := HLK.out; omega)
            have T4 : Hid ((on + m) * 24 ≤ 140737488355328) := Lib.hid (by have := HL.out; have := HLK.out; omega)
            have T5 : Hid (w.heap.size ≤ w3.heap.size) := Lib.hid HK3.out.size
            clear h1 h2 h3 hns hnm hm hz hnl
            go_wp2_with (at_builtin; refine wpList_append_lies _ rfl _ _ 36 rfl w.heap.size 29 ti (.slice none 0 0) 1 24 Try.underlying36 hi hz0 hz1 hz2 rfl (by decide) _ _ _ rfl H1.out ⟨g3, 0, none⟩ m c3 ns rfl (by rw [HNL.out, Nat.mul_one]) HNS.out HONE.out hmp T3.out T4.out T5.out _ rfl ?_)
            intro g4 cap4 w4 own4 gr4 ls4 lt4
            have HK4 := Lib.hid (kept_app0 HK3.out H1.out gr4)
            have HFIN : Hid (Cm w.heap.size w4 (.slice (some ⟨g4, 0, none⟩) (on + m) cap4) (cmdsOf (K.take (k + 1)))) := Lib.hid (by
              rw [HTK.out]
              have := Cm.app (B := w.heap.size) (w := w4) (g := g4) (cap := cap4) (L := cmdsOf (K.take k)) (L' := cmdsOf K') H3.out (by rw [HMM.out, HLEN.out]; exact own4) HNM.out HZ.out
              rw [HMM.out, HLEN.out] at this
              exact this)
            clear own4 gr4 ls4 lt4
            go_wp2
            go_roundw
            case rel => exact ⟨k + 1, by omega, by go_num, ⟨_, _, _, rfl⟩, Lib.hid ⟨HK4.out, HFIN.out⟩⟩
            case measure => simp [intOf]; omega
      · have HE : Hid (K.take k = K) := Lib.hid (List.take_of_length_le (by omega))
        go_wp2
        go_ret
        exact ⟨_, rfl, HR.out.1, by have := HR.out.2; rw [HE.out] at this; exact this⟩
end Go.Proofs.Ytbmapjgajecgfaa
set_option linter.unusedVariables false
set_option linter.unusedSimpArgs false
namespace Go.Proofs.Ytbmapjgajecgfaa
open Go.RowKit
def St.sh (s : St) : Prop := ∀ l ∈ s.all, shortAll l.ps
theorem short_one {p : Prt} (h : p.short) : shortAll [p] := by simp only [shortAll]; exact ⟨h, trivial⟩
theorem short_bare (k : Int) (tx op : ByteArray) (cm : Nat) : (Prt.mk k tx op [] cm).short := by simp only [Prt.short, shortAll]; exact ⟨by simp, trivial⟩
theorem flush_sh {l : Lvl} (h : shortAll l.ps) : shortAll l.flush.ps := by
  unfold Lvl.flush
  split
  · exact h
  · exact short_app h (short_one (short_bare _ _ _ _))
theorem sh_tp {s t : St} (h : s.sh) (h1 : t.lo = s.lo) (h2 : shortAll t.tp.ps) : t.sh := by
  intro l hl
  have : l ∈ t.lo ∨ l = t.tp := by simpa [St.all] using hl
  rcases this with h3 | rfl
  · exact h l (by rw [h1] at h3; simp [St.all, h3])
  · exact h2
theorem sh_same {s t : St} (h : s.sh) (h1 : t.lo = s.lo) (h2 : t.tp.ps = s.tp.ps) : t.sh := sh_tp h h1 (by rw [h2]; exact h s.tp (by simp [St.all]))
theorem add_sh {s : St} (h : s.sh) {p : Prt} (hp : p.short) : (s.add p).sh :=
  sh_tp h rfl (short_app (flush_sh (h s.tp (by simp [St.all]))) (short_one hp))
theorem push_sh {s : St} (h : s.sh) (wh : Int) (nm op : ByteArray) : (s.push wh nm op).sh := by
  intro l hl
  have : l ∈ (s.lo ++ [s.tp]) ++ [(⟨wh, [], [], nm, op⟩ : Lvl)] := hl
  rcases List.mem_append.1 this with h3 | h3
  · exact h l h3
  · obtain rfl : l = _ := by simpa using h3
    trivial
theorem part_sh {l : Lvl} (h : shortAll l.ps) (hl : l.ps.length ≤ 100000) : l.part.short := by
  unfold Lvl.part
  split
  · simp only [Prt.short]; exact ⟨hl, h⟩
  · simp only [Prt.short]; exact ⟨hl, h⟩
theorem pop_sh {s : St} (h : s.sh) (hg : s.good 70000) (hne : s.lo ≠ []) : s.pop.sh := by
  have hd : s.lo.dropLast ++ [s.lo.getLastD s.tp] = s.lo := by
    rw [List.getLastD_eq_getLast?, List.getLast?_eq_some_getLast hne]
    exact List.dropLast_concat_getLast hne
  have h0 : ({s with lo := s.lo.dropLast, tp := s.lo.getLastD s.tp} : St).sh := by
    intro l hl
    have : l ∈ s.lo := by
      have : l ∈ s.lo.dropLast ++ [s.lo.getLastD s.tp] := hl
      rwa [hd] at this
    exact h l (by simp [St.all, this])
  have hf : s.tp.flush.ps.length ≤ 100000 := by
    have := hg.lim.2.2.2.2.1 s.tp (by simp [St.all])
    unfold Lvl.flush
    split
    · omega
    · simp; omega
  exact add_sh h0 (part_sh (flush_sh (h s.tp (by simp [St.all]))) hf)
theorem text_sh {s : St} (h : s.sh) (hg : s.good 70000) (c : UInt8) : (stText s c).2.sh := by
  unfold stText
  split
  · exact sh_same h rfl rfl
  split
  · exact sh_tp h rfl (flush_sh (h s.tp (by simp [St.all])))
  split
  · rename_i hx
    exact pop_sh h hg (wf_ne hg.wf (by rcases hx with h | h <;> simp [h.1]))
  split
  · exact sh_same h rfl rfl
  split
  · exact sh_same h rfl rfl
  split
  · exact push_sh (s := {s with qu := true}) h _ _ _
  split
  · exact sh_same h rfl rfl
  · exact sh_same h rfl rfl
theorem turn_add_sh {s : St} (h : s.sh) (k : Int) (tx op : ByteArray) (cm : Nat) : ((s.add (.mk k tx op [] cm)).turn 0).sh := sh_same (add_sh h (short_bare k tx op cm)) rfl rfl
theorem behind_sh {s : St} (h : s.sh) (c : UInt8) : (stBehind s c).2.sh := by
  unfold stBehind
  split
  · exact turn_add_sh h _ _ _ _
  split
  · exact sh_same h rfl rfl
  split
  · exact sh_same h rfl rfl
  split
  · exact sh_same h rfl rfl
  split
  · exact push_sh h _ _ _
  · exact sh_same h rfl rfl
theorem parameter_sh {s : St} (h : s.sh) (c : UInt8) : (stParameter s c).2.sh := by
  unfold stParameter
  simp only
  split
  · exact sh_same h rfl rfl
  split
  · exact sh_same h rfl rfl
  split
  · exact sh_same h rfl rfl
  · exact sh_same h rfl rfl
theorem name_sh {s : St} (h : s.sh) (c : UInt8) : (stName s c).2.sh := by
  unfold stName
  split
  · exact sh_same h rfl rfl
  · exact behind_sh (s := s.turn 9) h c
theorem next_sh {s : St} (h : s.sh) (hg : s.good 60000) (c : UInt8) : (stNext s c).2.sh := by
  have hg' := hg.mono (show 60000 ≤ 70000 by omega)
  unfold stNext
  split
  · exact text_sh h hg' c
  · unfold stEscaped
    split
    · exact sh_same h rfl rfl
    split
    · exact sh_same h rfl rfl
    · exact turn_add_sh (s := {s with tk := s.tk ++ [c]}) h _ _ _ _
  · unfold stDollar
    split
    · exact sh_same h rfl rfl
    split
    · exact sh_same h rfl rfl
    split
    · exact sh_same h rfl rfl
    split
    · exact turn_add_sh (s := {s with ex := true}) h _ _ _ _
    · exact text_sh (s := (s.lit [36]).turn 0) (sh_same h rfl rfl) (good_turn ((good_lit hg [36] (by simp)).mono (by omega)) 0 (by omega)) c
  · unfold stOpened
    split
    · exact sh_same h rfl rfl
    · exact sh_same h rfl rfl
  · unfold stBare
    split
    · exact sh_same h rfl rfl
    · exact text_sh (s := (s.add _).turn 0) (turn_add_sh h _ _ _ _) (good_turn ((good_add hg _).mono (by omega)) 0 (by omega)) c
  · unfold stHead
    split
    · exact sh_same h rfl rfl
    · exact parameter_sh (s := {s with ln := false}) h c
  · unfold stHash
    split
    · exact turn_add_sh h _ _ _ _
    · exact parameter_sh h c
  · exact name_sh h c
  · exact name_sh h c
  · exact behind_sh h c
  · unfold stColon
    split
    · exact push_sh h _ _ _
    · exact sh_same h rfl rfl
  · unfold stDouble
    split
    · exact push_sh h _ _ _
    · exact text_sh (push_sh h _ _ _) ((good_push hg (.inr rfl) _ _).mono (by omega)) c
  · unfold stSingle
    split
    · exact sh_same h rfl rfl
    split
    · exact turn_add_sh h _ _ _ _
    · exact sh_same h rfl rfl
  · unfold stArith
    split
    · exact sh_same h rfl rfl
    split
    · exact sh_same h rfl rfl
    · exact sh_same h rfl rfl
  · unfold stArithEnd
    split
    · exact turn_add_sh h _ _ _ _
    · exact sh_same h rfl rfl
  · exact h
  · exact h
theorem feed_sh {s : St} (h : s.sh) (hg : s.good 60000) (c : UInt8) : (stFeed s c).2.sh := by
  unfold stFeed
  split
  · exact sh_same (next_sh h hg c) rfl rfl
  · exact next_sh h hg c
theorem init_sh : St.init.sh := by
  intro l hl
  obtain rfl : l = _ := by simpa [St.all, St.init] using hl
  trivial
theorem bot_mem (s : St) : s.bot ∈ s.all := by
  unfold St.bot St.all
  rcases s.lo with _ | ⟨x, t⟩ <;> simp
theorem bot_short {s : St} (h : s.sh) (hg : s.good 70000) : Short s.bot.ps := ⟨by have := hg.lim.2.2.2.2.1 s.bot (bot_mem s); omega, h _ (bot_mem s)⟩
end Go.Proofs.Ytbmapjgajecgfaa
set_option linter.unusedVariables false
set_option linter.unusedSimpArgs false
namespace Go.Proofs.Ytbmapjgajecgfaa
open Go.RowKit
theorem own_base {w : World} {B B' : Nat} {e : TypeId} {size : Nat} {v : Value} {n : Nat} {xs : List Value} (h : w.ownsRow B e size v n xs) (hb : B' ≤ B) : w.ownsRow B' e size v n xs := by
  refine ⟨h.1, ?_⟩
  rcases h.2 with h | ⟨g, cap, cur, h1, h2, h3⟩
  · exact .inl h
  · exact .inr ⟨g, cap, cur, h1, by omega, h3⟩
theorem Comp.base {B B' : Nat} {w : World} {C : Nat → Prop} {d : Dat} (h : Comp B w C d) (hb : B' ≤ B) : Comp B' w C d := by
  cases d with
  | nothing => trivial
  | head b t cs => exact h
  | row e size v n xs => exact own_base h hb
  | prow e v L =>
    obtain ⟨vs, h1, h2⟩ := h
    exact ⟨vs, own_base h1 hb, h2⟩
theorem Fam.base {τ : Type} {B B' : Nat} {w : World} {C : Nat → Prop} {D : τ → Dat} (h : Fam B w C D) (hb : B' ≤ B) : Fam B' w C D :=
  ⟨fun t => (h.comp t).base hb, h.inj, fun k hk => by have := h.bnd k hk; omega, h.cold⟩
def Two (W w : World) (b1 : Nat) (s1 : St) (b2 : Nat) (s2 : St) : Prop :=
  ∃ (C1 : Nat → Prop) (S1 : Sn) (C2 : Nat → Prop) (S2 : Sn), Fam W.heap.size w C1 (S1.dat b1) ∧ Fam W.heap.size w C2 (S2.dat b2) ∧ (∀ k, Foot C1 (S1.dat b1) k → ¬ Foot C2 (S2.dat b2) k) ∧ S1.abs = s1 ∧ S2.abs = s2 ∧ Kept nob W w
theorem Two.symm {W w : World} {b1 b2 : Nat} {s1 s2 : St} (h : Two W w b1 s1 b2 s2) : Two W w b2 s2 b1 s1 := by
  obtain ⟨C1, S1, C2, S2, h1, h2, h3, h4, h5, h6⟩ := h
  exact ⟨C2, S2, C1, S1, h2, h1, fun k hk hk' => h3 k hk' hk, h5, h4, h6⟩
theorem Two.kept {W w : World} {b1 b2 : Nat} {s1 s2 : St} (h : Two W w b1 s1 b2 s2) : Kept nob W w := by
  obtain ⟨C1, S1, C2, S2, h1, h2, h3, h4, h5, h6⟩ := h
  exact h6
theorem Two.fst {W w : World} {b1 b2 : Nat} {s1 s2 : St} (h : Two W w b1 s1 b2 s2) : Mac W w b1 s1 := by
  obtain ⟨C1, S1, C2, S2, h1, h2, h3, h4, h5, h6⟩ := h
  exact ⟨C1, S1, h1, h4, h6⟩
theorem Two.snd {W w : World} {b1 b2 : Nat} {s1 s2 : St} (h : Two W w b1 s1 b2 s2) : Mac W w b2 s2 := h.symm.fst
theorem Two.frame {W w w' : World} {b1 b2 : Nat} {s1 s2 : St} (h : Two W w b1 s1 b2 s2) (hk : Kept nob w w') : Two W w' b1 s1 b2 s2 := by
  obtain ⟨C1, S1, C2, S2, h1, h2, h3, h4, h5, h6⟩ := h
  exact ⟨C1, S1, C2, S2, h1.frame hk (fun _ _ h => h), h2.frame hk (fun _ _ h => h), h3, h4, h5, h6.trans hk (fun _ _ h => h)⟩
/-- A second machine is made. -/
theorem Two.mk' {W w w' : World} {b1 b2 : Nat} {s1 s2 : St} (h : Mac W w b1 s1) (h2 : Mac w w' b2 s2) : Two W w' b1 s1 b2 s2 := by
  obtain ⟨C1, S1, a1, a2, a3⟩ := h
  obtain ⟨C2, S2, c1, c2, c3⟩ := h2
  refine ⟨C1, S1, C2, S2, a1.frame c3 (fun _ _ h => h), c1.base a3.size, fun k hk hk' => ?_, a2, c2, a3.trans c3 (fun _ _ h => h)⟩
  have := (a1.bnd k hk).2
  have := (c1.bnd k hk').1
  omega
def FeedT (W : World) (b1 : Nat) (r : Int × St) (b2 : Nat) (s2 : St) (e : Ending) (w' : World) : Prop := e = .returned (.int .i64 r.1) ∧ Two W w' b1 r.2 b2 s2
theorem two_feed {W w : World} {b1 b2 : Nat} {s1 s2 : St} (h : Two W w b1 s1 b2 s2) (hg : s1.good 70000) (c : UInt8) : Calls Try.prog 12 #[.pointer (some ⟨b1, 0, none⟩), .int .u8 (c.toNat : Int)] w (FeedT W b1 (stFeed s1 c) b2 s2) := by
  obtain ⟨C1, S1, C2, S2, h1, h2, h3, rfl, h5, h6⟩ := h
  refine (feed_ok c h1 hg).mono ?_
  rintro e w' ⟨C', S', rfl, hs, ha⟩
  refine ⟨rfl, C', S', C2, S2, hs.1, h2.frame hs.2.1 (fun k hk ⟨t, ht⟩ => h3 k (.inr ⟨t, ht⟩) hk), fun k hk hk' => ?_, ha, h5, h6.trans hs.2.1 (fun i hi ⟨t, ht⟩ => by have := (h1.bnd i (.inr ⟨t, ht⟩)).1; omega)⟩
  rcases hs.foot k hk with h | h
  · exact h3 k h hk'
  · have := (h2.bnd k hk').2; omega
def FeedT2 (W : World) (b1 : Nat) (s1 : St) (b2 : Nat) (r : Int × St) (e : Ending) (w' : World) : Prop := e = .returned (.int .i64 r.1) ∧ Two W w' b1 s1 b2 r.2
theorem two_feed2 {W w : World} {b1 b2 : Nat} {s1 s2 : St} (h : Two W w b1 s1 b2 s2) (hg : s2.good 70000) (c : UInt8) : Calls Try.prog 12 #[.pointer (some ⟨b2, 0, none⟩), .int .u8 (c.toNat : Int)] w (FeedT2 W b1 s1 b2 (stFeed s2 c)) := by
  refine (two_feed h.symm hg c).mono ?_
  rintro e w' ⟨rfl, h⟩
  exact ⟨rfl, h.symm⟩
theorem mac_restK {W w : World} {b : Nat} {s : St} (h : Mac W w b s) (hg : s.good 70000) : Calls Try.prog 11 #[.pointer (some ⟨b, 0, none⟩)] w (GotS w (stRest s)) := by
  obtain ⟨C, S, h1, rfl, h3⟩ := h
  exact rest_any h1 hg
theorem mac_raw {W w : World} {b : Nat} {s : St} (h : Mac W w b s) : Calls Try.prog 10 #[.pointer (some ⟨b, 0, none⟩)] w fun e w' => e = .returned (.bool (stRaw s)) ∧ w = w' := by
  obtain ⟨C, S, h1, rfl, h3⟩ := h
  exact raw_any h1
theorem mac_deep {W w : World} {b : Nat} {s : St} (h : Mac W w b s) : Calls Try.prog 14 #[.pointer (some ⟨b, 0, none⟩)] w fun e w' => e = .returned (.int .i64 (s.lo.length : Int)) ∧ w = w' := by
  obtain ⟨C, S, h1, rfl, h3⟩ := h
  exact deep_any h1
def CloseM (W : World) (b : Nat) (r : Bool × St) (e : Ending) (w' : World) : Prop := e = .returned (.bool r.1) ∧ Mac W w' b r.2
theorem mac_close {W w : World} {b : Nat} {s : St} (h : Mac W w b s) (hg : s.good 70000) (ca : Option Addr) (cm cc : Nat) : Calls Try.prog 13 #[.pointer (some ⟨b, 0, none⟩), .slice ca cm cc] w (CloseM W b (stClose s cm)) := by
  obtain ⟨C, S, h1, rfl, h3⟩ := h
  refine (close_any h1 (ok_of hg.lim (by omega)) ca cm cc).mono ?_
  rintro e w' ⟨C', S', rfl, h4, h5⟩
  exact ⟨rfl, by rw [← h5]; exact Mac.step h1 h3 h4⟩
def WordK (w0 : World) (L : List Prt) (e : Ending) (w' : World) : Prop := ∃ v, e = .returned (.tuple #[.agg #[v], .bool true]) ∧ Kept nob w0 w' ∧ Wd w' v L
theorem mac_wordK {W w : World} {b : Nat} {s : St} (h : Mac W w b s) (hk : s.kd = 16) : Calls Try.prog 15 #[.pointer (some ⟨b, 0, none⟩)] w (WordK w s.bot.ps) := by
  obtain ⟨C, S, h1, rfl, h3⟩ := h
  refine (word_ok h1 hk).mono ?_
  rintro e w' ⟨rfl, h4⟩
  have h1' := h1.frame h4 (fun _ _ h => h)
  refine ⟨_, rfl, h4, fun k => C k ∨ (S.dat b (.ps 0)).blk = some k, ?_, fun k hk => ?_⟩
  · rw [← bot_abs]
    obtain ⟨r, hr⟩ := all_bot S
    have e : S.dat b (.ps 0) = .prow 49 S.bot.pv S.bot.ps := by
      show (match S.all[0]? with | some l => Dat.prow 49 l.pv l.ps | none => .nothing) = _
      rw [hr]; rfl
    have hc := h1'.comp (.ps 0)
    rw [e] at hc ⊢
    obtain ⟨vs, ho, hr⟩ := hc
    have hlen := hr.len
    rcases ho.2 with ⟨e1, e2⟩ | ⟨g, cap, cur, e1, _⟩
    · exact .inl ⟨none, 0, e1, List.eq_nil_of_length_eq_zero e2⟩
    · refine .inr ⟨g, 0, cap, vs, e1, .inr (by show S.bot.pv.ownBlock = _; rw [e1]; rfl), fun j hj => ?_, hr.mono (fun k hk => .inl hk)⟩
      rw [e1] at ho
      rw [Nat.zero_add, own_cell ho (by omega)]
  · rcases hk with hk | hk
    · exact (h1'.bnd k (.inl hk)).2
    · exact (h1'.bnd k (.inr ⟨_, hk⟩)).2
theorem Wd.kept {w w' : World} {v : Value} {L : List Prt} (h : Wd w v L) (hk : Kept nob w w') : Wd w' v L := by
  obtain ⟨C, h1, h2⟩ := h
  exact ⟨C, h1.kept hk (fun k hk' => ⟨fun h => h, h2 k hk'⟩), fun k hk' => Nat.lt_of_lt_of_le (h2 k hk') hk.size⟩
theorem mac_wordN {W w : World} {b : Nat} {s : St} (h : Mac W w b s) (hk : s.kd ≠ 16) : Calls Try.prog 15 #[.pointer (some ⟨b, 0, none⟩)] w (WordNo w) := by
  obtain ⟨C, S, h1, rfl, h3⟩ := h
  exact word_no h1 hk
end Go.Proofs.Ytbmapjgajecgfaa
set_option linter.unusedVariables false
set_option linter.unusedSimpArgs false
namespace Go.Proofs.Ytbmapjgajecgfaa
open Go.RowKit
def zNode : Value := .agg #[.int .i64 0, .string ⟨#[]⟩, .bool false, .bool false, .slice none 0 0, .slice none 0 0, .slice none 0 0, .slice none 0 0, .slice none 0 0, .slice none 0 0]
theorem info_node : (Try.prog.info? 118).map (fun i => (i.zero, i.size, i.bytes)) = some (some zNode, 10, 176) := by kernel_rfl
theorem mk_nodes (n : Nat) (hn : n ≤ 4) : ∃ O, ∀ w : World, (Instr.makeSlice 29 (.int .i64 (n : Int)) (.int .i64 (n : Int))).run Try.prog w = .ok (.slice (some ⟨w.heap.size, 0, none⟩) n n) (w.alloc O) := by
  obtain ⟨i, hi, hz, hs, hby⟩ := info_parts info_node
  refine ⟨.cells (madeCells zNode.cells ((n : Int).toNat * i.size)) 118, fun w => ?_⟩
  have hr := run_make (P := Try.prog) w 29 118 i zNode Try.underlying29 hi hz .i64 .i64 n n (by omega) (Int.le_refl _) (by rw [hby]; omega) (by omega)
  rw [hr]
  simp only [Int.toNat_natCast]
theorem run_at (l : List UInt8) : ∀ (s : St) (i : Nat), (run s l i).2.2 = 0 → (run s l i).2.1 = i + l.length := by
  induction l with
  | nil => intro s i _; rfl
  | cons c r ih =>
    intro s i h
    unfold run at h ⊢
    split at h
    · rename_i h0
      rw [if_pos h0]
      have := ih _ _ h
      rw [this]; simp; omega
    · rename_i h0
      exact absurd h h0
theorem run_cons (s : St) (c : UInt8) (r : List UInt8) (i : Nat) : run s (c :: r) i = if (stFeed s c).1 = 0 then run (stFeed s c).2 r (i + 1) else ((stFeed s c).2, i, (stFeed s c).1) := rfl
theorem run_goes {s t : St} {c : UInt8} (h : stFeed s c = (0, t)) (r : List UInt8) (i : Nat) : run s (c :: r) i = run t r (i + 1) := by rw [run_cons, h]; rfl
theorem run_app (a b : List UInt8) : ∀ (s : St) (i : Nat), (run s a i).2.2 = 0 → run s (a ++ b) i = run (run s a i).1 b (i + a.length) := by
  induction a with
  | nil => intro s i _; rfl
  | cons c r ih =>
    intro s i h
    rw [run_cons] at h
    rw [List.cons_append, run_cons s c (r ++ b), run_cons s c r]
    split at h
    · rename_i h0
      rw [if_pos h0, if_pos h0, ih _ _ h]
      simp only [List.length_cons]
      congr 1
      omega
    · rename_i h0
      exact absurd h h0
structure St.inv (n : Nat) (s : St) : Prop where
  good : s.good n
  fin : s.fin
  sh : s.sh
theorem init_inv : St.init.inv 0 := ⟨init_good, init_fin, init_sh⟩
theorem St.inv.mono {n m : Nat} {s : St} (h : s.inv n) (hm : n ≤ m) : s.inv m := ⟨h.good.mono hm, h.fin, h.sh⟩
theorem feed_inv {n : Nat} {s : St} (h : s.inv n) (hn : n ≤ 60000) (c : UInt8) : (stFeed s c).2.inv (n + 11) := ⟨feed_good h.good c, feed_fin h.good.wf h.fin c, feed_sh h.sh (h.good.mono hn) c⟩
theorem run_inv (l : List UInt8) : ∀ (s : St) (i n : Nat), s.inv n → n + 11 * l.length ≤ 60000 → (run s l i).1.inv (n + 11 * l.length) ∧ (run s l i).1.cms = s.cms := by
  induction l with
  | nil => intro s i n h _; exact ⟨h, rfl⟩
  | cons c r ih =>
    intro s i n h hn
    have hl : (c :: r).length = r.length + 1 := rfl
    rw [hl] at hn ⊢
    have h1 := feed_inv h (by omega) c
    have h2 := feed_cms h.good.wf c
    unfold run
    split
    · obtain ⟨h3, h4⟩ := ih _ (i + 1) _ h1 (by omega)
      exact ⟨h3.mono (by omega), h4.trans h2⟩
    · exact ⟨h1.mono (by omega), h2⟩
theorem rest_paren {s : St} (hk : s.kd ≤ 17) {r : List UInt8} (h : stRest s = 40 :: r) : s.kd = 3 := by
  have hend : ∀ (l : List Lvl) (x : UInt8) (t : List UInt8), l.map lvEnd = x :: t → x ≠ 40 := by
    intro l x t h e
    rcases l with _ | ⟨y, l⟩
    · cases h
    · simp only [List.map_cons, List.cons.injEq] at h
      rw [e] at h
      have := h.1
      unfold lvEnd at this
      split at this <;> simp at this
  unfold stRest at h
  split at h
  · cases h
  rename_i hx
  unfold stMissing at h
  obtain ⟨k, hk'⟩ : ∃ k, s.kd = k := ⟨_, rfl⟩
  rw [hk'] at h hk hx ⊢
  have key : k = 0 ∨ k = 1 ∨ k = 2 ∨ k = 3 ∨ k = 4 ∨ k = 5 ∨ k = 6 ∨ k = 7 ∨ k = 8 ∨ k = 9 ∨ k = 10 ∨ k = 11 ∨ k = 12 ∨ k = 13 ∨ k = 14 ∨ k = 15 := by omega
  rcases key with rfl | rfl | rfl | rfl | rfl | rfl | rfl | rfl | rfl | rfl | rfl | rfl | rfl | rfl | rfl | rfl
  all_goals first
    | rfl
    | (exact absurd rfl (hend _ _ _ h))
    | (simp at h; done)
    | skip
  rcases hd : s.dp.toNat with _ | m
  · rw [hd] at h; simp at h
  · rw [hd, List.replicate_succ] at h; simp at h
/-- The state behind commands; behind arithmetic. -/
def behCmd (s : St) (cm : Nat) : St := ((s.turn 15).add (.mk 6 ⟨#[]⟩ ⟨#[]⟩ [] cm)).turn 0
theorem rest_3 {s : St} (h : s.kd = 3) : stRest s = [40, 48, 41, 41] ++ stRest (s.turn 15) := by
  unfold stRest
  rw [if_neg (by omega), if_neg (by show ¬ (15 = 16 ∨ 15 = 17); omega)]
  unfold stMissing
  rw [h]
  rfl
theorem cmd_1 {s : St} (h : s.kd = 3) : stFeed s 97 = (2, s.turn 15) := by
  have : stNext s 97 = (2, s.turn 15) := by unfold stNext; rw [h]; rfl
  unfold stFeed
  rw [this]
  rfl
theorem cmd_2 (s : St) : stFeed (s.turn 15) 97 = (3, s.turn 15) := rfl
theorem cmd_3 (s : St) (cm : Nat) : stClose (s.turn 15) cm = (true, behCmd s cm) := rfl
theorem cmd_4 (s : St) (cm k : Nat) : stClose (behCmd s cm) k = (false, behCmd s cm) := rfl
theorem ari_run {s : St} (h : s.kd = 3) (i : Nat) : ∃ x, run s [40, 48, 41, 41] i = (x, i + 4, 0) ∧ ∀ cm, SimK (behCmd s cm) x := by
  obtain ⟨lo, tp, kd, tk, pl, ex, qu, bu, dp, ln, cu⟩ := s
  obtain rfl : kd = 3 := h
  have f1 : stFeed (⟨lo, tp, 3, tk, pl, ex, qu, bu, dp, ln, cu⟩ : St) 40 = (0, ⟨lo, tp, 13, tk, pl ++ [40], ex, qu, [], 0, ln, cu⟩) := rfl
  have f2 : stFeed (⟨lo, tp, 13, tk, pl ++ [40], ex, qu, [], 0, ln, cu⟩ : St) 48 = (0, ⟨lo, tp, 13, tk, pl ++ [40] ++ [48], ex, qu, [48], 0, ln, cu⟩) := rfl
  have f3 : stFeed (⟨lo, tp, 13, tk, pl ++ [40] ++ [48], ex, qu, [48], 0, ln, cu⟩ : St) 41 = (0, ⟨lo, tp, 14, tk, pl ++ [40] ++ [48] ++ [41], ex, qu, [48], 0, ln, cu⟩) := rfl
  have f4 : stFeed (⟨lo, tp, 14, tk, pl ++ [40] ++ [48] ++ [41], ex, qu, [48], 0, ln, cu⟩ : St) 41 = (0, ⟨lo, {tp.flush with ps := tp.flush.ps ++ [.mk 7 ⟨#[48]⟩ ⟨#[]⟩ [] 0]}, 0, tk, pl ++ [40] ++ [48] ++ [41] ++ [41], ex, qu, [48], 0, ln, cu⟩) := rfl
  refine ⟨⟨lo, {tp.flush with ps := tp.flush.ps ++ [.mk 7 ⟨#[48]⟩ ⟨#[]⟩ [] 0]}, 0, tk, pl ++ [40] ++ [48] ++ [41] ++ [41], ex, qu, [48], 0, ln, cu⟩, ?_, fun cm => ⟨rfl, ?_⟩⟩
  · rw [run_goes f1, run_goes f2, run_goes f3, run_goes f4]
    rfl
  have h0 : ∀ (a b : St), a.lo = lo → b.lo = lo → a.tp = tp → b.tp = tp → a.ln = ln → b.ln = ln → a.cu = cu → b.cu = cu → Sim False False a b := fun a b h1 h2 h3 h4 h5 h6 h7 h8 =>
    ⟨by rw [h1, h2], by rw [h3, h4], by rw [h5, h6], by rw [h7, h8], fun h => h.elim, fun h => h.elim⟩
  have ub : ¬ usesBu 0 := by unfold usesBu; omega
  have ud : ¬ usesDp 0 := by unfold usesDp; omega
  have h1 := (h0 (⟨lo, tp, 15, tk, pl, ex, qu, bu, dp, ln, cu⟩ : St) (⟨lo, tp, 14, tk, pl ++ [40] ++ [48] ++ [41], ex, qu, [48], 0, ln, cu⟩ : St) rfl rfl rfl rfl rfl rfl rfl rfl).add (.mk 6 ⟨#[]⟩ ⟨#[]⟩ [] cm) (.mk 7 ⟨#[48]⟩ ⟨#[]⟩ [] 0)
  exact ⟨h1.lo, h1.tp, h1.ln, h1.cu, fun h => (ub h).elim, fun h => (ud h).elim⟩
theorem behCmd_inv {n : Nat} {s : St} (h : s.inv n) (cm : Nat) : (behCmd s cm).inv (n + 2) :=
  ⟨good_turn (good_add (good_turn h.good 15 (by omega)) _) 0 (by omega), fin_of 0 rfl (by decide), turn_add_sh (s := s.turn 15) h.sh _ _ _ _⟩
theorem behCmd_cms (s : St) (cm : Nat) : (behCmd s cm).cms = s.cms ++ [cm] := by
  show ((s.turn 15).add _).cms = _
  rw [add_cms]
  simp [Prt.cmds, cmdsOf]
  rfl
end Go.Proofs.Ytbmapjgajecgfaa

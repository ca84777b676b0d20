/-
  What is proved: words for what live.only makes. Conditions: those of each theorem.
-/
import Derived.Test.YthddfkemagpiaaaL19
import Derived.Deep.RegionLaw
set_option linter.unusedVariables false
set_option linter.unusedSimpArgs false
namespace Go.Proofs.Ythddfkemagpiaaa
open Go.RowKit
abbrev zgram : Array Value := #[.slice none 0 0, .slice none 0 0, .slice none 0 0, .int .i64 0]
def S1 (bo bn : Nat) : Nat → Prop := fun k => k = bo ∨ k = bn
theorem irow_zero (n : Nat) : (irow n (plcN [])).toArray = Array.replicate n (Value.int .i64 0) := by
  have : irow n (plcN []) = List.replicate n (Value.int .i64 0) := by
    unfold irow plcN
    apply List.ext_getElem
    · simp
    · intro i h1 h2; simp
  rw [this]
  simp
theorem NowAt.congr {w : World} {bn n : Nat} {F G : Nat → Int} (h : NowAt w bn n F) (e : ∀ i, F i = G i) : NowAt w bn n G := by rw [show G = F from funext fun i => (e i).symm]; exact h
theorem OutAt.c {w : World} {bo : Nat} {tv nv rv : Value} {st : Int} (h : OutAt w bo tv nv rv st) : w.cell? ⟨bo, 0, none⟩ = some tv ∧ w.cell? ⟨bo, 1, none⟩ = some nv ∧ w.cell? ⟨bo, 2, none⟩ = some rv ∧ w.cell? ⟨bo, 3, none⟩ = some (.int .i64 st) := by
  refine ⟨?_, ?_, ?_, ?_⟩ <;> rw [cell_blk h] <;> rfl
theorem OutAt.fr {w : World} {bo : Nat} {tv nv rv : Value} {st : Int} (h : OutAt w bo tv nv rv st) (i : Nat) : w.frozen? ⟨bo, i, none⟩ = false := frz_blk h i
theorem OutAt.nob {w w' : World} {bo : Nat} {tv nv rv : Value} {st : Int} (h : OutAt w bo tv nv rv st) (hk : Kept nob w w') : OutAt w' bo tv nv rv st := hk.get h (fun h => h)
theorem OutAt.grown {w w' : World} {bo : Nat} {tv nv rv : Value} {st : Int} (h : OutAt w bo tv nv rv st) {row : Option Nat} (hg : w.grownBy w' row) (hne : row ≠ some bo) : OutAt w' bo tv nv rv st :=
  (hg.block bo (lt_blk h) (fun e => hne e.symm)).trans h
theorem own_not {w : World} {base : Nat} {t : TypeId} {s n : Nat} {v : Value} {vs : List Value} (h : w.ownsRow base t s v n vs) {q : Nat} (hq : q < base) : v.ownBlock ≠ some q := fun e => by
  have := own_ge h e
  omega
/-- A name more: what stays, and what is new. -/
structure Gn (Q bo bn : Nat) (w2 wF : World) (tv v' : Value) (T0 N1 : List ByteArray) : Prop where
  t : wF.ownsRow Q 9 1 tv T0.length (sv T0)
  n : wF.ownsRow Q 9 1 v' N1.length (sv N1)
  ne : ∀ q, tv.ownBlock = some q → v'.ownBlock = some q → False
  k : Kept (S1 bo bn) w2 wF
theorem gn_of {w2 wT wC w6 : World} {bo bn i g1 cap1 : Nat} {tv v : Value} {T0 N0 : List ByteArray} {nm : ByteArray} {o : Obj} (hk : Kept (S1 bo bn) w2 wT) (hC : Kept nob wT wC) (ht : wT.ownsRow w2.heap.size 9 1 tv T0.length (sv T0)) (hv : wT.ownsRow w2.heap.size 9 1 v N0.length (sv N0)) (hne : ∀ q, tv.ownBlock = some q → v.ownBlock = some q → False)
    (own6 : w6.ownsRow w2.heap.size 9 1 (.slice (some ⟨g1, 0, none⟩) (N0.length + 1) cap1) (N0.length + 1) (sv N0 ++ [.string nm])) (gr6 : (wC.alloc o).grownBy w6 v.ownBlock) (or6 : v.ownBlock = some g1 ∨ g1 = wC.heap.size + 1) (hbo : bo < w2.heap.size) (u : Value) :
    Gn w2.heap.size bo bn w2 (w6.setCell ⟨bo, i, none⟩ u) tv (.slice (some ⟨g1, 0, none⟩) (N0.length + 1) cap1) T0 (N0 ++ [nm]) := by
  have hsk := Kept.setCell w6 ⟨bo, i, none⟩ u
  have hCa : Kept nob wT (wC.alloc o) := hC.trans (Kept.alloc _ _ _) (fun _ _ h => h)
  have hgr := Kept.ofGrown gr6
  have ht2 := own_keep (own_keep ht hCa (fun _ _ h => h)) hgr (fun q hq h => hne q hq h.symm)
  refine ⟨own_keep ht2 hsk (fun q hq h => by have h1 := own_ge ht hq; have h2 : q = bo := h; omega), ?_, fun q hq h => ?_, ?_⟩
  · have := own_keep own6 hsk (fun q hq h => by have h1 := own_ge own6 hq; have h2 : q = bo := h; omega)
    have h2 : (N0 ++ [nm]).length = N0.length + 1 := by simp
    rw [h2]
    simpa [sv] using this
  · have hq' : g1 = q := by simpa [Value.ownBlock] using h
    subst hq'
    rcases or6 with h3 | h3
    · exact hne _ hq h3
    · have h4 := own_ge ht hq
      have h5 := hC.size
      omega
  · refine ((hk.trans hCa (fun _ _ h => h.elim)).trans hgr (fun j hj h => ?_)).trans hsk (fun j hj h => Or.inl h)
    have := own_ge hv h.symm
    omega
theorem tnames_snoc (g : Gm) (l : List Nat) (x : Nat) : tnames g (l ++ [x]) = if g.term (x : Int) then tnames g l ++ [nameG g (x : Int)] else tnames g l := by
  unfold tnames
  rw [List.filter_append, List.map_append]
  by_cases h : g.term (x : Int) = true <;> simp [h]
theorem nnames_snoc (g : Gm) (l : List Nat) (x : Nat) : nnames g (l ++ [x]) = if g.term (x : Int) then nnames g l else nnames g l ++ [nameG g (x : Int)] := by
  unfold nnames
  rw [List.filter_append, List.map_append]
  by_cases h : g.term (x : Int) = true <;> simp [h]
theorem on1_n {g : Gm} {l : List Nat} {w2 wT wC w6 : World} {bo bn n k x g1 cap1 : Nat} {tv v : Value} {T0 N0 : List ByteArray} {nm : ByteArray} {o : Obj} {st : Int}
    (hT0 : tnames g (l.take k) = T0) (hN0 : nnames g (l.take k) = N0) (hx : l[k]? = some x) (htb : g.term (x : Int) = false) (hnm : nameG g (x : Int) = nm) (hbn : bn < w2.heap.size) (hbo : bo < w2.heap.size) (hbb : bn ≠ bo)
    (hk : Kept (S1 bo bn) w2 wT) (hC : Kept nob wT wC) (ht : wT.ownsRow w2.heap.size 9 1 tv T0.length (sv T0)) (hv : wT.ownsRow w2.heap.size 9 1 v N0.length (sv N0)) (hne : ∀ q, tv.ownBlock = some q → v.ownBlock = some q → False)
    (hnow : wT.heap[bn]? = some (.cells (irow n (plcN (l.take (k + 1)))).toArray 3 (0, 0)))
    (own6 : w6.ownsRow w2.heap.size 9 1 (.slice (some ⟨g1, 0, none⟩) (N0.length + 1) cap1) (N0.length + 1) (sv N0 ++ [.string nm])) (gr6 : (wC.alloc o).grownBy w6 v.ownBlock) (or6 : v.ownBlock = some g1 ∨ g1 = wC.heap.size + 1)
    (hb6 : OutAt w6 bo tv v (.slice none 0 0) st) (hst : st = 0) :
    On1 g l w2.heap.size bo bn n (k + 1) tv (.slice (some ⟨g1, 0, none⟩) (N0.length + 1) cap1) (w6.setCell ⟨bo, 1, none⟩ (.slice (some ⟨g1, 0, none⟩) (N0.length + 1) cap1)) ∧ Kept (S1 bo bn) w2 (w6.setCell ⟨bo, 1, none⟩ (.slice (some ⟨g1, 0, none⟩) (N0.length + 1) cap1)) := by
  subst hst
  have h := gn_of (i := 1) hk hC ht hv hne own6 gr6 or6 hbo (.slice (some ⟨g1, 0, none⟩) (N0.length + 1) cap1)
  have h1 : tnames g (l.take (k + 1)) = T0 := by
    rw [take_snoc hx, tnames_snoc, htb, hnm]
    simp [hT0, hN0]
  have h2 : nnames g (l.take (k + 1)) = N0 ++ [nm] := by
    rw [take_snoc hx, nnames_snoc, htb, hnm]
    simp [hT0, hN0]
  refine ⟨⟨?_, ?_, ?_, ?_, ?_⟩, h.k⟩
  · unfold OutAt at hb6 ⊢
    rw [set_blk hb6]
    rfl
  · have hg := Kept.ofGrown gr6
    have hw := hC.get hnow (fun h => h)
    have h3 := hg.get (alloc_old hw o) (fun e => by have := own_ge hv e.symm; omega)
    exact (Kept.setCell w6 ⟨bo, 1, none⟩ _).get h3 (fun e => hbb e)
  · rw [h1]; exact h.t
  · rw [h2]; exact h.n
  · exact h.ne
theorem on1_t {g : Gm} {l : List Nat} {w2 wT wC w6 : World} {bo bn n k x g1 cap1 : Nat} {tv v : Value} {T0 N0 : List ByteArray} {nm : ByteArray} {o : Obj} {st : Int}
    (hT0 : nnames g (l.take k) = T0) (hN0 : tnames g (l.take k) = N0) (hx : l[k]? = some x) (htb : g.term (x : Int) = true) (hnm : nameG g (x : Int) = nm) (hbn : bn < w2.heap.size) (hbo : bo < w2.heap.size) (hbb : bn ≠ bo)
    (hk : Kept (S1 bo bn) w2 wT) (hC : Kept nob wT wC) (ht : wT.ownsRow w2.heap.size 9 1 tv T0.length (sv T0)) (hv : wT.ownsRow w2.heap.size 9 1 v N0.length (sv N0)) (hne : ∀ q, tv.ownBlock = some q → v.ownBlock = some q → False)
    (hnow : wT.heap[bn]? = some (.cells (irow n (plcN (l.take (k + 1)))).toArray 3 (0, 0)))
    (own6 : w6.ownsRow w2.heap.size 9 1 (.slice (some ⟨g1, 0, none⟩) (N0.length + 1) cap1) (N0.length + 1) (sv N0 ++ [.string nm])) (gr6 : (wC.alloc o).grownBy w6 v.ownBlock) (or6 : v.ownBlock = some g1 ∨ g1 = wC.heap.size + 1)
    (hb6 : OutAt w6 bo v tv (.slice none 0 0) st) (hst : st = 0) :
    On1 g l w2.heap.size bo bn n (k + 1) (.slice (some ⟨g1, 0, none⟩) (N0.length + 1) cap1) tv (w6.setCell ⟨bo, 0, none⟩ (.slice (some ⟨g1, 0, none⟩) (N0.length + 1) cap1)) ∧ Kept (S1 bo bn) w2 (w6.setCell ⟨bo, 0, none⟩ (.slice (some ⟨g1, 0, none⟩) (N0.length + 1) cap1)) := by
  subst hst
  have h := gn_of (i := 0) hk hC ht hv hne own6 gr6 or6 hbo (.slice (some ⟨g1, 0, none⟩) (N0.length + 1) cap1)
  have h1 : tnames g (l.take (k + 1)) = N0 ++ [nm] := by
    rw [take_snoc hx, tnames_snoc, htb, hnm]
    simp [hT0, hN0]
  have h2 : nnames g (l.take (k + 1)) = T0 := by
    rw [take_snoc hx, nnames_snoc, htb, hnm]
    simp [hT0, hN0]
  refine ⟨⟨?_, ?_, ?_, ?_, ?_⟩, h.k⟩
  · unfold OutAt at hb6 ⊢
    rw [set_blk hb6]
    rfl
  · have hg := Kept.ofGrown gr6
    have hw := hC.get hnow (fun h => h)
    have h3 := hg.get (alloc_old hw o) (fun e => by have := own_ge hv e.symm; omega)
    exact (Kept.setCell w6 ⟨bo, 0, none⟩ _).get h3 (fun e => hbb e)
  · rw [h1]; exact h.n
  · rw [h2]; exact h.t
  · exact fun q a b => h.ne q b a
theorem own_ty {w : World} {base : Nat} {t : TypeId} {s n : Nat} {v : Value} {vs : List Value} (h : w.ownsRow base t s v n vs) {q : Nat} (hq : v.ownBlock = some q) : ∃ cur, w.heap[q]? = some (.cells cur t (0, 0)) := by
  rcases h.2 with ⟨rfl, _⟩ | ⟨g, cap, cur, rfl, _, h2, _⟩
  · simp [Value.ownBlock] at hq
  · have : g = q := by simpa [Value.ownBlock] using hq
    subst this
    exact ⟨cur, h2⟩
theorem ty_ne {w : World} {q : Nat} {c1 c2 : Array Value} {t1 t2 : TypeId} (h1 : w.heap[q]? = some (.cells c1 t1 (0, 0))) (h2 : w.heap[q]? = some (.cells c2 t2 (0, 0))) (h : t1 ≠ t2) : False := by
  rw [h1] at h2
  simp at h2
  exact h h2.2
/-- A right side, made. -/
def RG (Q : Nat) (w : World) (ra : Option Addr) (xs : List Int) (rc : Nat) : Prop :=
  Rd w ra (iv xs) ∧ xs.length ≤ rc ∧ (xs ≠ [] → ∀ b o, ra = some ⟨b, o, none⟩ → Q ≤ b ∧ ∃ cur, w.heap[b]? = some (.cells cur 3 (0, 0)))
theorem RG.keep {S : Nat → Prop} {Q : Nat} {w w' : World} {ra : Option Addr} {xs : List Int} {rc : Nat} (h : RG Q w ra xs rc) (hk : Kept S w w') (hS : ∀ b cur, Q ≤ b → w.heap[b]? = some (.cells cur 3 (0, 0)) → ¬ S b) : RG Q w' ra xs rc := by
  obtain ⟨h1, h2, h3⟩ := h
  by_cases he : xs = []
  · subst he
    exact ⟨.inl rfl, h2, fun h => absurd rfl h⟩
  · refine ⟨h1.kept hk (fun b o e => ?_), h2, fun h b o e => ?_⟩
    · obtain ⟨h4, cur, h5⟩ := h3 he b o e
      exact hS b cur h4 h5
    · obtain ⟨h4, cur, h5⟩ := h3 he b o e
      exact ⟨h4, cur, hk.get h5 (hS b cur h4 h5)⟩
/-- The new rules, as they are made. -/
def RowR (Q : Nat) (w : World) (v : Value) (L : List Rl) : Prop :=
  ∃ us, w.ownsRow Q 40 2 v L.length us ∧ ∀ (j : Nat) (r : Rl), L[j]? = some r → ∃ ra rc, us[j * 2]? = some (.int .i64 r.1) ∧ us[j * 2 + 1]? = some (.slice ra r.2.length rc) ∧ RG Q w ra r.2 rc
theorem RowR.keep {S : Nat → Prop} {Q : Nat} {w w' : World} {v : Value} {L : List Rl} (h : RowR Q w v L) (hk : Kept S w w') (hS : ∀ b cur, Q ≤ b → w.heap[b]? = some (.cells cur 3 (0, 0)) → ¬ S b) (hv : ∀ q, v.ownBlock = some q → ¬ S q) : RowR Q w' v L := by
  obtain ⟨us, h1, h2⟩ := h
  refine ⟨us, own_keep h1 hk hv, fun j r hj => ?_⟩
  obtain ⟨ra, rc, h3, h4, h5⟩ := h2 j r hj
  exact ⟨ra, rc, h3, h4, h5.keep hk hS⟩
theorem RowR.push {Q : Nat} {w w' : World} {v v' : Value} {L : List Rl} {us : List Value} {l : Int} {xs : List Int} {ra : Option Addr} {rc : Nat}
    (h1 : w.ownsRow Q 40 2 v L.length us) (h2 : ∀ (j : Nat) (r : Rl), L[j]? = some r → ∃ ra rc, us[j * 2]? = some (.int .i64 r.1) ∧ us[j * 2 + 1]? = some (.slice ra r.2.length rc) ∧ RG Q w ra r.2 rc)
    (hn : RG Q w ra xs rc) (ho : w'.ownsRow Q 40 2 v' (L.length + 1) (us ++ [.int .i64 l, .slice ra xs.length rc])) (hg : w.grownBy w' v.ownBlock) : RowR Q w' v' (L ++ [(l, xs)]) := by
  have hus : us.length = L.length * 2 := h1.1
  have hS : ∀ b cur, Q ≤ b → w.heap[b]? = some (.cells cur 3 (0, 0)) → ¬ (some b = v.ownBlock) := fun b cur _ hb e => by
    obtain ⟨c2, h3⟩ := own_ty h1 e.symm
    exact ty_ne hb h3 (by decide)
  refine ⟨us ++ [.int .i64 l, .slice ra xs.length rc], by simpa using ho, fun j r hj => ?_⟩
  by_cases hlt : j < L.length
  · rw [List.getElem?_append_left hlt] at hj
    obtain ⟨ra', rc', h3, h4, h5⟩ := h2 j r hj
    refine ⟨ra', rc', ?_, ?_, h5.keep (Kept.ofGrown hg) hS⟩
    · rw [List.getElem?_append_left (by omega)]; exact h3
    · rw [List.getElem?_append_left (by omega)]; exact h4
  · have hjl : j = L.length := by
      have := (List.getElem?_eq_some_iff.1 hj).1
      simp at this
      omega
    subst hjl
    simp at hj
    subst hj
    refine ⟨ra, rc, ?_, ?_, hn.keep (Kept.ofGrown hg) hS⟩
    · rw [List.getElem?_append_right (by omega), show L.length * 2 - us.length = 0 by omega]; rfl
    · rw [List.getElem?_append_right (by omega), show L.length * 2 + 1 - us.length = 1 by omega]; rfl
theorem RowR.rd {Q : Nat} {w : World} {a : Option Addr} {n c : Nat} {L : List Rl} (h : RowR Q w (.slice a n c) L) (hl : ∀ r, r ∈ L → r.2.length ≤ big) : RdR w a L ∧ n = L.length ∧ L.length ≤ c := by
  obtain ⟨us, h1, h2⟩ := h
  have hus := h1.1
  rcases h1.2 with ⟨h3, h4⟩ | ⟨g, cap, cur, h3, h4, h5, h6, h7, h8⟩
  · simp at h3
    have : L = [] := List.eq_nil_of_length_eq_zero h4
    subst this
    exact ⟨.inl rfl, by rw [h3.2.1]; rfl, Nat.zero_le _⟩
  · simp at h3
    obtain ⟨rfl, rfl, rfl⟩ := h3
    refine ⟨.inr ⟨g, 0, rfl, fun j r hj => ?_⟩, rfl, h6⟩
    have hlt : j < L.length := (List.getElem?_eq_some_iff.1 hj).1
    obtain ⟨ra, rc, h9, h10, h11⟩ := h2 j r hj
    refine ⟨ra, rc, ?_, ?_, h11.1, hl r (List.mem_of_getElem? hj), h11.2.1⟩
    · rw [Nat.zero_add, h1.cellAt (j * 2) (by omega)]; exact h9
    · rw [Nat.zero_add, h1.cellAt (j * 2 + 1) (by omega)]; exact h10
/-- A grammar with some symbols alone. -/
def newR (n : Nat) (f : Nat → Bool) (l : List Nat) (R : List Rl) : List Rl := (R.filter fun r => hf n f r.1).map fun r => (plcN l r.1.toNat, r.2.map fun x => plcN l x.toNat)
def onlyG (g : Gm) (f : Nat → Bool) : Gm := ⟨tnames g (lst (rm g) f), nnames g (lst (rm g) f), newR (rm g) f (lst (rm g) f) g.R, plcN (lst (rm g) f) g.st.toNat⟩
theorem newR_snoc (n : Nat) (f : Nat → Bool) (l : List Nat) (R : List Rl) (r : Rl) : newR n f l (R ++ [r]) = if hf n f r.1 then newR n f l R ++ [(plcN l r.1.toNat, r.2.map fun x => plcN l x.toNat)] else newR n f l R := by
  unfold newR
  rw [List.filter_append, List.map_append]
  by_cases h : hf n f r.1 = true <;> simp [h]
/-- The second half of live.only: so many rules are done. -/
structure On2 (g : Gm) (f : Nat → Bool) (Q bo bn k : Nat) (tv nv rv : Value) (w : World) : Prop where
  out : OutAt w bo tv nv rv (plcN (lst (rm g) f) g.st.toNat)
  now : NowAt w bn (rm g) (plcN (lst (rm g) f))
  t : w.ownsRow Q 9 1 tv (tnames g (lst (rm g) f)).length (sv (tnames g (lst (rm g) f)))
  n : w.ownsRow Q 9 1 nv (nnames g (lst (rm g) f)).length (sv (nnames g (lst (rm g) f)))
  r : RowR Q w rv (newR (rm g) f (lst (rm g) f) (g.R.take k))
end Go.Proofs.Ythddfkemagpiaaa

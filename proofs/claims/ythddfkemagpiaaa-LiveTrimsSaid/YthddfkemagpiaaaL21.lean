/-
  What is proved: words for the rules that live.only makes. Conditions: those of each theorem.
-/
import Derived.Test.YthddfkemagpiaaaL20
set_option linter.unusedVariables false
set_option linter.unusedSimpArgs false
namespace Go.Proofs.Ythddfkemagpiaaa
open Go.RowKit
theorem Hid.ap {P : Int → Prop} {a : Int} (h : Hid (∀ u, u = a → P u)) : Hid (P a) := Lib.hid (h.out a rfl)
theorem On2.skip {g : Gm} {f : Nat → Bool} {Q bo bn k : Nat} {tv nv rv : Value} {w w' : World} {r : Rl} (h : On2 g f Q bo bn k tv nv rv w) (hr : g.R[k]? = some r) (hb : hf (rm g) f r.1 = false) (hk : Kept nob w w') : On2 g f Q bo bn (k + 1) tv nv rv w' := by
  refine ⟨h.out.nob hk, hk.get h.now (fun h => h), own_keep h.t hk (fun _ _ h => h), own_keep h.n hk (fun _ _ h => h), ?_⟩
  rw [take_snoc hr, newR_snoc, hb]
  exact h.r.keep hk (fun _ _ _ _ h => h) (fun _ _ h => h)
def OnR (g : Gm) (f : Nat → Bool) (Q bo bn k : Nat) (tv nv : Value) (w : World) : Prop := ∃ rv, On2 g f Q bo bn k tv nv rv w
/-- A rule, as it is made. -/
def XsAt (B xb : Nat) (l : Int) (xs : List Int) (w : World) : Prop := ∃ xv, w.heap[xb]? = some (.cells #[.int .i64 l, xv] 40 (0, 0)) ∧ w.ownsRow B 3 1 xv xs.length (iv xs)
theorem own_slice2 {w : World} {base : Nat} {t : TypeId} {s : Nat} {v : Value} {n : Nat} {vs : List Value} (h : w.ownsRow base t s v n vs) : ∃ a c, v = .slice a n c := by
  rcases h.2 with ⟨rfl, h0⟩ | ⟨g, cap, cur, rfl, _⟩
  · rw [h0]; exact ⟨none, 0, rfl⟩
  · exact ⟨_, _, rfl⟩
theorem xs_step {wI wr w6 : World} {xb m g1 cap1 : Nat} {pn l : Int} {ax : Option Addr} {cx : Nat} {ms : List Int} {o : Obj} (hxb : xb < wI.heap.size) (hk : Kept (ib xb) wI wr) (hx2 : wr.ownsRow wI.heap.size 3 1 (.slice ax m cx) m (iv ms)) (hml : ms.length = m)
    (own6 : w6.ownsRow wI.heap.size 3 1 (.slice (some ⟨g1, 0, none⟩) (m + 1) cap1) (m + 1) (iv ms ++ [.int .i64 pn])) (gr6 : (wr.alloc o).drew.grownBy w6 (Value.slice ax m cx).ownBlock) (hb6 : w6.heap[xb]? = some (.cells #[.int .i64 l, .slice ax m cx] 40 (0, 0))) :
    XsAt wI.heap.size xb l (ms ++ [pn]) (w6.setCell ⟨xb, 1, none⟩ (.slice (some ⟨g1, 0, none⟩) (m + 1) cap1)) ∧ Kept (ib xb) wI (w6.setCell ⟨xb, 1, none⟩ (.slice (some ⟨g1, 0, none⟩) (m + 1) cap1)) := by
  have hsk := Kept.setCell w6 ⟨xb, 1, none⟩ (.slice (some ⟨g1, 0, none⟩) (m + 1) cap1)
  refine ⟨⟨.slice (some ⟨g1, 0, none⟩) (m + 1) cap1, ?_, ?_⟩, ?_⟩
  · rw [set_blk hb6]; rfl
  · have := own_keep own6 hsk (fun q hq e => by have h1 := own_ge own6 hq; have : q = xb := e; omega)
    have h2 : (ms ++ [pn]).length = m + 1 := by simp [hml]
    rw [h2]
    simpa [iv] using this
  · refine ((hk.trans ((Kept.alloc wr o nob).trans (Kept.drew _ nob) (fun _ _ h => h)) (fun _ _ h => h.elim)).trans (Kept.ofGrown gr6) (fun j hj e => ?_)).trans hsk (fun _ _ h => h)
    have := own_ge hx2 e.symm
    omega
theorem On2.nob {g : Gm} {f : Nat → Bool} {Q bo bn k : Nat} {tv nv rv : Value} {w w' : World} (h : On2 g f Q bo bn k tv nv rv w) (hk : Kept nob w w') : On2 g f Q bo bn k tv nv rv w' :=
  ⟨h.out.nob hk, hk.get h.now (fun h => h), own_keep h.t hk (fun _ _ h => h), own_keep h.n hk (fun _ _ h => h), h.r.keep hk (fun _ _ _ _ h => h) (fun _ _ h => h)⟩
theorem rules_step {g : Gm} {f : Nat → Bool} {w2 wz w7 : World} {bo bn k g1 cap1 B n0 : Nat} {tv nv rv : Value} {us : List Value} {ln : Int} {xs : List Int} {ax : Option Addr} {cx : Nat} {o : Obj}
    (hbo : bo < w2.heap.size) (hbn : bn < w2.heap.size) (hbb : bn ≠ bo) (hB : w2.heap.size ≤ B) (hk : Kept (S1 bo bn) w2 wz) (h : On2 g f w2.heap.size bo bn k tv nv rv wz) (hr : g.R[k]? = some (ln, xs)) (hb : hf (rm g) f ln = true)
    (hn0 : (newR (rm g) f (lst (rm g) f) (g.R.take k)).length = n0)
    (h1 : wz.ownsRow w2.heap.size 40 2 rv n0 us)
    (h2 : ∀ (j : Nat) (r : Rl), (newR (rm g) f (lst (rm g) f) (g.R.take k))[j]? = some r → ∃ ra rc, us[j * 2]? = some (.int .i64 r.1) ∧ us[j * 2 + 1]? = some (.slice ra r.2.length rc) ∧ RG w2.heap.size wz ra r.2 rc)
    (hx : wz.ownsRow B 3 1 (.slice ax xs.length cx) xs.length (iv (xs.map fun x => plcN (lst (rm g) f) x.toNat)))
    (own7 : w7.ownsRow w2.heap.size 40 2 (.slice (some ⟨g1, 0, none⟩) (n0 + 1) cap1) (n0 + 1) (us ++ [.int .i64 (plcN (lst (rm g) f) ln.toNat), .slice ax xs.length cx])) (gr7 : (wz.alloc o).grownBy w7 rv.ownBlock) :
    On2 g f w2.heap.size bo bn (k + 1) tv nv (.slice (some ⟨g1, 0, none⟩) (n0 + 1) cap1) (w7.setCell ⟨bo, 2, none⟩ (.slice (some ⟨g1, 0, none⟩) (n0 + 1) cap1)) ∧ Kept (S1 bo bn) w2 (w7.setCell ⟨bo, 2, none⟩ (.slice (some ⟨g1, 0, none⟩) (n0 + 1) cap1)) := by
  subst hn0
  have ha := Kept.alloc wz o nob
  have hA := h.nob ha
  have hg := Kept.ofGrown gr7
  have hsk := Kept.setCell w7 ⟨bo, 2, none⟩ (.slice (some ⟨g1, 0, none⟩) ((newR (rm g) f (lst (rm g) f) (g.R.take k)).length + 1) cap1)
  have hA1 := own_keep h1 ha (fun _ _ h => h)
  have hty : ∀ {t : TypeId} {s n : Nat} {v : Value} {vs : List Value}, (wz.alloc o).ownsRow w2.heap.size t s v n vs → t ≠ 40 → ∀ q, v.ownBlock = some q → ¬ (some q = rv.ownBlock) := fun hv ht q hq e => by
    obtain ⟨c1, h3⟩ := own_ty hv hq
    obtain ⟨c2, h4⟩ := own_ty hA1 e.symm
    exact ty_ne h3 h4 ht
  have hout := hA.out.grown gr7 (own_not hA1 hbo)
  refine ⟨⟨?_, ?_, ?_, ?_, ?_⟩, ?_⟩
  · unfold OutAt at hout ⊢
    rw [set_blk hout]
    rfl
  · exact hsk.get (hg.get hA.now (fun e => own_not hA1 hbn e.symm)) (fun e => hbb e)
  · have h3 := own_keep hA.t hg (hty hA.t (by decide))
    exact own_keep h3 hsk (fun q hq e => by have h4 := own_ge h3 hq; have : q = bo := e; omega)
  · have h3 := own_keep hA.n hg (hty hA.n (by decide))
    exact own_keep h3 hsk (fun q hq e => by have h4 := own_ge h3 hq; have : q = bo := e; omega)
  · have hRG : RG w2.heap.size (wz.alloc o) ax (xs.map fun x => plcN (lst (rm g) f) x.toNat) cx := by
      have hx' := own_keep hx ha (fun _ _ h => h)
      refine ⟨Rd.own hx', ?_, fun _ b' o' e => ?_⟩
      · rcases hx'.2 with ⟨e1, e2⟩ | ⟨g3, cap3, cur3, e1, _, _, e2, _⟩
        · simp; omega
        · simp at e1; simp; omega
      · subst e
        have h4 := own_ge hx' (k := b') rfl
        exact ⟨by omega, own_ty hx' rfl⟩
    rw [take_snoc hr, newR_snoc, hb]
    have hus : ∀ (j : Nat) (r : Rl), (newR (rm g) f (lst (rm g) f) (g.R.take k))[j]? = some r → ∃ ra rc, us[j * 2]? = some (.int .i64 r.1) ∧ us[j * 2 + 1]? = some (.slice ra r.2.length rc) ∧ RG w2.heap.size (wz.alloc o) ra r.2 rc := fun j r hj => by
      obtain ⟨ra, rc, h5, h6, h7⟩ := h2 j r hj
      exact ⟨ra, rc, h5, h6, h7.keep ha (fun _ _ _ _ h => h)⟩
    have hp := RowR.push (l := plcN (lst (rm g) f) ln.toNat) (v' := .slice (some ⟨g1, 0, none⟩) ((newR (rm g) f (lst (rm g) f) (g.R.take k)).length + 1) cap1) hA1 hus hRG (by simpa using own7) gr7
    refine hp.keep hsk (fun b' cur hb' _ e => by have : b' = bo := e; omega) (fun q hq e => by have h4 := own_ge own7 hq; have : q = bo := e; omega)
  · refine ((hk.trans ha (fun _ _ h => h.elim)).trans hg (fun j hj e => ?_)).trans hsk (fun _ _ h => Or.inl h)
    have := own_ge h1 e.symm
    omega
theorem results_cell1 {fn : Func} {p : Tmp} {ty : TypeId} (h : fn.results = #[.cell p ty]) (tmps : Array Value) (P : Program) (w : World) :
    (results fn tmps).run P w = ((asAddr (tmps.getD p undef)).run P w).andThen fun a w₁ => (loadVar ty a).run P w₁ := by
  simp only [results, h]
  simp [Sem.run_bind]
theorem own_len {w : World} {base : Nat} {t : TypeId} {s n c : Nat} {a : Option Addr} {vs : List Value} (h : w.ownsRow base t s (.slice a n c) n vs) : n ≤ c := by
  rcases h.2 with ⟨h1, h2⟩ | ⟨g, cap, cur, h1, _, _, h2, _⟩
  · omega
  · simp at h1; omega
theorem set4 (w : World) (q : Nat) (a b c d : Value) : Kept (ib q) w ((((w.setCell ⟨q, 0, none⟩ a).setCell ⟨q, 1, none⟩ b).setCell ⟨q, 2, none⟩ c).setCell ⟨q, 3, none⟩ d) :=
  (((Kept.setCell _ ⟨q, 0, none⟩ _).trans (Kept.setCell _ ⟨q, 1, none⟩ _) (fun _ _ h => h)).trans (Kept.setCell _ ⟨q, 2, none⟩ _) (fun _ _ h => h)).trans (Kept.setCell _ ⟨q, 3, none⟩ _) (fun _ _ h => h)
theorem only_end {S : Nat → Prop} {g : Gm} {f : Nat → Bool} {Q bo bn ct cn cr : Nat} {at' an' ar : Option Addr} {wr wF : World}
    (h : On2 g f Q bo bn g.R.length (.slice at' (tnames g (lst (rm g) f)).length ct) (.slice an' (nnames g (lst (rm g) f)).length cn) (.slice ar (newR (rm g) f (lst (rm g) f) g.R).length cr) wr) (hk : Kept S wr wF) (hq : ∀ k, S k → k < Q)
    (hsr : ∀ r, r ∈ g.R → r.2.length ≤ 10000) (hn : g.T.length + g.N.length + g.R.length ≤ 1000) : GA wF ⟨at', ct, an', cn, ar, cr⟩ (onlyG g f) := by
  have ht := own_keep h.t hk (fun k hk2 e => by have h1 := own_ge h.t hk2; have := hq k e; omega)
  have hN := own_keep h.n hk (fun k hk2 e => by have h1 := own_ge h.n hk2; have := hq k e; omega)
  have hr0 := h.r
  rw [List.take_length] at hr0
  have hr := hr0.keep hk (fun b cur hb _ e => by have := hq b e; omega) (fun k hk2 e => by
    obtain ⟨us, h1, _⟩ := hr0
    have h2 := own_ge h1 hk2
    have := hq k e
    omega)
  have hl := lst_len (rm g) f
  have hrm : rm g ≤ 1001 := by unfold rm; omega
  have hll : ∀ r, r ∈ newR (rm g) f (lst (rm g) f) g.R → r.2.length ≤ big := fun r hr => by
    unfold newR at hr
    obtain ⟨r0, h0, rfl⟩ := List.mem_map.1 hr
    have := hsr r0 (List.mem_filter.1 h0).1
    simp
    unfold big
    omega
  obtain ⟨h1, h2, h3⟩ := hr.rd hll
  refine ⟨Rd.own ht, Rd.own hN, h1, ?_, ?_, ?_, h3⟩
  · show (tnames g (lst (rm g) f)).length ≤ big
    unfold tnames big; rw [List.length_map]; have := List.length_filter_le (fun (x : Nat) => g.term (x : Int)) (lst (rm g) f); omega
  · show (nnames g (lst (rm g) f)).length ≤ big
    unfold nnames big; rw [List.length_map]; have := List.length_filter_le (fun (x : Nat) => !g.term (x : Int)) (lst (rm g) f); omega
  · show (newR (rm g) f (lst (rm g) f) g.R).length ≤ big
    unfold newR big; rw [List.length_map]; have := List.length_filter_le (fun r : Rl => hf (rm g) f r.1) g.R; omega
end Go.Proofs.Ythddfkemagpiaaa

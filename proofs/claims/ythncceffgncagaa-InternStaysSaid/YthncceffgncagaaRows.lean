/-
  No cell of these rows narrows 'for every input' (looked for: loops, veiled, ifaces, maps, wideKeys, modest, calm, conditions, laid).
  DERIVED. THE GIVEN ROWS OF THIS SEAT. 6 by the template 'for every input the law returns true; each argument reads behind the call as it read before'; 0 by the template 'total and deterministic' (their statements: YthncceffgncagaaTotals.lean).
  GIVEN WITH THE SEED: the statements are not yours to turn. If you find one false, say at which input.
  Laid BY PROGRAM, IN A SANDBOX (cutbox-rows.mjs): the forced cells as the released guide's own fill.sh prints them over the translation 1231b83aa13cadd1… (all of the seat's roots in one cut). By AI agents, Wed Nov 11 2026. No macro, syntax, notation, axiom, sorry.
-/
import Derived.Test.YthncceffgncagaaChecked
import GoSem.Claim
import GoSem.ClaimJoined
import GoSem.ClaimMapViews
import Derived.JoinedTies
import Derived.KernelRfl
namespace Go.Proofs.Ythncceffgncagaa
/- THE CELL 'sum', in the pinned program and in every row, IS THE sha256 OF THE DUMP (.gsa) THAT YthncceffgncagaaProg.lean LOADS. Nothing in Lean hashes anything: it is a label: what it is worth is what the hold of that sum in a sandbox is worth. -/
noncomputable def Try.pinned : Pinned := { name := "ythncceffgncagaa", sum := "1231b83aa13cadd1f771335951b607aa1b6340cf5b26d020713d56eaf602837b", checked := Try.checked }
namespace Rows
def none {H : Type} : Left H := { results := [], args := [] }

/-- 'conchlaw04.InternStays': WHATEVER THE INPUT: true; the input reads as it did. -/
def internStaysSpec : ChangeSpec := { name := "internStays", fn := fun _ => fun
  | [d1, d2, d3] => { results := [.lit (.bool true)], args := [d1, d2, d3] }
  | _ => none }
def internStaysRow : OpenClaim := { program := "ythncceffgncagaa", sum := "1231b83aa13cadd1f771335951b607aa1b6340cf5b26d020713d56eaf602837b", func := "conch/conchlaw04.InternStays", spec := "internStays", apart := false }
def InternStaysSaid : Prop := internStaysRow.holds Try.pinned (OpenSpec.ofChange internStaysSpec)

/-- ITS FALSE NEIGHBOUR: 'it returns false'. Refute it at one input. -/
def internStaysWrong : ChangeSpec := { name := "internStays", fn := fun _ => fun
  | [d1, d2, d3] => { results := [.lit (.bool false)], args := [d1, d2, d3] }
  | _ => none }
def InternStaysWrongFalsely : Prop := internStaysRow.holds Try.pinned (OpenSpec.ofChange internStaysWrong)

/-- 'conchlaw04.InternPuts': WHATEVER THE INPUT: true; the input reads as it did. -/
def internPutsSpec : ChangeSpec := { name := "internPuts", fn := fun _ => fun
  | [d1, d2, d3, d4] => { results := [.lit (.bool true)], args := [d1, d2, d3, d4] }
  | _ => none }
def internPutsRow : OpenClaim := { program := "ythncceffgncagaa", sum := "1231b83aa13cadd1f771335951b607aa1b6340cf5b26d020713d56eaf602837b", func := "conch/conchlaw04.InternPuts", spec := "internPuts", apart := false }
def InternPutsSaid : Prop := internPutsRow.holds Try.pinned (OpenSpec.ofChange internPutsSpec)

/-- ITS FALSE NEIGHBOUR: 'it returns false'. Refute it at one input. -/
def internPutsWrong : ChangeSpec := { name := "internPuts", fn := fun _ => fun
  | [d1, d2, d3, d4] => { results := [.lit (.bool false)], args := [d1, d2, d3, d4] }
  | _ => none }
def InternPutsWrongFalsely : Prop := internPutsRow.holds Try.pinned (OpenSpec.ofChange internPutsWrong)

/-- 'conchlaw04.InternNone': WHATEVER THE INPUT: true; the input reads as it did. -/
def internNoneSpec : ChangeSpec := { name := "internNone", fn := fun _ => fun
  | [d1, d2] => { results := [.lit (.bool true)], args := [d1, d2] }
  | _ => none }
def internNoneRow : OpenClaim := { program := "ythncceffgncagaa", sum := "1231b83aa13cadd1f771335951b607aa1b6340cf5b26d020713d56eaf602837b", func := "conch/conchlaw04.InternNone", spec := "internNone", apart := false }
def InternNoneSaid : Prop := internNoneRow.holds Try.pinned (OpenSpec.ofChange internNoneSpec)

/-- ITS FALSE NEIGHBOUR: 'it returns false'. Refute it at one input. -/
def internNoneWrong : ChangeSpec := { name := "internNone", fn := fun _ => fun
  | [d1, d2] => { results := [.lit (.bool false)], args := [d1, d2] }
  | _ => none }
def InternNoneWrongFalsely : Prop := internNoneRow.holds Try.pinned (OpenSpec.ofChange internNoneWrong)

/-- 'conchlaw03.BitsUnites': WHATEVER THE INPUT: true; the input reads as it did. -/
def bitsUnitesSpec : ChangeSpec := { name := "bitsUnites", fn := fun _ => fun
  | [d1, d2, d3, d4] => { results := [.lit (.bool true)], args := [d1, d2, d3, d4] }
  | _ => none }
def bitsUnitesRow : OpenClaim := { program := "ythncceffgncagaa", sum := "1231b83aa13cadd1f771335951b607aa1b6340cf5b26d020713d56eaf602837b", func := "conch/conchlaw03.BitsUnites", spec := "bitsUnites", apart := false }
def BitsUnitesSaid : Prop := bitsUnitesRow.holds Try.pinned (OpenSpec.ofChange bitsUnitesSpec)

/-- ITS FALSE NEIGHBOUR: 'it returns false'. Refute it at one input. -/
def bitsUnitesWrong : ChangeSpec := { name := "bitsUnites", fn := fun _ => fun
  | [d1, d2, d3, d4] => { results := [.lit (.bool false)], args := [d1, d2, d3, d4] }
  | _ => none }
def BitsUnitesWrongFalsely : Prop := bitsUnitesRow.holds Try.pinned (OpenSpec.ofChange bitsUnitesWrong)

/-- 'conchlaw03.BitsDoes': WHATEVER THE INPUT: true; the input reads as it did. -/
def bitsDoesSpec : ChangeSpec := { name := "bitsDoes", fn := fun _ => fun
  | [d1, d2, d3] => { results := [.lit (.bool true)], args := [d1, d2, d3] }
  | _ => none }
def bitsDoesRow : OpenClaim := { program := "ythncceffgncagaa", sum := "1231b83aa13cadd1f771335951b607aa1b6340cf5b26d020713d56eaf602837b", func := "conch/conchlaw03.BitsDoes", spec := "bitsDoes", apart := false }
def BitsDoesSaid : Prop := bitsDoesRow.holds Try.pinned (OpenSpec.ofChange bitsDoesSpec)

/-- ITS FALSE NEIGHBOUR: 'it returns false'. Refute it at one input. -/
def bitsDoesWrong : ChangeSpec := { name := "bitsDoes", fn := fun _ => fun
  | [d1, d2, d3] => { results := [.lit (.bool false)], args := [d1, d2, d3] }
  | _ => none }
def BitsDoesWrongFalsely : Prop := bitsDoesRow.holds Try.pinned (OpenSpec.ofChange bitsDoesWrong)

/-- 'conchlaw03.BitsNone': WHATEVER THE INPUT: true; the input reads as it did. -/
def bitsNoneSpec : ChangeSpec := { name := "bitsNone", fn := fun _ => fun
  | [d1, d2] => { results := [.lit (.bool true)], args := [d1, d2] }
  | _ => none }
def bitsNoneRow : OpenClaim := { program := "ythncceffgncagaa", sum := "1231b83aa13cadd1f771335951b607aa1b6340cf5b26d020713d56eaf602837b", func := "conch/conchlaw03.BitsNone", spec := "bitsNone", apart := false }
def BitsNoneSaid : Prop := bitsNoneRow.holds Try.pinned (OpenSpec.ofChange bitsNoneSpec)

/-- ITS FALSE NEIGHBOUR: 'it returns false'. Refute it at one input. -/
def bitsNoneWrong : ChangeSpec := { name := "bitsNone", fn := fun _ => fun
  | [d1, d2] => { results := [.lit (.bool false)], args := [d1, d2] }
  | _ => none }
def BitsNoneWrongFalsely : Prop := bitsNoneRow.holds Try.pinned (OpenSpec.ofChange bitsNoneWrong)

/- THE SECOND FORM. 'bulk': how many values and letters a reading holds, each counted each time it is reached (what is shared counts as often as it is met; a slice's spare places count too). A statement '..UptoSaid' is the law's where the arguments, and the package variables that the reading takes, are together of bulk at most 1048576: NARROWER than '..Said'. Prove '..Said' where nothing that the law and all that it calls make is longer than what came in: it says more and counts as full. Else prove '..UptoSaid'. A law counts once. -/
mutual
def uptoBulk {H : Type} : DataW H → Nat
  | .lit (.string bytes) => bytes.length + 1
  | .lit _ => 1
  | .nil => 1
  | .ptr d => uptoBulk d + 1
  | .slice elems spare => uptoBulkAll elems + uptoBulkAll spare + 1
  | .agg parts => uptoBulkAll parts + 1
  | .iface _ d => uptoBulk d + 1
  | .map entries => uptoBulkEntries entries + 1
  | .held _ => 1
def uptoBulkAll {H : Type} : List (DataW H) → Nat
  | [] => 0
  | d :: r => uptoBulk d + uptoBulkAll r
def uptoBulkEntries {H : Type} : List (Lit × DataW H) → Nat
  | [] => 0
  | x :: r => uptoBulkEntry x + uptoBulkEntries r
def uptoBulkEntry {H : Type} : Lit × DataW H → Nat
  | (.string bytes, d) => bytes.length + uptoBulk d + 1
  | (_, d) => uptoBulk d + 1
 end
def uptoSmall : (H : Type) → List (DataW H) → Bool := fun _ ds => decide (uptoBulkAll ds ≤ 1048576)
def OpenSpec.upto (s : _root_.Go.ChangeSpec) : _root_.Go.OpenSpec := { _root_.Go.OpenSpec.ofChange s with cond := some uptoSmall }

/-- 'conchlaw04.InternStays', WHERE WHAT IT READS IS OF BULK AT MOST 1048576: true; the input reads as it did. -/
def internStaysUptoRow : OpenClaim := { program := "ythncceffgncagaa", sum := "1231b83aa13cadd1f771335951b607aa1b6340cf5b26d020713d56eaf602837b", func := "conch/conchlaw04.InternStays", spec := "internStays", apart := false, narrowed := true }
def InternStaysUptoSaid : Prop := internStaysUptoRow.holds Try.pinned (OpenSpec.upto internStaysSpec)

/-- 'conchlaw04.InternPuts', WHERE WHAT IT READS IS OF BULK AT MOST 1048576: true; the input reads as it did. -/
def internPutsUptoRow : OpenClaim := { program := "ythncceffgncagaa", sum := "1231b83aa13cadd1f771335951b607aa1b6340cf5b26d020713d56eaf602837b", func := "conch/conchlaw04.InternPuts", spec := "internPuts", apart := false, narrowed := true }
def InternPutsUptoSaid : Prop := internPutsUptoRow.holds Try.pinned (OpenSpec.upto internPutsSpec)

/-- 'conchlaw04.InternNone', WHERE WHAT IT READS IS OF BULK AT MOST 1048576: true; the input reads as it did. -/
def internNoneUptoRow : OpenClaim := { program := "ythncceffgncagaa", sum := "1231b83aa13cadd1f771335951b607aa1b6340cf5b26d020713d56eaf602837b", func := "conch/conchlaw04.InternNone", spec := "internNone", apart := false, narrowed := true }
def InternNoneUptoSaid : Prop := internNoneUptoRow.holds Try.pinned (OpenSpec.upto internNoneSpec)

/-- 'conchlaw03.BitsUnites', WHERE WHAT IT READS IS OF BULK AT MOST 1048576: true; the input reads as it did. -/
def bitsUnitesUptoRow : OpenClaim := { program := "ythncceffgncagaa", sum := "1231b83aa13cadd1f771335951b607aa1b6340cf5b26d020713d56eaf602837b", func := "conch/conchlaw03.BitsUnites", spec := "bitsUnites", apart := false, narrowed := true }
def BitsUnitesUptoSaid : Prop := bitsUnitesUptoRow.holds Try.pinned (OpenSpec.upto bitsUnitesSpec)

/-- 'conchlaw03.BitsDoes', WHERE WHAT IT READS IS OF BULK AT MOST 1048576: true; the input reads as it did. -/
def bitsDoesUptoRow : OpenClaim := { program := "ythncceffgncagaa", sum := "1231b83aa13cadd1f771335951b607aa1b6340cf5b26d020713d56eaf602837b", func := "conch/conchlaw03.BitsDoes", spec := "bitsDoes", apart := false, narrowed := true }
def BitsDoesUptoSaid : Prop := bitsDoesUptoRow.holds Try.pinned (OpenSpec.upto bitsDoesSpec)

/-- 'conchlaw03.BitsNone', WHERE WHAT IT READS IS OF BULK AT MOST 1048576: true; the input reads as it did. -/
def bitsNoneUptoRow : OpenClaim := { program := "ythncceffgncagaa", sum := "1231b83aa13cadd1f771335951b607aa1b6340cf5b26d020713d56eaf602837b", func := "conch/conchlaw03.BitsNone", spec := "bitsNone", apart := false, narrowed := true }
def BitsNoneUptoSaid : Prop := bitsNoneUptoRow.holds Try.pinned (OpenSpec.upto bitsNoneSpec)

end Rows
end Go.Proofs.Ythncceffgncagaa

/-
  No cell of these rows narrows 'for every input' (looked for: loops, veiled, ifaces, maps, wideKeys, modest, calm, conditions, laid).
  DERIVED. THE GIVEN ROWS OF THIS SEAT. 8 by the template 'for every input the law returns true; each argument reads behind the call as it read before'; 0 by the template 'total and deterministic' (their statements: YtobiefdkpiognaaTotals.lean).
  GIVEN WITH THE SEED: the statements are not yours to turn. If you find one false, say at which input.
  Laid BY PROGRAM, IN A SANDBOX (cutbox-rows.mjs): the forced cells as the released guide's own fill.sh prints them over the translation 3a46a0d6124bfc24… (all of the seat's roots in one cut). By AI agents, Wed Nov 11 2026. No macro, syntax, notation, axiom, sorry.
-/
import Derived.Test.YtobiefdkpiognaaChecked
import GoSem.Claim
import GoSem.ClaimJoined
import GoSem.ClaimMapViews
import Derived.JoinedTies
import Derived.KernelRfl
namespace Go.Proofs.Ytobiefdkpiognaa
/- THE CELL 'sum', in the pinned program and in every row, IS THE sha256 OF THE DUMP (.gsa) THAT YtobiefdkpiognaaProg.lean LOADS. Nothing in Lean hashes anything: it is a label: what it is worth is what the hold of that sum in a sandbox is worth. -/
noncomputable def Try.pinned : Pinned := { name := "ytobiefdkpiognaa", sum := "3a46a0d6124bfc241f5a0b47e077e23bc266bec153b482dc828bfe0bbb642d7f", checked := Try.checked }
namespace Rows
def none {H : Type} : Left H := { results := [], args := [] }

/-- 'kinespherelaw41.CollateSpec': WHATEVER THE INPUT: true; the input reads as it did. -/
def collateSpecSpec : ChangeSpec := { name := "collateSpec", fn := fun _ => fun
  | [d] => { results := [.lit (.bool true)], args := [d] }
  | _ => none }
def collateSpecRow : OpenClaim := { program := "ytobiefdkpiognaa", sum := "3a46a0d6124bfc241f5a0b47e077e23bc266bec153b482dc828bfe0bbb642d7f", func := "kinesphere/kinespherelaw41.CollateSpec", spec := "collateSpec", unfollowed := true, recurses := true, plainKeys := false, apart := false }
def CollateSpecSaid : Prop := collateSpecRow.holds Try.pinned (OpenSpec.ofChange collateSpecSpec)

/-- ITS FALSE NEIGHBOUR: 'it returns false'. Refute it at one input. -/
def collateSpecWrong : ChangeSpec := { name := "collateSpec", fn := fun _ => fun
  | [d] => { results := [.lit (.bool false)], args := [d] }
  | _ => none }
def CollateSpecWrongFalsely : Prop := collateSpecRow.holds Try.pinned (OpenSpec.ofChange collateSpecWrong)

/-- 'kinespherelaw41.CollateCodeSpec': WHATEVER THE INPUT: true; the input reads as it did. -/
def collateCodeSpecSpec : ChangeSpec := { name := "collateCodeSpec", fn := fun _ => fun
  | [d1, d2, d3] => { results := [.lit (.bool true)], args := [d1, d2, d3] }
  | _ => none }
def collateCodeSpecRow : OpenClaim := { program := "ytobiefdkpiognaa", sum := "3a46a0d6124bfc241f5a0b47e077e23bc266bec153b482dc828bfe0bbb642d7f", func := "kinesphere/kinespherelaw41.CollateCodeSpec", spec := "collateCodeSpec", unfollowed := true, recurses := true, plainKeys := false, apart := false }
def CollateCodeSpecSaid : Prop := collateCodeSpecRow.holds Try.pinned (OpenSpec.ofChange collateCodeSpecSpec)

/-- ITS FALSE NEIGHBOUR: 'it returns false'. Refute it at one input. -/
def collateCodeSpecWrong : ChangeSpec := { name := "collateCodeSpec", fn := fun _ => fun
  | [d1, d2, d3] => { results := [.lit (.bool false)], args := [d1, d2, d3] }
  | _ => none }
def CollateCodeSpecWrongFalsely : Prop := collateCodeSpecRow.holds Try.pinned (OpenSpec.ofChange collateCodeSpecWrong)

/-- 'kinespherelaw41.CollatePairSpec': WHATEVER THE INPUT: true; the input reads as it did. -/
def collatePairSpecSpec : ChangeSpec := { name := "collatePairSpec", fn := fun _ => fun
  | [d1, d2] => { results := [.lit (.bool true)], args := [d1, d2] }
  | _ => none }
def collatePairSpecRow : OpenClaim := { program := "ytobiefdkpiognaa", sum := "3a46a0d6124bfc241f5a0b47e077e23bc266bec153b482dc828bfe0bbb642d7f", func := "kinesphere/kinespherelaw41.CollatePairSpec", spec := "collatePairSpec", unfollowed := true, recurses := true, plainKeys := false, apart := false }
def CollatePairSpecSaid : Prop := collatePairSpecRow.holds Try.pinned (OpenSpec.ofChange collatePairSpecSpec)

/-- ITS FALSE NEIGHBOUR: 'it returns false'. Refute it at one input. -/
def collatePairSpecWrong : ChangeSpec := { name := "collatePairSpec", fn := fun _ => fun
  | [d1, d2] => { results := [.lit (.bool false)], args := [d1, d2] }
  | _ => none }
def CollatePairSpecWrongFalsely : Prop := collatePairSpecRow.holds Try.pinned (OpenSpec.ofChange collatePairSpecWrong)

/-- 'kinespherelaw41.CollateLeast': WHATEVER THE INPUT: true; the input reads as it did. -/
def collateLeastSpec : ChangeSpec := { name := "collateLeast", fn := fun _ => fun
  | [d1, d2, d3] => { results := [.lit (.bool true)], args := [d1, d2, d3] }
  | _ => none }
def collateLeastRow : OpenClaim := { program := "ytobiefdkpiognaa", sum := "3a46a0d6124bfc241f5a0b47e077e23bc266bec153b482dc828bfe0bbb642d7f", func := "kinesphere/kinespherelaw41.CollateLeast", spec := "collateLeast", unfollowed := true, recurses := true, plainKeys := false, apart := false }
def CollateLeastSaid : Prop := collateLeastRow.holds Try.pinned (OpenSpec.ofChange collateLeastSpec)

/-- ITS FALSE NEIGHBOUR: 'it returns false'. Refute it at one input. -/
def collateLeastWrong : ChangeSpec := { name := "collateLeast", fn := fun _ => fun
  | [d1, d2, d3] => { results := [.lit (.bool false)], args := [d1, d2, d3] }
  | _ => none }
def CollateLeastWrongFalsely : Prop := collateLeastRow.holds Try.pinned (OpenSpec.ofChange collateLeastWrong)

/-- 'kinespherelaw41.CollateMetric': WHATEVER THE INPUT: true; the input reads as it did. -/
def collateMetricSpec : ChangeSpec := { name := "collateMetric", fn := fun _ => fun
  | [d1, d2, d3] => { results := [.lit (.bool true)], args := [d1, d2, d3] }
  | _ => none }
def collateMetricRow : OpenClaim := { program := "ytobiefdkpiognaa", sum := "3a46a0d6124bfc241f5a0b47e077e23bc266bec153b482dc828bfe0bbb642d7f", func := "kinesphere/kinespherelaw41.CollateMetric", spec := "collateMetric", unfollowed := true, recurses := true, plainKeys := false, apart := false }
def CollateMetricSaid : Prop := collateMetricRow.holds Try.pinned (OpenSpec.ofChange collateMetricSpec)

/-- ITS FALSE NEIGHBOUR: 'it returns false'. Refute it at one input. -/
def collateMetricWrong : ChangeSpec := { name := "collateMetric", fn := fun _ => fun
  | [d1, d2, d3] => { results := [.lit (.bool false)], args := [d1, d2, d3] }
  | _ => none }
def CollateMetricWrongFalsely : Prop := collateMetricRow.holds Try.pinned (OpenSpec.ofChange collateMetricWrong)

/-- 'kinespherelaw41.CollateBegin': WHATEVER THE INPUT: true; the input reads as it did. -/
def collateBeginSpec : ChangeSpec := { name := "collateBegin", fn := fun _ => fun
  | [d1, d2, d3, d4] => { results := [.lit (.bool true)], args := [d1, d2, d3, d4] }
  | _ => none }
def collateBeginRow : OpenClaim := { program := "ytobiefdkpiognaa", sum := "3a46a0d6124bfc241f5a0b47e077e23bc266bec153b482dc828bfe0bbb642d7f", func := "kinesphere/kinespherelaw41.CollateBegin", spec := "collateBegin", unfollowed := true, recurses := true, plainKeys := false, apart := false }
def CollateBeginSaid : Prop := collateBeginRow.holds Try.pinned (OpenSpec.ofChange collateBeginSpec)

/-- ITS FALSE NEIGHBOUR: 'it returns false'. Refute it at one input. -/
def collateBeginWrong : ChangeSpec := { name := "collateBegin", fn := fun _ => fun
  | [d1, d2, d3, d4] => { results := [.lit (.bool false)], args := [d1, d2, d3, d4] }
  | _ => none }
def CollateBeginWrongFalsely : Prop := collateBeginRow.holds Try.pinned (OpenSpec.ofChange collateBeginWrong)

/-- 'kinespherelaw41.CollateRows': WHATEVER THE INPUT: true; the input reads as it did. -/
def collateRowsSpec : ChangeSpec := { name := "collateRows", fn := fun _ => fun
  | [d] => { results := [.lit (.bool true)], args := [d] }
  | _ => none }
def collateRowsRow : OpenClaim := { program := "ytobiefdkpiognaa", sum := "3a46a0d6124bfc241f5a0b47e077e23bc266bec153b482dc828bfe0bbb642d7f", func := "kinesphere/kinespherelaw41.CollateRows", spec := "collateRows", unfollowed := true, recurses := true, plainKeys := false, apart := false }
def CollateRowsSaid : Prop := collateRowsRow.holds Try.pinned (OpenSpec.ofChange collateRowsSpec)

/-- ITS FALSE NEIGHBOUR: 'it returns false'. Refute it at one input. -/
def collateRowsWrong : ChangeSpec := { name := "collateRows", fn := fun _ => fun
  | [d] => { results := [.lit (.bool false)], args := [d] }
  | _ => none }
def CollateRowsWrongFalsely : Prop := collateRowsRow.holds Try.pinned (OpenSpec.ofChange collateRowsWrong)

/-- 'kinespherelaw41.CollateCodes': WHATEVER THE INPUT: true; the input reads as it did. -/
def collateCodesSpec : ChangeSpec := { name := "collateCodes", fn := fun _ => fun
  | [d1, d2] => { results := [.lit (.bool true)], args := [d1, d2] }
  | _ => none }
def collateCodesRow : OpenClaim := { program := "ytobiefdkpiognaa", sum := "3a46a0d6124bfc241f5a0b47e077e23bc266bec153b482dc828bfe0bbb642d7f", func := "kinesphere/kinespherelaw41.CollateCodes", spec := "collateCodes", unfollowed := true, recurses := true, plainKeys := false, apart := false }
def CollateCodesSaid : Prop := collateCodesRow.holds Try.pinned (OpenSpec.ofChange collateCodesSpec)

/-- ITS FALSE NEIGHBOUR: 'it returns false'. Refute it at one input. -/
def collateCodesWrong : ChangeSpec := { name := "collateCodes", fn := fun _ => fun
  | [d1, d2] => { results := [.lit (.bool false)], args := [d1, d2] }
  | _ => none }
def CollateCodesWrongFalsely : Prop := collateCodesRow.holds Try.pinned (OpenSpec.ofChange collateCodesWrong)

/- THE SECOND FORM. 'bulk': how many values and letters a reading holds, each counted each time it is reached (what is shared counts as often as it is met; a slice's spare places count too). A statement '..UptoSaid' is the law's where the arguments, and the package variables that the reading takes, are together of bulk at most 1048576: NARROWER than '..Said'. Prove '..Said' where nothing that the law and all that it calls make is longer than what came in: it says more and counts as full. Else prove '..UptoSaid'. A law counts once. -/
mutual
def uptoBulk {H : Type} : DataW H → Nat
  | .lit (.string bytes) => bytes.length + 1
  | .lit _ => 1
  | .nil => 1
  | .ptr d => uptoBulk d + 1
  | .slice elems spare => uptoBulkAll elems + uptoBulkAll spare + 1
  | .agg parts => uptoBulkAll parts + 1
  | .iface _ d => uptoBulk d + 1
  | .map entries => uptoBulkEntries entries + 1
  | .held _ => 1
def uptoBulkAll {H : Type} : List (DataW H) → Nat
  | [] => 0
  | d :: r => uptoBulk d + uptoBulkAll r
def uptoBulkEntries {H : Type} : List (Lit × DataW H) → Nat
  | [] => 0
  | x :: r => uptoBulkEntry x + uptoBulkEntries r
def uptoBulkEntry {H : Type} : Lit × DataW H → Nat
  | (.string bytes, d) => bytes.length + uptoBulk d + 1
  | (_, d) => uptoBulk d + 1
 end
def uptoSmall : (H : Type) → List (DataW H) → Bool := fun _ ds => decide (uptoBulkAll ds ≤ 1048576)
def OpenSpec.upto (s : _root_.Go.ChangeSpec) : _root_.Go.OpenSpec := { _root_.Go.OpenSpec.ofChange s with cond := some uptoSmall }

/-- 'kinespherelaw41.CollateSpec', WHERE WHAT IT READS IS OF BULK AT MOST 1048576: true; the input reads as it did. -/
def collateSpecUptoRow : OpenClaim := { program := "ytobiefdkpiognaa", sum := "3a46a0d6124bfc241f5a0b47e077e23bc266bec153b482dc828bfe0bbb642d7f", func := "kinesphere/kinespherelaw41.CollateSpec", spec := "collateSpec", unfollowed := true, recurses := true, plainKeys := false, apart := false, narrowed := true }
def CollateSpecUptoSaid : Prop := collateSpecUptoRow.holds Try.pinned (OpenSpec.upto collateSpecSpec)

/-- 'kinespherelaw41.CollateCodeSpec', WHERE WHAT IT READS IS OF BULK AT MOST 1048576: true; the input reads as it did. -/
def collateCodeSpecUptoRow : OpenClaim := { program := "ytobiefdkpiognaa", sum := "3a46a0d6124bfc241f5a0b47e077e23bc266bec153b482dc828bfe0bbb642d7f", func := "kinesphere/kinespherelaw41.CollateCodeSpec", spec := "collateCodeSpec", unfollowed := true, recurses := true, plainKeys := false, apart := false, narrowed := true }
def CollateCodeSpecUptoSaid : Prop := collateCodeSpecUptoRow.holds Try.pinned (OpenSpec.upto collateCodeSpecSpec)

/-- 'kinespherelaw41.CollatePairSpec', WHERE WHAT IT READS IS OF BULK AT MOST 1048576: true; the input reads as it did. -/
def collatePairSpecUptoRow : OpenClaim := { program := "ytobiefdkpiognaa", sum := "3a46a0d6124bfc241f5a0b47e077e23bc266bec153b482dc828bfe0bbb642d7f", func := "kinesphere/kinespherelaw41.CollatePairSpec", spec := "collatePairSpec", unfollowed := true, recurses := true, plainKeys := false, apart := false, narrowed := true }
def CollatePairSpecUptoSaid : Prop := collatePairSpecUptoRow.holds Try.pinned (OpenSpec.upto collatePairSpecSpec)

/-- 'kinespherelaw41.CollateLeast', WHERE WHAT IT READS IS OF BULK AT MOST 1048576: true; the input reads as it did. -/
def collateLeastUptoRow : OpenClaim := { program := "ytobiefdkpiognaa", sum := "3a46a0d6124bfc241f5a0b47e077e23bc266bec153b482dc828bfe0bbb642d7f", func := "kinesphere/kinespherelaw41.CollateLeast", spec := "collateLeast", unfollowed := true, recurses := true, plainKeys := false, apart := false, narrowed := true }
def CollateLeastUptoSaid : Prop := collateLeastUptoRow.holds Try.pinned (OpenSpec.upto collateLeastSpec)

/-- 'kinespherelaw41.CollateMetric', WHERE WHAT IT READS IS OF BULK AT MOST 1048576: true; the input reads as it did. -/
def collateMetricUptoRow : OpenClaim := { program := "ytobiefdkpiognaa", sum := "3a46a0d6124bfc241f5a0b47e077e23bc266bec153b482dc828bfe0bbb642d7f", func := "kinesphere/kinespherelaw41.CollateMetric", spec := "collateMetric", unfollowed := true, recurses := true, plainKeys := false, apart := false, narrowed := true }
def CollateMetricUptoSaid : Prop := collateMetricUptoRow.holds Try.pinned (OpenSpec.upto collateMetricSpec)

/-- 'kinespherelaw41.CollateBegin', WHERE WHAT IT READS IS OF BULK AT MOST 1048576: true; the input reads as it did. -/
def collateBeginUptoRow : OpenClaim := { program := "ytobiefdkpiognaa", sum := "3a46a0d6124bfc241f5a0b47e077e23bc266bec153b482dc828bfe0bbb642d7f", func := "kinesphere/kinespherelaw41.CollateBegin", spec := "collateBegin", unfollowed := true, recurses := true, plainKeys := false, apart := false, narrowed := true }
def CollateBeginUptoSaid : Prop := collateBeginUptoRow.holds Try.pinned (OpenSpec.upto collateBeginSpec)

/-- 'kinespherelaw41.CollateRows', WHERE WHAT IT READS IS OF BULK AT MOST 1048576: true; the input reads as it did. -/
def collateRowsUptoRow : OpenClaim := { program := "ytobiefdkpiognaa", sum := "3a46a0d6124bfc241f5a0b47e077e23bc266bec153b482dc828bfe0bbb642d7f", func := "kinesphere/kinespherelaw41.CollateRows", spec := "collateRows", unfollowed := true, recurses := true, plainKeys := false, apart := false, narrowed := true }
def CollateRowsUptoSaid : Prop := collateRowsUptoRow.holds Try.pinned (OpenSpec.upto collateRowsSpec)

/-- 'kinespherelaw41.CollateCodes', WHERE WHAT IT READS IS OF BULK AT MOST 1048576: true; the input reads as it did. -/
def collateCodesUptoRow : OpenClaim := { program := "ytobiefdkpiognaa", sum := "3a46a0d6124bfc241f5a0b47e077e23bc266bec153b482dc828bfe0bbb642d7f", func := "kinesphere/kinespherelaw41.CollateCodes", spec := "collateCodes", unfollowed := true, recurses := true, plainKeys := false, apart := false, narrowed := true }
def CollateCodesUptoSaid : Prop := collateCodesUptoRow.holds Try.pinned (OpenSpec.upto collateCodesSpec)

end Rows
end Go.Proofs.Ytobiefdkpiognaa

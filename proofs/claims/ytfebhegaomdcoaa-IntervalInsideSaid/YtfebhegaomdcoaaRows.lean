/-
  No cell of these rows narrows 'for every input' (looked for: loops, veiled, ifaces, maps, wideKeys, modest, calm, conditions, laid).
  DERIVED. THE GIVEN ROWS OF THIS SEAT. 9 by the template 'for every input the law returns true; each argument reads behind the call as it read before'; 0 by the template 'total and deterministic' (their statements: YtfebhegaomdcoaaTotals.lean).
  GIVEN WITH THE SEED: the statements are not yours to turn. If you find one false, say at which input.
  Laid BY PROGRAM, IN A SANDBOX (cutbox-rows.mjs): the forced cells as the released guide's own fill.sh prints them over the translation 267071f364c00364… (all of the seat's roots in one cut). By AI agents, Wed Nov 11 2026. No macro, syntax, notation, axiom, sorry.
-/
import Derived.Test.YtfebhegaomdcoaaChecked
import GoSem.Claim
import GoSem.ClaimJoined
import GoSem.ClaimMapViews
import Derived.JoinedTies
import Derived.KernelRfl
namespace Go.Proofs.Ytfebhegaomdcoaa
/- THE CELL 'sum', in the pinned program and in every row, IS THE sha256 OF THE DUMP (.gsa) THAT YtfebhegaomdcoaaProg.lean LOADS. Nothing in Lean hashes anything: it is a label: what it is worth is what the hold of that sum in a sandbox is worth. -/
noncomputable def Try.pinned : Pinned := { name := "ytfebhegaomdcoaa", sum := "267071f364c00364d2dba67840349a5cf2a42e756783c4c2ec73e211dd6fca50", checked := Try.checked }
namespace Rows
def none {H : Type} : Left H := { results := [], args := [] }

/-- 'kinespherelaw21.IntervalSpec': WHATEVER THE INPUT: true; the input reads as it did. -/
def intervalSpecSpec : ChangeSpec := { name := "intervalSpec", fn := fun _ => fun
  | [d1, d2] => { results := [.lit (.bool true)], args := [d1, d2] }
  | _ => none }
def intervalSpecRow : OpenClaim := { program := "ytfebhegaomdcoaa", sum := "267071f364c00364d2dba67840349a5cf2a42e756783c4c2ec73e211dd6fca50", func := "kinesphere/kinespherelaw21.IntervalSpec", spec := "intervalSpec", unfollowed := true, recurses := true, named := ["math/bits.divideError", "math/bits.overflowError"], apart := false }
def IntervalSpecSaid : Prop := intervalSpecRow.holds Try.pinned (OpenSpec.ofChange intervalSpecSpec)

/-- ITS FALSE NEIGHBOUR: 'it returns false'. Refute it at one input. -/
def intervalSpecWrong : ChangeSpec := { name := "intervalSpec", fn := fun _ => fun
  | [d1, d2] => { results := [.lit (.bool false)], args := [d1, d2] }
  | _ => none }
def IntervalSpecWrongFalsely : Prop := intervalSpecRow.holds Try.pinned (OpenSpec.ofChange intervalSpecWrong)

/-- 'kinespherelaw21.IntervalRootSpec': WHATEVER THE INPUT: true; the input reads as it did. -/
def intervalRootSpecSpec : ChangeSpec := { name := "intervalRootSpec", fn := fun _ => fun
  | [d1, d2] => { results := [.lit (.bool true)], args := [d1, d2] }
  | _ => none }
def intervalRootSpecRow : OpenClaim := { program := "ytfebhegaomdcoaa", sum := "267071f364c00364d2dba67840349a5cf2a42e756783c4c2ec73e211dd6fca50", func := "kinesphere/kinespherelaw21.IntervalRootSpec", spec := "intervalRootSpec", unfollowed := true, recurses := true, named := ["math/bits.divideError", "math/bits.overflowError"], apart := false }
def IntervalRootSpecSaid : Prop := intervalRootSpecRow.holds Try.pinned (OpenSpec.ofChange intervalRootSpecSpec)

/-- ITS FALSE NEIGHBOUR: 'it returns false'. Refute it at one input. -/
def intervalRootSpecWrong : ChangeSpec := { name := "intervalRootSpec", fn := fun _ => fun
  | [d1, d2] => { results := [.lit (.bool false)], args := [d1, d2] }
  | _ => none }
def IntervalRootSpecWrongFalsely : Prop := intervalRootSpecRow.holds Try.pinned (OpenSpec.ofChange intervalRootSpecWrong)

/-- 'kinespherelaw21.IntervalMeetSpec': WHATEVER THE INPUT: true; the input reads as it did. -/
def intervalMeetSpecSpec : ChangeSpec := { name := "intervalMeetSpec", fn := fun _ => fun
  | [d1, d2] => { results := [.lit (.bool true)], args := [d1, d2] }
  | _ => none }
def intervalMeetSpecRow : OpenClaim := { program := "ytfebhegaomdcoaa", sum := "267071f364c00364d2dba67840349a5cf2a42e756783c4c2ec73e211dd6fca50", func := "kinesphere/kinespherelaw21.IntervalMeetSpec", spec := "intervalMeetSpec", unfollowed := true, recurses := true, named := ["math/bits.divideError", "math/bits.overflowError"], apart := false }
def IntervalMeetSpecSaid : Prop := intervalMeetSpecRow.holds Try.pinned (OpenSpec.ofChange intervalMeetSpecSpec)

/-- ITS FALSE NEIGHBOUR: 'it returns false'. Refute it at one input. -/
def intervalMeetSpecWrong : ChangeSpec := { name := "intervalMeetSpec", fn := fun _ => fun
  | [d1, d2] => { results := [.lit (.bool false)], args := [d1, d2] }
  | _ => none }
def IntervalMeetSpecWrongFalsely : Prop := intervalMeetSpecRow.holds Try.pinned (OpenSpec.ofChange intervalMeetSpecWrong)

/-- 'kinespherelaw21.IntervalEncloses': WHATEVER THE INPUT: true; the input reads as it did. -/
def intervalEnclosesSpec : ChangeSpec := { name := "intervalEncloses", fn := fun _ => fun
  | [d1, d2, d3, d4] => { results := [.lit (.bool true)], args := [d1, d2, d3, d4] }
  | _ => none }
def intervalEnclosesRow : OpenClaim := { program := "ytfebhegaomdcoaa", sum := "267071f364c00364d2dba67840349a5cf2a42e756783c4c2ec73e211dd6fca50", func := "kinesphere/kinespherelaw21.IntervalEncloses", spec := "intervalEncloses", unfollowed := true, recurses := true, named := ["math/bits.divideError", "math/bits.overflowError"], apart := false }
def IntervalEnclosesSaid : Prop := intervalEnclosesRow.holds Try.pinned (OpenSpec.ofChange intervalEnclosesSpec)

/-- ITS FALSE NEIGHBOUR: 'it returns false'. Refute it at one input. -/
def intervalEnclosesWrong : ChangeSpec := { name := "intervalEncloses", fn := fun _ => fun
  | [d1, d2, d3, d4] => { results := [.lit (.bool false)], args := [d1, d2, d3, d4] }
  | _ => none }
def IntervalEnclosesWrongFalsely : Prop := intervalEnclosesRow.holds Try.pinned (OpenSpec.ofChange intervalEnclosesWrong)

/-- 'kinespherelaw21.IntervalRoots': WHATEVER THE INPUT: true; the input reads as it did. -/
def intervalRootsSpec : ChangeSpec := { name := "intervalRoots", fn := fun _ => fun
  | [d1, d2] => { results := [.lit (.bool true)], args := [d1, d2] }
  | _ => none }
def intervalRootsRow : OpenClaim := { program := "ytfebhegaomdcoaa", sum := "267071f364c00364d2dba67840349a5cf2a42e756783c4c2ec73e211dd6fca50", func := "kinesphere/kinespherelaw21.IntervalRoots", spec := "intervalRoots", unfollowed := true, recurses := true, named := ["math/bits.divideError", "math/bits.overflowError"], apart := false }
def IntervalRootsSaid : Prop := intervalRootsRow.holds Try.pinned (OpenSpec.ofChange intervalRootsSpec)

/-- ITS FALSE NEIGHBOUR: 'it returns false'. Refute it at one input. -/
def intervalRootsWrong : ChangeSpec := { name := "intervalRoots", fn := fun _ => fun
  | [d1, d2] => { results := [.lit (.bool false)], args := [d1, d2] }
  | _ => none }
def IntervalRootsWrongFalsely : Prop := intervalRootsRow.holds Try.pinned (OpenSpec.ofChange intervalRootsWrong)

/-- 'kinespherelaw21.IntervalScaled': WHATEVER THE INPUT: true; the input reads as it did. -/
def intervalScaledSpec : ChangeSpec := { name := "intervalScaled", fn := fun _ => fun
  | [d1, d2] => { results := [.lit (.bool true)], args := [d1, d2] }
  | _ => none }
def intervalScaledRow : OpenClaim := { program := "ytfebhegaomdcoaa", sum := "267071f364c00364d2dba67840349a5cf2a42e756783c4c2ec73e211dd6fca50", func := "kinesphere/kinespherelaw21.IntervalScaled", spec := "intervalScaled", unfollowed := true, recurses := true, named := ["math/bits.divideError", "math/bits.overflowError"], apart := false }
def IntervalScaledSaid : Prop := intervalScaledRow.holds Try.pinned (OpenSpec.ofChange intervalScaledSpec)

/-- ITS FALSE NEIGHBOUR: 'it returns false'. Refute it at one input. -/
def intervalScaledWrong : ChangeSpec := { name := "intervalScaled", fn := fun _ => fun
  | [d1, d2] => { results := [.lit (.bool false)], args := [d1, d2] }
  | _ => none }
def IntervalScaledWrongFalsely : Prop := intervalScaledRow.holds Try.pinned (OpenSpec.ofChange intervalScaledWrong)

/-- 'kinespherelaw21.IntervalInside': WHATEVER THE INPUT: true; the input reads as it did. -/
def intervalInsideSpec : ChangeSpec := { name := "intervalInside", fn := fun _ => fun
  | [d1, d2, d3, d4, d5] => { results := [.lit (.bool true)], args := [d1, d2, d3, d4, d5] }
  | _ => none }
def intervalInsideRow : OpenClaim := { program := "ytfebhegaomdcoaa", sum := "267071f364c00364d2dba67840349a5cf2a42e756783c4c2ec73e211dd6fca50", func := "kinesphere/kinespherelaw21.IntervalInside", spec := "intervalInside", unfollowed := true, recurses := true, named := ["math/bits.divideError", "math/bits.overflowError"], apart := false }
def IntervalInsideSaid : Prop := intervalInsideRow.holds Try.pinned (OpenSpec.ofChange intervalInsideSpec)

/-- ITS FALSE NEIGHBOUR: 'it returns false'. Refute it at one input. -/
def intervalInsideWrong : ChangeSpec := { name := "intervalInside", fn := fun _ => fun
  | [d1, d2, d3, d4, d5] => { results := [.lit (.bool false)], args := [d1, d2, d3, d4, d5] }
  | _ => none }
def IntervalInsideWrongFalsely : Prop := intervalInsideRow.holds Try.pinned (OpenSpec.ofChange intervalInsideWrong)

/-- 'kinespherelaw21.IntervalLaws': WHATEVER THE INPUT: true; the input reads as it did. -/
def intervalLawsSpec : ChangeSpec := { name := "intervalLaws", fn := fun _ => fun
  | [d1, d2, d3] => { results := [.lit (.bool true)], args := [d1, d2, d3] }
  | _ => none }
def intervalLawsRow : OpenClaim := { program := "ytfebhegaomdcoaa", sum := "267071f364c00364d2dba67840349a5cf2a42e756783c4c2ec73e211dd6fca50", func := "kinesphere/kinespherelaw21.IntervalLaws", spec := "intervalLaws", unfollowed := true, recurses := true, named := ["math/bits.divideError", "math/bits.overflowError"], apart := false }
def IntervalLawsSaid : Prop := intervalLawsRow.holds Try.pinned (OpenSpec.ofChange intervalLawsSpec)

/-- ITS FALSE NEIGHBOUR: 'it returns false'. Refute it at one input. -/
def intervalLawsWrong : ChangeSpec := { name := "intervalLaws", fn := fun _ => fun
  | [d1, d2, d3] => { results := [.lit (.bool false)], args := [d1, d2, d3] }
  | _ => none }
def IntervalLawsWrongFalsely : Prop := intervalLawsRow.holds Try.pinned (OpenSpec.ofChange intervalLawsWrong)

/-- 'kinespherelaw21.IntervalLattice': WHATEVER THE INPUT: true; the input reads as it did. -/
def intervalLatticeSpec : ChangeSpec := { name := "intervalLattice", fn := fun _ => fun
  | [d1, d2, d3, d4] => { results := [.lit (.bool true)], args := [d1, d2, d3, d4] }
  | _ => none }
def intervalLatticeRow : OpenClaim := { program := "ytfebhegaomdcoaa", sum := "267071f364c00364d2dba67840349a5cf2a42e756783c4c2ec73e211dd6fca50", func := "kinesphere/kinespherelaw21.IntervalLattice", spec := "intervalLattice", unfollowed := true, recurses := true, named := ["math/bits.divideError", "math/bits.overflowError"], apart := false }
def IntervalLatticeSaid : Prop := intervalLatticeRow.holds Try.pinned (OpenSpec.ofChange intervalLatticeSpec)

/-- ITS FALSE NEIGHBOUR: 'it returns false'. Refute it at one input. -/
def intervalLatticeWrong : ChangeSpec := { name := "intervalLattice", fn := fun _ => fun
  | [d1, d2, d3, d4] => { results := [.lit (.bool false)], args := [d1, d2, d3, d4] }
  | _ => none }
def IntervalLatticeWrongFalsely : Prop := intervalLatticeRow.holds Try.pinned (OpenSpec.ofChange intervalLatticeWrong)

/- THE SECOND FORM. 'bulk': how many values and letters a reading holds, each counted each time it is reached (what is shared counts as often as it is met; a slice's spare places count too). A statement '..UptoSaid' is the law's where the arguments, and the package variables that the reading takes, are together of bulk at most 1048576: NARROWER than '..Said'. Prove '..Said' where nothing that the law and all that it calls make is longer than what came in: it says more and counts as full. Else prove '..UptoSaid'. A law counts once. -/
mutual
def uptoBulk {H : Type} : DataW H → Nat
  | .lit (.string bytes) => bytes.length + 1
  | .lit _ => 1
  | .nil => 1
  | .ptr d => uptoBulk d + 1
  | .slice elems spare => uptoBulkAll elems + uptoBulkAll spare + 1
  | .agg parts => uptoBulkAll parts + 1
  | .iface _ d => uptoBulk d + 1
  | .map entries => uptoBulkEntries entries + 1
  | .held _ => 1
def uptoBulkAll {H : Type} : List (DataW H) → Nat
  | [] => 0
  | d :: r => uptoBulk d + uptoBulkAll r
def uptoBulkEntries {H : Type} : List (Lit × DataW H) → Nat
  | [] => 0
  | x :: r => uptoBulkEntry x + uptoBulkEntries r
def uptoBulkEntry {H : Type} : Lit × DataW H → Nat
  | (.string bytes, d) => bytes.length + uptoBulk d + 1
  | (_, d) => uptoBulk d + 1
 end
def uptoSmall : (H : Type) → List (DataW H) → Bool := fun _ ds => decide (uptoBulkAll ds ≤ 1048576)
def OpenSpec.upto (s : _root_.Go.ChangeSpec) : _root_.Go.OpenSpec := { _root_.Go.OpenSpec.ofChange s with cond := some uptoSmall }

/-- 'kinespherelaw21.IntervalSpec', WHERE WHAT IT READS IS OF BULK AT MOST 1048576: true; the input reads as it did. -/
def intervalSpecUptoRow : OpenClaim := { program := "ytfebhegaomdcoaa", sum := "267071f364c00364d2dba67840349a5cf2a42e756783c4c2ec73e211dd6fca50", func := "kinesphere/kinespherelaw21.IntervalSpec", spec := "intervalSpec", unfollowed := true, recurses := true, named := ["math/bits.divideError", "math/bits.overflowError"], apart := false, narrowed := true }
def IntervalSpecUptoSaid : Prop := intervalSpecUptoRow.holds Try.pinned (OpenSpec.upto intervalSpecSpec)

/-- 'kinespherelaw21.IntervalRootSpec', WHERE WHAT IT READS IS OF BULK AT MOST 1048576: true; the input reads as it did. -/
def intervalRootSpecUptoRow : OpenClaim := { program := "ytfebhegaomdcoaa", sum := "267071f364c00364d2dba67840349a5cf2a42e756783c4c2ec73e211dd6fca50", func := "kinesphere/kinespherelaw21.IntervalRootSpec", spec := "intervalRootSpec", unfollowed := true, recurses := true, named := ["math/bits.divideError", "math/bits.overflowError"], apart := false, narrowed := true }
def IntervalRootSpecUptoSaid : Prop := intervalRootSpecUptoRow.holds Try.pinned (OpenSpec.upto intervalRootSpecSpec)

/-- 'kinespherelaw21.IntervalMeetSpec', WHERE WHAT IT READS IS OF BULK AT MOST 1048576: true; the input reads as it did. -/
def intervalMeetSpecUptoRow : OpenClaim := { program := "ytfebhegaomdcoaa", sum := "267071f364c00364d2dba67840349a5cf2a42e756783c4c2ec73e211dd6fca50", func := "kinesphere/kinespherelaw21.IntervalMeetSpec", spec := "intervalMeetSpec", unfollowed := true, recurses := true, named := ["math/bits.divideError", "math/bits.overflowError"], apart := false, narrowed := true }
def IntervalMeetSpecUptoSaid : Prop := intervalMeetSpecUptoRow.holds Try.pinned (OpenSpec.upto intervalMeetSpecSpec)

/-- 'kinespherelaw21.IntervalEncloses', WHERE WHAT IT READS IS OF BULK AT MOST 1048576: true; the input reads as it did. -/
def intervalEnclosesUptoRow : OpenClaim := { program := "ytfebhegaomdcoaa", sum := "267071f364c00364d2dba67840349a5cf2a42e756783c4c2ec73e211dd6fca50", func := "kinesphere/kinespherelaw21.IntervalEncloses", spec := "intervalEncloses", unfollowed := true, recurses := true, named := ["math/bits.divideError", "math/bits.overflowError"], apart := false, narrowed := true }
def IntervalEnclosesUptoSaid : Prop := intervalEnclosesUptoRow.holds Try.pinned (OpenSpec.upto intervalEnclosesSpec)

/-- 'kinespherelaw21.IntervalRoots', WHERE WHAT IT READS IS OF BULK AT MOST 1048576: true; the input reads as it did. -/
def intervalRootsUptoRow : OpenClaim := { program := "ytfebhegaomdcoaa", sum := "267071f364c00364d2dba67840349a5cf2a42e756783c4c2ec73e211dd6fca50", func := "kinesphere/kinespherelaw21.IntervalRoots", spec := "intervalRoots", unfollowed := true, recurses := true, named := ["math/bits.divideError", "math/bits.overflowError"], apart := false, narrowed := true }
def IntervalRootsUptoSaid : Prop := intervalRootsUptoRow.holds Try.pinned (OpenSpec.upto intervalRootsSpec)

/-- 'kinespherelaw21.IntervalScaled', WHERE WHAT IT READS IS OF BULK AT MOST 1048576: true; the input reads as it did. -/
def intervalScaledUptoRow : OpenClaim := { program := "ytfebhegaomdcoaa", sum := "267071f364c00364d2dba67840349a5cf2a42e756783c4c2ec73e211dd6fca50", func := "kinesphere/kinespherelaw21.IntervalScaled", spec := "intervalScaled", unfollowed := true, recurses := true, named := ["math/bits.divideError", "math/bits.overflowError"], apart := false, narrowed := true }
def IntervalScaledUptoSaid : Prop := intervalScaledUptoRow.holds Try.pinned (OpenSpec.upto intervalScaledSpec)

/-- 'kinespherelaw21.IntervalInside', WHERE WHAT IT READS IS OF BULK AT MOST 1048576: true; the input reads as it did. -/
def intervalInsideUptoRow : OpenClaim := { program := "ytfebhegaomdcoaa", sum := "267071f364c00364d2dba67840349a5cf2a42e756783c4c2ec73e211dd6fca50", func := "kinesphere/kinespherelaw21.IntervalInside", spec := "intervalInside", unfollowed := true, recurses := true, named := ["math/bits.divideError", "math/bits.overflowError"], apart := false, narrowed := true }
def IntervalInsideUptoSaid : Prop := intervalInsideUptoRow.holds Try.pinned (OpenSpec.upto intervalInsideSpec)

/-- 'kinespherelaw21.IntervalLaws', WHERE WHAT IT READS IS OF BULK AT MOST 1048576: true; the input reads as it did. -/
def intervalLawsUptoRow : OpenClaim := { program := "ytfebhegaomdcoaa", sum := "267071f364c00364d2dba67840349a5cf2a42e756783c4c2ec73e211dd6fca50", func := "kinesphere/kinespherelaw21.IntervalLaws", spec := "intervalLaws", unfollowed := true, recurses := true, named := ["math/bits.divideError", "math/bits.overflowError"], apart := false, narrowed := true }
def IntervalLawsUptoSaid : Prop := intervalLawsUptoRow.holds Try.pinned (OpenSpec.upto intervalLawsSpec)

/-- 'kinespherelaw21.IntervalLattice', WHERE WHAT IT READS IS OF BULK AT MOST 1048576: true; the input reads as it did. -/
def intervalLatticeUptoRow : OpenClaim := { program := "ytfebhegaomdcoaa", sum := "267071f364c00364d2dba67840349a5cf2a42e756783c4c2ec73e211dd6fca50", func := "kinesphere/kinespherelaw21.IntervalLattice", spec := "intervalLattice", unfollowed := true, recurses := true, named := ["math/bits.divideError", "math/bits.overflowError"], apart := false, narrowed := true }
def IntervalLatticeUptoSaid : Prop := intervalLatticeUptoRow.holds Try.pinned (OpenSpec.upto intervalLatticeSpec)

end Rows
end Go.Proofs.Ytfebhegaomdcoaa

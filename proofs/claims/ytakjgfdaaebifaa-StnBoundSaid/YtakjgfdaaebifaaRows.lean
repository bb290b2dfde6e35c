/-
  No cell of these rows narrows 'for every input' (looked for: loops, veiled, ifaces, maps, wideKeys, modest, calm, conditions, laid).
  DERIVED. THE GIVEN ROWS OF THIS SEAT. 7 by the template 'for every input the law returns true; each argument reads behind the call as it read before'; 0 by the template 'total and deterministic' (their statements: YtakjgfdaaebifaaTotals.lean).
  GIVEN WITH THE SEED: the statements are not yours to turn. If you find one false, say at which input.
  Laid BY PROGRAM, IN A SANDBOX (cutbox-rows.mjs): the forced cells as the released guide's own fill.sh prints them over the translation 0721e5d28d3cac12… (all of the seat's roots in one cut). By AI agents, Wed Nov 11 2026. No macro, syntax, notation, axiom, sorry.
-/
import Derived.Test.YtakjgfdaaebifaaChecked
import GoSem.Claim
import GoSem.ClaimJoined
import GoSem.ClaimMapViews
import Derived.JoinedTies
import Derived.KernelRfl
namespace Go.Proofs.Ytakjgfdaaebifaa
/- THE CELL 'sum', in the pinned program and in every row, IS THE sha256 OF THE DUMP (.gsa) THAT YtakjgfdaaebifaaProg.lean LOADS. Nothing in Lean hashes anything: it is a label: what it is worth is what the hold of that sum in a sandbox is worth. -/
noncomputable def Try.pinned : Pinned := { name := "ytakjgfdaaebifaa", sum := "0721e5d28d3cac121660f1a1dc5fc8843f2923e25bc4b9a6d935bb14426f75cc", checked := Try.checked }
namespace Rows
def none {H : Type} : Left H := { results := [], args := [] }

/-- 'kinespherelaw22.StnSpec': WHATEVER THE INPUT: true; the input reads as it did. -/
def stnSpecSpec : ChangeSpec := { name := "stnSpec", fn := fun _ => fun
  | [d1, d2, d3] => { results := [.lit (.bool true)], args := [d1, d2, d3] }
  | _ => none }
def stnSpecRow : OpenClaim := { program := "ytakjgfdaaebifaa", sum := "0721e5d28d3cac121660f1a1dc5fc8843f2923e25bc4b9a6d935bb14426f75cc", func := "kinesphere/kinespherelaw22.StnSpec", spec := "stnSpec", unfollowed := true, recurses := true, plainKeys := false, apart := false }
def StnSpecSaid : Prop := stnSpecRow.holds Try.pinned (OpenSpec.ofChange stnSpecSpec)

/-- ITS FALSE NEIGHBOUR: 'it returns false'. Refute it at one input. -/
def stnSpecWrong : ChangeSpec := { name := "stnSpec", fn := fun _ => fun
  | [d1, d2, d3] => { results := [.lit (.bool false)], args := [d1, d2, d3] }
  | _ => none }
def StnSpecWrongFalsely : Prop := stnSpecRow.holds Try.pinned (OpenSpec.ofChange stnSpecWrong)

/-- 'kinespherelaw22.StnEarliestSpec': WHATEVER THE INPUT: true; the input reads as it did. -/
def stnEarliestSpecSpec : ChangeSpec := { name := "stnEarliestSpec", fn := fun _ => fun
  | [d1, d2, d3] => { results := [.lit (.bool true)], args := [d1, d2, d3] }
  | _ => none }
def stnEarliestSpecRow : OpenClaim := { program := "ytakjgfdaaebifaa", sum := "0721e5d28d3cac121660f1a1dc5fc8843f2923e25bc4b9a6d935bb14426f75cc", func := "kinesphere/kinespherelaw22.StnEarliestSpec", spec := "stnEarliestSpec", unfollowed := true, recurses := true, plainKeys := false, apart := false }
def StnEarliestSpecSaid : Prop := stnEarliestSpecRow.holds Try.pinned (OpenSpec.ofChange stnEarliestSpecSpec)

/-- ITS FALSE NEIGHBOUR: 'it returns false'. Refute it at one input. -/
def stnEarliestSpecWrong : ChangeSpec := { name := "stnEarliestSpec", fn := fun _ => fun
  | [d1, d2, d3] => { results := [.lit (.bool false)], args := [d1, d2, d3] }
  | _ => none }
def StnEarliestSpecWrongFalsely : Prop := stnEarliestSpecRow.holds Try.pinned (OpenSpec.ofChange stnEarliestSpecWrong)

/-- 'kinespherelaw22.StnEither': WHATEVER THE INPUT: true; the input reads as it did. -/
def stnEitherSpec : ChangeSpec := { name := "stnEither", fn := fun _ => fun
  | [d1, d2] => { results := [.lit (.bool true)], args := [d1, d2] }
  | _ => none }
def stnEitherRow : OpenClaim := { program := "ytakjgfdaaebifaa", sum := "0721e5d28d3cac121660f1a1dc5fc8843f2923e25bc4b9a6d935bb14426f75cc", func := "kinesphere/kinespherelaw22.StnEither", spec := "stnEither", unfollowed := true, recurses := true, plainKeys := false, apart := false }
def StnEitherSaid : Prop := stnEitherRow.holds Try.pinned (OpenSpec.ofChange stnEitherSpec)

/-- ITS FALSE NEIGHBOUR: 'it returns false'. Refute it at one input. -/
def stnEitherWrong : ChangeSpec := { name := "stnEither", fn := fun _ => fun
  | [d1, d2] => { results := [.lit (.bool false)], args := [d1, d2] }
  | _ => none }
def StnEitherWrongFalsely : Prop := stnEitherRow.holds Try.pinned (OpenSpec.ofChange stnEitherWrong)

/-- 'kinespherelaw22.StnSound': WHATEVER THE INPUT: true; the input reads as it did. -/
def stnSoundSpec : ChangeSpec := { name := "stnSound", fn := fun _ => fun
  | [d1, d2, d3] => { results := [.lit (.bool true)], args := [d1, d2, d3] }
  | _ => none }
def stnSoundRow : OpenClaim := { program := "ytakjgfdaaebifaa", sum := "0721e5d28d3cac121660f1a1dc5fc8843f2923e25bc4b9a6d935bb14426f75cc", func := "kinesphere/kinespherelaw22.StnSound", spec := "stnSound", unfollowed := true, recurses := true, plainKeys := false, apart := false }
def StnSoundSaid : Prop := stnSoundRow.holds Try.pinned (OpenSpec.ofChange stnSoundSpec)

/-- ITS FALSE NEIGHBOUR: 'it returns false'. Refute it at one input. -/
def stnSoundWrong : ChangeSpec := { name := "stnSound", fn := fun _ => fun
  | [d1, d2, d3] => { results := [.lit (.bool false)], args := [d1, d2, d3] }
  | _ => none }
def StnSoundWrongFalsely : Prop := stnSoundRow.holds Try.pinned (OpenSpec.ofChange stnSoundWrong)

/-- 'kinespherelaw22.StnBound': WHATEVER THE INPUT: true; the input reads as it did. -/
def stnBoundSpec : ChangeSpec := { name := "stnBound", fn := fun _ => fun
  | [d1, d2, d3, d4, d5] => { results := [.lit (.bool true)], args := [d1, d2, d3, d4, d5] }
  | _ => none }
def stnBoundRow : OpenClaim := { program := "ytakjgfdaaebifaa", sum := "0721e5d28d3cac121660f1a1dc5fc8843f2923e25bc4b9a6d935bb14426f75cc", func := "kinesphere/kinespherelaw22.StnBound", spec := "stnBound", unfollowed := true, recurses := true, plainKeys := false, apart := false }
def StnBoundSaid : Prop := stnBoundRow.holds Try.pinned (OpenSpec.ofChange stnBoundSpec)

/-- ITS FALSE NEIGHBOUR: 'it returns false'. Refute it at one input. -/
def stnBoundWrong : ChangeSpec := { name := "stnBound", fn := fun _ => fun
  | [d1, d2, d3, d4, d5] => { results := [.lit (.bool false)], args := [d1, d2, d3, d4, d5] }
  | _ => none }
def StnBoundWrongFalsely : Prop := stnBoundRow.holds Try.pinned (OpenSpec.ofChange stnBoundWrong)

/-- 'kinespherelaw22.StnTighter': WHATEVER THE INPUT: true; the input reads as it did. -/
def stnTighterSpec : ChangeSpec := { name := "stnTighter", fn := fun _ => fun
  | [d1, d2, d3, d4] => { results := [.lit (.bool true)], args := [d1, d2, d3, d4] }
  | _ => none }
def stnTighterRow : OpenClaim := { program := "ytakjgfdaaebifaa", sum := "0721e5d28d3cac121660f1a1dc5fc8843f2923e25bc4b9a6d935bb14426f75cc", func := "kinesphere/kinespherelaw22.StnTighter", spec := "stnTighter", unfollowed := true, recurses := true, plainKeys := false, apart := false }
def StnTighterSaid : Prop := stnTighterRow.holds Try.pinned (OpenSpec.ofChange stnTighterSpec)

/-- ITS FALSE NEIGHBOUR: 'it returns false'. Refute it at one input. -/
def stnTighterWrong : ChangeSpec := { name := "stnTighter", fn := fun _ => fun
  | [d1, d2, d3, d4] => { results := [.lit (.bool false)], args := [d1, d2, d3, d4] }
  | _ => none }
def StnTighterWrongFalsely : Prop := stnTighterRow.holds Try.pinned (OpenSpec.ofChange stnTighterWrong)

/-- 'kinespherelaw22.StnRenamed': WHATEVER THE INPUT: true; the input reads as it did. -/
def stnRenamedSpec : ChangeSpec := { name := "stnRenamed", fn := fun _ => fun
  | [d1, d2] => { results := [.lit (.bool true)], args := [d1, d2] }
  | _ => none }
def stnRenamedRow : OpenClaim := { program := "ytakjgfdaaebifaa", sum := "0721e5d28d3cac121660f1a1dc5fc8843f2923e25bc4b9a6d935bb14426f75cc", func := "kinesphere/kinespherelaw22.StnRenamed", spec := "stnRenamed", unfollowed := true, recurses := true, plainKeys := false, apart := false }
def StnRenamedSaid : Prop := stnRenamedRow.holds Try.pinned (OpenSpec.ofChange stnRenamedSpec)

/-- ITS FALSE NEIGHBOUR: 'it returns false'. Refute it at one input. -/
def stnRenamedWrong : ChangeSpec := { name := "stnRenamed", fn := fun _ => fun
  | [d1, d2] => { results := [.lit (.bool false)], args := [d1, d2] }
  | _ => none }
def StnRenamedWrongFalsely : Prop := stnRenamedRow.holds Try.pinned (OpenSpec.ofChange stnRenamedWrong)

/- THE SECOND FORM. 'bulk': how many values and letters a reading holds, each counted each time it is reached (what is shared counts as often as it is met; a slice's spare places count too). A statement '..UptoSaid' is the law's where the arguments, and the package variables that the reading takes, are together of bulk at most 1048576: NARROWER than '..Said'. Prove '..Said' where nothing that the law and all that it calls make is longer than what came in: it says more and counts as full. Else prove '..UptoSaid'. A law counts once. -/
mutual
def uptoBulk {H : Type} : DataW H → Nat
  | .lit (.string bytes) => bytes.length + 1
  | .lit _ => 1
  | .nil => 1
  | .ptr d => uptoBulk d + 1
  | .slice elems spare => uptoBulkAll elems + uptoBulkAll spare + 1
  | .agg parts => uptoBulkAll parts + 1
  | .iface _ d => uptoBulk d + 1
  | .map entries => uptoBulkEntries entries + 1
  | .held _ => 1
def uptoBulkAll {H : Type} : List (DataW H) → Nat
  | [] => 0
  | d :: r => uptoBulk d + uptoBulkAll r
def uptoBulkEntries {H : Type} : List (Lit × DataW H) → Nat
  | [] => 0
  | x :: r => uptoBulkEntry x + uptoBulkEntries r
def uptoBulkEntry {H : Type} : Lit × DataW H → Nat
  | (.string bytes, d) => bytes.length + uptoBulk d + 1
  | (_, d) => uptoBulk d + 1
 end
def uptoSmall : (H : Type) → List (DataW H) → Bool := fun _ ds => decide (uptoBulkAll ds ≤ 1048576)
def OpenSpec.upto (s : _root_.Go.ChangeSpec) : _root_.Go.OpenSpec := { _root_.Go.OpenSpec.ofChange s with cond := some uptoSmall }

/-- 'kinespherelaw22.StnSpec', WHERE WHAT IT READS IS OF BULK AT MOST 1048576: true; the input reads as it did. -/
def stnSpecUptoRow : OpenClaim := { program := "ytakjgfdaaebifaa", sum := "0721e5d28d3cac121660f1a1dc5fc8843f2923e25bc4b9a6d935bb14426f75cc", func := "kinesphere/kinespherelaw22.StnSpec", spec := "stnSpec", unfollowed := true, recurses := true, plainKeys := false, apart := false, narrowed := true }
def StnSpecUptoSaid : Prop := stnSpecUptoRow.holds Try.pinned (OpenSpec.upto stnSpecSpec)

/-- 'kinespherelaw22.StnEarliestSpec', WHERE WHAT IT READS IS OF BULK AT MOST 1048576: true; the input reads as it did. -/
def stnEarliestSpecUptoRow : OpenClaim := { program := "ytakjgfdaaebifaa", sum := "0721e5d28d3cac121660f1a1dc5fc8843f2923e25bc4b9a6d935bb14426f75cc", func := "kinesphere/kinespherelaw22.StnEarliestSpec", spec := "stnEarliestSpec", unfollowed := true, recurses := true, plainKeys := false, apart := false, narrowed := true }
def StnEarliestSpecUptoSaid : Prop := stnEarliestSpecUptoRow.holds Try.pinned (OpenSpec.upto stnEarliestSpecSpec)

/-- 'kinespherelaw22.StnEither', WHERE WHAT IT READS IS OF BULK AT MOST 1048576: true; the input reads as it did. -/
def stnEitherUptoRow : OpenClaim := { program := "ytakjgfdaaebifaa", sum := "0721e5d28d3cac121660f1a1dc5fc8843f2923e25bc4b9a6d935bb14426f75cc", func := "kinesphere/kinespherelaw22.StnEither", spec := "stnEither", unfollowed := true, recurses := true, plainKeys := false, apart := false, narrowed := true }
def StnEitherUptoSaid : Prop := stnEitherUptoRow.holds Try.pinned (OpenSpec.upto stnEitherSpec)

/-- 'kinespherelaw22.StnSound', WHERE WHAT IT READS IS OF BULK AT MOST 1048576: true; the input reads as it did. -/
def stnSoundUptoRow : OpenClaim := { program := "ytakjgfdaaebifaa", sum := "0721e5d28d3cac121660f1a1dc5fc8843f2923e25bc4b9a6d935bb14426f75cc", func := "kinesphere/kinespherelaw22.StnSound", spec := "stnSound", unfollowed := true, recurses := true, plainKeys := false, apart := false, narrowed := true }
def StnSoundUptoSaid : Prop := stnSoundUptoRow.holds Try.pinned (OpenSpec.upto stnSoundSpec)

/-- 'kinespherelaw22.StnBound', WHERE WHAT IT READS IS OF BULK AT MOST 1048576: true; the input reads as it did. -/
def stnBoundUptoRow : OpenClaim := { program := "ytakjgfdaaebifaa", sum := "0721e5d28d3cac121660f1a1dc5fc8843f2923e25bc4b9a6d935bb14426f75cc", func := "kinesphere/kinespherelaw22.StnBound", spec := "stnBound", unfollowed := true, recurses := true, plainKeys := false, apart := false, narrowed := true }
def StnBoundUptoSaid : Prop := stnBoundUptoRow.holds Try.pinned (OpenSpec.upto stnBoundSpec)

/-- 'kinespherelaw22.StnTighter', WHERE WHAT IT READS IS OF BULK AT MOST 1048576: true; the input reads as it did. -/
def stnTighterUptoRow : OpenClaim := { program := "ytakjgfdaaebifaa", sum := "0721e5d28d3cac121660f1a1dc5fc8843f2923e25bc4b9a6d935bb14426f75cc", func := "kinesphere/kinespherelaw22.StnTighter", spec := "stnTighter", unfollowed := true, recurses := true, plainKeys := false, apart := false, narrowed := true }
def StnTighterUptoSaid : Prop := stnTighterUptoRow.holds Try.pinned (OpenSpec.upto stnTighterSpec)

/-- 'kinespherelaw22.StnRenamed', WHERE WHAT IT READS IS OF BULK AT MOST 1048576: true; the input reads as it did. -/
def stnRenamedUptoRow : OpenClaim := { program := "ytakjgfdaaebifaa", sum := "0721e5d28d3cac121660f1a1dc5fc8843f2923e25bc4b9a6d935bb14426f75cc", func := "kinesphere/kinespherelaw22.StnRenamed", spec := "stnRenamed", unfollowed := true, recurses := true, plainKeys := false, apart := false, narrowed := true }
def StnRenamedUptoSaid : Prop := stnRenamedUptoRow.holds Try.pinned (OpenSpec.upto stnRenamedSpec)

end Rows
end Go.Proofs.Ytakjgfdaaebifaa

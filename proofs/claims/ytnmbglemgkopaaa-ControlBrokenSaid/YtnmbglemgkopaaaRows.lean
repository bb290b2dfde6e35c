/-
  No cell of these rows narrows 'for every input' (looked for: loops, veiled, ifaces, maps, wideKeys, modest, calm, conditions, laid).
  DERIVED. THE GIVEN ROWS OF THIS SEAT. 9 by the template 'for every input the law returns true; each argument reads behind the call as it read before'; 0 by the template 'total and deterministic' (their statements: YtnmbglemgkopaaaTotals.lean).
  GIVEN WITH THE SEED: the statements are not yours to turn. If you find one false, say at which input.
  Laid BY PROGRAM, IN A SANDBOX (cutbox-rows.mjs): the forced cells as the released guide's own fill.sh prints them over the translation 47c9b633d45d8d04… (all of the seat's roots in one cut). By AI agents, Wed Nov 11 2026. No macro, syntax, notation, axiom, sorry.
-/
import Derived.Test.YtnmbglemgkopaaaChecked
import GoSem.Claim
import GoSem.ClaimJoined
import GoSem.ClaimMapViews
import Derived.JoinedTies
import Derived.KernelRfl
namespace Go.Proofs.Ytnmbglemgkopaaa
/- THE CELL 'sum', in the pinned program and in every row, IS THE sha256 OF THE DUMP (.gsa) THAT YtnmbglemgkopaaaProg.lean LOADS. Nothing in Lean hashes anything: it is a label: what it is worth is what the hold of that sum in a sandbox is worth. -/
noncomputable def Try.pinned : Pinned := { name := "ytnmbglemgkopaaa", sum := "47c9b633d45d8d04dfe7ec7d472ee23c9d5077e91dda00aff4cc2e382d076f6c", checked := Try.checked }
namespace Rows
def none {H : Type} : Left H := { results := [], args := [] }

/-- 'kinespherelaw23.ControlSpec': WHATEVER THE INPUT: true; the input reads as it did. -/
def controlSpecSpec : ChangeSpec := { name := "controlSpec", fn := fun _ => fun
  | [d1, d2] => { results := [.lit (.bool true)], args := [d1, d2] }
  | _ => none }
def controlSpecRow : OpenClaim := { program := "ytnmbglemgkopaaa", sum := "47c9b633d45d8d04dfe7ec7d472ee23c9d5077e91dda00aff4cc2e382d076f6c", func := "kinesphere/kinespherelaw23.ControlSpec", spec := "controlSpec", unfollowed := true, recurses := true, plainKeys := false, apart := false }
def ControlSpecSaid : Prop := controlSpecRow.holds Try.pinned (OpenSpec.ofChange controlSpecSpec)

/-- ITS FALSE NEIGHBOUR: 'it returns false'. Refute it at one input. -/
def controlSpecWrong : ChangeSpec := { name := "controlSpec", fn := fun _ => fun
  | [d1, d2] => { results := [.lit (.bool false)], args := [d1, d2] }
  | _ => none }
def ControlSpecWrongFalsely : Prop := controlSpecRow.holds Try.pinned (OpenSpec.ofChange controlSpecWrong)

/-- 'kinespherelaw23.ControlPlaySpec': WHATEVER THE INPUT: true; the input reads as it did. -/
def controlPlaySpecSpec : ChangeSpec := { name := "controlPlaySpec", fn := fun _ => fun
  | [d1, d2, d3] => { results := [.lit (.bool true)], args := [d1, d2, d3] }
  | _ => none }
def controlPlaySpecRow : OpenClaim := { program := "ytnmbglemgkopaaa", sum := "47c9b633d45d8d04dfe7ec7d472ee23c9d5077e91dda00aff4cc2e382d076f6c", func := "kinesphere/kinespherelaw23.ControlPlaySpec", spec := "controlPlaySpec", unfollowed := true, recurses := true, plainKeys := false, apart := false }
def ControlPlaySpecSaid : Prop := controlPlaySpecRow.holds Try.pinned (OpenSpec.ofChange controlPlaySpecSpec)

/-- ITS FALSE NEIGHBOUR: 'it returns false'. Refute it at one input. -/
def controlPlaySpecWrong : ChangeSpec := { name := "controlPlaySpec", fn := fun _ => fun
  | [d1, d2, d3] => { results := [.lit (.bool false)], args := [d1, d2, d3] }
  | _ => none }
def ControlPlaySpecWrongFalsely : Prop := controlPlaySpecRow.holds Try.pinned (OpenSpec.ofChange controlPlaySpecWrong)

/-- 'kinespherelaw23.ControlStrongSpec': WHATEVER THE INPUT: true; the input reads as it did. -/
def controlStrongSpecSpec : ChangeSpec := { name := "controlStrongSpec", fn := fun _ => fun
  | [d] => { results := [.lit (.bool true)], args := [d] }
  | _ => none }
def controlStrongSpecRow : OpenClaim := { program := "ytnmbglemgkopaaa", sum := "47c9b633d45d8d04dfe7ec7d472ee23c9d5077e91dda00aff4cc2e382d076f6c", func := "kinesphere/kinespherelaw23.ControlStrongSpec", spec := "controlStrongSpec", unfollowed := true, recurses := true, plainKeys := false, apart := false }
def ControlStrongSpecSaid : Prop := controlStrongSpecRow.holds Try.pinned (OpenSpec.ofChange controlStrongSpecSpec)

/-- ITS FALSE NEIGHBOUR: 'it returns false'. Refute it at one input. -/
def controlStrongSpecWrong : ChangeSpec := { name := "controlStrongSpec", fn := fun _ => fun
  | [d] => { results := [.lit (.bool false)], args := [d] }
  | _ => none }
def ControlStrongSpecWrongFalsely : Prop := controlStrongSpecRow.holds Try.pinned (OpenSpec.ofChange controlStrongSpecWrong)

/-- 'kinespherelaw23.ControlAcceptsSpec': WHATEVER THE INPUT: true; the input reads as it did. -/
def controlAcceptsSpecSpec : ChangeSpec := { name := "controlAcceptsSpec", fn := fun _ => fun
  | [d1, d2] => { results := [.lit (.bool true)], args := [d1, d2] }
  | _ => none }
def controlAcceptsSpecRow : OpenClaim := { program := "ytnmbglemgkopaaa", sum := "47c9b633d45d8d04dfe7ec7d472ee23c9d5077e91dda00aff4cc2e382d076f6c", func := "kinesphere/kinespherelaw23.ControlAcceptsSpec", spec := "controlAcceptsSpec", unfollowed := true, recurses := true, plainKeys := false, apart := false }
def ControlAcceptsSpecSaid : Prop := controlAcceptsSpecRow.holds Try.pinned (OpenSpec.ofChange controlAcceptsSpecSpec)

/-- ITS FALSE NEIGHBOUR: 'it returns false'. Refute it at one input. -/
def controlAcceptsSpecWrong : ChangeSpec := { name := "controlAcceptsSpec", fn := fun _ => fun
  | [d1, d2] => { results := [.lit (.bool false)], args := [d1, d2] }
  | _ => none }
def ControlAcceptsSpecWrongFalsely : Prop := controlAcceptsSpecRow.holds Try.pinned (OpenSpec.ofChange controlAcceptsSpecWrong)

/-- 'kinespherelaw23.ControlBroken': WHATEVER THE INPUT: true; the input reads as it did. -/
def controlBrokenSpec : ChangeSpec := { name := "controlBroken", fn := fun _ => fun
  | [d1, d2, d3] => { results := [.lit (.bool true)], args := [d1, d2, d3] }
  | _ => none }
def controlBrokenRow : OpenClaim := { program := "ytnmbglemgkopaaa", sum := "47c9b633d45d8d04dfe7ec7d472ee23c9d5077e91dda00aff4cc2e382d076f6c", func := "kinesphere/kinespherelaw23.ControlBroken", spec := "controlBroken", unfollowed := true, recurses := true, plainKeys := false, apart := false }
def ControlBrokenSaid : Prop := controlBrokenRow.holds Try.pinned (OpenSpec.ofChange controlBrokenSpec)

/-- ITS FALSE NEIGHBOUR: 'it returns false'. Refute it at one input. -/
def controlBrokenWrong : ChangeSpec := { name := "controlBroken", fn := fun _ => fun
  | [d1, d2, d3] => { results := [.lit (.bool false)], args := [d1, d2, d3] }
  | _ => none }
def ControlBrokenWrongFalsely : Prop := controlBrokenRow.holds Try.pinned (OpenSpec.ofChange controlBrokenWrong)

/-- 'kinespherelaw23.ControlLeast': WHATEVER THE INPUT: true; the input reads as it did. -/
def controlLeastSpec : ChangeSpec := { name := "controlLeast", fn := fun _ => fun
  | [d1, d2] => { results := [.lit (.bool true)], args := [d1, d2] }
  | _ => none }
def controlLeastRow : OpenClaim := { program := "ytnmbglemgkopaaa", sum := "47c9b633d45d8d04dfe7ec7d472ee23c9d5077e91dda00aff4cc2e382d076f6c", func := "kinesphere/kinespherelaw23.ControlLeast", spec := "controlLeast", unfollowed := true, recurses := true, plainKeys := false, apart := false }
def ControlLeastSaid : Prop := controlLeastRow.holds Try.pinned (OpenSpec.ofChange controlLeastSpec)

/-- ITS FALSE NEIGHBOUR: 'it returns false'. Refute it at one input. -/
def controlLeastWrong : ChangeSpec := { name := "controlLeast", fn := fun _ => fun
  | [d1, d2] => { results := [.lit (.bool false)], args := [d1, d2] }
  | _ => none }
def ControlLeastWrongFalsely : Prop := controlLeastRow.holds Try.pinned (OpenSpec.ofChange controlLeastWrong)

/-- 'kinespherelaw23.ControlEither': WHATEVER THE INPUT: true; the input reads as it did. -/
def controlEitherSpec : ChangeSpec := { name := "controlEither", fn := fun _ => fun
  | [d1, d2, d3] => { results := [.lit (.bool true)], args := [d1, d2, d3] }
  | _ => none }
def controlEitherRow : OpenClaim := { program := "ytnmbglemgkopaaa", sum := "47c9b633d45d8d04dfe7ec7d472ee23c9d5077e91dda00aff4cc2e382d076f6c", func := "kinesphere/kinespherelaw23.ControlEither", spec := "controlEither", unfollowed := true, recurses := true, plainKeys := false, apart := false }
def ControlEitherSaid : Prop := controlEitherRow.holds Try.pinned (OpenSpec.ofChange controlEitherSpec)

/-- ITS FALSE NEIGHBOUR: 'it returns false'. Refute it at one input. -/
def controlEitherWrong : ChangeSpec := { name := "controlEither", fn := fun _ => fun
  | [d1, d2, d3] => { results := [.lit (.bool false)], args := [d1, d2, d3] }
  | _ => none }
def ControlEitherWrongFalsely : Prop := controlEitherRow.holds Try.pinned (OpenSpec.ofChange controlEitherWrong)

/-- 'kinespherelaw23.ControlCertain': WHATEVER THE INPUT: true; the input reads as it did. -/
def controlCertainSpec : ChangeSpec := { name := "controlCertain", fn := fun _ => fun
  | [d] => { results := [.lit (.bool true)], args := [d] }
  | _ => none }
def controlCertainRow : OpenClaim := { program := "ytnmbglemgkopaaa", sum := "47c9b633d45d8d04dfe7ec7d472ee23c9d5077e91dda00aff4cc2e382d076f6c", func := "kinesphere/kinespherelaw23.ControlCertain", spec := "controlCertain", unfollowed := true, recurses := true, plainKeys := false, apart := false }
def ControlCertainSaid : Prop := controlCertainRow.holds Try.pinned (OpenSpec.ofChange controlCertainSpec)

/-- ITS FALSE NEIGHBOUR: 'it returns false'. Refute it at one input. -/
def controlCertainWrong : ChangeSpec := { name := "controlCertain", fn := fun _ => fun
  | [d] => { results := [.lit (.bool false)], args := [d] }
  | _ => none }
def ControlCertainWrongFalsely : Prop := controlCertainRow.holds Try.pinned (OpenSpec.ofChange controlCertainWrong)

/-- 'kinespherelaw23.ControlClock': WHATEVER THE INPUT: true; the input reads as it did. -/
def controlClockSpec : ChangeSpec := { name := "controlClock", fn := fun _ => fun
  | [d1, d2] => { results := [.lit (.bool true)], args := [d1, d2] }
  | _ => none }
def controlClockRow : OpenClaim := { program := "ytnmbglemgkopaaa", sum := "47c9b633d45d8d04dfe7ec7d472ee23c9d5077e91dda00aff4cc2e382d076f6c", func := "kinesphere/kinespherelaw23.ControlClock", spec := "controlClock", unfollowed := true, recurses := true, plainKeys := false, apart := false }
def ControlClockSaid : Prop := controlClockRow.holds Try.pinned (OpenSpec.ofChange controlClockSpec)

/-- ITS FALSE NEIGHBOUR: 'it returns false'. Refute it at one input. -/
def controlClockWrong : ChangeSpec := { name := "controlClock", fn := fun _ => fun
  | [d1, d2] => { results := [.lit (.bool false)], args := [d1, d2] }
  | _ => none }
def ControlClockWrongFalsely : Prop := controlClockRow.holds Try.pinned (OpenSpec.ofChange controlClockWrong)

/- THE SECOND FORM. 'bulk': how many values and letters a reading holds, each counted each time it is reached (what is shared counts as often as it is met; a slice's spare places count too). A statement '..UptoSaid' is the law's where the arguments, and the package variables that the reading takes, are together of bulk at most 1048576: NARROWER than '..Said'. Prove '..Said' where nothing that the law and all that it calls make is longer than what came in: it says more and counts as full. Else prove '..UptoSaid'. A law counts once. -/
mutual
def uptoBulk {H : Type} : DataW H → Nat
  | .lit (.string bytes) => bytes.length + 1
  | .lit _ => 1
  | .nil => 1
  | .ptr d => uptoBulk d + 1
  | .slice elems spare => uptoBulkAll elems + uptoBulkAll spare + 1
  | .agg parts => uptoBulkAll parts + 1
  | .iface _ d => uptoBulk d + 1
  | .map entries => uptoBulkEntries entries + 1
  | .held _ => 1
def uptoBulkAll {H : Type} : List (DataW H) → Nat
  | [] => 0
  | d :: r => uptoBulk d + uptoBulkAll r
def uptoBulkEntries {H : Type} : List (Lit × DataW H) → Nat
  | [] => 0
  | x :: r => uptoBulkEntry x + uptoBulkEntries r
def uptoBulkEntry {H : Type} : Lit × DataW H → Nat
  | (.string bytes, d) => bytes.length + uptoBulk d + 1
  | (_, d) => uptoBulk d + 1
 end
def uptoSmall : (H : Type) → List (DataW H) → Bool := fun _ ds => decide (uptoBulkAll ds ≤ 1048576)
def OpenSpec.upto (s : _root_.Go.ChangeSpec) : _root_.Go.OpenSpec := { _root_.Go.OpenSpec.ofChange s with cond := some uptoSmall }

/-- 'kinespherelaw23.ControlSpec', WHERE WHAT IT READS IS OF BULK AT MOST 1048576: true; the input reads as it did. -/
def controlSpecUptoRow : OpenClaim := { program := "ytnmbglemgkopaaa", sum := "47c9b633d45d8d04dfe7ec7d472ee23c9d5077e91dda00aff4cc2e382d076f6c", func := "kinesphere/kinespherelaw23.ControlSpec", spec := "controlSpec", unfollowed := true, recurses := true, plainKeys := false, apart := false, narrowed := true }
def ControlSpecUptoSaid : Prop := controlSpecUptoRow.holds Try.pinned (OpenSpec.upto controlSpecSpec)

/-- 'kinespherelaw23.ControlPlaySpec', WHERE WHAT IT READS IS OF BULK AT MOST 1048576: true; the input reads as it did. -/
def controlPlaySpecUptoRow : OpenClaim := { program := "ytnmbglemgkopaaa", sum := "47c9b633d45d8d04dfe7ec7d472ee23c9d5077e91dda00aff4cc2e382d076f6c", func := "kinesphere/kinespherelaw23.ControlPlaySpec", spec := "controlPlaySpec", unfollowed := true, recurses := true, plainKeys := false, apart := false, narrowed := true }
def ControlPlaySpecUptoSaid : Prop := controlPlaySpecUptoRow.holds Try.pinned (OpenSpec.upto controlPlaySpecSpec)

/-- 'kinespherelaw23.ControlStrongSpec', WHERE WHAT IT READS IS OF BULK AT MOST 1048576: true; the input reads as it did. -/
def controlStrongSpecUptoRow : OpenClaim := { program := "ytnmbglemgkopaaa", sum := "47c9b633d45d8d04dfe7ec7d472ee23c9d5077e91dda00aff4cc2e382d076f6c", func := "kinesphere/kinespherelaw23.ControlStrongSpec", spec := "controlStrongSpec", unfollowed := true, recurses := true, plainKeys := false, apart := false, narrowed := true }
def ControlStrongSpecUptoSaid : Prop := controlStrongSpecUptoRow.holds Try.pinned (OpenSpec.upto controlStrongSpecSpec)

/-- 'kinespherelaw23.ControlAcceptsSpec', WHERE WHAT IT READS IS OF BULK AT MOST 1048576: true; the input reads as it did. -/
def controlAcceptsSpecUptoRow : OpenClaim := { program := "ytnmbglemgkopaaa", sum := "47c9b633d45d8d04dfe7ec7d472ee23c9d5077e91dda00aff4cc2e382d076f6c", func := "kinesphere/kinespherelaw23.ControlAcceptsSpec", spec := "controlAcceptsSpec", unfollowed := true, recurses := true, plainKeys := false, apart := false, narrowed := true }
def ControlAcceptsSpecUptoSaid : Prop := controlAcceptsSpecUptoRow.holds Try.pinned (OpenSpec.upto controlAcceptsSpecSpec)

/-- 'kinespherelaw23.ControlBroken', WHERE WHAT IT READS IS OF BULK AT MOST 1048576: true; the input reads as it did. -/
def controlBrokenUptoRow : OpenClaim := { program := "ytnmbglemgkopaaa", sum := "47c9b633d45d8d04dfe7ec7d472ee23c9d5077e91dda00aff4cc2e382d076f6c", func := "kinesphere/kinespherelaw23.ControlBroken", spec := "controlBroken", unfollowed := true, recurses := true, plainKeys := false, apart := false, narrowed := true }
def ControlBrokenUptoSaid : Prop := controlBrokenUptoRow.holds Try.pinned (OpenSpec.upto controlBrokenSpec)

/-- 'kinespherelaw23.ControlLeast', WHERE WHAT IT READS IS OF BULK AT MOST 1048576: true; the input reads as it did. -/
def controlLeastUptoRow : OpenClaim := { program := "ytnmbglemgkopaaa", sum := "47c9b633d45d8d04dfe7ec7d472ee23c9d5077e91dda00aff4cc2e382d076f6c", func := "kinesphere/kinespherelaw23.ControlLeast", spec := "controlLeast", unfollowed := true, recurses := true, plainKeys := false, apart := false, narrowed := true }
def ControlLeastUptoSaid : Prop := controlLeastUptoRow.holds Try.pinned (OpenSpec.upto controlLeastSpec)

/-- 'kinespherelaw23.ControlEither', WHERE WHAT IT READS IS OF BULK AT MOST 1048576: true; the input reads as it did. -/
def controlEitherUptoRow : OpenClaim := { program := "ytnmbglemgkopaaa", sum := "47c9b633d45d8d04dfe7ec7d472ee23c9d5077e91dda00aff4cc2e382d076f6c", func := "kinesphere/kinespherelaw23.ControlEither", spec := "controlEither", unfollowed := true, recurses := true, plainKeys := false, apart := false, narrowed := true }
def ControlEitherUptoSaid : Prop := controlEitherUptoRow.holds Try.pinned (OpenSpec.upto controlEitherSpec)

/-- 'kinespherelaw23.ControlCertain', WHERE WHAT IT READS IS OF BULK AT MOST 1048576: true; the input reads as it did. -/
def controlCertainUptoRow : OpenClaim := { program := "ytnmbglemgkopaaa", sum := "47c9b633d45d8d04dfe7ec7d472ee23c9d5077e91dda00aff4cc2e382d076f6c", func := "kinesphere/kinespherelaw23.ControlCertain", spec := "controlCertain", unfollowed := true, recurses := true, plainKeys := false, apart := false, narrowed := true }
def ControlCertainUptoSaid : Prop := controlCertainUptoRow.holds Try.pinned (OpenSpec.upto controlCertainSpec)

/-- 'kinespherelaw23.ControlClock', WHERE WHAT IT READS IS OF BULK AT MOST 1048576: true; the input reads as it did. -/
def controlClockUptoRow : OpenClaim := { program := "ytnmbglemgkopaaa", sum := "47c9b633d45d8d04dfe7ec7d472ee23c9d5077e91dda00aff4cc2e382d076f6c", func := "kinesphere/kinespherelaw23.ControlClock", spec := "controlClock", unfollowed := true, recurses := true, plainKeys := false, apart := false, narrowed := true }
def ControlClockUptoSaid : Prop := controlClockUptoRow.holds Try.pinned (OpenSpec.upto controlClockSpec)

end Rows
end Go.Proofs.Ytnmbglemgkopaaa

/-
  No cell of these rows narrows 'for every input' (looked for: loops, veiled, ifaces, maps, wideKeys, modest, calm, conditions, laid).
  DERIVED. THE GIVEN ROWS OF THIS SEAT. 5 by the template 'for every input the law returns true; each argument reads behind the call as it read before'; 0 by the template 'total and deterministic' (their statements: YtcodoembnjemkaaTotals.lean).
  GIVEN WITH THE SEED: the statements are not yours to turn. If you find one false, say at which input.
  Laid BY PROGRAM, IN A SANDBOX (cutbox-rows.mjs): the forced cells as the released guide's own fill.sh prints them over the translation 3350da9fb8e38f5a… (all of the seat's roots in one cut). By AI agents, Wed Nov 11 2026. No macro, syntax, notation, axiom, sorry.
-/
import Derived.Test.YtcodoembnjemkaaChecked
import GoSem.Claim
import GoSem.ClaimJoined
import GoSem.ClaimMapViews
import Derived.JoinedTies
import Derived.KernelRfl
namespace Go.Proofs.Ytcodoembnjemkaa
/- THE CELL 'sum', in the pinned program and in every row, IS THE sha256 OF THE DUMP (.gsa) THAT YtcodoembnjemkaaProg.lean LOADS. Nothing in Lean hashes anything: it is a label: what it is worth is what the hold of that sum in a sandbox is worth. -/
noncomputable def Try.pinned : Pinned := { name := "ytcodoembnjemkaa", sum := "3350da9fb8e38f5af079c60743a0e34d0dc24bf9c1d30a8d8688ebe9a76c5540", checked := Try.checked }
namespace Rows
def none {H : Type} : Left H := { results := [], args := [] }

/-- 'kinespherelaw24.StrategySpec': WHATEVER THE INPUT: true; the input reads as it did. -/
def strategySpecSpec : ChangeSpec := { name := "strategySpec", fn := fun _ => fun
  | [d1, d2, d3, d4] => { results := [.lit (.bool true)], args := [d1, d2, d3, d4] }
  | _ => none }
def strategySpecRow : OpenClaim := { program := "ytcodoembnjemkaa", sum := "3350da9fb8e38f5af079c60743a0e34d0dc24bf9c1d30a8d8688ebe9a76c5540", func := "kinesphere/kinespherelaw24.StrategySpec", spec := "strategySpec", unfollowed := true, recurses := true, plainKeys := false, apart := false }
def StrategySpecSaid : Prop := strategySpecRow.holds Try.pinned (OpenSpec.ofChange strategySpecSpec)

/-- ITS FALSE NEIGHBOUR: 'it returns false'. Refute it at one input. -/
def strategySpecWrong : ChangeSpec := { name := "strategySpec", fn := fun _ => fun
  | [d1, d2, d3, d4] => { results := [.lit (.bool false)], args := [d1, d2, d3, d4] }
  | _ => none }
def StrategySpecWrongFalsely : Prop := strategySpecRow.holds Try.pinned (OpenSpec.ofChange strategySpecWrong)

/-- 'kinespherelaw24.StrategyEither': WHATEVER THE INPUT: true; the input reads as it did. -/
def strategyEitherSpec : ChangeSpec := { name := "strategyEither", fn := fun _ => fun
  | [d1, d2, d3, d4] => { results := [.lit (.bool true)], args := [d1, d2, d3, d4] }
  | _ => none }
def strategyEitherRow : OpenClaim := { program := "ytcodoembnjemkaa", sum := "3350da9fb8e38f5af079c60743a0e34d0dc24bf9c1d30a8d8688ebe9a76c5540", func := "kinesphere/kinespherelaw24.StrategyEither", spec := "strategyEither", unfollowed := true, recurses := true, plainKeys := false, apart := false }
def StrategyEitherSaid : Prop := strategyEitherRow.holds Try.pinned (OpenSpec.ofChange strategyEitherSpec)

/-- ITS FALSE NEIGHBOUR: 'it returns false'. Refute it at one input. -/
def strategyEitherWrong : ChangeSpec := { name := "strategyEither", fn := fun _ => fun
  | [d1, d2, d3, d4] => { results := [.lit (.bool false)], args := [d1, d2, d3, d4] }
  | _ => none }
def StrategyEitherWrongFalsely : Prop := strategyEitherRow.holds Try.pinned (OpenSpec.ofChange strategyEitherWrong)

/-- 'kinespherelaw24.StrategyMore': WHATEVER THE INPUT: true; the input reads as it did. -/
def strategyMoreSpec : ChangeSpec := { name := "strategyMore", fn := fun _ => fun
  | [d1, d2, d3, d4, d5, d6] => { results := [.lit (.bool true)], args := [d1, d2, d3, d4, d5, d6] }
  | _ => none }
def strategyMoreRow : OpenClaim := { program := "ytcodoembnjemkaa", sum := "3350da9fb8e38f5af079c60743a0e34d0dc24bf9c1d30a8d8688ebe9a76c5540", func := "kinesphere/kinespherelaw24.StrategyMore", spec := "strategyMore", unfollowed := true, recurses := true, plainKeys := false, apart := false }
def StrategyMoreSaid : Prop := strategyMoreRow.holds Try.pinned (OpenSpec.ofChange strategyMoreSpec)

/-- ITS FALSE NEIGHBOUR: 'it returns false'. Refute it at one input. -/
def strategyMoreWrong : ChangeSpec := { name := "strategyMore", fn := fun _ => fun
  | [d1, d2, d3, d4, d5, d6] => { results := [.lit (.bool false)], args := [d1, d2, d3, d4, d5, d6] }
  | _ => none }
def StrategyMoreWrongFalsely : Prop := strategyMoreRow.holds Try.pinned (OpenSpec.ofChange strategyMoreWrong)

/-- 'kinespherelaw24.StrategyLasts': WHATEVER THE INPUT: true; the input reads as it did. -/
def strategyLastsSpec : ChangeSpec := { name := "strategyLasts", fn := fun _ => fun
  | [d1, d2, d3, d4] => { results := [.lit (.bool true)], args := [d1, d2, d3, d4] }
  | _ => none }
def strategyLastsRow : OpenClaim := { program := "ytcodoembnjemkaa", sum := "3350da9fb8e38f5af079c60743a0e34d0dc24bf9c1d30a8d8688ebe9a76c5540", func := "kinesphere/kinespherelaw24.StrategyLasts", spec := "strategyLasts", unfollowed := true, recurses := true, plainKeys := false, apart := false }
def StrategyLastsSaid : Prop := strategyLastsRow.holds Try.pinned (OpenSpec.ofChange strategyLastsSpec)

/-- ITS FALSE NEIGHBOUR: 'it returns false'. Refute it at one input. -/
def strategyLastsWrong : ChangeSpec := { name := "strategyLasts", fn := fun _ => fun
  | [d1, d2, d3, d4] => { results := [.lit (.bool false)], args := [d1, d2, d3, d4] }
  | _ => none }
def StrategyLastsWrongFalsely : Prop := strategyLastsRow.holds Try.pinned (OpenSpec.ofChange strategyLastsWrong)

/-- 'kinespherelaw24.StrategyStrong': WHATEVER THE INPUT: true; the input reads as it did. -/
def strategyStrongSpec : ChangeSpec := { name := "strategyStrong", fn := fun _ => fun
  | [d1, d2] => { results := [.lit (.bool true)], args := [d1, d2] }
  | _ => none }
def strategyStrongRow : OpenClaim := { program := "ytcodoembnjemkaa", sum := "3350da9fb8e38f5af079c60743a0e34d0dc24bf9c1d30a8d8688ebe9a76c5540", func := "kinesphere/kinespherelaw24.StrategyStrong", spec := "strategyStrong", unfollowed := true, recurses := true, plainKeys := false, apart := false }
def StrategyStrongSaid : Prop := strategyStrongRow.holds Try.pinned (OpenSpec.ofChange strategyStrongSpec)

/-- ITS FALSE NEIGHBOUR: 'it returns false'. Refute it at one input. -/
def strategyStrongWrong : ChangeSpec := { name := "strategyStrong", fn := fun _ => fun
  | [d1, d2] => { results := [.lit (.bool false)], args := [d1, d2] }
  | _ => none }
def StrategyStrongWrongFalsely : Prop := strategyStrongRow.holds Try.pinned (OpenSpec.ofChange strategyStrongWrong)

/- THE SECOND FORM. 'bulk': how many values and letters a reading holds, each counted each time it is reached (what is shared counts as often as it is met; a slice's spare places count too). A statement '..UptoSaid' is the law's where the arguments, and the package variables that the reading takes, are together of bulk at most 1048576: NARROWER than '..Said'. Prove '..Said' where nothing that the law and all that it calls make is longer than what came in: it says more and counts as full. Else prove '..UptoSaid'. A law counts once. -/
mutual
def uptoBulk {H : Type} : DataW H → Nat
  | .lit (.string bytes) => bytes.length + 1
  | .lit _ => 1
  | .nil => 1
  | .ptr d => uptoBulk d + 1
  | .slice elems spare => uptoBulkAll elems + uptoBulkAll spare + 1
  | .agg parts => uptoBulkAll parts + 1
  | .iface _ d => uptoBulk d + 1
  | .map entries => uptoBulkEntries entries + 1
  | .held _ => 1
def uptoBulkAll {H : Type} : List (DataW H) → Nat
  | [] => 0
  | d :: r => uptoBulk d + uptoBulkAll r
def uptoBulkEntries {H : Type} : List (Lit × DataW H) → Nat
  | [] => 0
  | x :: r => uptoBulkEntry x + uptoBulkEntries r
def uptoBulkEntry {H : Type} : Lit × DataW H → Nat
  | (.string bytes, d) => bytes.length + uptoBulk d + 1
  | (_, d) => uptoBulk d + 1
 end
def uptoSmall : (H : Type) → List (DataW H) → Bool := fun _ ds => decide (uptoBulkAll ds ≤ 1048576)
def OpenSpec.upto (s : _root_.Go.ChangeSpec) : _root_.Go.OpenSpec := { _root_.Go.OpenSpec.ofChange s with cond := some uptoSmall }

/-- 'kinespherelaw24.StrategySpec', WHERE WHAT IT READS IS OF BULK AT MOST 1048576: true; the input reads as it did. -/
def strategySpecUptoRow : OpenClaim := { program := "ytcodoembnjemkaa", sum := "3350da9fb8e38f5af079c60743a0e34d0dc24bf9c1d30a8d8688ebe9a76c5540", func := "kinesphere/kinespherelaw24.StrategySpec", spec := "strategySpec", unfollowed := true, recurses := true, plainKeys := false, apart := false, narrowed := true }
def StrategySpecUptoSaid : Prop := strategySpecUptoRow.holds Try.pinned (OpenSpec.upto strategySpecSpec)

/-- 'kinespherelaw24.StrategyEither', WHERE WHAT IT READS IS OF BULK AT MOST 1048576: true; the input reads as it did. -/
def strategyEitherUptoRow : OpenClaim := { program := "ytcodoembnjemkaa", sum := "3350da9fb8e38f5af079c60743a0e34d0dc24bf9c1d30a8d8688ebe9a76c5540", func := "kinesphere/kinespherelaw24.StrategyEither", spec := "strategyEither", unfollowed := true, recurses := true, plainKeys := false, apart := false, narrowed := true }
def StrategyEitherUptoSaid : Prop := strategyEitherUptoRow.holds Try.pinned (OpenSpec.upto strategyEitherSpec)

/-- 'kinespherelaw24.StrategyMore', WHERE WHAT IT READS IS OF BULK AT MOST 1048576: true; the input reads as it did. -/
def strategyMoreUptoRow : OpenClaim := { program := "ytcodoembnjemkaa", sum := "3350da9fb8e38f5af079c60743a0e34d0dc24bf9c1d30a8d8688ebe9a76c5540", func := "kinesphere/kinespherelaw24.StrategyMore", spec := "strategyMore", unfollowed := true, recurses := true, plainKeys := false, apart := false, narrowed := true }
def StrategyMoreUptoSaid : Prop := strategyMoreUptoRow.holds Try.pinned (OpenSpec.upto strategyMoreSpec)

/-- 'kinespherelaw24.StrategyLasts', WHERE WHAT IT READS IS OF BULK AT MOST 1048576: true; the input reads as it did. -/
def strategyLastsUptoRow : OpenClaim := { program := "ytcodoembnjemkaa", sum := "3350da9fb8e38f5af079c60743a0e34d0dc24bf9c1d30a8d8688ebe9a76c5540", func := "kinesphere/kinespherelaw24.StrategyLasts", spec := "strategyLasts", unfollowed := true, recurses := true, plainKeys := false, apart := false, narrowed := true }
def StrategyLastsUptoSaid : Prop := strategyLastsUptoRow.holds Try.pinned (OpenSpec.upto strategyLastsSpec)

/-- 'kinespherelaw24.StrategyStrong', WHERE WHAT IT READS IS OF BULK AT MOST 1048576: true; the input reads as it did. -/
def strategyStrongUptoRow : OpenClaim := { program := "ytcodoembnjemkaa", sum := "3350da9fb8e38f5af079c60743a0e34d0dc24bf9c1d30a8d8688ebe9a76c5540", func := "kinesphere/kinespherelaw24.StrategyStrong", spec := "strategyStrong", unfollowed := true, recurses := true, plainKeys := false, apart := false, narrowed := true }
def StrategyStrongUptoSaid : Prop := strategyStrongUptoRow.holds Try.pinned (OpenSpec.upto strategyStrongSpec)

end Rows
end Go.Proofs.Ytcodoembnjemkaa

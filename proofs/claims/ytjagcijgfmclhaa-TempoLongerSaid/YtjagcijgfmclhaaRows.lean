/-
  No cell of these rows narrows 'for every input' (looked for: loops, veiled, ifaces, maps, wideKeys, modest, calm, conditions, laid).
  DERIVED. THE GIVEN ROWS OF THIS SEAT. 7 by the template 'for every input the law returns true; each argument reads behind the call as it read before'; 0 by the template 'total and deterministic' (their statements: YtjagcijgfmclhaaTotals.lean).
  GIVEN WITH THE SEED: the statements are not yours to turn. If you find one false, say at which input.
  Laid BY PROGRAM, IN A SANDBOX (cutbox-rows.mjs): the forced cells as the released guide's own fill.sh prints them over the translation 805113edecccc38a… (all of the seat's roots in one cut). By AI agents, Wed Nov 11 2026. No macro, syntax, notation, axiom, sorry.
-/
import Derived.Test.YtjagcijgfmclhaaChecked
import GoSem.Claim
import GoSem.ClaimJoined
import GoSem.ClaimMapViews
import Derived.JoinedTies
import Derived.KernelRfl
namespace Go.Proofs.Ytjagcijgfmclhaa
/- THE CELL 'sum', in the pinned program and in every row, IS THE sha256 OF THE DUMP (.gsa) THAT YtjagcijgfmclhaaProg.lean LOADS. Nothing in Lean hashes anything: it is a label: what it is worth is what the hold of that sum in a sandbox is worth. -/
noncomputable def Try.pinned : Pinned := { name := "ytjagcijgfmclhaa", sum := "805113edecccc38ae61d0775fb0f2243db699bd8f440dddc830e6158ab5915ba", checked := Try.checked }
namespace Rows
def none {H : Type} : Left H := { results := [], args := [] }

/-- 'kinespherelaw13.TempoSpec': WHATEVER THE INPUT: true; the input reads as it did. -/
def tempoSpecSpec : ChangeSpec := { name := "tempoSpec", fn := fun _ => fun
  | [d1, d2] => { results := [.lit (.bool true)], args := [d1, d2] }
  | _ => none }
def tempoSpecRow : OpenClaim := { program := "ytjagcijgfmclhaa", sum := "805113edecccc38ae61d0775fb0f2243db699bd8f440dddc830e6158ab5915ba", func := "kinesphere/kinespherelaw13.TempoSpec", spec := "tempoSpec", unfollowed := true, recurses := true, apart := false }
def TempoSpecSaid : Prop := tempoSpecRow.holds Try.pinned (OpenSpec.ofChange tempoSpecSpec)

/-- ITS FALSE NEIGHBOUR: 'it returns false'. Refute it at one input. -/
def tempoSpecWrong : ChangeSpec := { name := "tempoSpec", fn := fun _ => fun
  | [d1, d2] => { results := [.lit (.bool false)], args := [d1, d2] }
  | _ => none }
def TempoSpecWrongFalsely : Prop := tempoSpecRow.holds Try.pinned (OpenSpec.ofChange tempoSpecWrong)

/-- 'kinespherelaw13.TempoLocateSpec': WHATEVER THE INPUT: true; the input reads as it did. -/
def tempoLocateSpecSpec : ChangeSpec := { name := "tempoLocateSpec", fn := fun _ => fun
  | [d1, d2, d3] => { results := [.lit (.bool true)], args := [d1, d2, d3] }
  | _ => none }
def tempoLocateSpecRow : OpenClaim := { program := "ytjagcijgfmclhaa", sum := "805113edecccc38ae61d0775fb0f2243db699bd8f440dddc830e6158ab5915ba", func := "kinesphere/kinespherelaw13.TempoLocateSpec", spec := "tempoLocateSpec", unfollowed := true, recurses := true, apart := false }
def TempoLocateSpecSaid : Prop := tempoLocateSpecRow.holds Try.pinned (OpenSpec.ofChange tempoLocateSpecSpec)

/-- ITS FALSE NEIGHBOUR: 'it returns false'. Refute it at one input. -/
def tempoLocateSpecWrong : ChangeSpec := { name := "tempoLocateSpec", fn := fun _ => fun
  | [d1, d2, d3] => { results := [.lit (.bool false)], args := [d1, d2, d3] }
  | _ => none }
def TempoLocateSpecWrongFalsely : Prop := tempoLocateSpecRow.holds Try.pinned (OpenSpec.ofChange tempoLocateSpecWrong)

/-- 'kinespherelaw13.TempoAtSpec': WHATEVER THE INPUT: true; the input reads as it did. -/
def tempoAtSpecSpec : ChangeSpec := { name := "tempoAtSpec", fn := fun _ => fun
  | [d1, d2, d3] => { results := [.lit (.bool true)], args := [d1, d2, d3] }
  | _ => none }
def tempoAtSpecRow : OpenClaim := { program := "ytjagcijgfmclhaa", sum := "805113edecccc38ae61d0775fb0f2243db699bd8f440dddc830e6158ab5915ba", func := "kinesphere/kinespherelaw13.TempoAtSpec", spec := "tempoAtSpec", unfollowed := true, recurses := true, apart := false }
def TempoAtSpecSaid : Prop := tempoAtSpecRow.holds Try.pinned (OpenSpec.ofChange tempoAtSpecSpec)

/-- ITS FALSE NEIGHBOUR: 'it returns false'. Refute it at one input. -/
def tempoAtSpecWrong : ChangeSpec := { name := "tempoAtSpec", fn := fun _ => fun
  | [d1, d2, d3] => { results := [.lit (.bool false)], args := [d1, d2, d3] }
  | _ => none }
def TempoAtSpecWrongFalsely : Prop := tempoAtSpecRow.holds Try.pinned (OpenSpec.ofChange tempoAtSpecWrong)

/-- 'kinespherelaw13.TempoRange': WHATEVER THE INPUT: true; the input reads as it did. -/
def tempoRangeSpec : ChangeSpec := { name := "tempoRange", fn := fun _ => fun
  | [d1, d2, d3] => { results := [.lit (.bool true)], args := [d1, d2, d3] }
  | _ => none }
def tempoRangeRow : OpenClaim := { program := "ytjagcijgfmclhaa", sum := "805113edecccc38ae61d0775fb0f2243db699bd8f440dddc830e6158ab5915ba", func := "kinesphere/kinespherelaw13.TempoRange", spec := "tempoRange", unfollowed := true, recurses := true, apart := false }
def TempoRangeSaid : Prop := tempoRangeRow.holds Try.pinned (OpenSpec.ofChange tempoRangeSpec)

/-- ITS FALSE NEIGHBOUR: 'it returns false'. Refute it at one input. -/
def tempoRangeWrong : ChangeSpec := { name := "tempoRange", fn := fun _ => fun
  | [d1, d2, d3] => { results := [.lit (.bool false)], args := [d1, d2, d3] }
  | _ => none }
def TempoRangeWrongFalsely : Prop := tempoRangeRow.holds Try.pinned (OpenSpec.ofChange tempoRangeWrong)

/-- 'kinespherelaw13.TempoTicks': WHATEVER THE INPUT: true; the input reads as it did. -/
def tempoTicksSpec : ChangeSpec := { name := "tempoTicks", fn := fun _ => fun
  | [d1, d2, d3] => { results := [.lit (.bool true)], args := [d1, d2, d3] }
  | _ => none }
def tempoTicksRow : OpenClaim := { program := "ytjagcijgfmclhaa", sum := "805113edecccc38ae61d0775fb0f2243db699bd8f440dddc830e6158ab5915ba", func := "kinesphere/kinespherelaw13.TempoTicks", spec := "tempoTicks", unfollowed := true, recurses := true, apart := false }
def TempoTicksSaid : Prop := tempoTicksRow.holds Try.pinned (OpenSpec.ofChange tempoTicksSpec)

/-- ITS FALSE NEIGHBOUR: 'it returns false'. Refute it at one input. -/
def tempoTicksWrong : ChangeSpec := { name := "tempoTicks", fn := fun _ => fun
  | [d1, d2, d3] => { results := [.lit (.bool false)], args := [d1, d2, d3] }
  | _ => none }
def TempoTicksWrongFalsely : Prop := tempoTicksRow.holds Try.pinned (OpenSpec.ofChange tempoTicksWrong)

/-- 'kinespherelaw13.TempoOrder': WHATEVER THE INPUT: true; the input reads as it did. -/
def tempoOrderSpec : ChangeSpec := { name := "tempoOrder", fn := fun _ => fun
  | [d1, d2, d3, d4] => { results := [.lit (.bool true)], args := [d1, d2, d3, d4] }
  | _ => none }
def tempoOrderRow : OpenClaim := { program := "ytjagcijgfmclhaa", sum := "805113edecccc38ae61d0775fb0f2243db699bd8f440dddc830e6158ab5915ba", func := "kinesphere/kinespherelaw13.TempoOrder", spec := "tempoOrder", unfollowed := true, recurses := true, apart := false }
def TempoOrderSaid : Prop := tempoOrderRow.holds Try.pinned (OpenSpec.ofChange tempoOrderSpec)

/-- ITS FALSE NEIGHBOUR: 'it returns false'. Refute it at one input. -/
def tempoOrderWrong : ChangeSpec := { name := "tempoOrder", fn := fun _ => fun
  | [d1, d2, d3, d4] => { results := [.lit (.bool false)], args := [d1, d2, d3, d4] }
  | _ => none }
def TempoOrderWrongFalsely : Prop := tempoOrderRow.holds Try.pinned (OpenSpec.ofChange tempoOrderWrong)

/-- 'kinespherelaw13.TempoLonger': WHATEVER THE INPUT: true; the input reads as it did. -/
def tempoLongerSpec : ChangeSpec := { name := "tempoLonger", fn := fun _ => fun
  | [d1, d2, d3, d4, d5] => { results := [.lit (.bool true)], args := [d1, d2, d3, d4, d5] }
  | _ => none }
def tempoLongerRow : OpenClaim := { program := "ytjagcijgfmclhaa", sum := "805113edecccc38ae61d0775fb0f2243db699bd8f440dddc830e6158ab5915ba", func := "kinesphere/kinespherelaw13.TempoLonger", spec := "tempoLonger", unfollowed := true, recurses := true, apart := false }
def TempoLongerSaid : Prop := tempoLongerRow.holds Try.pinned (OpenSpec.ofChange tempoLongerSpec)

/-- ITS FALSE NEIGHBOUR: 'it returns false'. Refute it at one input. -/
def tempoLongerWrong : ChangeSpec := { name := "tempoLonger", fn := fun _ => fun
  | [d1, d2, d3, d4, d5] => { results := [.lit (.bool false)], args := [d1, d2, d3, d4, d5] }
  | _ => none }
def TempoLongerWrongFalsely : Prop := tempoLongerRow.holds Try.pinned (OpenSpec.ofChange tempoLongerWrong)

/- THE SECOND FORM. 'bulk': how many values and letters a reading holds, each counted each time it is reached (what is shared counts as often as it is met; a slice's spare places count too). A statement '..UptoSaid' is the law's where the arguments, and the package variables that the reading takes, are together of bulk at most 1048576: NARROWER than '..Said'. Prove '..Said' where nothing that the law and all that it calls make is longer than what came in: it says more and counts as full. Else prove '..UptoSaid'. A law counts once. -/
mutual
def uptoBulk {H : Type} : DataW H → Nat
  | .lit (.string bytes) => bytes.length + 1
  | .lit _ => 1
  | .nil => 1
  | .ptr d => uptoBulk d + 1
  | .slice elems spare => uptoBulkAll elems + uptoBulkAll spare + 1
  | .agg parts => uptoBulkAll parts + 1
  | .iface _ d => uptoBulk d + 1
  | .map entries => uptoBulkEntries entries + 1
  | .held _ => 1
def uptoBulkAll {H : Type} : List (DataW H) → Nat
  | [] => 0
  | d :: r => uptoBulk d + uptoBulkAll r
def uptoBulkEntries {H : Type} : List (Lit × DataW H) → Nat
  | [] => 0
  | x :: r => uptoBulkEntry x + uptoBulkEntries r
def uptoBulkEntry {H : Type} : Lit × DataW H → Nat
  | (.string bytes, d) => bytes.length + uptoBulk d + 1
  | (_, d) => uptoBulk d + 1
 end
def uptoSmall : (H : Type) → List (DataW H) → Bool := fun _ ds => decide (uptoBulkAll ds ≤ 1048576)
def OpenSpec.upto (s : _root_.Go.ChangeSpec) : _root_.Go.OpenSpec := { _root_.Go.OpenSpec.ofChange s with cond := some uptoSmall }

/-- 'kinespherelaw13.TempoSpec', WHERE WHAT IT READS IS OF BULK AT MOST 1048576: true; the input reads as it did. -/
def tempoSpecUptoRow : OpenClaim := { program := "ytjagcijgfmclhaa", sum := "805113edecccc38ae61d0775fb0f2243db699bd8f440dddc830e6158ab5915ba", func := "kinesphere/kinespherelaw13.TempoSpec", spec := "tempoSpec", unfollowed := true, recurses := true, apart := false, narrowed := true }
def TempoSpecUptoSaid : Prop := tempoSpecUptoRow.holds Try.pinned (OpenSpec.upto tempoSpecSpec)

/-- 'kinespherelaw13.TempoLocateSpec', WHERE WHAT IT READS IS OF BULK AT MOST 1048576: true; the input reads as it did. -/
def tempoLocateSpecUptoRow : OpenClaim := { program := "ytjagcijgfmclhaa", sum := "805113edecccc38ae61d0775fb0f2243db699bd8f440dddc830e6158ab5915ba", func := "kinesphere/kinespherelaw13.TempoLocateSpec", spec := "tempoLocateSpec", unfollowed := true, recurses := true, apart := false, narrowed := true }
def TempoLocateSpecUptoSaid : Prop := tempoLocateSpecUptoRow.holds Try.pinned (OpenSpec.upto tempoLocateSpecSpec)

/-- 'kinespherelaw13.TempoAtSpec', WHERE WHAT IT READS IS OF BULK AT MOST 1048576: true; the input reads as it did. -/
def tempoAtSpecUptoRow : OpenClaim := { program := "ytjagcijgfmclhaa", sum := "805113edecccc38ae61d0775fb0f2243db699bd8f440dddc830e6158ab5915ba", func := "kinesphere/kinespherelaw13.TempoAtSpec", spec := "tempoAtSpec", unfollowed := true, recurses := true, apart := false, narrowed := true }
def TempoAtSpecUptoSaid : Prop := tempoAtSpecUptoRow.holds Try.pinned (OpenSpec.upto tempoAtSpecSpec)

/-- 'kinespherelaw13.TempoRange', WHERE WHAT IT READS IS OF BULK AT MOST 1048576: true; the input reads as it did. -/
def tempoRangeUptoRow : OpenClaim := { program := "ytjagcijgfmclhaa", sum := "805113edecccc38ae61d0775fb0f2243db699bd8f440dddc830e6158ab5915ba", func := "kinesphere/kinespherelaw13.TempoRange", spec := "tempoRange", unfollowed := true, recurses := true, apart := false, narrowed := true }
def TempoRangeUptoSaid : Prop := tempoRangeUptoRow.holds Try.pinned (OpenSpec.upto tempoRangeSpec)

/-- 'kinespherelaw13.TempoTicks', WHERE WHAT IT READS IS OF BULK AT MOST 1048576: true; the input reads as it did. -/
def tempoTicksUptoRow : OpenClaim := { program := "ytjagcijgfmclhaa", sum := "805113edecccc38ae61d0775fb0f2243db699bd8f440dddc830e6158ab5915ba", func := "kinesphere/kinespherelaw13.TempoTicks", spec := "tempoTicks", unfollowed := true, recurses := true, apart := false, narrowed := true }
def TempoTicksUptoSaid : Prop := tempoTicksUptoRow.holds Try.pinned (OpenSpec.upto tempoTicksSpec)

/-- 'kinespherelaw13.TempoOrder', WHERE WHAT IT READS IS OF BULK AT MOST 1048576: true; the input reads as it did. -/
def tempoOrderUptoRow : OpenClaim := { program := "ytjagcijgfmclhaa", sum := "805113edecccc38ae61d0775fb0f2243db699bd8f440dddc830e6158ab5915ba", func := "kinesphere/kinespherelaw13.TempoOrder", spec := "tempoOrder", unfollowed := true, recurses := true, apart := false, narrowed := true }
def TempoOrderUptoSaid : Prop := tempoOrderUptoRow.holds Try.pinned (OpenSpec.upto tempoOrderSpec)

/-- 'kinespherelaw13.TempoLonger', WHERE WHAT IT READS IS OF BULK AT MOST 1048576: true; the input reads as it did. -/
def tempoLongerUptoRow : OpenClaim := { program := "ytjagcijgfmclhaa", sum := "805113edecccc38ae61d0775fb0f2243db699bd8f440dddc830e6158ab5915ba", func := "kinesphere/kinespherelaw13.TempoLonger", spec := "tempoLonger", unfollowed := true, recurses := true, apart := false, narrowed := true }
def TempoLongerUptoSaid : Prop := tempoLongerUptoRow.holds Try.pinned (OpenSpec.upto tempoLongerSpec)

end Rows
end Go.Proofs.Ytjagcijgfmclhaa

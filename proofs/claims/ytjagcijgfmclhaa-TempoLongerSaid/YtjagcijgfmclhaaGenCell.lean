/- Cells and marks behind a store. Generic: no program is named here. -/
import Derived.Test.YtjagcijgfmclhaaGenIter
set_option linter.unusedSectionVars false
set_option linter.unusedVariables false
set_option linter.unusedSimpArgs false
namespace Go
open Go.RowKit
namespace Kin
theorem cell_set_other {W : World} {b b' o o' : Nat} {v u : Value} (h : W.cell? ⟨b, o, none⟩ = some v) (hne : b ≠ b') : (W.setCell ⟨b', o', none⟩ u).cell? ⟨b, o, none⟩ = some v := by
  unfold World.cell? at h ⊢
  rw [show (W.setCell ⟨b', o', none⟩ u).heap[b]? = W.heap[b]? from Below.heap_setCell W ⟨b', o', none⟩ u b hne]; exact h
theorem heap_setCell_same {W : World} {b o : Nat} {u : Value} : (W.setCell ⟨b, o, none⟩ u).heap[b]? = (W.heap[b]?).map fun x => match x with | .cells c e f => .cells (c.setIfInBounds o u) e f | x => x := by
  show (W.heap.modify b _)[b]? = _
  rw [Array.getElem?_modify, if_pos rfl]
  cases W.heap[b]? with
  | none => rfl
  | some x => cases x <;> rfl
theorem cell_set_off {W : World} {b o o' : Nat} {v u : Value} (h : W.cell? ⟨b, o, none⟩ = some v) (hne : o' ≠ o) : (W.setCell ⟨b, o', none⟩ u).cell? ⟨b, o, none⟩ = some v := by
  unfold World.cell? at h ⊢
  rw [show (W.setCell ⟨b, o', none⟩ u).heap[b]? = _ from heap_setCell_same]
  cases hb : W.heap[b]? with
  | none => rw [hb] at h; cases h
  | some x =>
    rw [hb] at h
    cases x <;> first | (cases h; done) | (simpa [Array.getElem?_setIfInBounds_ne hne] using h)
theorem cell_set_same {W : World} {b o : Nat} {v u : Value} (h : W.cell? ⟨b, o, none⟩ = some v) : (W.setCell ⟨b, o, none⟩ u).cell? ⟨b, o, none⟩ = some u := by
  unfold World.cell? at h ⊢
  rw [show (W.setCell ⟨b, o, none⟩ u).heap[b]? = _ from heap_setCell_same]
  cases hb : W.heap[b]? with
  | none => rw [hb] at h; cases h
  | some x =>
    rw [hb] at h
    cases x with
    | cells c e f =>
      simp at h ⊢
      have := (Array.getElem?_eq_some_iff.1 h).1
      simp [this]
    | _ => cases h
theorem frozen_set {W : World} {p : Addr} {b o : Nat} {u : Value} {f : Bool} (h : W.frozen? p = f) : (W.setCell ⟨b, o, none⟩ u).frozen? p = f := by
  rw [World.frozen?_setCell]; exact h
theorem size_set {W : World} {a : Addr} {u : Value} : (W.setCell a u).heap.size = W.heap.size := by
  show (W.heap.modify _ _).size = _; rw [Array.size_modify]

end Kin
end Go

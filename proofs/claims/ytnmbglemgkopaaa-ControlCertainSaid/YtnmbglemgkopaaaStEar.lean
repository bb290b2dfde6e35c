/- The specification's Earliest. -/
import Derived.Test.YtnmbglemgkopaaaStMts
set_option linter.unusedSectionVars false
set_option linter.unusedVariables false
set_option linter.unusedSimpArgs false
namespace Go.Proofs
open Go.RowKit Go.Kin Go.Kin.St
namespace R22

/-- The least schedule, if there is one. -/
noncomputable def ear (n : Int) (l : List Lk) : Option (Nat → Int) := if chk n l = 0 then found (edges l) (n.toNat + 1) (fun _ => 0) else none
theorem ear_bad {n : Int} {l : List Lk} (h : chk n l ≠ 0) : ear n l = none := if_neg h
theorem ear_least {n : Int} {l : List Lk} {L : Nat → Int} (h : ear n l = some L) : chk n l = 0 ∧ Least n.toNat (edges l) (fun _ => 0) L := by
  unfold ear at h
  split at h
  · rename_i hc
    exact ⟨hc, found_least (chk_fine hc).2.2.2.inE h⟩
  · cases h
theorem ear_none {n : Int} {l : List Lk} (h : ear n l = none) (hc : chk n l = 0) (s : Nat → Int) : ¬ Sol (edges l) s := by
  unfold ear at h
  rw [if_pos hc] at h
  exact found_no (chk_fine hc).2.2.2.inE h s
theorem ear_of {n : Int} {l : List Lk} {t : Nat → Int} (hc : chk n l = 0) (h : Least n.toNat (edges l) (fun _ => 0) t) : ∃ L, ear n l = some L ∧ ∀ x, x < n.toNat → t x = L x := by
  cases he : ear n l with
  | none => exact absurd h.sol (ear_none he hc t)
  | some L => exact ⟨L, rfl, h.uniq (ear_least he).2⟩
theorem ear_no {n : Int} {l : List Lk} (h : ∀ s, ¬ Sol (edges l) s) : ear n l = none := by
  cases he : ear n l with
  | none => rfl
  | some L => exact absurd (ear_least he).2.sol (h L)

theorem ivec_congr {n : Nat} {f g : Nat → Int} (h : ∀ x, x < n → f x = g x) : ivec n f = ivec n g := by
  unfold ivec vec
  apply List.map_congr_left
  intro x hx
  rw [h x (List.mem_range.1 hx)]

def noV (e : Int) : Value := .tuple ⟨[.slice none 0 0, .bool false, .int .i64 e]⟩
def yesV (n b : Nat) : Value := .tuple ⟨[.slice (some ⟨b, 0, none⟩) n n, .bool true, .int .i64 0]⟩
/-- What Earliest answers. -/
def EarQ (n : Int) (l : List Lk) (w : World) (e : Ending) (w' : World) : Prop :=
  (ear n l = none ∧ e = .returned (noV (chk n l)) ∧ Below w.heap.size w w') ∨
  (∃ L b, ear n l = some L ∧ e = .returned (yesV n.toNat b) ∧ Below w.heap.size w w' ∧ w.heap.size ≤ b ∧ w'.heap[b]? = some (.cells ⟨ivec n.toNat L⟩ 3 (0, 0)))



theorem earQ_none {f : FuncId} {args : Array Value} {n : Int} {l : List Lk} {w : World} (h : Calls Try.prog f args w (EarQ n l w)) (he : ear n l = none) :
    Calls Try.prog f args w fun e w' => e = .returned (noV (chk n l)) ∧ Below w.heap.size w w' := h.mono fun e w' q => by
  rcases q with ⟨_, h1, h2⟩ | ⟨L, b, h1, _⟩
  · exact ⟨h1, h2⟩
  · rw [he] at h1; cases h1
theorem earQ_some {f : FuncId} {args : Array Value} {n : Int} {l : List Lk} {w : World} {L : Nat → Int} (h : Calls Try.prog f args w (EarQ n l w)) (he : ear n l = some L) :
    Calls Try.prog f args w fun e w' => ∃ b, e = .returned (yesV n.toNat b) ∧ Below w.heap.size w w' ∧ w.heap.size ≤ b ∧ w'.heap[b]? = some (.cells ⟨ivec n.toNat L⟩ 3 (0, 0)) := h.mono fun e w' q => by
  rcases q with ⟨h1, _⟩ | ⟨L', b, h1, h2, h3, h4, h5⟩
  · rw [he] at h1; cases h1
  · rw [he] at h1; cases h1; exact ⟨b, h2, h3, h4, h5⟩


end R22
end Go.Proofs

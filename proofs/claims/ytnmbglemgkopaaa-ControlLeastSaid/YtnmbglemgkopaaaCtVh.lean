/- Uncertain networks: what Play hands back, in words for its callers. -/
import Derived.Test.YtnmbglemgkopaaaCtM
import Derived.Test.YtnmbglemgkopaaaCtK
set_option linter.unusedSectionVars false
set_option linter.unusedVariables false
set_option linter.unusedSimpArgs false
namespace Go.Proofs
open Go.RowKit Go.Kin Go.Kin.St Go.Kin.Ct
open R22
namespace R23
theorem flatI_ivec {N : Nat} {t : Nat → Int} : flatI ((List.range N).map t) = ivec N t := by rw [flatI_map, List.map_map]; rfl
theorem us_len (l : List Us) : ∀ r ∈ l.map usE, r.length = 2 := fun r hr => by obtain ⟨x, _, rfl⟩ := List.mem_map.1 hr; rfl
theorem at_nil0 {w : World} (A : Option Addr) : Kin.At w A 1 (([] : List Int).map inE) := fun i r h => by simp at h
theorem PlayQ.ok {N : Nat} {L C : List Lk} {t d : List Int} {w w' : World} {e : Ending} (h : PlayOK N L C t d) (hq : PlayQ N L C t d w e w') :
    ∃ i : Nat × Nat × List Value, e = .returned (.tuple ⟨[.slice (some ⟨i.1, 0, none⟩) (plL C N t d).length i.2.1, .int .i64 0]⟩) ∧ Below w.heap.size w w' ∧ w.heap.size ≤ i.1 ∧ w'.heap[i.1]? = some (.cells ⟨flatI (plL C N t d) ++ i.2.2⟩ 3 (0, 0)) := by
  obtain ⟨v, h1, h2, h3⟩ := hq
  obtain ⟨p1, p2⟩ := plE_ok h
  rw [Int.toNat_natCast] at p2
  rw [p1] at h1
  rw [p2] at h2
  rcases h2 with ⟨g, _⟩ | ⟨b, cap, rest, g1, g2, g3, g4⟩
  · have := congrArg List.length g
    rw [plL_len] at this
    obtain ⟨n1, _⟩ := chkU_ok h.1
    simp at this; omega
  · exact ⟨(b, cap, rest), by rw [h1, g1], h3, g3, g4⟩
theorem PlayQ.no {n : Int} {L C : List Lk} {t d : List Int} {w w' : World} {e : Ending} (h : ¬ PlayOK n L C t d) (hq : PlayQ n L C t d w e w') :
    ∃ i : Option Addr × Nat, e = .returned (.tuple ⟨[.slice i.1 ([] : List Int).length i.2, .int .i64 (plE n L C t d)]⟩) ∧ Below w.heap.size w w' := by
  obtain ⟨v, h1, h2, h3⟩ := hq
  have p2 : plR n L C t d = [] := if_neg h
  rw [p2] at h2
  obtain ⟨A, cap, g, -⟩ := h2.fr
  exact ⟨(A, cap), by rw [h1, g], h3⟩
end R23
end Go.Proofs

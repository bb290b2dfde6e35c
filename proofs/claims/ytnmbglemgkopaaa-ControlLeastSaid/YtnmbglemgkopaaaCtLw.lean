/- Uncertain networks: what the laws Least and Broken rest on. Plain Lean. -/
import Derived.Test.YtnmbglemgkopaaaCtBr
set_option linter.unusedSectionVars false
set_option linter.unusedVariables false
set_option linter.unusedSimpArgs false
namespace Go.Proofs
open Go.RowKit Go.Kin Go.Kin.St Go.Kin.Ct
open R22 (lkE)
namespace R23
/-- a cycle that is accepted has a use whose step is broken, whatever the times are -/
theorem accepts_breaks {l : List Lk} {us : List Us} (hne : us ≠ []) (h : accepts l us = true) (t : Nat → Int) : ∃ u ∈ us, ∃ e, stepOf l u = some e ∧ ¬ t e.b - t e.a ≤ e.w := by
  unfold accepts at h
  cases hr : run l (lastEnd l us) 0 us with
  | none => rw [hr] at h; cases h
  | some s =>
    rw [hr] at h
    simp only [decide_eq_true_eq] at h
    obtain ⟨E, h1, h2, h3, h4⟩ := run_some hr
    have hno := closed_none h3 (lastEnd_eq h1 hne _).symm (by omega) (E := E) (fun e he => he) t
    have hex : ∃ e ∈ E, ¬ t e.b - t e.a ≤ e.w := Classical.byContradiction fun hc => hno fun e he => Classical.byContradiction fun h5 => hc ⟨e, he, h5⟩
    obtain ⟨e, he, hb⟩ := hex
    have hm : some e ∈ us.map (stepOf l) := by rw [h1]; exact List.mem_map.2 ⟨e, he, rfl⟩
    obtain ⟨u, hu, hs⟩ := List.mem_map.1 hm
    exact ⟨u, hu, e, hs, hb⟩
theorem uses_in {L C : List Lk} {N : Nat} {us : List Us} (h : accepts (net C N L) us = true) {u : Us} (hu : u ∈ us) : 0 ≤ u.link ∧ u.link < L.length := by
  have hk : Kn L us := Classical.byContradiction fun hc => by rw [kn_no hc] at h; cases h
  exact hk u hu
/-- one of its uses is broken by durations at the ends of their ranges -/
theorem cycle_breaks {L C : List Lk} {N : Nat} {us : List Us} (hT : Tree N C) (hF : Fine N L) (hne : us ≠ []) (h : accepts (net C N L) us = true) (t : Nat → Int) : ∃ (k : Nat) (u : Us) (x : Lk), us[k]? = some u ∧ L[u.link.toNat]? = some x ∧ brB C N t x u.lower = true := by
  obtain ⟨u, hu, e, hs, hb⟩ := accepts_breaks hne h t
  obtain ⟨h1, h2⟩ := uses_in h hu
  obtain ⟨x, hx⟩ : ∃ x, L[u.link.toNat]? = some x := ⟨_, List.getElem?_eq_getElem (by omega)⟩
  rw [stepOf_net h1 hx] at hs
  cases hs
  obtain ⟨k, hk⟩ := List.getElem?_of_mem hu
  exact ⟨k, u, x, hk, hx, decide_eq_true (broken hT hF (List.mem_of_getElem? hx) hb)⟩
/-- the times, one of them lowered by 1 -/
def lowT (t : Nat → Int) (p : Nat) : Nat → Int := iset t p (t p - 1)
theorem low_breaks {N : Nat} {L C : List Lk} {t : Nat → Int} {p : Nat} (hs : str N L C = some t) (hp : p < N) (h0 : 0 < t p) : ∃ (k : Nat) (x : Lk), L[k]? = some x ∧ (brB C N (tf (tmL N (lowT t p))) x false = true ∨ brB C N (tf (tmL N (lowT t p))) x true = true) := by
  obtain ⟨hc, hL⟩ := str_least hs
  obtain ⟨n1, n2, l1, l2, hF, hT⟩ := chkU_ok hc
  rw [Int.toNat_natCast] at hT hL
  refine Classical.byContradiction fun hno => ?_
  have hsol : Sol (redE C N L) (tf (tmL N (lowT t p))) := fun e he => Classical.byContradiction fun hb => by
    obtain ⟨x, hx, u, rfl⟩ := redE_mem.1 he
    have h1 : brB C N (tf (tmL N (lowT t p))) x u = true := decide_eq_true (broken hT hF hx hb)
    obtain ⟨k, hk⟩ := List.getElem?_of_mem hx
    cases u with
    | false => exact hno ⟨k, x, hk, .inl h1⟩
    | true => exact hno ⟨k, x, hk, .inr h1⟩
  have h2 := hL.le _ hsol (fun x hx => by
    have := hL.pos x hx
    rw [tmL_get hx]
    unfold lowT iset
    split
    · rename_i e; subst e; omega
    · exact this) p hp
  rw [tmL_get hp] at h2
  unfold lowT iset at h2
  rw [if_pos rfl] at h2
  omega
theorem low_times {N : Nat} {L C : List Lk} {t : Nat → Int} {p : Nat} (hs : str N L C = some t) (hN : N ≤ 16) (hc : C.length ≤ 30) (hp : p < N) (h0 : 0 < t p) : Times (tmL N (lowT t p)) := fun v hv => by
  have hT := (str_times hs hN hc).1
  obtain ⟨x, hx, rfl⟩ := List.mem_map.1 hv
  have hx := List.mem_range.1 hx
  have h1 := hT (t x) (List.mem_map.2 ⟨x, List.mem_range.2 hx, rfl⟩)
  unfold lowT iset
  split
  · rename_i e; subst e; omega
  · exact h1
/-- a called point keeps the time 0 -/
theorem called_zero {N : Nat} {L C : List Lk} {t : Nat → Int} (hs : str N L C = some t) {x : Lk} (hx : x ∈ C) : ∃ p : Nat, x.to = p ∧ p < N ∧ t p = 0 := by
  obtain ⟨hc, hL⟩ := str_least hs
  obtain ⟨n1, n2, l1, l2, hF, hT⟩ := chkU_ok hc
  rw [Int.toNat_natCast] at hT hL
  obtain ⟨c1, c2, c3, c4, c5, c6, c7, c8⟩ := hT.cal x hx
  refine ⟨x.to.toNat, by omega, by omega, ?_⟩
  obtain ⟨i, hi⟩ := List.getElem?_of_mem hx
  have hin := hT.one i x hi
  have hne : ∀ e ∈ redE C N L, e.a ≠ x.to.toNat ∧ e.b ≠ x.to.toNat := fun e he => by
    obtain ⟨g1, g2⟩ := redE_roots hT hF he
    constructor
    · intro h; rw [h, show ((x.to.toNat : Nat) : Int) = x.to by omega, hin] at g1; cases g1
    · intro h; rw [h, show ((x.to.toNat : Nat) : Int) = x.to by omega, hin] at g2; cases g2
  have hpos := hL.pos x.to.toNat (by omega)
  have h2 := hL.le (fun y => if y = x.to.toNat then 0 else t y) (fun e he => by
    simp only
    rw [if_neg (hne e he).1, if_neg (hne e he).2]
    exact hL.sol e he) (fun y hy => by
    split
    · exact Int.le_refl _
    · exact hL.pos y hy) x.to.toNat (by omega)
  simp only [if_true] at h2
  omega
end R23
end Go.Proofs

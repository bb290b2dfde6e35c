/- Uncertain networks: what the times of Strong keep. Plain Lean. -/
import Derived.Test.YtnmbglemgkopaaaCtVh
import Derived.Test.YtnmbglemgkopaaaCtSol
import Derived.Test.YtnmbglemgkopaaaStMts
set_option linter.unusedSectionVars false
set_option linter.unusedVariables false
set_option linter.unusedSimpArgs false
namespace Go.Proofs
open Go.RowKit Go.Kin Go.Kin.St Go.Kin.Ct
open R22 (metB metB_sol tmB tmB_iff mtB mtE mt_ok mtV chk)
namespace R23
/-- the times as a list -/
def tmL (N : Nat) (t : Nat → Int) : List Int := (List.range N).map t
theorem tmL_len {N : Nat} {t : Nat → Int} : (tmL N t).length = N := by unfold tmL; simp
theorem tmL_get {N : Nat} {t : Nat → Int} {x : Nat} (h : x < N) : tf (tmL N t) x = t x := tf_get (by unfold tmL; rw [List.getElem?_map, List.getElem?_range h]; rfl)
theorem plL_get {C : List Lk} {N : Nat} {t d : List Int} {p : Nat} (h : p < N) : tf (plL C N t d) p = at_ C N (tf t) (tf d) p := tf_get (by unfold plL; rw [List.getElem?_map, List.getElem?_range h]; rfl)
theorem str_times {N : Nat} {L C : List Lk} {t : Nat → Int} (hs : str N L C = some t) (hN : N ≤ 16) (hc : C.length ≤ 30) : Times (tmL N t) ∧ Sol (redE C N L) (tf (tmL N t)) := by
  obtain ⟨h0, hL⟩ := str_least hs
  obtain ⟨n1, n2, l1, l2, hF, hT⟩ := chkU_ok h0
  rw [Int.toNat_natCast] at hT hL
  have hE := redE_in hT hF
  have hwt := redE_few hT hF hc
  refine ⟨fun x hx => ?_, fun e he => ?_⟩
  · obtain ⟨p, hp, rfl⟩ := List.mem_map.1 hx
    have hp := List.mem_range.1 hp
    have h1 := hL.pos p hp
    have h2 := least_le (W := 34084860461056) (by decide) (fun e he => (hwt e he).1) hE hL p hp
    omega
  · obtain ⟨i1, i2⟩ := hE e he
    rw [tmL_get i1, tmL_get i2]
    exact hL.sol e he
theorem lsum_pos {C : List Lk} {d : List Int} {N : Nat} (hT : Tree N C) (hd : Dur C d) (l : List Nat) (h : ∀ i ∈ l, i < C.length) : 0 ≤ lsum (tf d) l ∧ lsum (tf d) l ≤ 1099511627776 * (l.length : Int) := by
  induction l with
  | nil => simp [lsum]
  | cons i l ih =>
    have h1 := ih fun j hj => h j (List.mem_cons_of_mem _ hj)
    have h2 := tf_bd hT hd (h i List.mem_cons_self)
    simp only [lsum, List.length_cons]
    omega
theorem at_bd {C : List Lk} {t d : List Int} {N p : Nat} (hT : Tree N C) (hd : Dur C d) (ht : Times t) (hl : t.length = N) (hN : N ≤ 64) (hp : p < N) : 0 ≤ at_ C N (tf t) (tf d) p ∧ at_ C N (tf t) (tf d) p ≤ 1152921504606846976 := by
  obtain ⟨r, r1, r2, -⟩ := hT.root_in hp
  have h1 := lsum_pos hT hd (chain C N p) Tree.chain_lt
  have h2 := climb_len C N p
  have h3 : (chain C N p).length ≤ 64 := by unfold chain; omega
  obtain ⟨v, hv⟩ : ∃ v, t[r]? = some v := ⟨_, List.getElem?_eq_getElem (by omega)⟩
  have h4 := ht v (List.mem_of_getElem? hv)
  unfold at_
  rw [r2, Int.toNat_natCast, tf_get hv]
  omega
theorem play_meets {N : Nat} {L C : List Lk} {t d : List Int} (hk : PlayOK N L C t d) (hs : Sol (redE C N L) (tf t)) : mtB N L (plL C N t d) = true ∧ mtE N L (plL C N t d) = 0 := by
  obtain ⟨h0, hl, ht, hd⟩ := hk
  obtain ⟨n1, n2, l1, l2, hF, hT⟩ := chkU_ok h0
  rw [Int.toNat_natCast] at hT
  have hck : chk N L = 0 := by
    by_cases h : chk N L = 0
    · exact h
    · rw [chkU_a h] at h0; exact absurd h0 h
  have hlen : ((plL C N t d).length : Int) = N := by rw [plL_len]
  have htm : tmB (plL C N t d) = true := by
    rw [tmB_iff]
    intro v hv
    obtain ⟨p, hp, rfl⟩ := List.mem_map.1 hv
    exact at_bd hT hd ht (by omega) (by omega) (List.mem_range.1 hp)
  obtain ⟨m1, m2⟩ := mt_ok hck hlen htm
  refine ⟨?_, m2⟩
  rw [m1, metB_sol, sol_links]
  intro x hx
  have hfx := hF x hx
  unfold Lk.Fine at hfx
  have hkp := kept_link (z := fun p => at_ C N (tf t) (tf d) p) (x := x) fun u => sol_keeps hT hF hs (d := tf d) (fun i hi => hd.2 i hi) hx u
  have e1 := plL_get (C := C) (N := N) (t := t) (d := d) (p := x.to.toNat) (by omega)
  have e2 := plL_get (C := C) (N := N) (t := t) (d := d) (p := x.fr.toNat) (by omega)
  rw [show ((x.to.toNat : Nat) : Int) = x.to by omega] at e1
  rw [show ((x.fr.toNat : Nat) : Int) = x.fr by omega] at e2
  show x.lo ≤ tf (plL C N t d) x.to.toNat - tf (plL C N t d) x.fr.toNat ∧ tf (plL C N t d) x.to.toNat - tf (plL C N t d) x.fr.toNat ≤ x.hi
  rw [e1, e2]
  exact hkp
end R23
end Go.Proofs

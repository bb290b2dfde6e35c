/- The search for a negative cycle, step by step: plain Lean. -/
import Derived.Test.YtakjgfdaaebifaaStRAcc
set_option linter.unusedSectionVars false
set_option linter.unusedVariables false
set_option linter.unusedSimpArgs false
namespace Go.Kin.St

/-- the state behind `m` edges -/
def srSt (E : List Ed) : Nat → Sr
  | 0 => ⟨fun _ => 0, fun _ => 0, fun _ => 0, fun _ => 0⟩
  | m + 1 => (srSt E m).step (edgeAt E (m % E.length)) (m % E.length) (m + 1)

theorem sr_inv {E : List Ed} (hl : Loopless E) (h0 : 0 < E.length) (m : Nat) : Inv E (srSt E m) m := by
  induction m with
  | zero => exact Inv.start E _ _
  | succ m ih =>
    have hlt : m % E.length < E.length := Nat.mod_lt _ h0
    have he : E[m % E.length]? = some (edgeAt E (m % E.length)) := by
      unfold edgeAt; rw [List.getElem?_eq_getElem hlt]; rfl
    exact ih.next hl he

theorem sr_within {E : List Ed} {W : Int} (hW : 0 ≤ W) (hw : ∀ e ∈ E, -W ≤ e.w ∧ e.w ≤ W) (m : Nat) : Within (W * m) (srSt E m).d := by
  induction m with
  | zero => exact Within.zero (by omega)
  | succ m ih =>
    have h : -W ≤ (edgeAt E (m % E.length)).w ∧ (edgeAt E (m % E.length)).w ≤ W := by
      unfold edgeAt
      cases hk : E[m % E.length]? with
      | none => simp only [Option.getD_none]; omega
      | some e => exact hw e (List.mem_of_getElem? hk)
    have := step_within (k := m % E.length) (now := m + 1) ih h.1 h.2
    exact this.mono (by rw [show ((m + 1 : Nat) : Int) = m + 1 by omega, Int.mul_add]; omega)

theorem sr_from {E : List Ed} {n : Nat} (hn : 0 < n) (hE : In n E) (m x : Nat) : (srSt E m).fr x < n := by
  induction m with
  | zero => exact hn
  | succ m ih =>
    have h : (edgeAt E (m % E.length)).a < n := by
      unfold edgeAt
      cases hk : E[m % E.length]? with
      | none => exact hn
      | some e => exact (hE e (List.mem_of_getElem? hk)).1
    simp only [srSt, Sr.step]
    split
    · simp only [upd]; split
      · exact h
      · exact ih
    · exact ih

theorem sr_next {E : List Ed} {r k : Nat} {e : Ed} (hk : E[k]? = some e) : srSt E (r * E.length + k + 1) = (srSt E (r * E.length + k)).step e k (r * E.length + k + 1) := by
  have hlt := (List.getElem?_eq_some_iff.1 hk).1
  have hm : (r * E.length + k) % E.length = k := by
    rw [Nat.mul_comm, Nat.mul_add_mod]; exact Nat.mod_eq_of_lt hlt
  have he : edgeAt E k = e := by unfold edgeAt; rw [hk]; rfl
  simp only [srSt, hm, he]

theorem iter_lt {f : Nat → Nat} {n : Nat} (hf : ∀ x, f x < n) {x : Nat} (hx : x < n) (k : Nat) : iter f k x < n := by
  cases k with
  | zero => exact hx
  | succ k => exact hf _

theorem iter_succ' {α : Type} (f : α → α) (k : Nat) (x : α) : iter f (k + 1) x = f (iter f k x) := rfl

/-- The first return. -/
theorem first_back {f : Nat → Nat} {c n : Nat} (h : ∃ p, 0 < p ∧ p ≤ n ∧ iter f p c = c) : ∃ p, 0 < p ∧ p ≤ n ∧ iter f p c = c ∧ ∀ q, 0 < q → q < p → iter f q c ≠ c := by
  obtain ⟨p, h1, h2, h3⟩ := h
  induction p using Nat.strongRecOn with
  | _ p ih =>
    by_cases hq : ∃ q, 0 < q ∧ q < p ∧ iter f q c = c
    · obtain ⟨q, q1, q2, q3⟩ := hq
      exact ih q q2 q1 (by omega) q3
    · exact ⟨p, h1, h2, h3, fun q q1 q2 q3 => hq ⟨q, q1, q2, q3⟩⟩

theorem range_reverse {α : Type} (g : Nat → α) (P : Nat) : (List.range P).map (fun j => g (P - 1 - j)) = ((List.range P).map g).reverse := by
  apply List.ext_getElem?
  intro j
  by_cases hj : j < P
  · rw [List.getElem?_reverse (by simpa using hj)]
    simp only [List.getElem?_map, List.length_map, List.length_range]
    rw [List.getElem?_range hj, List.getElem?_range (by omega)]; rfl
  · rw [List.getElem?_eq_none (by simp; omega), List.getElem?_eq_none (by simp; omega)]

theorem refute_aux {l : List Lk} {S : Sr} {m c P : Nat} (hI : Inv (edges l) S m) (hT : ∀ k, 0 < S.T (iter S.fr k c)) (hP : 0 < P) (g1 : follows c (walked (edges l) S c P)) (g2 : endOf c (walked (edges l) S c P) = c) (g3 : weight (walked (edges l) S c P) < 0) :
    accepts l ((List.range P).map (fun j => useOf (S.by_ (iter S.fr (P - 1 - j) c)))) = true := by
  rw [range_reverse (fun j => useOf (S.by_ (iter S.fr j c))) P]
  refine accepts_of (E := walked (edges l) S c P) (p := c) ?_ ?_ g1 g2 g3
  · rw [walked_eq, List.map_reverse, List.map_map, List.map_reverse, List.map_reverse, List.map_map, List.map_map]
    congr 1
    apply List.map_congr_left
    intro j _
    obtain ⟨e, he, _⟩ := (hI.pt _).has (hT j)
    simp only [Function.comp_apply, stepOf_useOf, he, edgeAt, Option.getD_some]
  · intro h
    have := congrArg List.length h
    simp at this; omega

/-- What is found. -/
theorem refute_good {l : List Lk} {n : Nat} (hF : Fine n l) (h0 : 0 < (edges l).length) {m x P : Nat} (hx : n * (edges l).length < (srSt (edges l) m).T x) (hP : 0 < P)
    (hc : iter (srSt (edges l) m).fr P (iter (srSt (edges l) m).fr n x) = iter (srSt (edges l) m).fr n x) :
    accepts l ((List.range P).map (fun j => useOf ((srSt (edges l) m).by_ (iter (srSt (edges l) m).fr (P - 1 - j) (iter (srSt (edges l) m).fr n x))))) = true ∧ ∀ t, ¬ Sol (edges l) t := by
  have hI := sr_inv hF.loopless h0 m
  have hE : In n (edges l) := by simpa using hF.inE
  obtain ⟨g1, g2, g3, g4⟩ := cycle_good hI hE hx hP hc
  exact ⟨refute_aux hI (on_cycle hI hE hx).2 hP g1 g2 g3, fun t => closed_none g1 g2 g3 g4 t⟩

theorem no_change {E : List Ed} {d : Nat → Int} (h : ∀ e ∈ E, ¬ d e.a + e.w < d e.b) : Sol E d := fun e he => by have := h e he; omega
end Go.Kin.St

/- Collating: what Pair does. -/
import Derived.Test.YtobiefdkpiognaaClD
import Derived.Test.YtobiefdkpiognaaClPl
set_option linter.unusedSectionVars false
set_option linter.unusedVariables false
set_option linter.unusedSimpArgs false
namespace Go.Proofs
open Go.RowKit Go.Kin Go.Kin.Cl
namespace R41
section
variable {P : Program} {N : Nat} {c : Cx} {Q : Exit → Act → World → Prop} {env : List (Nat × Value)} {mem : List (Nat × Obj)} {L l : List Oper} {ty : TypeId} {pos : String} {af : Array Edge} {g : Option (Nat × Bool)}
theorem r_callvJ [Wide c.F] {f : FuncId} [Ent P f] {d : Nat} {x : Operand} {args : List Operand} {ats : Array TypeId} {vs fs cs ws : List Value} {v : Value} (hw : wantB L env g = some true) (hd : Nat.blt d N = true)
    (hx : evOp env x = some (.func (.func f) ⟨fs⟩ ⟨cs⟩)) (ha : evOps env args some = some vs) (hws : fs ++ vs ++ cs = ws)
    (hc : ∀ W, SatW c.w0 c.D c.J mem W → Calls P f ⟨ws⟩ W fun e W' => e = .returned v ∧ SatW c.w0 c.D c.J mem W')
    (k : RunL P N c L l Q ((d, v) :: env) mem) : RunL P N c L (⟨some d, .call ⟨.value x, ⟨args⟩, ats⟩, ty, pos, af, g⟩ :: l) Q env mem :=
  l_callv (ι := Unit) (v := fun _ => v) (mem' := fun _ => mem) hw hd hx ha hws (fun W hm => (hc W hm).mono fun _ _ ⟨h1, h2⟩ => ⟨(), h1, h2⟩) fun _ => k
end
def prE (p : Int × Int) : List Value := [.int .i64 p.1, .int .i64 p.2]
def flatP (l : List (Int × Int)) : List Value := (l.map prE).flatten
theorem flatP_len (l : List (Int × Int)) : (flatP l).length = l.length * 2 := by
  induction l with
  | nil => rfl
  | cons x l ih => unfold flatP at ih ⊢; rw [List.map_cons, List.flatten_cons, List.length_append, ih, List.length_cons]; show 2 + _ = _; omega
theorem flatP_snoc (l : List (Int × Int)) (p : Int × Int) : flatP (l ++ [p]) = flatP l ++ prE p := by unfold flatP; simp
theorem lft_nat (a b : List Int) {I K : Int} {i k : Nat} (hI : I = i) (hK : K = k) : lft a b I K = lf a b i k := by subst hI hK; rfl
/-- what Pair's error is -/
def prR (a b : List Int) : Int := if 64 < a.length ∨ 64 < b.length then 2 else if a.all isC = true ∧ b.all isC = true then 0 else 410
def pairL (a b : List Int) : List (Int × Int) := prf a b 0 0
theorem pairL_len : ∀ (n i k : Nat) (a b : List Int), (a.length - i) + (b.length - k) ≤ n → (prf a b i k).length ≤ (a.length - i) + (b.length - k) := by
  intro n
  induction n with
  | zero =>
    intro i k a b h
    unfold prf
    rw [List.drop_eq_nil_of_le (by omega), List.drop_eq_nil_of_le (by omega), best_nil_left]
    exact Nat.zero_le _
  | succ n ih =>
    intro i k a b h
    by_cases hi : i < a.length
    · obtain ⟨x, hx⟩ : ∃ x, a[i]? = some x := ⟨_, List.getElem?_eq_getElem hi⟩
      by_cases hk : k < b.length
      · obtain ⟨y, hy⟩ : ∃ y, b[k]? = some y := ⟨_, List.getElem?_eq_getElem hk⟩
        by_cases h1 : lf a b i k = bes x y + lf a b (i + 1) (k + 1)
        · rw [prf_both hx hy h1, List.length_cons]
          have := ih (i + 1) (k + 1) a b (by omega)
          omega
        · by_cases h2 : lf a b i k = 2 + lf a b (i + 1) k
          · rw [prf_left hx hy h1 h2, List.length_cons]
            have := ih (i + 1) k a b (by omega)
            omega
          · rw [prf_right hx hy h1 h2, List.length_cons]
            have := ih i (k + 1) a b (by omega)
            omega
      · unfold prf
        rw [List.drop_eq_nil_of_le (show b.length ≤ k by omega), drop_get hx, best_left]
        show _ + 1 ≤ _
        have := ih (i + 1) k a b (by omega)
        unfold prf at this
        rw [List.drop_eq_nil_of_le (show b.length ≤ k by omega)] at this
        omega
    · by_cases hk : k < b.length
      · obtain ⟨y, hy⟩ : ∃ y, b[k]? = some y := ⟨_, List.getElem?_eq_getElem hk⟩
        unfold prf
        rw [List.drop_eq_nil_of_le (show a.length ≤ i by omega), drop_get hy, best_right]
        show _ + 1 ≤ _
        have := ih i (k + 1) a b (by omega)
        unfold prf at this
        rw [List.drop_eq_nil_of_le (show a.length ≤ i by omega)] at this
        omega
      · unfold prf
        rw [List.drop_eq_nil_of_le (by omega), List.drop_eq_nil_of_le (by omega), best_nil_left]
        exact Nat.zero_le _
/-- the pairs so far -/
inductive LS where
  | zero
  | more (i k n bp c : Nat) (r : List Value) (l : List (Int × Int))
def LS.i : LS → Nat
  | .zero => 0
  | .more i _ _ _ _ _ _ => i
def LS.k : LS → Nat
  | .zero => 0
  | .more _ k _ _ _ _ _ => k
def LS.sv : LS → Value
  | .zero => .slice Option.none 0 0
  | .more _ _ n bp c _ _ => .slice (Option.some ⟨bp, 0, Option.none⟩) n c
def LS.mem : LS → List (Nat × Obj)
  | .zero => []
  | .more _ _ _ bp _ r l => [(bp, .cells ⟨flatP l ++ r⟩ 62 (0, 0))]
def LS.l : LS → List (Int × Int)
  | .zero => []
  | .more _ _ _ _ _ _ l => l
def LS.ok (a b : List Int) : LS → Prop
  | .zero => True
  | .more i k n _ c r l => 0 < n ∧ n ≤ i + k ∧ i ≤ a.length ∧ k ≤ b.length ∧ l.length = n ∧ Grow 2 n (flatP l) c r
/-- what Pair does -/
def PairQ (a b : List Int) (w : World) (e : Ending) (w' : World) : Prop :=
  Below w.heap.size w w' ∧ ((prR a b ≠ 0 ∧ e = .returned (.tuple ⟨[.int .i64 0, .slice none 0 0, .int .i64 (prR a b)]⟩)) ∨ (prR a b = 0 ∧ pairL a b = [] ∧ e = .returned (.tuple ⟨[.int .i64 (ac a b), .slice none 0 0, .int .i64 0]⟩)) ∨
    (prR a b = 0 ∧ pairL a b ≠ [] ∧ ∃ bp cap rest, e = .returned (.tuple ⟨[.int .i64 (ac a b), .slice (some ⟨bp, 0, none⟩) (pairL a b).length cap, .int .i64 0]⟩) ∧ w.heap.size ≤ bp ∧ w'.heap[bp]? = some (.cells ⟨flatP (pairL a b) ++ rest⟩ 62 (0, 0))))

end R41
end Go.Proofs

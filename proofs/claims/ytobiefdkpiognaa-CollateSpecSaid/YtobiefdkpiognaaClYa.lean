/- Collating: rows that are made by appending. -/
import Derived.Test.YtobiefdkpiognaaClP
import Derived.Test.YtobiefdkpiognaaEng26
set_option linter.unusedSectionVars false
set_option linter.unusedVariables false
set_option linter.unusedSimpArgs false
namespace Go.Proofs
open Go.RowKit Go.Kin Go.Kin.Cl
namespace R41
section
variable {P : Program} {N : Nat} {c : Cx} {Q : Exit → Act → World → Prop} {env : List (Nat × Value)} {mem mem' : List (Nat × Obj)} {x : Code}
theorem c_perm (hp : mem.Perm mem') (k : RunC P N c x Q env mem') : RunC P N c x Q env mem := .mk fun a W ha hm => k.run a W ha (hm.perm hp)
theorem news_pre {b : Nat} {ys rest : List Value} {T' : TypeId} {fr : Nat × Nat} (hm : (b, Obj.cells ⟨ys ++ rest⟩ T' fr) ∈ mem) : News c mem b 0 ys :=
  ⟨fun W hW j v hj => by rw [hW.cellAt hm, Nat.zero_add, List.getElem?_append_left (List.getElem?_eq_some_iff.1 hj).1]; exact hj⟩
end
/-- a row being made -/
inductive RO where
  | zero
  | more (b c : Nat) (r : List Value)
def RO.sv (l : List Int) : RO → Value
  | .zero => .slice Option.none 0 0
  | .more b c _ => .slice (Option.some ⟨b, 0, Option.none⟩) l.length c
def RO.mem (l : List Int) : RO → List (Nat × Obj)
  | .zero => []
  | .more b _ r => [(b, .cells ⟨flatI l ++ r⟩ 3 (0, 0))]
def RO.ok (l : List Int) : RO → Prop
  | .zero => l = []
  | .more _ c r => Grow 1 l.length (flatI l) c r
def RO.A : RO → Option Addr
  | .zero => Option.none
  | .more b _ _ => Option.some ⟨b, 0, Option.none⟩
def RO.cap : RO → Nat
  | .zero => 0
  | .more _ c _ => c
theorem RO.sv_eq {l : List Int} {s : RO} (h : s.ok l) : s.sv l = .slice s.A l.length s.cap := by
  cases s with
  | zero => have h : l = [] := h
            rw [h]; rfl
  | more b c r => rfl
/-- all rows' blocks -/
def rowsM (n : Nat) (R : Nat → RO) (f : Nat → List Int) : List (Nat × Obj) := (List.range n).flatMap fun j => (R j).mem (f j)
/-- all but one row's -/
def rowsX (n i : Nat) (R : Nat → RO) (f : Nat → List Int) : List (Nat × Obj) := (List.range n).flatMap fun j => if j = i then [] else (R j).mem (f j)
theorem flatMap_cut (g : Nat → List (Nat × Obj)) (i : Nat) : ∀ l : List Nat, l.Nodup → i ∈ l → (l.flatMap g).Perm (g i ++ l.flatMap fun j => if j = i then [] else g j)
  | [], _, h => by cases h
  | a :: l, hn, h => by
    rw [List.nodup_cons] at hn
    simp only [List.flatMap_cons]
    by_cases e : a = i
    · subst e
      rw [if_pos rfl, List.nil_append]
      have : (l.flatMap fun j => if j = a then [] else g j) = l.flatMap g := by
        have key : ∀ l : List Nat, a ∉ l → (l.flatMap fun j => if j = a then [] else g j) = l.flatMap g := by
          intro l
          induction l with
          | nil => intro _; rfl
          | cons b l ih =>
            intro hb
            rw [List.mem_cons, not_or] at hb
            rw [List.flatMap_cons, List.flatMap_cons, if_neg (fun e => hb.1 e.symm), ih hb.2]
        exact key l hn.1
      rw [this]
    · rw [if_neg e]
      have h2 : i ∈ l := by rcases List.mem_cons.1 h with h | h; exact absurd h.symm e; exact h
      have := (flatMap_cut g i l hn.2 h2).append_left (g a)
      refine this.trans ?_
      rw [← List.append_assoc, ← List.append_assoc]
      exact List.perm_append_comm.append_right _
theorem rowsM_perm {n i : Nat} (h : i < n) (R : Nat → RO) (f : Nat → List Int) : (rowsM n R f).Perm ((R i).mem (f i) ++ rowsX n i R f) :=
  flatMap_cut (fun j => (R j).mem (f j)) i _ List.nodup_range (List.mem_range.2 h)
def updR (R : Nat → RO) (i : Nat) (r : RO) : Nat → RO := fun j => if j = i then r else R j
theorem rowsX_upd {n i : Nat} {R : Nat → RO} {f g : Nat → List Int} {r : RO} (h : ∀ j, j ≠ i → g j = f j) : rowsX n i (updR R i r) g = rowsX n i R f := by
  unfold rowsX
  congr 1
  funext j
  by_cases e : j = i
  · rw [if_pos e, if_pos e]
  · rw [if_neg e, if_neg e, h j e]; unfold updR; rw [if_neg e]
theorem rowsM_upd {n i : Nat} (h : i < n) {R : Nat → RO} {f g : Nat → List Int} {r : RO} (hg : ∀ j, j ≠ i → g j = f j) : (r.mem (g i) ++ rowsX n i R f).Perm (rowsM n (updR R i r) g) := by
  have := rowsM_perm h (updR R i r) g
  rw [rowsX_upd hg] at this
  have e : updR R i r i = r := if_pos rfl
  rw [e] at this
  exact this.symm
theorem rowsM_in {n j : Nat} (h : j < n) {R : Nat → RO} {f : Nat → List Int} {p : Nat × Obj} (hp : p ∈ (R j).mem (f j)) : p ∈ rowsM n R f := List.mem_flatMap.2 ⟨j, List.mem_range.2 h, hp⟩
theorem rowsM_zero {n : Nat} {f : Nat → List Int} : rowsM n (fun _ => .zero) f = [] := by
  unfold rowsM
  induction List.range n with
  | nil => rfl
  | cons a l ih => rw [List.flatMap_cons, ih]; rfl
/-- a row after some readings -/
def stg (ls : List (List Int)) (j k : Nat) : List Int := if k ≤ (txt ls).length then rowP (wd ls) (sgI ls j) (tpI ls j) k else rowI ls j
theorem stg_0 {ls : List (List Int)} {j : Nat} : stg ls j 0 = [] := if_pos (Nat.zero_le _)
theorem stg_end {ls : List (List Int)} {j k : Nat} (h : (txt ls).length < k) : stg ls j k = rowI ls j := if_neg (by omega)
theorem stg_mid {ls : List (List Int)} {j k : Nat} (h : k < (txt ls).length) : stg ls j (k + 1) = (stg ls j k ++ padL (sgI ls j k) (wd ls k)) ++ [tpI ls j k] := by
  unfold stg
  rw [if_pos (show k + 1 ≤ _ from h), if_pos (Nat.le_of_lt h), rowP, List.append_assoc]
theorem stg_last {ls : List (List Int)} {j k : Nat} (h : k = (txt ls).length) : stg ls j (k + 1) = stg ls j k ++ padL (sgI ls j k) (wd ls k) := by
  subst h
  unfold stg
  rw [if_neg (by omega), if_pos (Nat.le_refl _)]
  rfl
theorem stg_len {ls : List (List Int)} (hS : Short ls) {j k : Nat} (h : j < ls.length) : (stg ls j k).length ≤ 20000 := by
  have ht := hS.txt
  have hw : ∀ k, wd ls k ≤ 128 := fun k => wdI_len hS _ k
  unfold stg
  split
  · rename_i hk
    have h8 : (rowP (wd ls) (sgI ls j) (tpI ls j) k).length = atk (wd ls) k := rowP_len fun k _ => sgI_le h
    have h9 : atk (wd ls) k ≤ 129 * k := atk_bd hw k
    omega
  · rw [rowI_len h]
    have h9 : atk (wd ls) (txt ls).length ≤ 129 * (txt ls).length := atk_bd hw _
    have := hw (txt ls).length
    unfold lociN
    omega
/-- rows, the first ones one reading ahead -/
def mix (ls : List (List Int)) (k i j : Nat) : List Int := if j < i then stg ls j (k + 1) else stg ls j k
theorem mix_0 {ls : List (List Int)} {k : Nat} : mix ls k 0 = fun j => stg ls j k := by funext j; exact if_neg (by omega)
theorem mix_at {ls : List (List Int)} {k i : Nat} : mix ls k i i = stg ls i k := if_neg (by omega)
theorem mix_new {ls : List (List Int)} {k i : Nat} : mix ls k (i + 1) i = stg ls i (k + 1) := if_pos (by omega)
theorem mix_ne {ls : List (List Int)} {k i j : Nat} (h : j ≠ i) : mix ls k (i + 1) j = mix ls k i j := by
  unfold mix
  by_cases e : j < i
  · rw [if_pos e, if_pos (by omega)]
  · rw [if_neg e, if_neg (by omega)]
/-- the codes beside a reading -/
def atV (ls : List (List Int)) (k j : Nat) : Int := besF (li ls j) k (prI ls j)
def atL (ls : List (List Int)) (k i : Nat) : List Int := (List.range i).map (atV ls k)
theorem atL_len {ls : List (List Int)} {k i : Nat} : (atL ls k i).length = i := by unfold atL; simp
theorem atL_succ {ls : List (List Int)} {k i : Nat} : atL ls k (i + 1) = atL ls k i ++ [atV ls k i] := by unfold atL; rw [List.range_succ, List.map_append]; rfl
theorem atL_get {ls : List (List Int)} {k i n : Nat} (h : i < n) {r : List Value} : (flatI (atL ls k n) ++ r)[i]? = some (.int .i64 (atV ls k i)) := by
  rw [List.getElem?_append_left (by rw [flatI_len, atL_len]; omega), flatI_map, List.getElem?_map]
  unfold atL
  rw [List.getElem?_map, List.getElem?_range h]; rfl
/-- what lies behind a reading, of some witnesses -/
inductive O2 where
  | zero
  | more (bo co : Nat) (ro : List Value) (ba ca : Nat) (ra : List Value)
def flatV (vs : List RV) : List Value := (vs.map rvE).flatten
theorem flatV_len (vs : List RV) : (flatV vs).length = vs.length := by
  induction vs with
  | nil => rfl
  | cons v l ih => unfold flatV at ih ⊢; rw [List.map_cons, List.flatten_cons, List.length_append, ih]; show 1 + l.length = l.length + 1; omega
theorem flatV_snoc (vs : List RV) (v : RV) : flatV (vs ++ [v]) = flatV vs ++ [.slice v.A v.l.length v.cap] := by unfold flatV; rw [List.map_append, List.flatten_append]; rfl
theorem flatV_get : ∀ {vs : List RV} {i : Nat} {v : RV} {r : List Value}, vs[i]? = some v → (flatV vs ++ r)[i]? = some (.slice v.A v.l.length v.cap)
  | [], _, _, _, h => by simp at h
  | x :: vs, 0, v, r, h => by
    simp only [List.getElem?_cons_zero, Option.some.injEq] at h
    subst h; rfl
  | x :: vs, i + 1, v, r, h => by
    have := flatV_get (vs := vs) (r := r) (show vs[i]? = some v by simpa using h)
    exact this
def O2.sv (i : Nat) : O2 → Value
  | .zero => .slice Option.none 0 0
  | .more b c _ _ _ _ => .slice (Option.some ⟨b, 0, Option.none⟩) i c
def O2.sw (i : Nat) : O2 → Value
  | .zero => .slice Option.none 0 0
  | .more _ _ _ b c _ => .slice (Option.some ⟨b, 0, Option.none⟩) i c
def O2.mem (vs : List RV) (l : List Int) : O2 → List (Nat × Obj)
  | .zero => []
  | .more b _ r b' _ r' => [(b, .cells ⟨flatV vs ++ r⟩ 42 (0, 0)), (b', .cells ⟨flatI l ++ r'⟩ 3 (0, 0))]
def O2.ok (i : Nat) (vs : List RV) (l : List Int) : O2 → Prop
  | .zero => i = 0
  | .more _ c r _ c' r' => i ≠ 0 ∧ Grow 1 i (flatV vs) c r ∧ Grow 1 i (flatI l) c' r'
structure S1 where
  i : Nat
  W : World
  o : O2
  vs : List RV
def S1.mem (ls : List (List Int)) (k : Nat) (l5 : List (Nat × Obj)) (s : S1) : List (Nat × Obj) := s.o.mem s.vs (atL ls k s.i) ++ l5
def S1.D (ls : List (List Int)) (k : Nat) (l5 : List (Nat × Obj)) (s : S1) : Nat → Prop := allBut s.W ((s.mem ls k l5).map (·.1))
structure S1.ok (ls : List (List Int)) (k : Nat) (w : World) (TA : Option Addr) (l5 : List (Nat × Obj)) (s : S1) : Prop where
  le : s.i ≤ ls.length
  len : s.vs.length = s.i
  val : s.vs.map RV.l = (List.range s.i).map fun j => sgI ls j k
  same : Same (base w) w s.W
  dom : ∀ b, base w b → s.D ls k l5 b
  tx : Ar s.W (s.D ls k l5) TA 1 ((txt ls).map inE)
  rw : ∀ v ∈ s.vs, Ar s.W (s.D ls k l5) v.A 1 (v.l.map inE)
  out : s.o.ok s.i s.vs (atL ls k s.i)
/-- the rows, and the place where they lie -/
def tops (ls : List (List Int)) (bt n : Nat) (R : Nat → RO) (f : Nat → List Int) : List (Nat × Obj) := (bt, .cells ⟨vec n fun j => (R j).sv (f j)⟩ 42 (0, 0)) :: rowsM n R f
structure S0 where
  k : Nat
  W : World
  R : Nat → RO
def S0.mem (ls : List (List Int)) (bt : Nat) (s : S0) : List (Nat × Obj) := tops ls bt ls.length s.R (fun j => stg ls j s.k)
def S0.D (ls : List (List Int)) (bt : Nat) (s : S0) : Nat → Prop := allBut s.W ((s.mem ls bt).map (·.1))
structure S0.ok (ls : List (List Int)) (w : World) (TA : Option Addr) (bt : Nat) (s : S0) : Prop where
  le : s.k ≤ (txt ls).length + 1
  same : Same (base w) w s.W
  dom : ∀ b, base w b → s.D ls bt b
  tx : Ar s.W (s.D ls bt) TA 1 ((txt ls).map inE)
  rows : ∀ j, j < ls.length → (s.R j).ok (stg ls j s.k)
theorem svs_upd {n i : Nat} {R : Nat → RO} {f g : Nat → List Int} {r : RO} (hg : ∀ j, j ≠ i → g j = f j) : (vec n fun j => if j = i then r.sv (g i) else (R j).sv (f j)) = vec n fun j => (updR R i r j).sv (g j) := by
  congr 1
  funext j
  unfold updR
  by_cases e : j = i
  · rw [if_pos e, if_pos e, e]
  · rw [if_neg e, if_neg e, hg j e]
theorem mix_end {ls : List (List Int)} {k i j : Nat} (h : j < i) : mix ls k i j = stg ls j (k + 1) := if_pos h
theorem tops_end {ls : List (List Int)} {bt n k : Nat} {R : Nat → RO} : tops ls bt n R (mix ls k n) = tops ls bt n R (fun j => stg ls j (k + 1)) := by
  unfold tops rowsM vec
  rw [List.flatMap_def, List.flatMap_def]
  rw [List.map_congr_left (g := fun j => (R j).sv (stg ls j (k + 1))) fun j hj => by rw [mix_end (List.mem_range.1 hj)], List.map_congr_left (f := fun j => (R j).mem (mix ls k n j)) (g := fun j => (R j).mem (stg ls j (k + 1))) fun j hj => by rw [mix_end (List.mem_range.1 hj)]]
theorem rok_upd {ls : List (List Int)} {k i n : Nat} {R : Nat → RO} {r : RO} (h : ∀ j, j < n → (R j).ok (mix ls k i j)) (hr : r.ok (stg ls i (k + 1))) : ∀ j, j < n → (updR R i r j).ok (mix ls k (i + 1) j) := fun j hj => by
  unfold updR
  by_cases e : j = i
  · rw [if_pos e, e, mix_new]; exact hr
  · rw [if_neg e, mix_ne e]; exact h j hj
theorem perm_in {α : Type} (a b c : α) {l m k : List α} (h : l.Perm (m ++ k)) : (a :: b :: c :: l).Perm (m ++ (a :: b :: c :: k)) := by
  have h1 := h.append_left [a, b, c]
  refine h1.trans ?_
  rw [← List.append_assoc, show m ++ (a :: b :: c :: k) = (m ++ [a, b, c]) ++ k by rw [List.append_assoc]; rfl]
  exact List.perm_append_comm.append_right _
theorem perm4 {α : Type} (a b c d x : α) (l : List α) : (a :: b :: c :: d :: x :: l).Perm (x :: a :: b :: c :: d :: l) := List.perm_middle (l₁ := [a, b, c, d]) (a := x) (l₂ := l)
theorem back_perm {ls : List (List Int)} {k i n bt : Nat} (hi : i < n) {a b : Nat × Obj} {R : Nat → RO} {r : RO} {l : List Int} (h : stg ls i (k + 1) = l) :
    (r.mem l ++ (a :: b :: (bt, Obj.cells ⟨vec n fun j => if j = i then r.sv l else (R j).sv (mix ls k i j)⟩ 42 (0, 0)) :: rowsX n i R (mix ls k i))).Perm (a :: b :: (bt, .cells ⟨vec n fun j => (updR R i r j).sv (mix ls k (i + 1) j)⟩ 42 (0, 0)) :: rowsM n (updR R i r) (mix ls k (i + 1))) := by
  have e1 := svs_upd (n := n) (R := R) (r := r) (f := mix ls k i) (g := mix ls k (i + 1)) (i := i) fun j hj => mix_ne hj
  have e2 := rowsM_upd hi (R := R) (r := r) (f := mix ls k i) (g := mix ls k (i + 1)) fun j hj => mix_ne hj
  rw [mix_new, h] at e1 e2
  rw [e1]
  exact (perm_in _ _ _ e2.symm).symm
theorem svs_two {n i : Nat} {u : Value} (v : Value) {g : Nat → Value} {T : TypeId} : (Obj.cells ⟨vec n fun j => if j = i then v else if j = i then u else g j⟩ T (0, 0)) = .cells ⟨vec n fun j => if j = i then v else g j⟩ T (0, 0) := by
  congr 3
  funext j
  by_cases e : j = i
  · rw [if_pos e, if_pos e]
  · rw [if_neg e, if_neg e, if_neg e]
section
variable {N : Nat} {c : Cx} {Q : Exit → Act → World → Prop} {env : List (Nat × Value)} {mem mem' : List (Nat × Obj)} {e : Exit}
theorem x_drop (h : MSub mem mem') (k : RunX N c Q e env mem') : RunX N c Q e env mem := .mk fun a W ha hm => k.run a W ha (hm.mono h.sub)
end
end R41
end Go.Proofs

/- The engine: rows of records. Generic: no program is named here. -/
import Derived.Test.YtobiefdkpiognaaEng9
set_option linter.unusedSectionVars false
set_option linter.unusedVariables false
set_option linter.unusedSimpArgs false
namespace Go
open Go.RowKit
namespace Kin

theorem cutK_of {β : Type} {l : List Value} {o n : Nat} {k : List Value → Option β} (h : o + n ≤ l.length) : cutK l o n k = k ((l.drop o).take n) := by
  induction l generalizing o n k with
  | nil =>
    simp only [List.length_nil] at h
    obtain rfl : o = 0 := by omega
    obtain rfl : n = 0 := by omega
    rfl
  | cons x l ih =>
    cases o with
    | zero =>
      cases n with
      | zero => rfl
      | succ n =>
        simp only [cutK]
        rw [ih (by simp only [List.length_cons] at h; omega)]
        rfl
    | succ o =>
      simp only [cutK]
      rw [ih (by simp only [List.length_cons] at h; omega)]
      rfl

/-- `cs` has the row `r` at `o`. -/
structure RowAt (cs : List Value) (o : Nat) (r : List Value) : Prop where
  fits : o + r.length ≤ cs.length
  eq : (cs.drop o).take r.length = r

theorem RowAt.agg {cs : List Value} {o sz : Nat} {r : List Value} (h : RowAt cs o r) (hs : r.length = sz) : aggV true sz cs o = some (.agg ⟨r⟩) := by
  subst hs
  show cutK cs o r.length (fun r => some (Value.agg ⟨r⟩)) = _
  rw [cutK_of h.fits, h.eq]
theorem RowAt.get {cs : List Value} {o f : Nat} {r : List Value} {v : Value} (h : RowAt cs o r) (hv : r[f]? = some v) : cs[o + f]? = some v := by
  have hf := (List.getElem?_eq_some_iff.1 hv).1
  have h1 : ((cs.drop o).take r.length)[f]? = some v := by rw [h.eq]; exact hv
  rw [List.getElem?_take, if_pos hf, List.getElem?_drop] at h1
  exact h1

theorem flatten_len {α : Type} {rs : List (List α)} {sz : Nat} (h : ∀ r ∈ rs, r.length = sz) : rs.flatten.length = rs.length * sz := by
  induction rs with
  | nil => simp
  | cons r rs ih =>
    rw [List.flatten_cons, List.length_append, h r List.mem_cons_self, ih (fun r hr => h r (List.mem_cons_of_mem _ hr)), List.length_cons, Nat.succ_mul]; omega

theorem rowAt_flatten {rs : List (List Value)} {rest : List Value} {sz i : Nat} {r : List Value} (h : ∀ r ∈ rs, r.length = sz) (hi : rs[i]? = some r) : RowAt (rs.flatten ++ rest) (i * sz) r := by
  induction rs generalizing i with
  | nil => cases hi
  | cons x rs ih =>
    have hx := h x List.mem_cons_self
    cases i with
    | zero =>
      cases hi
      refine ⟨?_, ?_⟩
      · simp only [List.flatten_cons, List.length_append]; omega
      · simp only [Nat.zero_mul, List.drop_zero, List.flatten_cons, List.append_assoc, List.take_left']
    | succ i =>
      have ih := ih (fun r hr => h r (List.mem_cons_of_mem _ hr)) hi
      rw [List.flatten_cons, List.append_assoc, Nat.succ_mul, Nat.add_comm (i * sz) sz, ← hx]
      rw [hx]
      refine ⟨?_, ?_⟩
      · have := ih.fits; rw [List.length_append, hx]; omega
      · rw [← hx, ← List.drop_drop, List.drop_left, hx]; exact ih.eq

theorem splice_flatten {rs : List (List Value)} {rest : List Value} {sz i : Nat} {r : List Value} (h : ∀ r ∈ rs, r.length = sz) (hi : i < rs.length) (hr : r.length = sz) : splice (rs.flatten ++ rest) (i * sz) r = (rs.set i r).flatten ++ rest := by
  induction rs generalizing i with
  | nil => cases hi
  | cons x rs ih =>
    have hx := h x List.mem_cons_self
    cases i with
    | zero =>
      simp only [splice, Nat.zero_mul, List.take_zero, List.nil_append, Nat.zero_add, List.set_cons_zero, List.flatten_cons, List.append_assoc]
      rw [hr, ← hx, List.drop_left]
    | succ i =>
      have ih := ih (fun r hr => h r (List.mem_cons_of_mem _ hr)) (by simpa using hi)
      simp only [splice] at ih ⊢
      rw [List.flatten_cons, Nat.succ_mul, Nat.add_comm (i * sz) sz, List.set_cons_succ, List.flatten_cons, List.append_assoc x (rs.set i r).flatten, ← ih, List.append_assoc x rs.flatten]
      have e1 : (x ++ (rs.flatten ++ rest)).take (sz + i * sz) = x ++ (rs.flatten ++ rest).take (i * sz) := by rw [← hx, List.take_length_add_append]
      have e2 : (x ++ (rs.flatten ++ rest)).drop (sz + i * sz + r.length) = (rs.flatten ++ rest).drop (i * sz + r.length) := by
        rw [Nat.add_assoc, ← hx, List.drop_length_add_append]
      rw [e1, e2]
      simp only [List.append_assoc]

theorem flat_flatten {n : Nat} {f : Nat → List Value} : flat n f = ((List.range n).map f).flatten := by
  unfold flat; rw [List.flatMap_def]
theorem rowAt_flat {n sz i : Nat} {f : Nat → List Value} (h : ∀ i, (f i).length = sz) (hi : i < n) : RowAt (flat n f) (i * sz) (f i) := by
  have := rowAt_flatten (rs := (List.range n).map f) (rest := []) (sz := sz) (i := i) (r := f i) (fun r hr => by obtain ⟨j, _, rfl⟩ := List.mem_map.1 hr; exact h j) (by simp [hi])
  rwa [List.append_nil, ← flat_flatten] at this
theorem splice_flat {n sz i : Nat} {f : Nat → List Value} {r : List Value} (h : ∀ i, (f i).length = sz) (hi : i < n) (hr : r.length = sz) : splice (flat n f) (i * sz) r = flat n (iset f i r) := by
  have := splice_flatten (rs := (List.range n).map f) (rest := []) (sz := sz) (i := i) (r := r) (fun r hr => by obtain ⟨j, _, rfl⟩ := List.mem_map.1 hr; exact h j) (by simpa using hi) hr
  rw [List.append_nil, List.append_nil, ← flat_flatten] at this
  rw [this, flat_flatten]
  congr 1
  apply List.ext_getElem?
  intro j
  simp only [List.getElem?_set, List.getElem?_map, List.length_map, List.length_range, iset]
  by_cases h1 : j < n
  · by_cases h2 : i = j
    · subst h2; simp [h1, iset]
    · simp [h1, h2, iset, Ne.symm h2]
  · by_cases h2 : i = j
    · subst h2; simp [h1]
    · simp [h1, h2]

theorem rowAt_flatR {n sz i : Nat} {f : Nat → List Value} {rest : List Value} (h : ∀ i, (f i).length = sz) (hi : i < n) : RowAt (flat n f ++ rest) (i * sz) (f i) := by
  have := rowAt_flatten (rs := (List.range n).map f) (rest := rest) (sz := sz) (i := i) (r := f i) (fun r hr => by obtain ⟨j, _, rfl⟩ := List.mem_map.1 hr; exact h j) (by simp [hi])
  rwa [← flat_flatten] at this
theorem flat_len {n sz : Nat} {f : Nat → List Value} (h : ∀ i, (f i).length = sz) : (flat n f).length = n * sz := by
  rw [flat_flatten, flatten_len (sz := sz) (fun r hr => by obtain ⟨j, _, rfl⟩ := List.mem_map.1 hr; exact h j)]; simp
theorem splice_app {cs rest vs : List Value} {o : Nat} (h : o + vs.length ≤ cs.length) : splice (cs ++ rest) o vs = splice cs o vs ++ rest := by
  unfold splice
  rw [List.take_append_of_le_length (by omega), List.drop_append_of_le_length h, List.append_assoc, List.append_assoc, List.append_assoc]
theorem flat_fits {n sz i : Nat} {f : Nat → List Value} (h : ∀ i, (f i).length = sz) (hi : i < n) : i * sz + sz ≤ (flat n f).length := by
  rw [flat_len h, ← Nat.succ_mul]; exact Nat.mul_le_mul_right _ hi
theorem flat_fitsR {n sz i : Nat} {f : Nat → List Value} {rest : List Value} (h : ∀ i, (f i).length = sz) (hi : i < n) : i * sz + sz ≤ (flat n f ++ rest).length := by
  have := flat_fits h hi
  rw [List.length_append]; omega
theorem splice_flatR {n sz i : Nat} {f : Nat → List Value} {r rest : List Value} (h : ∀ i, (f i).length = sz) (hi : i < n) (hr : r.length = sz) : splice (flat n f ++ rest) (i * sz) r = flat n (iset f i r) ++ rest := by
  rw [splice_app (by rw [hr]; exact flat_fits h hi), splice_flat h hi hr]
theorem flat_succ {n : Nat} {f : Nat → List Value} : flat (n + 1) f = flat n f ++ f n := by
  unfold flat; rw [List.range_succ, List.flatMap_append]; simp
theorem flat_congr {n : Nat} {f g : Nat → List Value} (h : ∀ i, i < n → f i = g i) : flat n f = flat n g := by
  rw [flat_flatten, flat_flatten]
  congr 1
  exact List.map_congr_left fun i hi => h i (List.mem_range.1 hi)

section
variable {P : Program} {N : Nat} {c : Cx} {env : List (Nat × Value)} {mem : List (Nat × Obj)} {tt : List (TypeId × TI)} {ty : TypeId} {pos : String} {af : Array Edge} {g : Option (Nat × Bool)} {dd : Option Tmp} [Wide c.F]
/-- a record out of a row of them -/
theorem v_load_row [T : TT P tt] {t b o sz bt : Nat} {x : Operand} {kd : TK} {z : Value} {cs r : List Value} {T' : TypeId} {fr : Nat × Nat}
    (hx : evOp env x = some (.pointer (some ⟨b, o, none⟩))) (hm : (b, Obj.cells ⟨cs⟩ T' fr) ∈ mem) (ht : look tt t = some ⟨kd, sz, bt, z⟩) (hk : kd.isAgg = true) (hr : RowAt cs o r) (hs : Nat.beq r.length sz = true) :
    OpVal P N c env mem ⟨dd, .load t x, ty, pos, af, g⟩ (.agg ⟨r⟩) :=
  v_load hx hm ht (by rw [hk]; exact hr.agg (Nat.eq_of_beq_eq_true hs))
end

/-! ## Where ways meet, in one of many states -/
structure MidI (N : Nat) (c : Cx) {ι : Type} (I : ι → Prop) (E : ι → List (Nat × Value)) (M : ι → List (Nat × Obj)) (a : Act) (W : World) : Prop where
  ex : ∃ i, I i ∧ SatA N c.ds (E i) a ∧ SatW c.w0 c.D c.J (M i) W
section
variable {P : Program} {N : Nat} {c : Cx} {Q : Exit → Act → World → Prop} {env : List (Nat × Value)} {mem : List (Nat × Obj)} {ι : Type}
theorem c_joinI {x y : Code} (I : ι → Prop) (E : ι → List (Nat × Value)) (M : ι → List (Nat × Obj)) (k1 : RunC P N c x (Exit.then (MidI N c I E M) Q) env mem) (k2 : ∀ i, I i → RunC P N c y Q (E i) (M i)) : RunC P N c (.seq x y) Q env mem :=
  .mk fun a W ha hm => wpIn_seq (wpIn_mono (k1.run a W ha hm) fun e a' W' h => by
    cases e with
    | normal =>
      obtain ⟨i, h1, h2, h3⟩ := h.ex
      exact (k2 i h1).run a' W' h2 h3
    | _ => exact h)
theorem x_midI {I : ι → Prop} {E : ι → List (Nat × Value)} {M : ι → List (Nat × Obj)} {Q' : Exit → Act → World → Prop} (i : ι) (hI : I i) (hE : EnvSub env (E i)) (hM : MSub mem (M i)) : RunX N c (Exit.then (MidI N c I E M) Q') .normal env mem :=
  .mk fun _ _ ha hm => ⟨i, hI, hE.sat ha, hm.mono hM.sub⟩
end
end Kin
end Go

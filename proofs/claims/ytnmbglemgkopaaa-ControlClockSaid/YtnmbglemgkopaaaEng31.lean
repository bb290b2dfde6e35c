/- The engine's rule for regions that draw their order and make memory: whatever the order, the outcome is that of the text's own. Generic: no program is named here. -/
import Derived.Test.YtnmbglemgkopaaaEng11
import Derived.Laws.Bits64b
import Derived.RecoverIn
import Derived.Laws.BitsLemmas
set_option linter.unusedSectionVars false
set_option linter.unusedVariables false
set_option linter.unusedSimpArgs false
namespace Go
open Go.RowKit
namespace Kin

/-! ## Blocks in places -/
abbrev OM := List (Option (Nat × Obj))
def flatO (m : OM) : List (Nat × Obj) := m.filterMap id
def keepO (f : Nat → Bool) : Nat → OM → List (Nat × Obj)
  | _, [] => []
  | k, none :: m => keepO f (k + 1) m
  | k, some x :: m => bif f k then keepO f (k + 1) m else x :: keepO f (k + 1) m

theorem keepO_sub (f : Nat → Bool) (k : Nat) (m : OM) : List.Sublist (keepO f k m) (flatO m) := by
  induction m generalizing k with
  | nil => exact List.nil_sublist _
  | cons x m ih =>
    cases x with
    | none => exact ih (k + 1)
    | some x =>
      simp only [keepO]
      show List.Sublist _ (x :: flatO m)
      cases f k with
      | true => exact (ih (k + 1)).cons _
      | false => exact (ih (k + 1)).cons_cons _
theorem keepO_set {f : Nat → Bool} {k p : Nat} {m : OM} {x : Option (Nat × Obj)} (h : f (k + p) = true) : keepO f k (m.set p x) = keepO f k m := by
  induction m generalizing k p with
  | nil => rfl
  | cons y m ih =>
    cases p with
    | zero =>
      rw [Nat.add_zero] at h
      cases x <;> cases y <;> simp [keepO, h]
    | succ p =>
      have h2 := ih (k := k + 1) (p := p) (by rw [← h]; congr 1; omega)
      cases y <;> simp [keepO, h2]

theorem perm_set {m : OM} {p : Nat} {x : Nat × Obj} (h : m[p]? = some none) : (x :: flatO m).Perm (flatO (m.set p (some x))) := by
  induction m generalizing p with
  | nil => simp at h
  | cons y m ih =>
    cases p with
    | zero =>
      simp only [List.getElem?_cons_zero, Option.some.injEq] at h
      subst h
      exact List.Perm.refl _
    | succ p =>
      have h2 := ih (p := p) (by simpa using h)
      cases y with
      | none => exact h2
      | some y => exact (List.Perm.swap _ _ _).trans (h2.cons y)
theorem sub_set {m : OM} {p : Nat} : List.Sublist (flatO (m.set p none)) (flatO m) := by
  induction m generalizing p with
  | nil => exact List.Sublist.refl _
  | cons y m ih =>
    cases p with
    | zero => cases y with
      | none => exact List.Sublist.refl _
      | some y => exact (List.Sublist.refl _).cons _
    | succ p => cases y with
      | none => exact ih
      | some y => exact ih.cons_cons _
theorem upd_setO {m : OM} {p b : Nat} {o o' : Obj} {tl : List (Nat × Obj)} (h : m[p]? = some (some (b, o))) : Upd (flatO m ++ tl) b o o' (flatO (m.set p (some (b, o'))) ++ tl) := by
  induction m generalizing p with
  | nil => simp at h
  | cons y m ih =>
    cases p with
    | zero =>
      simp only [List.getElem?_cons_zero, Option.some.injEq] at h
      subst h
      exact Upd.head
    | succ p =>
      have h2 := ih (p := p) (by simpa using h)
      cases y with
      | none => exact h2
      | some y => exact h2.tail

def setAll (m : OM) (δ : List (Nat × Option (Nat × Obj))) : OM := δ.foldl (fun m c => m.set c.1 c.2) m
theorem setAll_get {δ : List (Nat × Option (Nat × Obj))} {m : OM} {p : Nat} (h : ∀ c ∈ δ, c.1 ≠ p) : (setAll m δ)[p]? = m[p]? := by
  induction δ generalizing m with
  | nil => rfl
  | cons c δ ih =>
    show (setAll (m.set c.1 c.2) δ)[p]? = _
    rw [ih fun e he => h e (List.mem_cons_of_mem _ he), List.getElem?_set_ne (h c List.mem_cons_self)]
theorem keepO_setAll {f : Nat → Bool} {δ : List (Nat × Option (Nat × Obj))} {m : OM} (h : ∀ c ∈ δ, f c.1 = true) : keepO f 0 (setAll m δ) = keepO f 0 m := by
  induction δ generalizing m with
  | nil => rfl
  | cons c δ ih =>
    show keepO f 0 (setAll (m.set c.1 c.2) δ) = _
    rw [ih fun e he => h e (List.mem_cons_of_mem _ he), keepO_set (by rw [Nat.zero_add]; exact h c List.mem_cons_self)]
theorem set_setAll {δ : List (Nat × Option (Nat × Obj))} {m : OM} {p : Nat} {x : Option (Nat × Obj)} (h : ∀ c ∈ δ, c.1 ≠ p) : setAll (m.set p x) δ = (setAll m δ).set p x := by
  induction δ generalizing m with
  | nil => rfl
  | cons c δ ih =>
    show setAll ((m.set p x).set c.1 c.2) δ = (setAll (m.set c.1 c.2) δ).set p x
    rw [List.set_comm _ _ (Ne.symm (h c List.mem_cons_self)), ih fun e he => h e (List.mem_cons_of_mem _ he)]
theorem setAll_comm {δ ε : List (Nat × Option (Nat × Obj))} {m : OM} (h : ∀ c ∈ δ, ∀ e ∈ ε, c.1 ≠ e.1) : setAll (setAll m δ) ε = setAll (setAll m ε) δ := by
  induction δ generalizing m with
  | nil => rfl
  | cons c δ ih =>
    show setAll (setAll (m.set c.1 c.2) δ) ε = setAll ((setAll m ε).set c.1 c.2) δ
    rw [ih fun d hd => h d (List.mem_cons_of_mem _ hd), set_setAll fun e he => (h c List.mem_cons_self e he).symm]

/-! ## What operations do to places -/
/-- what an operation is handed by chance: the new block, and what lies behind the elements -/
structure Pi where
  b : Nat
  rest : List Value
inductive Kd where
  | sto (p f len : Nat)
  | new (p : Nat)
  | app (p : Nat) (q : Option Nat) (sz : Nat)
  | cal (v : Value)
  | calA (p sz n : Nat) (xs : List Value) (e : TypeId)
  | calO (p : Nat) (V : Nat → Value) (o : Obj)
def Kd.at : Kd → List Nat
  | .sto p _ _ => [p]
  | .new p => [p]
  | .app p q _ => p :: q.toList
  | .cal _ => []
  | .calA p _ _ _ _ => [p]
  | .calO p _ _ => [p]
abbrev Kt := List (Nat × Kd)
abbrev Sh := List (Nat × List Nat)
def kdOf (kt : Kt) (i : Nat) : Option Kd := (kt.find? (fun s => s.1 == i)).map (·.2)
theorem kdOf_mem {kt : Kt} {i : Nat} {k : Kd} (h : kdOf kt i = some k) : (i, k) ∈ kt := by
  unfold kdOf at h
  cases hf : kt.find? (fun s => s.1 == i) with
  | none => rw [hf] at h; cases h
  | some s =>
    rw [hf] at h
    simp only [Option.map_some, Option.some.injEq] at h
    have h1 := List.mem_of_find?_eq_some hf
    have h2 := List.find?_some hf
    simp only [beq_iff_eq] at h2
    subst h; subst h2
    exact h1
def shOf (kt : Kt) : Sh := kt.map fun s => (s.1, s.2.at)
def wrS (an : List Nat) (sh : Sh) (i p : Nat) : Bool := sh.any fun s => s.2.contains p && s.1 != i && !waitsB an s.1 i && !waitsB an i s.1
def apartS (an : List Nat) (sh : Sh) : Bool := sh.all fun s => sh.all fun t => s.1 == t.1 || waitsB an s.1 t.1 || waitsB an t.1 s.1 || s.2.all fun p => !t.2.contains p
theorem apartS_spec {an : List Nat} {kt : Kt} (h : apartS an (shOf kt) = true) {i j : Nat} {k l : Kd} (hk : kdOf kt i = some k) (hl : kdOf kt j = some l) (hij : i ≠ j) (h1 : waitsB an i j = false) (h2 : waitsB an j i = false) : ∀ p ∈ k.at, p ∉ l.at := by
  have m1 : (i, k.at) ∈ shOf kt := List.mem_map.2 ⟨_, kdOf_mem hk, rfl⟩
  have m2 : (j, l.at) ∈ shOf kt := List.mem_map.2 ⟨_, kdOf_mem hl, rfl⟩
  have h3 := List.all_eq_true.1 (List.all_eq_true.1 h _ m1) _ m2
  simp only [h1, h2, Bool.or_false, Bool.or_eq_true, beq_iff_eq, hij, false_or] at h3
  intro p hp hq
  have h4 := List.all_eq_true.1 h3 p hp
  simp [hq] at h4
theorem wrS_of {an : List Nat} {kt : Kt} {i j : Nat} {k : Kd} (hk : kdOf kt j = some k) (hij : j ≠ i) (h1 : waitsB an i j = false) (h2 : waitsB an j i = false) : ∀ p ∈ k.at, wrS an (shOf kt) i p = true := fun p hp => by
  refine List.any_eq_true.2 ⟨(j, k.at), List.mem_map.2 ⟨_, kdOf_mem hk, rfl⟩, ?_⟩
  simp [hp, hij, h1, h2]

/-- what is taken of a rest, so that it fits -/
def capF (sz n : Nat) (r : List Value) : Nat := n + min (r.length / sz) (maxLen - n)
def restF (sz n : Nat) (r : List Value) : List Value := r.take (min (r.length / sz) (maxLen - n) * sz)
theorem growF {sz n cap : Nat} {xs rest : List Value} (h : Grow sz n xs cap rest) (h0 : 0 < sz) : capF sz n rest = cap ∧ restF sz n rest = rest := by
  have h1 := h.all
  rw [List.length_append, h.len] at h1
  have h2 : rest.length = (cap - n) * sz := by rw [Nat.sub_mul]; omega
  have h3 : rest.length / sz = cap - n := by rw [h2]; exact Nat.mul_div_cancel _ h0
  have h4 := h.max
  have h5 := h.le
  have h6 : min (cap - n) (maxLen - n) = cap - n := by omega
  unfold capF restF
  rw [h3, h6]
  refine ⟨by omega, ?_⟩
  rw [← h2]; exact List.take_length
theorem growF_mk {sz n : Nat} {xs : List Value} (hx : xs.length = n * sz) (hn : n ≤ maxLen) (r : List Value) : Grow sz n xs (capF sz n r) (restF sz n r) := by
  have h1 : min (r.length / sz) (maxLen - n) * sz ≤ r.length := Nat.le_trans (Nat.mul_le_mul_right _ (Nat.min_le_left _ _)) (Nat.div_mul_le_self _ _)
  have h2 : ∀ k : Nat, n ≤ n + min k (maxLen - n) ∧ n + min k (maxLen - n) ≤ maxLen := fun k => by omega
  refine ⟨hx, ?_, (h2 _).1, (h2 _).2⟩
  unfold capF restF
  rw [List.length_append, List.length_take, hx, Nat.add_mul, Nat.min_eq_left h1]

section
variable {P : Program} {ops : Array Oper} {C : List (Nat × Obj) → World → Prop} {kt : Kt} {wr : Nat → Nat → Bool} {β : Nat → Pi} {Lq : Act → OM → Prop}

inductive EffO (P : Program) (ops : Array Oper) (C : List (Nat × Obj) → World → Prop) (kt : Kt) (wr : Nat → Nat → Bool) (β : Nat → Pi) (o : Oper) (i : Nat) (a : Act) (m : OM) : Value → List (Nat × Option (Nat × Obj)) → Prop
  | val {v : Value} (hk : kdOf kt i = none) (hw : Region.wanted o (yielded ops a.tmps) = true) (hp : plainOp o.op = true) (h : ∀ W, C (keepO (wr i) 0 m) W → (execOp a.eval o).run P W = .ok (.value v) W) : EffO P ops C kt wr β o i a m v []
  | skip (hw : Region.wanted o (yielded ops a.tmps) = false) : EffO P ops C kt wr β o i a m undef []
  | cal {f : FuncId} {vs : Array Value} {v : Value} (hk : kdOf kt i = some (.cal v)) (hw : Region.wanted o (yielded ops a.tmps) = true) (hp : plainOp o.op = true)
      (h : ∀ W, C (keepO (wr i) 0 m) W → (execOp a.eval o).run P W = .ok (.enter f vs) W ∧ Calls P f vs W (fun e W' => e = .returned v ∧ Below W.heap.size W W')) : EffO P ops C kt wr β o i a m v []
  | calA {p sz n : Nat} {xs : List Value} {e : TypeId} {f : FuncId} {vs : Array Value} (hk : kdOf kt i = some (.calA p sz n xs e)) (hw : Region.wanted o (yielded ops a.tmps) = true) (hp : plainOp o.op = true) (h2 : m[p]? = some none) (h0 : 0 < sz) (hx : xs.length = n * sz) (hn : n ≤ maxLen)
      (h : ∀ W, C (keepO (wr i) 0 m) W → (execOp a.eval o).run P W = .ok (.enter f vs) W ∧ Calls P f vs W (fun e' W' => ∃ b cap rest, e' = .returned (.slice (some ⟨b, 0, none⟩) n cap) ∧ Grow sz n xs cap rest ∧ Below W.heap.size W W' ∧ W.heap.size ≤ b ∧ W'.heap[b]? = some (.cells ⟨xs ++ rest⟩ e (0, 0)))) :
      EffO P ops C kt wr β o i a m (.slice (some ⟨(β i).b, 0, none⟩) n (capF sz n (β i).rest)) [(p, some ((β i).b, .cells ⟨xs ++ restF sz n (β i).rest⟩ e (0, 0)))]
  | calO {p : Nat} {V : Nat → Value} {ob : Obj} {f : FuncId} {vs : Array Value} (hk : kdOf kt i = some (.calO p V ob)) (hw : Region.wanted o (yielded ops a.tmps) = true) (hp : plainOp o.op = true) (h2 : m[p]? = some none)
      (h : ∀ W, C (keepO (wr i) 0 m) W → (execOp a.eval o).run P W = .ok (.enter f vs) W ∧ Calls P f vs W (fun e' W' => ∃ b, e' = .returned (V b) ∧ Below W.heap.size W W' ∧ W.heap.size ≤ b ∧ W'.heap[b]? = some ob)) :
      EffO P ops C kt wr β o i a m (V (β i).b) [(p, some ((β i).b, ob))]
  | sto {p f b : Nat} {cs vs : List Value} {T : TypeId} (hk : kdOf kt i = some (.sto p f vs.length)) (hw : Region.wanted o (yielded ops a.tmps) = true) (hp : plainOp o.op = true) (h2 : m[p]? = some (some (b, .cells ⟨cs⟩ T (0, 0)))) (h3 : f + vs.length ≤ cs.length)
      (h : ∀ W : World, W.heap[b]? = some (.cells ⟨cs⟩ T (0, 0)) → (execOp a.eval o).run P W = .ok .skip (W.setRow b (splice cs f vs).toArray)) :
      EffO P ops C kt wr β o i a m undef [(p, some (b, .cells ⟨splice cs f vs⟩ T (0, 0)))]
  | new {p : Nat} {V : Nat → Value} {ob : Obj} (hk : kdOf kt i = some (.new p)) (hw : Region.wanted o (yielded ops a.tmps) = true) (hp : plainOp o.op = true) (h2 : m[p]? = some none)
      (h : ∀ W, C (keepO (wr i) 0 m) W → (execOp a.eval o).run P W = .ok (.value (V W.heap.size)) (W.alloc ob)) : EffO P ops C kt wr β o i a m (V (β i).b) [(p, some ((β i).b, ob))]
  | app {p sz n : Nat} {q : Option Nat} {xs : List Value} {e : TypeId} (hk : kdOf kt i = some (.app p q sz)) (hw : Region.wanted o (yielded ops a.tmps) = true) (hp : plainOp o.op = true) (h2 : m[p]? = some none) (h0 : 0 < sz) (hx : xs.length = n * sz) (hn : n ≤ maxLen) (hq : ∀ q', q = some q' → q' ≠ p)
      (h : ∀ W, C (keepO (wr i) 0 m) W → ∃ b cap rest W', (execOp a.eval o).run P W = .ok (.value (.slice (some ⟨b, 0, none⟩) n cap)) W' ∧ Grow sz n xs cap rest ∧ W'.heap[b]? = some (.cells ⟨xs ++ rest⟩ e (0, 0)) ∧
        ((∃ q' o', q = some q' ∧ m[q']? = some (some (b, o')) ∧ Same (fun k => k ≠ b) W W') ∨ (b = W.heap.size ∧ W' = W.drew.alloc (.cells ⟨xs ++ rest⟩ e (0, 0))))) :
      EffO P ops C kt wr β o i a m (.slice (some ⟨(β i).b, 0, none⟩) n (capF sz n (β i).rest)) (q.toList.map (fun q' => (q', none)) ++ [(p, some ((β i).b, .cells ⟨xs ++ restF sz n (β i).rest⟩ e (0, 0)))])

theorem EffO.of_same {o : Oper} {i : Nat} {a a' : Act} {m : OM} {v : Value} {δ : List (Nat × Option (Nat × Obj))} (h : EffO P ops C kt wr β o i a m v δ) (he : execOp a'.eval o = execOp a.eval o) (hw : Region.wanted o (yielded ops a'.tmps) = Region.wanted o (yielded ops a.tmps)) : EffO P ops C kt wr β o i a' m v δ := by
  cases h with
  | val h0 h1 h2 h3 => exact .val h0 (hw.trans h1) h2 (by rw [he]; exact h3)
  | sto h0 h1 h2 h3 h4 h5 => exact .sto h0 (hw.trans h1) h2 h3 h4 (by rw [he]; exact h5)
  | skip h1 => exact .skip (hw.trans h1)
  | cal h0 h1 h2 h3 => exact .cal h0 (hw.trans h1) h2 (by rw [he]; exact h3)
  | calA h0 h1 h2 h3 h4 h5 h6 h7 => exact .calA h0 (hw.trans h1) h2 h3 h4 h5 h6 (by rw [he]; exact h7)
  | calO h0 h1 h2 h3 h4 => exact .calO h0 (hw.trans h1) h2 h3 (by rw [he]; exact h4)
  | new h0 h1 h2 h3 h4 => exact .new h0 (hw.trans h1) h2 h3 (by rw [he]; exact h4)
  | app h0 h1 h2 h3 h4 h5 h6 h7 h8 => exact .app h0 (hw.trans h1) h2 h3 h4 h5 h6 h7 (by rw [he]; exact h8)

theorem EffO.at {o : Oper} {i : Nat} {a : Act} {m : OM} {v : Value} {δ : List (Nat × Option (Nat × Obj))} (h : EffO P ops C kt wr β o i a m v δ) : ∀ c ∈ δ, ∃ k, kdOf kt i = some k ∧ c.1 ∈ k.at := by
  intro c hc
  cases h with
  | val => cases hc
  | skip => cases hc
  | cal => cases hc
  | sto h0 =>
    simp only [List.mem_singleton] at hc
    subst hc
    exact ⟨_, h0, by simp [Kd.at]⟩
  | new h0 =>
    simp only [List.mem_singleton] at hc
    subst hc
    exact ⟨_, h0, by simp [Kd.at]⟩
  | calA h0 =>
    simp only [List.mem_singleton] at hc
    subst hc
    exact ⟨_, h0, by simp [Kd.at]⟩
  | calO h0 =>
    simp only [List.mem_singleton] at hc
    subst hc
    exact ⟨_, h0, by simp [Kd.at]⟩
  | app h0 =>
    refine ⟨_, h0, ?_⟩
    simp only [List.mem_append, List.mem_map, List.mem_singleton] at hc
    rcases hc with ⟨q', hq, rfl⟩ | rfl
    · simp [Kd.at, hq]
    · simp [Kd.at]

theorem EffO.stable {o : Oper} {i : Nat} {a : Act} {m m2 : OM} {v : Value} {δ : List (Nat × Option (Nat × Obj))} (h : EffO P ops C kt wr β o i a m v δ) (hk : keepO (wr i) 0 m2 = keepO (wr i) 0 m) (hat : ∀ k, kdOf kt i = some k → ∀ p ∈ k.at, m2[p]? = m[p]?) : EffO P ops C kt wr β o i a m2 v δ := by
  cases h with
  | val h0 h1 h2 h3 => exact .val h0 h1 h2 (by rw [hk]; exact h3)
  | skip h1 => exact .skip h1
  | cal h0 h1 h2 h3 => exact .cal h0 h1 h2 (by rw [hk]; exact h3)
  | calA h0 h1 h2 h3 h4 h5 h6 h7 => exact .calA h0 h1 h2 ((hat _ h0 _ (by simp [Kd.at])).trans h3) h4 h5 h6 (by rw [hk]; exact h7)
  | calO h0 h1 h2 h3 h4 => exact .calO h0 h1 h2 ((hat _ h0 _ (by simp [Kd.at])).trans h3) (by rw [hk]; exact h4)
  | sto h0 h1 h2 h3 h4 h5 => exact .sto h0 h1 h2 ((hat _ h0 _ (by simp [Kd.at])).trans h3) h4 h5
  | new h0 h1 h2 h3 h4 => exact .new h0 h1 h2 ((hat _ h0 _ (by simp [Kd.at])).trans h3) (by rw [hk]; exact h4)
  | app h0 h1 h2 h3 h4 h5 h6 h7 h8 =>
    refine .app h0 h1 h2 ((hat _ h0 _ (by simp [Kd.at])).trans h3) h4 h5 h6 h7 (fun W hW => ?_)
    rw [hk] at hW
    obtain ⟨b, cap, rest, W', g1, g2, g3, g4⟩ := h8 W hW
    refine ⟨b, cap, rest, W', g1, g2, g3, g4.imp (fun ⟨q', o', e1, e2, e3⟩ => ⟨q', o', e1, ?_, e3⟩) id⟩
    rw [hat _ h0 q' (by simp [Kd.at, e1])]; exact e2

/-- Two that do not wait for each other. -/
theorem EffO.swap {oi oj : Oper} {i j : Nat} {a : Act} {m : OM} {v u : Value} {δ ε : List (Nat × Option (Nat × Obj))} (hap : oi.apart ops oj = true) (hsi : ∀ cs b, oi.op ≠ .select cs b) (hsj : ∀ cs b, oj.op ≠ .select cs b)
    (s1 : ∀ k, kdOf kt j = some k → ∀ p ∈ k.at, wr i p = true) (s2 : ∀ k, kdOf kt i = some k → ∀ p ∈ k.at, wr j p = true) (s3 : ∀ k l, kdOf kt i = some k → kdOf kt j = some l → ∀ p ∈ k.at, p ∉ l.at)
    (hi : EffO P ops C kt wr β oi i a m v δ) (hj : EffO P ops C kt wr β oj j (a.put oi.dst v) (setAll m δ) u ε) :
    EffO P ops C kt wr β oj j a m u ε ∧ EffO P ops C kt wr β oi i (a.put oj.dst u) (setAll m ε) v δ ∧ setAll (setAll m ε) δ = setAll (setAll m δ) ε := by
  obtain ⟨h1, h2, h3⟩ := Oper.apart_spec hap
  have ha := hi.at
  have hb := hj.at
  have hne : ∀ c ∈ δ, ∀ e ∈ ε, c.1 ≠ e.1 := fun c hc e he h => by
    obtain ⟨k, k1, k2⟩ := ha c hc
    obtain ⟨l, l1, l2⟩ := hb e he
    exact s3 k l k1 l1 _ k2 (h ▸ l2)
  have hk := hj.of_same (execOp_put oj hsj a oi.dst v h1).symm (wanted_put oj a oi.dst v h1).symm
  refine ⟨hk.stable (m2 := m) ?_ ?_, ?_, setAll_comm fun c hc e he => (hne e he c hc).symm⟩
  · exact (keepO_setAll fun c hc => by obtain ⟨k, k1, k2⟩ := ha c hc; exact s2 k k1 _ k2).symm
  · intro l hl p hp
    exact (setAll_get fun c hc h => by obtain ⟨k, k1, k2⟩ := ha c hc; exact s3 k l k1 hl _ k2 (h ▸ hp)).symm
  · refine (hi.of_same (execOp_put oi hsi a oj.dst u h3) (wanted_put oi a oj.dst u h3)).stable ?_ ?_
    · exact keepO_setAll fun c hc => by obtain ⟨k, k1, k2⟩ := hb c hc; exact s1 k k1 _ k2
    · intro k hk p hp
      exact setAll_get fun c hc h => by obtain ⟨l, l1, l2⟩ := hb c hc; exact s3 k l hk l1 _ hp (h ▸ l2)

/-- whatever order -/
def gAnyO (P : Program) (ops : Array Oper) (C : List (Nat × Obj) → World → Prop) (kt : Kt) (wr : Nat → Nat → Bool) (β : Nat → Pi) (Lq : Act → OM → Prop) : Nat → Array Bool → Act → OM → Prop
  | 0, listed, a, m => Region.ready .any ops listed = [] ∧ Lq a m
  | f + 1, listed, a, m => Region.ready .any ops listed ≠ [] ∧ ∀ i ∈ Region.ready .any ops listed, ∀ o, ops[i]? = some o → ∃ v δ, EffO P ops C kt wr β o i a m v δ ∧ gAnyO P ops C kt wr β Lq f (listed.setIfInBounds i true) (a.put o.dst v) (setAll m δ)
/-- in the order of the text -/
def gSeqO (P : Program) (ops : Array Oper) (C : List (Nat × Obj) → World → Prop) (kt : Kt) (wr : Nat → Nat → Bool) (β : Nat → Pi) (Lq : Act → OM → Prop) : List Oper → Nat → Act → OM → Prop
  | [], _, a, m => Lq a m
  | o :: l, k, a, m => ∃ v δ, EffO P ops C kt wr β o k a m v δ ∧ gSeqO P ops C kt wr β Lq l (k + 1) (a.put o.dst v) (setAll m δ)

theorem gAnyO_first {i : Nat} {oi : Oper} (hi : ops[i]? = some oi) (hsel : ∀ (j : Nat) (o : Oper) cs b, ops[j]? = some o → o.op ≠ .select cs b) (s3 : apartS (ancs .any ops) (shOf kt) = true) :
    ∀ (f : Nat) (listed : Array Bool) (a : Act) (m : OM) (v : Value) (δ : List (Nat × Option (Nat × Obj))), ClosedL .any ops listed →
      (∀ j oj, ops[j]? = some oj → j ≠ i → listed.getD j true = false → (∀ e ∈ oj.after, Region.binds .any e = true → e.on ≠ i) → oi.apart ops oj = true) →
      i ∈ Region.ready .any ops listed → EffO P ops C kt (wrS (ancs .any ops) (shOf kt)) β oi i a m v δ →
      gAnyO P ops C kt (wrS (ancs .any ops) (shOf kt)) β Lq f (listed.setIfInBounds i true) (a.put oi.dst v) (setAll m δ) → gAnyO P ops C kt (wrS (ancs .any ops) (shOf kt)) β Lq (f + 1) listed a m := by
  intro f
  induction f with
  | zero =>
    intro listed a m v δ _ _ hr hy H
    refine ⟨fun h => (by rw [h] at hr; cases hr), fun j hj o ho => ?_⟩
    by_cases hji : j = i
    · subst hji
      rw [hi] at ho; cases ho
      exact ⟨v, δ, hy, H⟩
    · have := ready_mono hj hji
      rw [H.1] at this
      cases this
  | succ f ih =>
    intro listed a m v δ hcl hfree hr hy H
    refine ⟨fun h => (by rw [h] at hr; cases hr), fun j hj oj hoj => ?_⟩
    by_cases hji : j = i
    · subst hji
      rw [hi] at hoj; cases hoj
      exact ⟨v, δ, hy, H⟩
    · obtain ⟨u, ε, h1, h2⟩ := H.2 j (ready_mono hj hji) oj hoj
      obtain ⟨hjun, oj', hoj', hall⟩ := mem_ready.1 hj
      rw [hoj] at hoj'; cases hoj'
      have hnot : ∀ e ∈ oj.after, Region.binds .any e = true → e.on ≠ i := fun e he hb heq => by
        have h1 := hall e he hb
        have h0 := (mem_ready.1 hr).1
        rw [heq] at h1
        rcases Nat.lt_or_ge i listed.size with h' | h'
        · simp [h'] at h0 h1; rw [h0] at h1; cases h1
        · simp [Array.getElem?_eq_none h'] at h1
      have hap := hfree j oj hoj hji hjun hnot
      have f1 := ready_free hcl hr hj
      have f2 := ready_free hcl hj hr
      obtain ⟨g1, g2, g3⟩ := EffO.swap hap (fun cs b => hsel i oi cs b hi) (fun cs b => hsel j oj cs b hoj)
        (fun k hk => wrS_of hk hji f2 f1) (fun k hk => wrS_of hk (Ne.symm hji) f1 f2) (fun k l hk hl => apartS_spec s3 hk hl (Ne.symm hji) f2 f1) hy h1
      have hfree' : ∀ k ok, ops[k]? = some ok → k ≠ i → (listed.setIfInBounds j true).getD k true = false →
          (∀ e ∈ ok.after, Region.binds .any e = true → e.on ≠ i) → oi.apart ops ok = true := fun k ok hk hki hun hno => by
        refine hfree k ok hk hki ?_ hno
        by_cases hjk : j = k
        · subst hjk; exact hjun
        · rw [getD_set_ne true hjk] at hun; exact hun
      refine ⟨u, ε, g1, ih (listed.setIfInBounds j true) _ _ v δ (hcl.set hj) hfree' (ready_mono hr (Ne.symm hji)) g2 ?_⟩
      rw [Array.setIfInBounds_comm _ _ hji, ← Act.put_comm a v u (Oper.apart_spec hap).2.1, g3]
      exact h2

theorem gAnyO_lex (hs : Region.noSelect ops = true) (s3 : apartS (ancs .any ops) (shOf kt) = true) : ∀ (l : List Oper) (k : Nat) (listed : Array Bool) (a : Act) (m : OM), ClosedL .any ops listed → (∀ j, l[j]? = ops[k + j]?) →
    Region.lexFrom .any ops l.length k listed = true → gSeqO P ops C kt (wrS (ancs .any ops) (shOf kt)) β Lq l k a m → gAnyO P ops C kt (wrS (ancs .any ops) (shOf kt)) β Lq l.length listed a m
  | [], _, _, _, _, _, _, hB, h => ⟨by simpa [Region.lexFrom] using hB, h⟩
  | o :: l, k, listed, a, m, hcl, hl, hB, h => by
    have h0 : ops[k]? = some o := by simpa using (hl 0).symm
    simp only [List.length_cons, Region.lexFrom, Bool.and_eq_true] at hB
    obtain ⟨⟨hr, hf⟩, hB'⟩ := hB
    obtain ⟨v, δ, h1, h2⟩ := h
    have hr' : k ∈ Region.ready .any ops listed := by simpa using hr
    exact gAnyO_first h0 (Region.noSelect_spec hs) s3 l.length listed a m v δ hcl (Region.free_spec h0 hf) hr' h1
      (gAnyO_lex hs s3 l (k + 1) _ _ _ (hcl.set hr') (fun j => by have := hl (j + 1); simpa [Nat.add_assoc, Nat.add_comm 1 j] using this) hB' h2)
end
end Kin
end Go

set_option linter.unusedSectionVars false
set_option linter.unusedVariables false
set_option linter.unusedSimpArgs false
namespace Go
open Go.RowKit
namespace Kin
section
variable {P : Program} {N : Nat} {c : Cx} {Q : Exit → Act → World → Prop} {env : List (Nat × Value)} {mem : List (Nat × Obj)} {L l : List Oper} [Wide c.F]
  {tt : List (TypeId × TI)} {d : Nat} {ty : TypeId} {pos : String} {af : Array Edge} {g : Option (Nat × Bool)} {dd : Option Tmp}

abbrev Cx.CT (c : Cx) (tl : List (Nat × Obj)) : List (Nat × Obj) → World → Prop := fun l W => SatW c.w0 c.D c.J (l ++ tl) W

theorem getD_set_false {listed : Array Bool} {i k : Nat} (h : (listed.setIfInBounds i true).getD k true = false) : k ≠ i ∧ listed.getD k true = false := by
  by_cases hk : i = k
  · subst hk
    rcases Nat.lt_or_ge i listed.size with h' | h'
    · simp [h'] at h
    · simp [h'] at h
  · rw [getD_set_ne true hk] at h
    exact ⟨fun e => hk e.symm, h⟩

theorem alloc_inj {W : World} {o o' : Obj} (h : W.alloc o = W.alloc o') : o = o' := by
  have h1 := World.alloc_heap_new W o
  rw [h, World.alloc_heap_new W o'] at h1
  exact (Option.some.inj h1).symm

theorem SatW.fresh {w0 : World} {D : Nat → Prop} {J : (Nat → Prop) → World → Prop} {mem : List (Nat × Obj)} {W W' : World} (hm : SatW w0 D J mem W) (h2 : Below W.heap.size W W') {b : Nat} {o : Obj} (h3 : W.heap.size ≤ b) (h4 : W'.heap[b]? = some o) : SatW w0 D J ((b, o) :: mem) W' := by
  have hm2 := hm.later h2
  refine ⟨hm2.same, hm2.dom, ?_, ?_, hm.closed, hm.closed _ _ _ _ hm.word (Same.of_below_all h2) fun b' hb => ?_⟩
  · simp only [List.map_cons, List.nodup_cons]
    refine ⟨fun hmm => ?_, hm2.nodup⟩
    obtain ⟨p, hp, e⟩ := List.mem_map.1 hmm
    have := hm.lt hp
    omega
  · intro p hp
    rcases List.mem_cons.1 hp with rfl | hp
    · exact ⟨fun hdd => by have := hm.dom _ hdd; have := hm.same.size; simp only at *; omega, h4⟩
    · exact hm2.own p hp
  · simp only [keys, List.map_cons, List.mem_cons] at hb
    rcases hb with rfl | hb
    · exact .inr h3
    · exact .inl hb
theorem wpAny_of_B {ops : Array Oper} {kt : Kt} {wr : Nat → Nat → Bool} {tl : List (Nat × Obj)} {Lq : Act → OM → Prop} (hL : ∀ a m W, Lq a m → SatW c.w0 c.D c.J (flatO m ++ tl) W → Q .normal a W) :
    ∀ (f : Nat) (listed : Array Bool) (a : Act) (m : OM) (W : World), SatW c.w0 c.D c.J (flatO m ++ tl) W → ∀ (B : (Nat → Pi) → Prop), (∃ β, B β) →
      (∀ β, B β → ∀ i, listed.getD i true = false → ∀ π, B (fun j => if j = i then π else β j)) → (∀ β, B β → gAnyO P ops (c.CT tl) kt wr β Lq f listed a m) → wpAnyIn c.F c.n P .any ops Q f listed a W
  | 0, listed, a, m, W, hm, B, ⟨β, hβ⟩, _, H => ⟨(H β hβ).1, hL _ _ _ (H β hβ).2 hm⟩
  | f + 1, listed, a, m, W, hm, B, ⟨β0, hβ0⟩, hcl, H => by
    have H0 := H β0 hβ0
    refine ⟨fun h0 => absurd h0 H0.1, fun i hi => ?_⟩
    obtain ⟨hun, o, ho, _⟩ := mem_ready.1 hi
    obtain ⟨v0, δ0, e0, g0⟩ := H0.2 i hi o ho
    have hcl' : ∀ β, B β → ∀ k, (listed.setIfInBounds i true).getD k true = false → ∀ π, B (fun j => if j = k then π else β j) := fun β hβ k hk π => hcl β hβ k (getD_set_false hk).2 π
    have hkeep : c.CT tl (keepO (wr i) 0 m) W := hm.mono ((keepO_sub _ _ _).append_right tl)
    unfold wpOpIn
    simp only [ho]
    cases e0 with
    | skip w0 =>
      rw [if_neg (by rw [w0]; exact Bool.false_ne_true)]
      refine ⟨fun f _ => Wide.fn c.F f, wpAny_of_B (kt := kt) (wr := wr) hL f _ _ m _ hm B ⟨β0, hβ0⟩ hcl' fun β hβ => ?_⟩
      obtain ⟨v, δ, e, g⟩ := (H β hβ).2 i hi o ho
      cases e with
      | skip w1 => exact g
      | cal k1 w1 => rw [w0] at w1; cases w1
      | calA k1 w1 => rw [w0] at w1; cases w1
      | calO k1 w1 => rw [w0] at w1; cases w1
      | val k1 w1 => rw [w0] at w1; cases w1
      | sto k1 w1 => rw [w0] at w1; cases w1
      | new k1 w1 => rw [w0] at w1; cases w1
      | app k1 w1 => rw [w0] at w1; cases w1
    | val k0 w0 p0 r0 =>
      rw [if_pos w0]
      refine ⟨fun f _ => Wide.fn c.F f, ?_⟩
      rw [semAt_plain _ p0, r0 W hkeep]
      refine wpAny_of_B (kt := kt) (wr := wr) hL f _ _ m _ hm B ⟨β0, hβ0⟩ hcl' fun β hβ => ?_
      obtain ⟨v, δ, e, g⟩ := (H β hβ).2 i hi o ho
      cases e with
      | skip w1 => rw [w0] at w1; cases w1
      | cal k1 => rw [k0] at k1; cases k1
      | calA k1 => rw [k0] at k1; cases k1
      | calO k1 => rw [k0] at k1; cases k1
      | val k1 w1 p1 r1 =>
        have := (r0 W hkeep).symm.trans (r1 W hkeep)
        simp only [Result.ok.injEq, Next.value.injEq, and_true] at this
        rw [this]; exact g
      | sto k1 => rw [k0] at k1; cases k1
      | new k1 => rw [k0] at k1; cases k1
      | app k1 => rw [k0] at k1; cases k1
    | cal k0 w0 p0 r0 =>
      rw [if_pos w0]
      refine ⟨fun f _ => Wide.fn c.F f, ?_⟩
      obtain ⟨r1, r2⟩ := r0 W hkeep
      rw [semAt_plain _ p0, r1]
      refine ⟨Wide.depth c.F c.n, (Wide.calls (F := c.F) r2).mono ?_⟩
      rintro e' W' ⟨rfl, hb⟩
      refine wpAny_of_B (kt := kt) (wr := wr) hL f _ _ m _ (hm.later hb) B ⟨β0, hβ0⟩ hcl' fun β hβ => ?_
      obtain ⟨v, δ, e, g⟩ := (H β hβ).2 i hi o ho
      cases e with
      | skip w1 => rw [w0] at w1; cases w1
      | val k1 => rw [k0] at k1; cases k1
      | sto k1 => rw [k0] at k1; cases k1
      | new k1 => rw [k0] at k1; cases k1
      | app k1 => rw [k0] at k1; cases k1
      | calA k1 => rw [k0] at k1; cases k1
      | calO k1 => rw [k0] at k1; cases k1
      | cal k1 w1 p1 r1 =>
        rw [k0] at k1
        simp only [Option.some.injEq, Kd.cal.injEq] at k1
        subst k1
        exact g
    | calA k0 w0 p0 h20 z0 x0 n0 r0 =>
      rename_i p sz n xs e f vs
      rw [if_pos w0]
      refine ⟨fun f _ => Wide.fn c.F f, ?_⟩
      obtain ⟨r1, r2⟩ := r0 W hkeep
      rw [semAt_plain _ p0, r1]
      refine ⟨Wide.depth c.F c.n, (Wide.calls (F := c.F) r2).mono ?_⟩
      rintro e' W' ⟨b, cap, rest, rfl, g2, hb, hge, g3⟩
      obtain ⟨gc, gr⟩ := growF g2 z0
      refine wpAny_of_B (kt := kt) (wr := wr) hL _ _ _ (m.set p (some (b, .cells ⟨xs ++ rest⟩ e (0, 0)))) _ ((hm.fresh hb hge g3).perm ((perm_set h20).append_right tl)) (fun β => B β ∧ β i = ⟨b, rest⟩) ⟨fun j => if j = i then ⟨b, rest⟩ else β0 j, hcl β0 hβ0 i hun _, by simp⟩
        (fun β hβ k hk π => ⟨hcl' β hβ.1 k hk π, by simp only; rw [if_neg (Ne.symm (getD_set_false hk).1)]; exact hβ.2⟩) fun β hβ => ?_
      obtain ⟨v, δ, e', g⟩ := (H β hβ.1).2 i hi o ho
      cases e' with
      | skip w1 => rw [w0] at w1; cases w1
      | cal k1 => rw [k0] at k1; cases k1
      | val k1 => rw [k0] at k1; cases k1
      | sto k1 => rw [k0] at k1; cases k1
      | new k1 => rw [k0] at k1; cases k1
      | app k1 => rw [k0] at k1; cases k1
      | calO k1 => rw [k0] at k1; cases k1
      | calA k1 =>
        rw [k0] at k1
        simp only [Option.some.injEq, Kd.calA.injEq] at k1
        obtain ⟨rfl, rfl, rfl, rfl, rfl⟩ := k1
        rw [hβ.2] at g
        simp only [gc, gr] at g
        exact g
    | calO k0 w0 p0 h20 r0 =>
      rename_i p V ob f vs
      rw [if_pos w0]
      refine ⟨fun f _ => Wide.fn c.F f, ?_⟩
      obtain ⟨r1, r2⟩ := r0 W hkeep
      rw [semAt_plain _ p0, r1]
      refine ⟨Wide.depth c.F c.n, (Wide.calls (F := c.F) r2).mono ?_⟩
      rintro e' W' ⟨b, rfl, hb, hge, g3⟩
      refine wpAny_of_B (kt := kt) (wr := wr) hL _ _ _ (m.set p (some (b, ob))) _ ((hm.fresh hb hge g3).perm ((perm_set h20).append_right tl)) (fun β => B β ∧ β i = ⟨b, []⟩) ⟨fun j => if j = i then ⟨b, []⟩ else β0 j, hcl β0 hβ0 i hun _, by simp⟩
        (fun β hβ k hk π => ⟨hcl' β hβ.1 k hk π, by simp only; rw [if_neg (Ne.symm (getD_set_false hk).1)]; exact hβ.2⟩) fun β hβ => ?_
      obtain ⟨v, δ, e', g⟩ := (H β hβ.1).2 i hi o ho
      cases e' with
      | skip w1 => rw [w0] at w1; cases w1
      | cal k1 => rw [k0] at k1; cases k1
      | calA k1 => rw [k0] at k1; cases k1
      | val k1 => rw [k0] at k1; cases k1
      | sto k1 => rw [k0] at k1; cases k1
      | new k1 => rw [k0] at k1; cases k1
      | app k1 => rw [k0] at k1; cases k1
      | calO k1 =>
        rw [k0] at k1
        simp only [Option.some.injEq, Kd.calO.injEq] at k1
        obtain ⟨rfl, rfl, rfl⟩ := k1
        rw [hβ.2] at g
        exact g
    | sto k0 w0 p0 h20 h30 r0 =>
      rename_i p ff b cs vs T
      rw [if_pos w0]
      refine ⟨fun f _ => Wide.fn c.F f, ?_⟩
      have hu := upd_setO (o' := .cells ⟨splice cs ff vs⟩ T (0, 0)) (tl := tl) h20
      have hb := (hm.own _ hu.isIn).2
      rw [semAt_plain _ p0, r0 W hb]
      refine wpAny_of_B (kt := kt) (wr := wr) hL f _ _ (m.set p (some (b, .cells ⟨splice cs ff vs⟩ T (0, 0)))) _ (hm.put hu) B ⟨β0, hβ0⟩ hcl' fun β hβ => ?_
      obtain ⟨v, δ, e, g⟩ := (H β hβ).2 i hi o ho
      cases e with
      | skip w1 => rw [w0] at w1; cases w1
      | cal k1 => rw [k0] at k1; cases k1
      | calA k1 => rw [k0] at k1; cases k1
      | calO k1 => rw [k0] at k1; cases k1
      | val k1 => rw [k0] at k1; cases k1
      | new k1 => rw [k0] at k1; cases k1
      | app k1 => rw [k0] at k1; cases k1
      | sto k1 w1 p1 h21 h31 r1 =>
        rename_i p' ff' b' cs' vs' T'
        rw [k0] at k1
        simp only [Option.some.injEq, Kd.sto.injEq] at k1
        obtain ⟨rfl, rfl, _⟩ := k1
        rw [h20] at h21
        simp only [Option.some.injEq, Prod.mk.injEq, Obj.cells.injEq, Array.mk.injEq, and_true] at h21
        obtain ⟨rfl, rfl, rfl⟩ := h21
        have h5 := (r0 W hb).symm.trans (r1 W hb)
        simp only [Result.ok.injEq, true_and] at h5
        have h6 := setRow_heap W b ⟨cs⟩ (splice cs ff vs).toArray T _ hb
        rw [h5, setRow_heap W b ⟨cs⟩ (splice cs ff vs').toArray T _ hb] at h6
        simp only [Option.some.injEq, Obj.cells.injEq, and_true] at h6
        have h7 : splice cs ff vs' = splice cs ff vs := by simpa using congrArg Array.toList h6
        rw [h7] at g
        exact g
    | new k0 w0 p0 h20 r0 =>
      rename_i p V ob
      rw [if_pos w0]
      refine ⟨fun f _ => Wide.fn c.F f, ?_⟩
      rw [semAt_plain _ p0, r0 W hkeep]
      refine wpAny_of_B (kt := kt) (wr := wr) hL f _ _ (m.set p (some (W.heap.size, ob))) _ ((hm.alloc ob).perm ((perm_set h20).append_right tl)) (fun β => B β ∧ (β i).b = W.heap.size) ⟨fun j => if j = i then ⟨W.heap.size, []⟩ else β0 j, hcl β0 hβ0 i hun _, by simp⟩
        (fun β hβ k hk π => ⟨hcl' β hβ.1 k hk π, by simp only; rw [if_neg (Ne.symm (getD_set_false hk).1)]; exact hβ.2⟩) fun β hβ => ?_
      obtain ⟨v, δ, e, g⟩ := (H β hβ.1).2 i hi o ho
      cases e with
      | skip w1 => rw [w0] at w1; cases w1
      | cal k1 => rw [k0] at k1; cases k1
      | calA k1 => rw [k0] at k1; cases k1
      | calO k1 => rw [k0] at k1; cases k1
      | val k1 => rw [k0] at k1; cases k1
      | sto k1 => rw [k0] at k1; cases k1
      | app k1 => rw [k0] at k1; cases k1
      | new k1 w1 p1 h21 r1 =>
        rename_i p' V' ob'
        rw [k0] at k1
        simp only [Option.some.injEq, Kd.new.injEq] at k1
        subst k1
        have h5 := (r0 W hkeep).symm.trans (r1 W hkeep)
        simp only [Result.ok.injEq, Next.value.injEq] at h5
        have h6 := alloc_inj h5.2
        subst h6
        rw [hβ.2, ← h5.1] at g
        exact g
    | app k0 w0 p0 h20 z0 x0 n0 q0 r0 =>
      rename_i p sz n q xs e
      rw [if_pos w0]
      refine ⟨fun f _ => Wide.fn c.F f, ?_⟩
      obtain ⟨b, cap, rest, W', g1, g2, g3, g4⟩ := r0 W hkeep
      obtain ⟨gc, gr⟩ := growF g2 z0
      rw [semAt_plain _ p0, g1]
      have hsat : SatW c.w0 c.D c.J (flatO (setAll m (q.toList.map (fun q' => (q', none)) ++ [(p, some (b, .cells ⟨xs ++ rest⟩ e (0, 0)))])) ++ tl) W' := by
        rcases g4 with ⟨q', o', rfl, h2, h3⟩ | ⟨hb, hW'⟩
        · have hqp := q0 q' rfl
          have hlt := (List.getElem?_eq_some_iff.1 h2).1
          have s1 := hm.upd (upd_setO (o' := .cells ⟨xs ++ rest⟩ e (0, 0)) (tl := tl) h2) h3 g3
          have e1 : (m.set q' none)[q']? = some none := List.getElem?_set_self hlt
          have e2 : (m.set q' none)[p]? = some none := by rw [List.getElem?_set_ne hqp]; exact h20
          have p1 := perm_set (x := (b, .cells ⟨xs ++ rest⟩ e (0, 0))) e1
          have p2 := perm_set (x := (b, .cells ⟨xs ++ rest⟩ e (0, 0))) e2
          rw [List.set_set] at p1
          exact s1.perm ((p1.symm.trans p2).append_right tl)
        · subst hW'
          have s1 := hm.newest (.cells ⟨xs ++ rest⟩ e (0, 0))
          rw [← hb] at s1
          cases q with
          | none => exact s1.perm ((perm_set h20).append_right tl)
          | some q' =>
            have hqp := q0 q' rfl
            have e2 : (m.set q' none)[p]? = some none := by rw [List.getElem?_set_ne hqp]; exact h20
            have s2 := s1.mono (mem' := (b, .cells ⟨xs ++ rest⟩ e (0, 0)) :: (flatO (m.set q' none) ++ tl)) ((sub_set.append_right tl).cons_cons _)
            exact s2.perm ((perm_set e2).append_right tl)
      refine wpAny_of_B (kt := kt) (wr := wr) hL f _ _ _ _ hsat (fun β => B β ∧ β i = ⟨b, rest⟩) ⟨fun j => if j = i then ⟨b, rest⟩ else β0 j, hcl β0 hβ0 i hun _, by simp⟩
        (fun β hβ k hk π => ⟨hcl' β hβ.1 k hk π, by simp only; rw [if_neg (Ne.symm (getD_set_false hk).1)]; exact hβ.2⟩) fun β hβ => ?_
      obtain ⟨v, δ, e', g⟩ := (H β hβ.1).2 i hi o ho
      cases e' with
      | skip w1 => rw [w0] at w1; cases w1
      | cal k1 => rw [k0] at k1; cases k1
      | calA k1 => rw [k0] at k1; cases k1
      | calO k1 => rw [k0] at k1; cases k1
      | val k1 => rw [k0] at k1; cases k1
      | sto k1 => rw [k0] at k1; cases k1
      | new k1 => rw [k0] at k1; cases k1
      | app k1 w1 p1 h21 z1 x1 n1 q1 r1 =>
        rename_i p' sz' n' q' xs' e'
        rw [k0] at k1
        simp only [Option.some.injEq, Kd.app.injEq] at k1
        obtain ⟨rfl, rfl, rfl⟩ := k1
        obtain ⟨b', cap', rest', W'', f1, f2, f3, f4⟩ := r1 W hkeep
        have h5 := g1.symm.trans f1
        simp only [Result.ok.injEq, Next.value.injEq, Value.slice.injEq, Option.some.injEq, Addr.mk.injEq, and_true, true_and] at h5
        obtain ⟨⟨rfl, rfl, rfl⟩, rfl⟩ := h5
        rw [g3] at f3
        simp only [Option.some.injEq, Obj.cells.injEq, Array.mk.injEq, and_true] at f3
        obtain ⟨f3, rfl⟩ := f3
        have h6 := (List.append_inj f3 (by rw [x0, x1])).1
        subst h6
        rw [hβ.2] at g
        simp only [gc, gr] at g
        exact g

/-! ## The rules -/
/-- a drawn region that reads, stores and makes memory, in the order of the text -/
structure RunE (P : Program) (N : Nat) (c : Cx) (L : List Oper) (kt : Kt) (rd : List (Nat × Nat)) (tl : List (Nat × Obj)) (l : List Oper) (k : Nat) (Q : Exit → Act → World → Prop) (env : List (Nat × Value)) (fr : OM) : Prop where
  run : ∀ (β : Nat → Pi) a, SatA N c.ds env a → (rd.all fun r => !wrS (ancs .any L.toArray) (shOf kt) r.1 r.2) = true →
    gSeqO P L.toArray (c.CT tl) kt (wrS (ancs .any L.toArray) (shOf kt)) β (fun a' m' => ∀ W, SatW c.w0 c.D c.J (flatO m' ++ tl) W → Q .normal a' W) l k a fr

def gB1 (L : List Oper) (sh : Sh) (rd : List (Nat × Nat)) : Bool := Region.lexB .any L.toArray && apartS (ancs .any L.toArray) sh && rd.all fun r => !wrS (ancs .any L.toArray) sh r.1 r.2

/-- the first `K` blocks in places, and `nw` places for new ones -/
def nonesK {γ : Type} : Nat → (OM → Option γ) → Option γ
  | 0, k => k []
  | n + 1, k => nonesK n fun fr => k (none :: fr)
def placeK {γ : Type} (n : Nat) : Nat → List (Nat × Obj) → (OM → List (Nat × Obj) → Option γ) → Option γ
  | 0, m, k => nonesK n fun fr => k fr m
  | _ + 1, [], _ => none
  | K + 1, x :: m, k => placeK n K m fun fr tl => k (some x :: fr) tl
theorem nonesK_eq {γ : Type} {n : Nat} {k : OM → Option γ} {r : γ} (h : nonesK n k = some r) : ∃ fr, flatO fr = [] ∧ k fr = some r := by
  induction n generalizing k with
  | zero => exact ⟨[], rfl, h⟩
  | succ n ih =>
    obtain ⟨fr, h1, h2⟩ := ih h
    exact ⟨none :: fr, h1, h2⟩
theorem placeK_eq {γ : Type} {K n : Nat} {m : List (Nat × Obj)} {k : OM → List (Nat × Obj) → Option γ} {r : γ} (h : placeK n K m k = some r) : ∃ fr tl, flatO fr ++ tl = m ∧ k fr tl = some r := by
  induction K generalizing m k with
  | zero =>
    obtain ⟨fr, h1, h2⟩ := nonesK_eq h
    exact ⟨fr, m, by rw [h1]; rfl, h2⟩
  | succ K ih =>
    cases m with
    | nil => cases h
    | cons x m =>
      obtain ⟨fr, tl, h1, h2⟩ := ih h
      exact ⟨some x :: fr, tl, by rw [← h1]; rfl, h2⟩

theorem c_new [M : Mixed P] {id : Nat} (K nw : Nat) (kt : Kt) (sh : Sh) (rd : List (Nat × Nat)) {fr : OM} {tl : List (Nat × Obj)} (hsh : shOf kt = sh) (hB : gB1 L sh rd = true) (hp : placeK nw K mem (fun fr tl => some (fr, tl)) = some (fr, tl)) (k : RunE P N c L kt rd tl L 0 Q env fr) :
    RunC P N c (.region id L.toArray true) Q env mem := .mk fun a W ha hm => by
  subst hsh
  obtain ⟨fr', tl', h1, h2⟩ := placeK_eq hp
  simp only [Option.some.injEq, Prod.mk.injEq] at h2
  obtain ⟨rfl, rfl⟩ := h2
  subst h1
  simp only [gB1, Region.lexB, Bool.and_eq_true] at hB
  obtain ⟨⟨⟨h1, h2⟩, h3⟩, h4⟩ := hB
  refine wpIn_region_any M.ok ?_
  have := wpAny_of_B (P := P) (c := c) (Q := Q) (ops := L.toArray) (kt := kt) (wr := wrS (ancs .any L.toArray) (shOf kt)) (Lq := fun a' m' => ∀ W, SatW c.w0 c.D c.J (flatO m' ++ tl') W → Q .normal a' W) (fun a m W h hm => h W hm)
    L.length (Array.replicate L.toArray.size false) a fr' _ hm.drew (fun _ => True) ⟨fun _ => ⟨0, []⟩, trivial⟩ (fun _ _ _ _ _ => trivial)
    (fun β _ => gAnyO_lex h1 h3 L 0 _ a fr' (fun j oj _ hl => by rw [getD_replicate_false] at hl; cases hl) (by simp) (by simpa using h2) (k.run β a ha h4))
  simpa using this

variable {kt : Kt} {rd : List (Nat × Nat)} {tl : List (Nat × Obj)} {fr : OM}
/-- the places that an operation may not read: those that are written, but for those that are named -/
def rowS (sh : Sh) (rd : List (Nat × Nat)) (i p : Nat) : Bool := sh.any (fun s => s.2.contains p) && !(rd.any fun r => r.1 == i && r.2 == p)
theorem rowS_ok {an : List Nat} {sh : Sh} {rd : List (Nat × Nat)} (h : (rd.all fun r => !wrS an sh r.1 r.2) = true) {i p : Nat} (hr : rowS sh rd i p = false) : wrS an sh i p = false := by
  unfold rowS at hr
  rw [Bool.and_eq_false_iff] at hr
  rcases hr with hr | hr
  · cases hw : wrS an sh i p with
    | false => rfl
    | true =>
      unfold wrS at hw
      obtain ⟨s, hs, h2⟩ := List.any_eq_true.1 hw
      simp only [Bool.and_eq_true] at h2
      have : sh.any (fun s => s.2.contains p) = true := List.any_eq_true.2 ⟨s, hs, h2.1.1.1⟩
      rw [hr] at this; cases this
  · have : (rd.any fun r => r.1 == i && r.2 == p) = true := by simpa using hr
    obtain ⟨r, hm, h2⟩ := List.any_eq_true.1 this
    simp only [Bool.and_eq_true, beq_iff_eq] at h2
    obtain ⟨rfl, rfl⟩ := h2
    have := List.all_eq_true.1 h r hm
    simpa using this
def pickO {γ : Type} (f : Nat → Bool) : Nat → OM → List (Nat × Obj) → (List (Nat × Obj) → Option γ) → Option γ
  | _, [], tl, k => k tl
  | j, none :: m, tl, k => pickO f (j + 1) m tl k
  | j, some x :: m, tl, k => bif f j then pickO f (j + 1) m tl k else pickO f (j + 1) m tl fun r => k (x :: r)
theorem pickO_eq {γ : Type} {f g : Nat → Bool} (hf : ∀ p, g p = false → f p = false) {m : OM} {tl : List (Nat × Obj)} {j : Nat} {k : List (Nat × Obj) → Option γ} {r : γ} (h : pickO g j m tl k = some r) : ∃ m', List.Sublist m' (keepO f j m ++ tl) ∧ k m' = some r := by
  induction m generalizing j k with
  | nil => exact ⟨tl, List.Sublist.refl _, h⟩
  | cons x m ih =>
    cases x with
    | none => exact ih h
    | some x =>
      simp only [pickO] at h
      cases hg : g j with
      | true =>
        rw [hg] at h
        obtain ⟨m', h1, h2⟩ := ih h
        refine ⟨m', ?_, h2⟩
        simp only [keepO]
        cases f j with
        | true => exact h1
        | false => exact h1.cons _
      | false =>
        rw [hg] at h
        obtain ⟨m', h1, h2⟩ := ih h
        refine ⟨x :: m', ?_, h2⟩
        simp only [keepO, hf j hg, cond_false]
        exact h1.cons_cons _

theorem e_val {k : Nat} {op : Op} {v : Value} {mem' : List (Nat × Obj)} (hw : wantB L env g = some true) (hd : Nat.blt d N = true) (hk : kdOf kt k = none) (hm : pickO (rowS (shOf kt) rd k) 0 fr tl some = some mem')
    (hv : OpVal P N c env mem' ⟨some d, op, ty, pos, af, g⟩ v) (kk : RunE P N c L kt rd tl l (k + 1) Q ((d, v) :: env) fr) : RunE P N c L kt rd tl (⟨some d, op, ty, pos, af, g⟩ :: l) k Q env fr := .mk fun β a ha hr => by
  refine ⟨v, [], .val hk (wanted_of (o := ⟨some d, op, ty, pos, af, g⟩) hw ha) hv.1 (fun W hW => ?_), kk.run β _ (ha.put hd v) hr⟩
  obtain ⟨m', h1, h2⟩ := pickO_eq (f := wrS (ancs .any L.toArray) (shOf kt) k) (fun p hp => rowS_ok hr hp) hm
  simp only [Option.some.injEq] at h2
  subst h2
  exact hv.2 a W ha (hW.mono h1)
theorem e_skip {k : Nat} {op : Op} (hw : wantB L env g = some false) (hd : Nat.blt d N = true) (kk : RunE P N c L kt rd tl l (k + 1) Q ((d, undef) :: env) fr) :
    RunE P N c L kt rd tl (⟨some d, op, ty, pos, af, g⟩ :: l) k Q env fr := .mk fun β a ha hr =>
  ⟨undef, [], .skip (wanted_of (o := ⟨some d, op, ty, pos, af, g⟩) hw ha), kk.run β _ (ha.put hd undef) hr⟩

/-- a call that leaves all that lay as it lay -/
theorem e_call {k : Nat} {f : FuncId} [Ent P f] {args : List Operand} {ats : Array TypeId} {vs : List Value} {v : Value} {mem' : List (Nat × Obj)} (hw : wantB L env g = some true) (hd : Nat.blt d N = true) (ha : evOps env args some = some vs) (hk : kdOf kt k = some (.cal v)) (hm : pickO (rowS (shOf kt) rd k) 0 fr tl some = some mem')
    (hc : ∀ W, SatW c.w0 c.D c.J mem' W → Calls P f ⟨vs⟩ W fun e W' => e = .returned v ∧ Below W.heap.size W W')
    (kk : RunE P N c L kt rd tl l (k + 1) Q ((d, v) :: env) fr) : RunE P N c L kt rd tl (⟨some d, .call ⟨.value (.func f), ⟨args⟩, ats⟩, ty, pos, af, g⟩ :: l) k Q env fr := .mk fun β a ha' hr => by
  have h1 := ha'.evals ha
  simp only [Option.some.injEq] at h1
  refine ⟨v, [], .cal (f := f) (vs := ⟨vs⟩) hk (wanted_of (o := ⟨some d, .call ⟨.value (.func f), ⟨args⟩, ats⟩, ty, pos, af, g⟩) hw ha') rfl (fun W hW => ?_), kk.run β _ (ha'.put hd v) hr⟩
  obtain ⟨m', h3, h2⟩ := pickO_eq (f := wrS (ancs .any L.toArray) (shOf kt) k) (fun p hp => rowS_ok hr hp) hm
  simp only [Option.some.injEq] at h2
  subst h2
  rw [p_call, h1]
  exact ⟨rfl, hc W (hW.mono h3)⟩
/-- a call that hands back a row of its own -/
theorem e_callA {k p sz n : Nat} {xs : List Value} {e : TypeId} {f : FuncId} [Ent P f] {args : List Operand} {ats : Array TypeId} {vs : List Value} {mem' : List (Nat × Obj)} (hw : wantB L env g = some true) (hd : Nat.blt d N = true) (ha : evOps env args some = some vs) (hk : kdOf kt k = some (.calA p sz n xs e)) (hp : fr[p]? = some none) (h0 : 0 < sz) (hx : xs.length = n * sz) (hn : n ≤ maxLen)
    (hm : pickO (rowS (shOf kt) rd k) 0 fr tl some = some mem')
    (hc : ∀ W, SatW c.w0 c.D c.J mem' W → Calls P f ⟨vs⟩ W fun e' W' => ∃ b cap rest, e' = .returned (.slice (some ⟨b, 0, none⟩) n cap) ∧ Grow sz n xs cap rest ∧ Below W.heap.size W W' ∧ W.heap.size ≤ b ∧ W'.heap[b]? = some (.cells ⟨xs ++ rest⟩ e (0, 0)))
    (kk : ∀ b cap rest, Grow sz n xs cap rest → RunE P N c L kt rd tl l (k + 1) Q ((d, .slice (some ⟨b, 0, none⟩) n cap) :: env) (fr.set p (some (b, .cells ⟨xs ++ rest⟩ e (0, 0))))) : RunE P N c L kt rd tl (⟨some d, .call ⟨.value (.func f), ⟨args⟩, ats⟩, ty, pos, af, g⟩ :: l) k Q env fr := .mk fun β a ha' hr => by
  refine ⟨_, _, .calA (f := f) (vs := ⟨vs⟩) hk (wanted_of (o := ⟨some d, .call ⟨.value (.func f), ⟨args⟩, ats⟩, ty, pos, af, g⟩) hw ha') rfl hp h0 hx hn (fun W hW => ?_), (kk (β k).b _ _ (growF_mk hx hn (β k).rest)).run β _ (ha'.put hd _) hr⟩
  obtain ⟨m', h1, h2⟩ := pickO_eq (f := wrS (ancs .any L.toArray) (shOf kt) k) (fun p hp => rowS_ok hr hp) hm
  simp only [Option.some.injEq] at h2
  subst h2
  have h3 := ha'.evals ha
  simp only [Option.some.injEq] at h3
  rw [p_call, h3]
  exact ⟨rfl, hc W (hW.mono h1)⟩
theorem e_callO {k p : Nat} {V : Nat → Value} {ob : Obj} {f : FuncId} [Ent P f] {args : List Operand} {ats : Array TypeId} {vs : List Value} {mem' : List (Nat × Obj)} (hw : wantB L env g = some true) (hd : Nat.blt d N = true) (ha : evOps env args some = some vs) (hk : kdOf kt k = some (.calO p V ob)) (hp : fr[p]? = some none)
    (hm : pickO (rowS (shOf kt) rd k) 0 fr tl some = some mem')
    (hc : ∀ W, SatW c.w0 c.D c.J mem' W → Calls P f ⟨vs⟩ W fun e' W' => ∃ b, e' = .returned (V b) ∧ Below W.heap.size W W' ∧ W.heap.size ≤ b ∧ W'.heap[b]? = some ob)
    (kk : ∀ b, RunE P N c L kt rd tl l (k + 1) Q ((d, V b) :: env) (fr.set p (some (b, ob)))) : RunE P N c L kt rd tl (⟨some d, .call ⟨.value (.func f), ⟨args⟩, ats⟩, ty, pos, af, g⟩ :: l) k Q env fr := .mk fun β a ha' hr => by
  refine ⟨_, _, .calO (f := f) (vs := ⟨vs⟩) hk (wanted_of (o := ⟨some d, .call ⟨.value (.func f), ⟨args⟩, ats⟩, ty, pos, af, g⟩) hw ha') rfl hp (fun W hW => ?_), (kk (β k).b).run β _ (ha'.put hd _) hr⟩
  obtain ⟨m', h1, h2⟩ := pickO_eq (f := wrS (ancs .any L.toArray) (shOf kt) k) (fun p hp => rowS_ok hr hp) hm
  simp only [Option.some.injEq] at h2
  subst h2
  have h3 := ha'.evals ha
  simp only [Option.some.injEq] at h3
  rw [p_call, h3]
  exact ⟨rfl, hc W (hW.mono h1)⟩
theorem e_callv {k : Nat} {f : FuncId} [Ent P f] {x : Operand} {args : List Operand} {ats : Array TypeId} {vs fs cs ws : List Value} {v : Value} {mem' : List (Nat × Obj)} (hw : wantB L env g = some true) (hd : Nat.blt d N = true)
    (hx : evOp env x = some (.func (.func f) ⟨fs⟩ ⟨cs⟩)) (ha : evOps env args some = some vs) (hws : fs ++ vs ++ cs = ws) (hk : kdOf kt k = some (.cal v)) (hm : pickO (rowS (shOf kt) rd k) 0 fr tl some = some mem')
    (hc : ∀ W, SatW c.w0 c.D c.J mem' W → Calls P f ⟨ws⟩ W fun e W' => e = .returned v ∧ Below W.heap.size W W')
    (kk : RunE P N c L kt rd tl l (k + 1) Q ((d, v) :: env) fr) : RunE P N c L kt rd tl (⟨some d, .call ⟨.value x, ⟨args⟩, ats⟩, ty, pos, af, g⟩ :: l) k Q env fr := .mk fun β a ha' hr => by
  have h1 := ha'.evals ha
  simp only [Option.some.injEq] at h1
  subst hws
  refine ⟨v, [], .cal (f := f) (vs := ⟨fs ++ vs ++ cs⟩) hk (wanted_of (o := ⟨some d, .call ⟨.value x, ⟨args⟩, ats⟩, ty, pos, af, g⟩) hw ha') rfl (fun W hW => ?_), kk.run β _ (ha'.put hd v) hr⟩
  obtain ⟨m', h3, h2⟩ := pickO_eq (f := wrS (ancs .any L.toArray) (shOf kt) k) (fun p hp => rowS_ok hr hp) hm
  simp only [Option.some.injEq] at h2
  subst h2
  rw [p_callv (ha'.eval hx), h1]
  exact ⟨rfl, hc W (hW.mono h3)⟩

/-- The operation lays a new block. -/
structure OpNew (P : Program) (N : Nat) (c : Cx) (env : List (Nat × Value)) (o : Oper) (V : Nat → Value) (ob : Obj) : Prop where
  plain : plainOp o.op = true
  run : ∀ a W, SatA N c.ds env a → (execOp a.eval o).run P W = .ok (.value (V W.heap.size)) (W.alloc ob)
theorem e_new {k p : Nat} {op : Op} {V : Nat → Value} {ob : Obj} (hw : wantB L env g = some true) (hd : Nat.blt d N = true) (hk : kdOf kt k = some (.new p)) (hp : fr[p]? = some none) (hv : OpNew P N c env ⟨some d, op, ty, pos, af, g⟩ V ob)
    (kk : ∀ b, RunE P N c L kt rd tl l (k + 1) Q ((d, V b) :: env) (fr.set p (some (b, ob)))) : RunE P N c L kt rd tl (⟨some d, op, ty, pos, af, g⟩ :: l) k Q env fr := .mk fun β a ha hr =>
  ⟨V (β k).b, _, .new hk (wanted_of (o := ⟨some d, op, ty, pos, af, g⟩) hw ha) hv.1 hp (fun W _ => hv.2 a W ha), (kk (β k).b).run β _ (ha.put hd _) hr⟩

theorem n_box {e : TypeId} {x : Operand} {v : Value} {cs : List Value} (hx : evOp env x = some v) (hc : cellsL v = cs) : OpNew P N c env ⟨dd, .box e x, ty, pos, af, g⟩ (fun b => .pointer (some ⟨b, 0, none⟩)) (.cells ⟨cs⟩ e (0, 0)) := ⟨rfl, fun a W ha => by
  subst hc
  simp only [execOp, ha.eval hx]
  show Result.ok _ (W.alloc (.cells v.cells e (0, 0))) = _
  rw [cellsL_eq]⟩
theorem n_alloc [T : TT P tt] {e : TypeId} {kd : TK} {sz bt : Nat} {z : Value} {cs : List Value} (ht : look tt e = some ⟨kd, sz, bt, z⟩) (hc : cellsL z = cs) : OpNew P N c env ⟨dd, .alloc e, ty, pos, af, g⟩ (fun b => .pointer (some ⟨b, 0, none⟩)) (.cells ⟨cs⟩ e (0, 0)) := ⟨rfl, fun a W ha => by
  subst hc
  obtain ⟨_, i, hi, _, _, hz⟩ := TT.look (P := P) ht
  have hz2 : (zeroValue e).run P W = .ok z W := by
    simp only [zeroValue, Sem.run_bind, run_info hi, Result.andThen_ok, hz]; rfl
  simp only [execOp, Instr.alloc, Sem.run_bind, hz2, Result.andThen_ok]
  show Result.ok _ (W.alloc (.cells z.cells e (0, 0))) = _
  rw [cellsL_eq]⟩
theorem n_buildSlice [T : TT P tt] {t e n sz bt sz' bt' : Nat} {ke : TK} {z z' : Value} {ps : List (Nat × Operand)} {cs : List Value}
    (ht : look tt t = some ⟨.slice e, sz', bt', z'⟩) (hte : look tt e = some ⟨ke, sz, bt, z⟩) (hn : Nat.beq ps.length n = true) (hb : Nat.ble (n * sz) 16777216 = true) (hv : rowsK env sz ps 0 some = some cs) :
    OpNew P N c env ⟨dd, .buildSlice t n ⟨ps⟩, ty, pos, af, g⟩ (fun b => .slice (some ⟨b, 0, none⟩) n n) (.cells ⟨cs⟩ e (0, 0)) := by
  have hn := Nat.eq_of_beq_eq_true hn
  subst hn
  have hu : P.underlying t = some (.slice e) := (TT.look (P := P) ht).1
  obtain ⟨_, inf, hi, hs, _, hz⟩ := TT.look (P := P) hte
  simp only at hs hz
  refine ⟨rfl, fun a W ha => ?_⟩
  obtain ⟨cs', h1, h2, h3⟩ := rowsK_ok ha ps 0 _ _ hv
  simp only [Option.some.injEq] at h1
  subst h1
  have hz2 : (zeroValue e).run P W = .ok z W := by
    simp only [zeroValue, Sem.run_bind, run_info hi, Result.andThen_ok, hz]; rfl
  have hb2 : ¬ ps.length * sz > 2 ^ 24 := by have := Nat.le_of_ble_eq_true hb; omega
  have hfill : ∀ zz : Array Value, Instr.fill (fun i => some (i * sz, sz)) ((Array.range (ps.length * sz)).map (zz[· % zz.size]!)) (ps.map fun p => (p.1, a.eval p.2)) = some ⟨cs'⟩ := fun zz => by
    have := h3 [] ((Array.range (ps.length * sz)).map (zz[· % zz.size]!)).toList (by simp) (by simp)
    rwa [List.nil_append, show (⟨((Array.range (ps.length * sz)).map (zz[· % zz.size]!)).toList⟩ : Array Value) = (Array.range (ps.length * sz)).map (zz[· % zz.size]!) from rfl, List.nil_append] at this
  simp only [execOp, Instr.buildSlice, Sem.run_bind, run_und hu, run_size hi, Result.andThen_ok, hs]
  rw [if_neg hb2]
  have e3 : ((⟨ps⟩ : Array (Nat × Operand)).map fun (x : Nat × Operand) => (x.1, a.eval x.2)).toList = ps.map fun p => (p.1, a.eval p.2) := by simp
  rw [e3]
  by_cases h0 : ps.length * sz = 0
  · rw [if_pos h0]
    simp only [pure_bind]
    rw [hfill #[]]; rfl
  · rw [if_neg h0]
    simp only [Sem.run_bind, hz2, Result.andThen_ok]
    rw [show (Sem.run P (pure z.cells : Sem (Array Value)) W) = .ok z.cells W from rfl, Result.andThen_ok, hfill z.cells]; rfl

/-- a store; `p`: the place of the block, `cs2`: its cells behind it -/
theorem e_store [T : TT P tt] {k t b o sz bt p f len : Nat} {x y : Operand} {kd : TK} {z v : Value} {cs cs2 vs : List Value} {T' : TypeId} (hw : wantB L env g = some true)
    (hx : evOp env x = some (.pointer (some ⟨b, o, none⟩))) (hy : evOp env y = some v) (hvs : cellsL v = vs) (ht : look tt t = some ⟨kd, sz, bt, z⟩) (hs : Nat.beq vs.length sz = true) (h1 : allOne vs = true)
    (hp : kdOf kt k = some (.sto p f len)) (ho : o = f) (hl : Nat.beq vs.length len = true) (hmem : fr[p]? = some (some (b, .cells ⟨cs⟩ T' (0, 0)))) (hle : o + len ≤ cs.length) (hc : splice cs o vs = cs2)
    (kk : RunE P N c L kt rd tl l (k + 1) Q env (fr.set p (some (b, .cells ⟨cs2⟩ T' (0, 0))))) : RunE P N c L kt rd tl (⟨none, .store t x y, ty, pos, af, g⟩ :: l) k Q env fr := .mk fun β a ha hr => by
  subst hvs; subst hc; subst ho
  have hl := Nat.eq_of_beq_eq_true hl
  subst hl
  obtain ⟨i, hi, hsz⟩ := (TT.look (P := P) ht).size
  refine ⟨undef, _, .sto hp (wanted_of (o := ⟨none, .store t x y, ty, pos, af, g⟩) hw ha) rfl hmem hle (fun W hb => ?_), kk.run β _ ha hr⟩
  exact p_store (ha.eval hx) (ha.eval hy) hi (by rw [hsz]; exact Nat.eq_of_beq_eq_true hs) (allOne_mem h1) hb hle

/-- The operation appends: what comes out are the elements `xs`, in the old block (in the place `q`) or in a new one. -/
structure OpApp (P : Program) (N : Nat) (c : Cx) (env : List (Nat × Value)) (mem : List (Nat × Obj)) (o : Oper) (bq : Option Nat) (sz n : Nat) (xs : List Value) (e : TypeId) : Prop where
  plain : plainOp o.op = true
  run : ∀ a W, SatA N c.ds env a → SatW c.w0 c.D c.J mem W → ∃ b cap rest W', (execOp a.eval o).run P W = .ok (.value (.slice (some ⟨b, 0, none⟩) n cap)) W' ∧ Grow sz n xs cap rest ∧ W'.heap[b]? = some (.cells ⟨xs ++ rest⟩ e (0, 0)) ∧
        ((bq = some b ∧ Same (fun k => k ≠ b) W W') ∨ (b = W.heap.size ∧ W' = W.drew.alloc (.cells ⟨xs ++ rest⟩ e (0, 0))))
theorem e_app {k p sz n bq : Nat} {op : Op} {xs : List Value} {e : TypeId} {oq : Obj} {q : Nat} {mem' : List (Nat × Obj)} (hw : wantB L env g = some true) (hd : Nat.blt d N = true) (hk : kdOf kt k = some (.app p (some q) sz)) (hp : fr[p]? = some none) (hq : fr[q]? = some (some (bq, oq))) (h0 : 0 < sz)
    (hx : xs.length = n * sz) (hn : n ≤ maxLen) (hm : pickO (rowS (shOf kt) rd k) 0 fr tl some = some mem') (hv : OpApp P N c env mem' ⟨some d, op, ty, pos, af, g⟩ (some bq) sz n xs e)
    (kk : ∀ b cap rest, Grow sz n xs cap rest → RunE P N c L kt rd tl l (k + 1) Q ((d, .slice (some ⟨b, 0, none⟩) n cap) :: env) ((fr.set q none).set p (some (b, .cells ⟨xs ++ rest⟩ e (0, 0))))) : RunE P N c L kt rd tl (⟨some d, op, ty, pos, af, g⟩ :: l) k Q env fr := .mk fun β a ha hr => by
  have hqp : ∀ q', some q = some q' → q' ≠ p := fun q' e h => by
    cases e
    subst h
    rw [hp] at hq; cases hq
  refine ⟨_, _, .app hk (wanted_of (o := ⟨some d, op, ty, pos, af, g⟩) hw ha) hv.1 hp h0 hx hn hqp (e := e) (fun W hW => ?_), (kk (β k).b _ _ (growF_mk hx hn (β k).rest)).run β _ (ha.put hd _) hr⟩
  obtain ⟨m', h1, h2⟩ := pickO_eq (f := wrS (ancs .any L.toArray) (shOf kt) k) (fun p hp => rowS_ok hr hp) hm
  simp only [Option.some.injEq] at h2
  subst h2
  obtain ⟨b, cap, rest, W', g1, g2, g3, g4⟩ := hv.2 a W ha (hW.mono h1)
  refine ⟨b, cap, rest, W', g1, g2, g3, g4.imp (fun ⟨e1, e2⟩ => ⟨q, oq, rfl, ?_, e2⟩) id⟩
  cases e1
  exact hq

/-- something behind a row -/
theorem a_append [T : TT P tt] {t e n cap b m k cx bx ox sz bt sz' bt' : Nat} {ke : TK} {z z' : Value} {x y : Operand} {xs rest ys : List Value}
    (hx : evOp env x = some (.slice (some ⟨b, 0, none⟩) n cap)) (hy : evOp env y = some (.slice (some ⟨bx, ox, none⟩) m cx)) (ht : look tt t = some ⟨.slice e, sz', bt', z'⟩) (hte : look tt e = some ⟨ke, sz, bt, z⟩) (hnews : News c mem bx ox ys)
    (hr : (b, Obj.cells ⟨xs ++ rest⟩ e (0, 0)) ∈ mem) (hg : Grow sz n xs cap rest)
    (hl : ys.length = m * sz) (hone : ∀ v ∈ ys, v.oneCell' = true) (hzl : Nat.beq (cellsL z).length sz = true) (hk : n + m = k) (hb : k * bt ≤ 140737488355328) (hm : k ≤ maxLen) :
    OpApp P N c env mem ⟨dd, .call ⟨.builtin .append, ⟨[x, y]⟩, ⟨[t, t]⟩⟩, ty, pos, af, g⟩ (some b) sz k (xs ++ ys) e := by
  subst hk
  have hu : P.underlying t = some (.slice e) := (TT.look (P := P) ht).1
  obtain ⟨_, inf, hi, hs, hbt, hz⟩ := TT.look (P := P) hte
  simp only at hs hz hbt
  have hzl := Nat.eq_of_beq_eq_true hzl
  refine ⟨rfl, fun a W ha hmm => ?_⟩
  have hbW := (hmm.own _ hr).2
  simp only at hbW
  have hlen2 : (xs ++ ys).length = (n + m) * sz := by rw [List.length_append, hg.len, hl, Nat.add_mul]
  by_cases hroom : n + m ≤ cap
  · have hfit : n * inf.size + ys.length ≤ (xs ++ rest).length := by rw [hg.all, hs, hl, ← Nat.add_mul]; exact Nat.mul_le_mul_right _ hroom
    have hap := run_append_room (P := P) W t ty e inf hu hi b n cap ⟨xs ++ rest⟩ hbW ⟨bx, ox, none⟩ m cx ys (by rw [hs]; exact hl) (fun j v hj => by rw [addr_add]; exact hnews.ok W hmm j v hj) hone hroom hfit
    have e1 : (xs ++ rest).take (n * inf.size) = xs := by rw [hs, ← hg.len, List.take_left]
    have e2 : (xs ++ rest).drop (n * inf.size + ys.length) = rest.drop ys.length := by rw [hs, ← hg.len, ← List.drop_drop, List.drop_left]
    simp only [e1, e2] at hap
    have hl3 : (xs ++ ys ++ rest.drop ys.length).length = cap * sz := by
      have := hg.all
      simp only [List.length_append, List.length_drop] at this ⊢ hfit
      rw [hs, ← hg.len] at hfit
      omega
    refine ⟨b, cap, rest.drop ys.length, _, p_append (ha.eval hx) (ha.eval hy) hap, ⟨hlen2, hl3, hroom, hg.max⟩, ?_, .inl ⟨rfl, setRow_same _ _ _⟩⟩
    exact setRow_heap W b ⟨xs ++ rest⟩ _ e _ hbW
  · have hap := run_append_grow (P := P) W t ty e inf z hu hi hz ⟨b, 0, none⟩ n cap xs (by rw [hs]; exact hg.len) (fun j v hj => by
        rw [addr_add, Nat.zero_add, hmm.cellAt hr, List.getElem?_append_left (List.getElem?_eq_some_iff.1 hj).1]; exact hj)
      ⟨bx, ox, none⟩ m cx ys (by rw [hs]; exact hl) (fun j v hj => by rw [addr_add]; exact hnews.ok W hmm j v hj) (by omega) (by simp only [maxLen] at hm; omega) (growslice_fits (by omega) (by rw [hbt]; exact hb))
    have hge := grownCap_ge W (n + m) cap e
    have e4 : (xs.toArray ++ ys.toArray ++ Builtin.zeroCells z.cells (grownCap W (n + m) cap e - (n + m))) = ⟨xs ++ ys ++ (Builtin.zeroCells z.cells (grownCap W (n + m) cap e - (n + m))).toList⟩ := by apply Array.ext'; simp
    rw [e4] at hap
    refine ⟨W.heap.size, grownCap W (n + m) cap e, (Builtin.zeroCells z.cells (grownCap W (n + m) cap e - (n + m))).toList, _, p_append (ha.eval hx) (ha.eval hy) hap, ⟨hlen2, ?_, hge, grownCap_le_maxLen W (n + m) cap e hm⟩, ?_, .inr ⟨rfl, rfl⟩⟩
    · rw [List.length_append, hlen2, zeroCells_len, cellsL_eq]
      show (n + m) * sz + (grownCap W (n + m) cap e - (n + m)) * (cellsL z).length = _
      rw [hzl, ← Nat.add_mul]
      congr 1; omega
    · exact World.alloc_heap_new W.drew _

/-- nothing behind a row: the row -/
theorem a_append0 [T : TT P tt] {t e n cap b cx sz bt sz' bt' : Nat} {A : Option Addr} {ke : TK} {z z' : Value} {x y : Operand} {xs rest : List Value}
    (hx : evOp env x = some (.slice (some ⟨b, 0, none⟩) n cap)) (hy : evOp env y = some (.slice A 0 cx)) (ht : look tt t = some ⟨.slice e, sz', bt', z'⟩) (hte : look tt e = some ⟨ke, sz, bt, z⟩)
    (hr : (b, Obj.cells ⟨xs ++ rest⟩ e (0, 0)) ∈ mem) (hg : Grow sz n xs cap rest) :
    OpApp P N c env mem ⟨dd, .call ⟨.builtin .append, ⟨[x, y]⟩, ⟨[t, t]⟩⟩, ty, pos, af, g⟩ (some b) sz n xs e := by
  have hu : P.underlying t = some (.slice e) := (TT.look (P := P) ht).1
  obtain ⟨_, inf, hi, hs, hbt, hz⟩ := TT.look (P := P) hte
  refine ⟨rfl, fun a W ha hmm => ?_⟩
  have hbW := (hmm.own _ hr).2
  refine ⟨b, cap, rest, W, p_append (ha.eval hx) (ha.eval hy) ?_, hg, hbW, .inl ⟨rfl, Same.refl _ _⟩⟩
  have hle := hg.le
  cases A <;> simp [Builtin.append_, Sem.run_bind, run_und hu, run_size hi, Builtin.lenOf, hle, Builtin.firstCells, storeCells, Sem.run_pure, loadCells, loadCellsFrom]

def flK {γ : Type} : OM → List (Nat × Obj) → (List (Nat × Obj) → Option γ) → Option γ
  | [], tl, k => k tl
  | none :: m, tl, k => flK m tl k
  | some x :: m, tl, k => flK m tl fun r => k (x :: r)
theorem flK_eq {γ : Type} {m : OM} {tl : List (Nat × Obj)} {k : List (Nat × Obj) → Option γ} {r : γ} (h : flK m tl k = some r) : k (flatO m ++ tl) = some r := by
  induction m generalizing k with
  | nil => exact h
  | cons x m ih => cases x with
    | none => exact ih h
    | some x => exact ih h
theorem e_nil {k : Nat} {mem' : List (Nat × Obj)} (hm : flK fr tl some = some mem') (kk : RunX N c Q .normal env mem') : RunE P N c L kt rd tl [] k Q env fr := .mk fun β a ha _ W hW => by
  have := flK_eq hm
  simp only [Option.some.injEq] at this
  exact kk.run a W ha (by rw [← this]; exact hW)
end
end Kin
end Go

set_option linter.unusedSectionVars false
set_option linter.unusedVariables false
set_option linter.unusedSimpArgs false
namespace Go
open Go.RowKit
namespace Kin
section
variable {P : Program} {N : Nat} {c : Cx} {env : List (Nat × Value)} {mem : List (Nat × Obj)} {tt : List (TypeId × TI)} {ty : TypeId} {pos : String} {af : Array Edge} {g : Option (Nat × Bool)} {dd : Option Tmp}

/-- an element of an array that is held by value; elements of one cell -/
theorem v_ix [T : TT P tt] {t e n sz bt sz' bt' : Nat} {x ix : Operand} {ke : TK} {z z' v : Value} {cs : List Value} {k : IntKind} {i : Int} (hx : evOp env x = some (.agg ⟨cs⟩)) (hi : evOp env ix = some (.int k i)) (ht : look tt t = some ⟨.array n e, sz', bt', z'⟩)
    (hte : look tt e = some ⟨ke, sz, bt, z⟩) (h0 : 0 ≤ i) (h1 : i < n) (hv : aggV ke.isAgg sz cs (i.toNat * sz) = some v) : OpVal P N c env mem ⟨dd, .index t x ix, ty, pos, af, g⟩ v :=
  ⟨rfl, fun a W ha _ => by
    have hu : P.underlying t = some (.array n e) := (TT.look (P := P) ht).1
    obtain ⟨i', hi', hs'⟩ := (TT.look (P := P) hte).size
    have hp := run_part (P := P) (W := W) (TT.look (P := P) hte).size (TT.look (P := P) hte).1 hv
    simp only [execOp, ha.eval hx, ha.eval hi, Instr.index, asIntOf, Sem.run_bind, Sem.run_pure, Result.andThen_ok, run_und hu]
    rw [if_pos ⟨h0, h1⟩]
    simp only [Sem.run_bind, run_size hi', Result.andThen_ok, hs', hp]⟩

/-- an array that is built by value, all of whose elements are given, in order -/
theorem v_buildA [T : TT P tt] {t e n sz bt sz' bt' : Nat} {ke : TK} {z z' : Value} {cs : List Value} {ps : List (Nat × Operand)} (ht : look tt t = some ⟨.array n e, sz', bt', z'⟩) (hte : look tt e = some ⟨ke, sz, bt, z⟩)
    (hn : Nat.beq (cellsL z').length (ps.length * sz) = true) (hv : rowsK env sz ps 0 some = some cs) :
    OpVal P N c env mem ⟨dd, .build t ⟨ps⟩, ty, pos, af, g⟩ (.agg ⟨cs⟩) := ⟨rfl, fun a W ha _ => by
  obtain ⟨hu, inf, hinf, _, _, hz⟩ := TT.look (P := P) ht
  have hu : P.underlying t = some (.array n e) := hu
  have hz2 : (zeroValue t).run P W = .ok z' W := by
    simp only [zeroValue, Sem.run_bind, run_info hinf, Result.andThen_ok, hz]; rfl
  obtain ⟨_, i', hi', hs', _, _⟩ := TT.look (P := P) hte
  simp only at hs'
  obtain ⟨cs', h1, h2, h3⟩ := rowsK_ok ha ps 0 _ _ hv
  simp only [Option.some.injEq] at h1
  subst h1
  have h4 := h3 [] (cellsL z') (by simp) (Nat.eq_of_beq_eq_true hn)
  rw [List.nil_append, List.nil_append] at h4
  have e3 : ((⟨ps⟩ : Array (Nat × Operand)).map fun (x : Nat × Operand) => (x.1, a.eval x.2)).toList = ps.map fun p => (p.1, a.eval p.2) := by simp
  simp only [execOp, Instr.build, Sem.run_bind, hz2, run_und hu, run_size hi', Result.andThen_ok, hs']
  rw [e3, cellsL_eq, h4]; rfl⟩

/-- a call that hands back memory of its own: two blocks -/
theorem r_call2 [Wide c.F] {Q : Exit → Act → World → Prop} {L l : List Oper} {d : Nat} {f : FuncId} [Ent P f] {args : List Operand} {ats : Array TypeId} {vs : List Value} {ι : Type} {v : ι → Value} {bk bk2 : ι → Nat} {o o2 : ι → Obj} (hw : wantB L env g = some true) (hd : Nat.blt d N = true) (ha : evOps env args some = some vs)
    (hc : ∀ W, SatW c.w0 c.D c.J mem W → Calls P f ⟨vs⟩ W fun e W' => ∃ i, e = .returned (v i) ∧ Below W.heap.size W W' ∧ W.heap.size ≤ bk i ∧ W'.heap[bk i]? = some (o i) ∧ W.heap.size ≤ bk2 i ∧ W'.heap[bk2 i]? = some (o2 i) ∧ bk2 i ≠ bk i)
    (k : ∀ i, RunL P N c L l Q ((d, v i) :: env) ((bk2 i, o2 i) :: (bk i, o i) :: mem)) : RunL P N c L (⟨some d, .call ⟨.value (.func f), ⟨args⟩, ats⟩, ty, pos, af, g⟩ :: l) Q env mem :=
  l_call (ι := ι) (v := v) (mem' := fun i => (bk2 i, o2 i) :: (bk i, o i) :: mem) hw hd ha (fun W hm => (hc W hm).mono fun _ W' ⟨i, h1, h2, h3, h4, h5, h6, h7⟩ => ⟨i, h1, by
    have hm2 := hm.later h2
    have hfar : ∀ b, W.heap.size ≤ b → b ∉ mem.map (·.1) ∧ ¬ c.D b := fun b hb => ⟨fun hmm => by
      obtain ⟨p, hp, e⟩ := List.mem_map.1 hmm
      have := hm.lt hp
      omega, fun hdd => by have := hm.dom _ hdd; have := hm.same.size; omega⟩
    refine ⟨hm2.same, hm2.dom, ?_, ?_, hm.closed, hm.closed _ _ _ _ hm.word (Same.of_below_all h2) fun b hb => ?_⟩
    · simp only [List.map_cons, List.nodup_cons, List.mem_cons, not_or]
      exact ⟨⟨h7, (hfar _ h5).1⟩, (hfar _ h3).1, hm2.nodup⟩
    · intro p hp
      rcases List.mem_cons.1 hp with rfl | hp
      · exact ⟨(hfar _ h5).2, h6⟩
      · rcases List.mem_cons.1 hp with rfl | hp
        · exact ⟨(hfar _ h3).2, h4⟩
        · exact hm2.own p hp
    · simp only [keys, List.map_cons, List.mem_cons] at hb
      rcases hb with rfl | rfl | hb
      · exact .inr h5
      · exact .inr h3
      · exact .inl hb⟩) k

theorem min2_int (k k' : IntKind) (x y : Int) : Builtin.min2 (.int k x) (.int k' y) = pure (.int k (min x y)) := by
  have : (if y < x then y else x) = min x y := by omega
  rw [← this]; rfl
theorem max2_int (k k' : IntKind) (x y : Int) : Builtin.max2 (.int k x) (.int k' y) = pure (.int k (max x y)) := by
  have : (if x < y then y else x) = max x y := by omega
  rw [← this]; rfl
theorem v_min3 {x y z : Operand} {k k2 k3 : IntKind} {m n o : Int} {ats : Array TypeId} (hx : evOp env x = some (.int k m)) (hy : evOp env y = some (.int k2 n)) (hz : evOp env z = some (.int k3 o)) :
    OpVal P N c env mem ⟨dd, .call ⟨.builtin .min, ⟨[x, y, z]⟩, ats⟩, ty, pos, af, g⟩ (.int k (min (min m n) o)) := ⟨rfl, fun a W ha _ => by
  simp only [execOp, resolve, List.map_toArray, List.map_cons, List.map_nil, ha.eval hx, ha.eval hy, ha.eval hz, Sem.run_bind]
  simp [invoke, builtin, Builtin.min_, min2_int, Sem.run, pure]⟩
theorem v_max3 {x y z : Operand} {k k2 k3 : IntKind} {m n o : Int} {ats : Array TypeId} (hx : evOp env x = some (.int k m)) (hy : evOp env y = some (.int k2 n)) (hz : evOp env z = some (.int k3 o)) :
    OpVal P N c env mem ⟨dd, .call ⟨.builtin .max, ⟨[x, y, z]⟩, ats⟩, ty, pos, af, g⟩ (.int k (max (max m n) o)) := ⟨rfl, fun a W ha _ => by
  simp only [execOp, resolve, List.map_toArray, List.map_cons, List.map_nil, ha.eval hx, ha.eval hy, ha.eval hz, Sem.run_bind]
  simp [invoke, builtin, Builtin.max_, max2_int, Sem.run, pure]⟩
theorem v_min4 {x y z u : Operand} {k k2 k3 k4 : IntKind} {m n o p : Int} {ats : Array TypeId} (hx : evOp env x = some (.int k m)) (hy : evOp env y = some (.int k2 n)) (hz : evOp env z = some (.int k3 o)) (hu : evOp env u = some (.int k4 p)) :
    OpVal P N c env mem ⟨dd, .call ⟨.builtin .min, ⟨[x, y, z, u]⟩, ats⟩, ty, pos, af, g⟩ (.int k (min (min (min m n) o) p)) := ⟨rfl, fun a W ha _ => by
  simp only [execOp, resolve, List.map_toArray, List.map_cons, List.map_nil, ha.eval hx, ha.eval hy, ha.eval hz, ha.eval hu, Sem.run_bind]
  simp [invoke, builtin, Builtin.min_, min2_int, Sem.run, pure]⟩
theorem v_max4 {x y z u : Operand} {k k2 k3 k4 : IntKind} {m n o p : Int} {ats : Array TypeId} (hx : evOp env x = some (.int k m)) (hy : evOp env y = some (.int k2 n)) (hz : evOp env z = some (.int k3 o)) (hu : evOp env u = some (.int k4 p)) :
    OpVal P N c env mem ⟨dd, .call ⟨.builtin .max, ⟨[x, y, z, u]⟩, ats⟩, ty, pos, af, g⟩ (.int k (max (max (max m n) o) p)) := ⟨rfl, fun a W ha _ => by
  simp only [execOp, resolve, List.map_toArray, List.map_cons, List.map_nil, ha.eval hx, ha.eval hy, ha.eval hz, ha.eval hu, Sem.run_bind]
  simp [invoke, builtin, Builtin.max_, max2_int, Sem.run, pure]⟩

/-- the end of a slice, from a number on -/
theorem v_sliceL [T : TT P tt] {t e n cap b o l sz bt sz' bt' : Nat} {x lo : Operand} {ke : TK} {z z' : Value} {k : IntKind} {i : Int} (hx : evOp env x = some (.slice (some ⟨b, o, none⟩) n cap)) (hl : evOp env lo = some (.int k i)) (ht : look tt t = some ⟨.slice e, sz', bt', z'⟩)
    (hte : look tt e = some ⟨ke, sz, bt, z⟩) (hil : i = l) (h1 : l ≤ n) (h2 : cap ≠ l) :
    OpVal P N c env mem ⟨dd, .slice t x (some lo) none none, ty, pos, af, g⟩ (.slice (some ⟨b, o + l * sz, none⟩) (n - l) (cap - l)) :=
  ⟨rfl, fun a W ha _ => by
    subst hil
    have hu : P.underlying t = some (.slice e) := (TT.look (P := P) ht).1
    obtain ⟨i', hi', hs'⟩ := (TT.look (P := P) hte).size
    have e1 : (⟨b, o, none⟩ : Addr).add (l * sz) = ⟨b, o + l * sz, none⟩ := by
      unfold Addr.add
      split
      · rename_i h; simp [h]
      · rfl
    simp only [execOp, ha.eval hx, Option.map_some, Option.map_none, ha.eval hl, Instr.sliceAt, Instr.slice, Instr.sliceBounds, Instr.sliceBound, asIntOf, Sem.run_bind, Sem.run_pure, Result.andThen_ok, run_und hu]
    rw [if_pos (⟨by omega, by omega⟩ : 0 ≤ ((l : Nat) : Int) ∧ ((l : Nat) : Int) ≤ n)]
    simp only [Sem.run_bind, Sem.run_pure, Result.andThen_ok, run_size hi', hs', Int.toNat_natCast, if_neg h2, Option.map_some, e1]⟩

/-- a slice in the middle of a block that is known -/
theorem SatW.rowsAt {w0 W : World} {D : Nat → Prop} {J : (Nat → Prop) → World → Prop} {mem : List (Nat × Obj)} (hW : SatW w0 D J mem W) {b o : Nat} {cs : List Value} {T : TypeId} {fr : Nat × Nat} (hm : (b, Obj.cells ⟨cs⟩ T fr) ∈ mem)
    {rows : List (List Value)} {sz : Nat} {pre rest : List Value} (he : cs = pre ++ (rows.flatten ++ rest)) (ho : pre.length = o) (hl : ∀ r ∈ rows, r.length = sz) : At W (some ⟨b, o, none⟩) sz rows := fun i r hi => by
  refine ⟨b, o, rfl, fun j v hj => ?_⟩
  rw [hW.cellAt hm, he, Nat.add_assoc, ← ho, List.getElem?_append_right (by omega), Nat.add_sub_cancel_left]
  exact (rowAt_flatten hl hi).get hj
end
end Kin
end Go

set_option linter.unusedSectionVars false
set_option linter.unusedVariables false
set_option linter.unusedSimpArgs false
namespace Go
open Go.RowKit
namespace Kin
section
variable {P : Program} {N : Nat} {c : Cx} {env : List (Nat × Value)} {mem : List (Nat × Obj)} {tt : List (TypeId × TI)} {ty : TypeId} {pos : String} {af : Array Edge} {g : Option (Nat × Bool)} {dd : Option Tmp} {t t' : TypeId} {x y : Operand} {m n : Nat}
theorem wrapU {n : Int} (h0 : 0 ≤ n) (h1 : n < 18446744073709551616) : IntKind.u64.wrap n = n := by rw [IntKind.wrap_u64]; omega
theorem v_uquo (hx : evOp env x = some (.int .u64 m)) (hy : evOp env y = some (.int .u64 n)) (h1 : m < 18446744073709551616) (h2 : 0 < n) : OpVal P N c env mem ⟨dd, .binOp .quo t x y t', ty, pos, af, g⟩ (.int .u64 ((m / n : Nat) : Int)) :=
  ⟨rfl, fun a W ha _ => by
    have h3 : m / n ≤ m := Nat.div_le_self m n
    rw [p_quo (ha.eval hx) (ha.eval hy) (by omega), ← Int.ofNat_tdiv]
    generalize m / n = q at *
    rw [wrapU (by omega) (by omega)]⟩
theorem v_urem (hx : evOp env x = some (.int .u64 m)) (hy : evOp env y = some (.int .u64 n)) (h2 : 0 < n) : OpVal P N c env mem ⟨dd, .binOp .rem t x y t', ty, pos, af, g⟩ (.int .u64 ((m % n : Nat) : Int)) :=
  ⟨rfl, fun a W ha _ => by rw [p_rem (ha.eval hx) (ha.eval hy) (by omega), ← Int.ofNat_tmod]⟩
theorem v_umul (hx : evOp env x = some (.int .u64 m)) (hy : evOp env y = some (.int .u64 n)) : OpVal P N c env mem ⟨dd, .binOp .mul t x y t', ty, pos, af, g⟩ (.int .u64 ((m * n % 18446744073709551616 : Nat) : Int)) :=
  ⟨rfl, fun a W ha _ => by
    rw [p_binInt (ha.eval hx) (ha.eval hy) (v := .int .u64 (IntKind.u64.wrap ((m : Int) * n))) rfl, ← Int.natCast_mul, IntKind.wrap_u64]; congr 3⟩
theorem v_uadd (hx : evOp env x = some (.int .u64 m)) (hy : evOp env y = some (.int .u64 n)) : OpVal P N c env mem ⟨dd, .binOp .add t x y t', ty, pos, af, g⟩ (.int .u64 (((m + n) % 18446744073709551616 : Nat) : Int)) :=
  ⟨rfl, fun a W ha _ => by
    rw [p_binInt (ha.eval hx) (ha.eval hy) (v := .int .u64 (IntKind.u64.wrap ((m : Int) + n))) rfl, ← Int.natCast_add, IntKind.wrap_u64]; congr 3⟩
theorem v_usub (hx : evOp env x = some (.int .u64 m)) (hy : evOp env y = some (.int .u64 n)) : OpVal P N c env mem ⟨dd, .binOp .sub t x y t', ty, pos, af, g⟩ (.int .u64 (((m : Int) - n) % 18446744073709551616)) :=
  ⟨rfl, fun a W ha _ => by
    rw [p_binInt (ha.eval hx) (ha.eval hy) (v := .int .u64 (IntKind.u64.wrap ((m : Int) - n))) rfl, IntKind.wrap_u64]⟩
theorem v_ushl {k' : IntKind} (hx : evOp env x = some (.int .u64 m)) (hy : evOp env y = some (.int k' n)) (h : n ≤ 64) : OpVal P N c env mem ⟨dd, .binOp .shl t x y t', ty, pos, af, g⟩ (.int .u64 ((m * 2 ^ n % 18446744073709551616 : Nat) : Int)) :=
  ⟨rfl, fun a W ha _ => by
    have hmin : min n IntKind.u64.bits = n := by show min n 64 = n; omega
    have : (execOp a.eval ⟨dd, .binOp .shl t x y t', ty, pos, af, g⟩).run P W = .ok (.value (.int .u64 (IntKind.u64.wrap ((m : Int) * 2 ^ n)))) W := by
      simp [execOp, ha.eval hx, ha.eval hy, eqGuard, binOp, Op.shift, hmin, Sem.run, pure, bind, Sem.bind]
    rw [this, IntKind.wrap_u64]
    congr 3⟩
theorem v_ushr {k' : IntKind} (hx : evOp env x = some (.int .u64 m)) (hy : evOp env y = some (.int k' n)) (h : n ≤ 64) : OpVal P N c env mem ⟨dd, .binOp .shr t x y t', ty, pos, af, g⟩ (.int .u64 ((m / 2 ^ n : Nat) : Int)) :=
  ⟨rfl, fun a W ha _ => by
    have hmin : min n IntKind.u64.bits = n := by show min n 64 = n; omega
    have : (execOp a.eval ⟨dd, .binOp .shr t x y t', ty, pos, af, g⟩).run P W = .ok (.value (.int .u64 ((m : Int) / (2 ^ n)))) W := by
      simp [execOp, ha.eval hx, ha.eval hy, eqGuard, binOp, Op.shift, hmin, Sem.run, pure, bind, Sem.bind]
    rw [this]
    congr 3⟩
theorem v_uand (hx : evOp env x = some (.int .u64 m)) (hy : evOp env y = some (.int .u64 n)) (h1 : m < 18446744073709551616) (h2 : n < 18446744073709551616) : OpVal P N c env mem ⟨dd, .binOp .and t x y t', ty, pos, af, g⟩ (.int .u64 ((m &&& n : Nat) : Int)) :=
  ⟨rfl, fun a W ha _ => by
    have : (execOp a.eval ⟨dd, .binOp .and t x y t', ty, pos, af, g⟩).run P W = .ok (.value (.int .u64 (bits .and .u64 (m : Int) (n : Int)))) W := by
      simp only [execOp, ha.eval hx, ha.eval hy, eqGuard, binOp]; rfl
    rw [this, bits_and_u64_nat m n h1 h2]⟩
theorem v_uor (hx : evOp env x = some (.int .u64 m)) (hy : evOp env y = some (.int .u64 n)) (h1 : m < 18446744073709551616) (h2 : n < 18446744073709551616) : OpVal P N c env mem ⟨dd, .binOp .or t x y t', ty, pos, af, g⟩ (.int .u64 ((m ||| n : Nat) : Int)) :=
  ⟨rfl, fun a W ha _ => by
    have : (execOp a.eval ⟨dd, .binOp .or t x y t', ty, pos, af, g⟩).run P W = .ok (.value (.int .u64 (bits .or .u64 (m : Int) (n : Int)))) W := by
      simp only [execOp, ha.eval hx, ha.eval hy, eqGuard, binOp]; rfl
    rw [this, bits_or_u64_nat m n h1 h2]⟩
/-- with constants -/
theorem v_ushr32 {k' : IntKind} (hx : evOp env x = some (.int .u64 m)) (hy : evOp env y = some (.int k' 32)) : OpVal P N c env mem ⟨dd, .binOp .shr t x y t', ty, pos, af, g⟩ (.int .u64 ((m / 4294967296 : Nat) : Int)) :=
  v_ushr (n := 32) hx hy (by decide)
theorem v_uand32 (hx : evOp env x = some (.int .u64 m)) (hy : evOp env y = some (.int .u64 4294967295)) (h1 : m < 18446744073709551616) : OpVal P N c env mem ⟨dd, .binOp .and t x y t', ty, pos, af, g⟩ (.int .u64 ((m % 4294967296 : Nat) : Int)) := by
  have h := v_uand (P := P) (N := N) (c := c) (mem := mem) (ty := ty) (pos := pos) (af := af) (g := g) (dd := dd) (t := t) (t' := t') (n := 4294967295) hx hy h1 (by decide)
  rw [Nat.and_two_pow_sub_one_eq_mod m 32] at h
  exact h
theorem v_umul32 (hx : evOp env x = some (.int .u64 m)) (hy : evOp env y = some (.int .u64 4294967296)) : OpVal P N c env mem ⟨dd, .binOp .mul t x y t', ty, pos, af, g⟩ (.int .u64 ((m * 4294967296 % 18446744073709551616 : Nat) : Int)) :=
  v_umul (n := 4294967296) hx hy
theorem v_umul32l (hx : evOp env x = some (.int .u64 4294967296)) (hy : evOp env y = some (.int .u64 m)) : OpVal P N c env mem ⟨dd, .binOp .mul t x y t', ty, pos, af, g⟩ (.int .u64 ((4294967296 * m % 18446744073709551616 : Nat) : Int)) :=
  v_umul (m := 4294967296) hx hy
theorem v_usub64 (hx : evOp env x = some (.int .u64 64)) (hy : evOp env y = some (.int .u64 m)) (h : m ≤ 64) : OpVal P N c env mem ⟨dd, .binOp .sub t x y t', ty, pos, af, g⟩ (.int .u64 ((64 - m : Nat) : Int)) := by
  have h2 := v_usub (P := P) (N := N) (c := c) (mem := mem) (ty := ty) (pos := pos) (af := af) (g := g) (dd := dd) (t := t) (t' := t') (m := 64) hx hy
  have e : (((64 : Nat) : Int) - (m : Int)) % 18446744073709551616 = ((64 - m : Nat) : Int) := by omega
  rw [e] at h2
  exact h2
theorem v_uconv [Wide c.F] [T : TT P tt] {src dst : TypeId} {ti : TI} {sz bt : Nat} {z : Value} {k : IntKind} (h1 : look tt src = some ti) (h2 : look tt dst = some ⟨.int .u64, sz, bt, z⟩) (hx : evOp env x = some (.int k m)) (hm : m < 18446744073709551616) :
    OpVal P N c env mem ⟨dd, .convert src dst x, ty, pos, af, g⟩ (.int .u64 (m : Int)) := by
  have h : pureEval tt env (.convert src dst x) = some (.int .u64 (IntKind.u64.wrap (m : Int))) := by
    show (match look tt src with | some _ => _ | none => _) = _
    rw [h1]
    show (match look tt dst with | _ => _) = _
    rw [h2]
    show (match evOp env x with | _ => _) = _
    rw [hx]
  rw [wrapU (by omega) (by omega)] at h
  exact pureEval_ok h
end
end Kin
end Go

set_option linter.unusedSectionVars false
set_option linter.unusedVariables false
set_option linter.unusedSimpArgs false
namespace Go
open Go.RowKit
namespace Kin
section
variable {P : Program} {N : Nat} {c : Cx} {env : List (Nat × Value)} {mem : List (Nat × Obj)} {tt : List (TypeId × TI)} {ty : TypeId} {pos : String} {af : Array Edge} {g : Option (Nat × Bool)} {dd : Option Tmp} {t t' : TypeId} {x y : Operand}
theorem v_quoA [Wide c.F] {m n q : Int} {kd : IntKind} (hx : evOp env x = some (.int kd m)) (hy : evOp env y = some (.int kd n)) (h2 : n ≠ 0) (hq : kd.wrap (m.tdiv n) = q) :
    OpVal P N c env mem ⟨dd, .binOp .quo t x y t', ty, pos, af, g⟩ (.int kd q) :=
  hq ▸ v_quo' hx hy h2
theorem v_iconv [Wide c.F] [T : TT P tt] {src dst : TypeId} {ti : TI} {sz bt : Nat} {z : Value} {k : IntKind} {m : Int} (h1 : look tt src = some ti) (h2 : look tt dst = some ⟨.int .i64, sz, bt, z⟩) (hx : evOp env x = some (.int k m)) (l1 : -9223372036854775808 ≤ m) (l2 : m ≤ 9223372036854775807) :
    OpVal P N c env mem ⟨dd, .convert src dst x, ty, pos, af, g⟩ (.int .i64 m) := by
  have h : pureEval tt env (.convert src dst x) = some (.int .i64 (IntKind.i64.wrap m)) := by
    show (match look tt src with | some _ => _ | none => _) = _
    rw [h1]
    show (match look tt dst with | _ => _) = _
    rw [h2]
    show (match evOp env x with | _ => _) = _
    rw [hx]
  rw [wrap_i64 l1 l2] at h
  exact pureEval_ok h
end
end Kin
end Go

set_option linter.unusedSectionVars false
set_option linter.unusedVariables false
set_option linter.unusedSimpArgs false
namespace Go
open Go.RowKit
namespace Kin
section
variable {P : Program} {N : Nat} {c : Cx} {Q : Exit → Act → World → Prop} {env : List (Nat × Value)} {mem : List (Nat × Obj)} {L l : List Oper} {o o' : Oper} {j d : Nat} {w : Bool} {p q : Prop} [Decidable p] [Decidable q] [Wide c.F] {t : Operand} {x y : Code}
theorem and_t (hp : p) (hq : q) : (decide p && decide q) = true := by rw [decide_eq_true hp, decide_eq_true hq]; rfl
theorem and_f (h : ¬ (p ∧ q)) : (decide p && decide q) = false := by rw [← Bool.decide_and]; exact decide_eq_false h
theorem nand_t (h : ¬ (p ∧ q)) : (!(decide p && decide q)) = true := by rw [and_f h]; rfl
theorem nand_f (hp : p) (hq : q) : (!(decide p && decide q)) = false := by rw [and_t hp hq]; rfl
theorem not_t (h : ¬ p) : (!decide p) = true := by rw [decide_eq_false h]; rfl
theorem not_f (h : p) : (!decide p) = false := by rw [decide_eq_true h]; rfl
theorem l_and_t (hg : o.guard = some (j, w)) (hj : nth L j = some o') (hd : o'.dst = some d) (hb : look env d = some (.bool (decide p && decide q))) (h1 : p) (h2 : q) (k : RunL P N c L (o :: l) Q ((d, .bool true) :: env) mem) : RunL P N c L (o :: l) Q env mem := l_bool hg hj hd hb (and_t h1 h2) k
theorem q_and_t (hg : o.guard = some (j, w)) (hj : nth L j = some o') (hd : o'.dst = some d) (hb : look env d = some (.bool (decide p && decide q))) (h1 : p) (h2 : q) (k : RunQ P N c L (o :: l) Q ((d, .bool true) :: env) mem) : RunQ P N c L (o :: l) Q env mem := q_bool hg hj hd hb (and_t h1 h2) k
theorem c_and_t (h : evOp env t = some (.bool (decide p && decide q))) (h1 : p) (h2 : q) (k : RunC P N c x Q env mem) : RunC P N c (.cond t x y) Q env mem := c_bt h (and_t h1 h2) k
theorem l_and_f (hg : o.guard = some (j, w)) (hj : nth L j = some o') (hd : o'.dst = some d) (hb : look env d = some (.bool (decide p && decide q))) (h1 : ¬ (p ∧ q)) (k : RunL P N c L (o :: l) Q ((d, .bool false) :: env) mem) : RunL P N c L (o :: l) Q env mem := l_bool hg hj hd hb (and_f h1) k
theorem q_and_f (hg : o.guard = some (j, w)) (hj : nth L j = some o') (hd : o'.dst = some d) (hb : look env d = some (.bool (decide p && decide q))) (h1 : ¬ (p ∧ q)) (k : RunQ P N c L (o :: l) Q ((d, .bool false) :: env) mem) : RunQ P N c L (o :: l) Q env mem := q_bool hg hj hd hb (and_f h1) k
theorem c_and_f (h : evOp env t = some (.bool (decide p && decide q))) (h1 : ¬ (p ∧ q)) (k : RunC P N c y Q env mem) : RunC P N c (.cond t x y) Q env mem := c_bf h (and_f h1) k
theorem l_nand_t (hg : o.guard = some (j, w)) (hj : nth L j = some o') (hd : o'.dst = some d) (hb : look env d = some (.bool (!(decide p && decide q)))) (h1 : ¬ (p ∧ q)) (k : RunL P N c L (o :: l) Q ((d, .bool true) :: env) mem) : RunL P N c L (o :: l) Q env mem := l_bool hg hj hd hb (nand_t h1) k
theorem q_nand_t (hg : o.guard = some (j, w)) (hj : nth L j = some o') (hd : o'.dst = some d) (hb : look env d = some (.bool (!(decide p && decide q)))) (h1 : ¬ (p ∧ q)) (k : RunQ P N c L (o :: l) Q ((d, .bool true) :: env) mem) : RunQ P N c L (o :: l) Q env mem := q_bool hg hj hd hb (nand_t h1) k
theorem c_nand_t (h : evOp env t = some (.bool (!(decide p && decide q)))) (h1 : ¬ (p ∧ q)) (k : RunC P N c x Q env mem) : RunC P N c (.cond t x y) Q env mem := c_bt h (nand_t h1) k
theorem l_nand_f (hg : o.guard = some (j, w)) (hj : nth L j = some o') (hd : o'.dst = some d) (hb : look env d = some (.bool (!(decide p && decide q)))) (h1 : p) (h2 : q) (k : RunL P N c L (o :: l) Q ((d, .bool false) :: env) mem) : RunL P N c L (o :: l) Q env mem := l_bool hg hj hd hb (nand_f h1 h2) k
theorem q_nand_f (hg : o.guard = some (j, w)) (hj : nth L j = some o') (hd : o'.dst = some d) (hb : look env d = some (.bool (!(decide p && decide q)))) (h1 : p) (h2 : q) (k : RunQ P N c L (o :: l) Q ((d, .bool false) :: env) mem) : RunQ P N c L (o :: l) Q env mem := q_bool hg hj hd hb (nand_f h1 h2) k
theorem c_nand_f (h : evOp env t = some (.bool (!(decide p && decide q)))) (h1 : p) (h2 : q) (k : RunC P N c y Q env mem) : RunC P N c (.cond t x y) Q env mem := c_bf h (nand_f h1 h2) k
omit [Decidable q] in
theorem l_not_t (hg : o.guard = some (j, w)) (hj : nth L j = some o') (hd : o'.dst = some d) (hb : look env d = some (.bool (!decide p))) (h1 : ¬ p) (k : RunL P N c L (o :: l) Q ((d, .bool true) :: env) mem) : RunL P N c L (o :: l) Q env mem := l_bool hg hj hd hb (not_t h1) k
omit [Decidable q] in
theorem q_not_t (hg : o.guard = some (j, w)) (hj : nth L j = some o') (hd : o'.dst = some d) (hb : look env d = some (.bool (!decide p))) (h1 : ¬ p) (k : RunQ P N c L (o :: l) Q ((d, .bool true) :: env) mem) : RunQ P N c L (o :: l) Q env mem := q_bool hg hj hd hb (not_t h1) k
omit [Decidable q] in
theorem c_not_t (h : evOp env t = some (.bool (!decide p))) (h1 : ¬ p) (k : RunC P N c x Q env mem) : RunC P N c (.cond t x y) Q env mem := c_bt h (not_t h1) k
omit [Decidable q] in
theorem l_not_f (hg : o.guard = some (j, w)) (hj : nth L j = some o') (hd : o'.dst = some d) (hb : look env d = some (.bool (!decide p))) (h1 : p) (k : RunL P N c L (o :: l) Q ((d, .bool false) :: env) mem) : RunL P N c L (o :: l) Q env mem := l_bool hg hj hd hb (not_f h1) k
omit [Decidable q] in
theorem q_not_f (hg : o.guard = some (j, w)) (hj : nth L j = some o') (hd : o'.dst = some d) (hb : look env d = some (.bool (!decide p))) (h1 : p) (k : RunQ P N c L (o :: l) Q ((d, .bool false) :: env) mem) : RunQ P N c L (o :: l) Q env mem := q_bool hg hj hd hb (not_f h1) k
omit [Decidable q] in
theorem c_not_f (h : evOp env t = some (.bool (!decide p))) (h1 : p) (k : RunC P N c y Q env mem) : RunC P N c (.cond t x y) Q env mem := c_bf h (not_f h1) k
end
section
variable {P : Program} {N : Nat} {c : Cx} {Q : Exit → Act → World → Prop} {env env' : List (Nat × Value)} {mem mem' : List (Nat × Obj)} {x : Code}
/-- only some of what is known of the frame is kept -/
def keepOf (env : List (Nat × Value)) : List Nat → Option (List (Nat × Value))
  | [] => some []
  | k :: ks => match look env k with
    | some v => match keepOf env ks with
      | some l => some ((k, v) :: l)
      | none => none
    | none => none
theorem keepOf_look : ∀ {ks : List Nat} {env' : List (Nat × Value)}, keepOf env ks = some env' → ∀ s v, look env' s = some v → look env s = some v
  | [], env', h, s, v, hs => by cases h; cases hs
  | k :: ks, env', h, s, v, hs => by
    simp only [keepOf] at h
    split at h
    · rename_i u hu
      split at h
      · rename_i l hl
        cases h
        rw [look_cons] at hs
        split at hs
        · rename_i e; subst e; cases hs; exact hu
        · exact keepOf_look hl s v hs
      · cases h
    · cases h
theorem c_keep (ks : List Nat) (h : keepOf env ks = some env') (k : RunC P N c x Q env' mem) : RunC P N c x Q env mem := .mk fun a W ha hm =>
  k.run a W ⟨ha.size, ha.defers, fun s v hs => ha.env _ _ (keepOf_look h s v hs)⟩ hm
theorem c_drop (h : MSub mem mem') (k : RunC P N c x Q env mem') : RunC P N c x Q env mem := .mk fun a W ha hm => k.run a W ha (hm.mono h.sub)
end
end Kin
end Go

set_option linter.unusedSectionVars false
set_option linter.unusedVariables false
set_option linter.unusedSimpArgs false
namespace Go
open Go.RowKit
namespace Kin
section
variable {P : Program} {N : Nat} {c : Cx} {Q : Exit → Act → World → Prop} {env : List (Nat × Value)} {mem : List (Nat × Obj)} {L l : List Oper} {ch : List PanicEntry}
  {ty : TypeId} {pos : String} {af : Array Edge} {g : Option (Nat × Bool)} {dd : Option Tmp}

/-! ## Panics -/
theorem x_then_panic {next : Act → World → Prop} (k : RunX N c Q (.panic ch) env mem) : RunX N c (Exit.then next Q) (.panic ch) env mem := .mk fun a W ha hw => k.run a W ha hw
theorem x_block_panic {id : Nat} (k : RunX N c Q (.panic ch) env mem) : RunX N c (Exit.inBlock id Q) (.panic ch) env mem := .mk fun a W ha hw => k.run a W ha hw
theorem x_scope_panic (k : RunX N c Q (.panic ch) env mem) : RunX N c (Exit.noGoto Q) (.panic ch) env mem := .mk fun a W ha hw => k.run a W ha hw
theorem x_panic {fn : Func} {R : Ending → World → Prop} (hds : c.ds = []) (hR : ∀ W, SatW c.w0 c.D c.J mem W → R (.panicked ch) W) : RunX N c (bodyPostK P fn R) (.panic ch) env mem := .mk fun a W ha hm => by
  show LeavesInM _ _ _ _ _ _ a.defers _ _
  rw [ha.defers, hds]; exact hR W hm
section
variable [Wide c.F]
/-- a call that ends in a panic -/
theorem r_callP {f : FuncId} [Ent P f] {args : List Operand} {ats : Array TypeId} {vs : List Value} (hw : wantB L env g = some true) (ha : evOps env args some = some vs)
    (hc : ∀ W, SatW c.w0 c.D c.J mem W → Calls P f ⟨vs⟩ W fun e W' => e = .panicked ch ∧ Below W.heap.size W W')
    (k : RunX N c Q (.panic ch) env mem) : RunL P N c L (⟨dd, .call ⟨.value (.func f), ⟨args⟩, ats⟩, ty, pos, af, g⟩ :: l) Q env mem :=
  l_run hw fun a W hA hm => by
    have h1 := hA.evals ha
    simp only [Option.some.injEq] at h1
    rw [semAt_plain _ rfl, p_call, h1]
    refine ⟨Wide.depth c.F c.n, (Wide.calls (F := c.F) (hc W hm)).mono ?_⟩
    rintro e W' ⟨rfl, hb⟩
    exact k.run _ _ hA (hm.later hb)
/-- a call that hands nothing back -/
theorem r_call0 {f : FuncId} [Ent P f] {args : List Operand} {ats : Array TypeId} {vs : List Value} {v : Value} (hw : wantB L env g = some true) (ha : evOps env args some = some vs)
    (hc : ∀ W, SatW c.w0 c.D c.J mem W → Calls P f ⟨vs⟩ W fun e W' => e = .returned v ∧ Below W.heap.size W W')
    (k : RunL P N c L l Q env mem) : RunL P N c L (⟨none, .call ⟨.value (.func f), ⟨args⟩, ats⟩, ty, pos, af, g⟩ :: l) Q env mem :=
  l_run hw fun a W hA hm => by
    have h1 := hA.evals ha
    simp only [Option.some.injEq] at h1
    rw [semAt_plain _ rfl, p_call, h1]
    refine ⟨Wide.depth c.F c.n, (Wide.calls (F := c.F) (hc W hm)).mono ?_⟩
    rintro e W' ⟨rfl, hb⟩
    exact k.run _ _ hA (hm.later hb)
theorem run_panic {t : TypeId} {u : Value} (W : World) : (Instr.panic (.iface t u)).run P W = .halt (.panic (.iface t u)) W := by
  unfold Instr.panic
  rfl
theorem l_panic {x : Operand} {t : TypeId} {u : Value} (hw : wantB L env g = some true) (hx : evOp env x = some (.iface t u)) (k : RunX N c Q (.panic [{ v := .iface t u, recovered := false }]) env mem) :
    RunL P N c L (⟨dd, .panic x, ty, pos, af, g⟩ :: l) Q env mem :=
  l_run hw fun a W hA hm => by
    rw [semAt_plain _ rfl]
    have h1 : (execOp a.eval ⟨dd, .panic x, ty, pos, af, g⟩).run P W = .halt (.panic (.iface t u)) W := by
      simp only [execOp, hA.eval hx, Sem.run_bind, run_panic]; rfl
    rw [h1]
    exact k.run _ _ hA hm
/-- a call is deferred -/
theorem l_defer (hF : c.F.round = none) {f : FuncId} {x : Operand} {args : List Operand} {ats : Array TypeId} {vs fs cs : List Value} (hw : wantB L env g = some true) (hx : evOp env x = some (.func (.func f) ⟨fs⟩ ⟨cs⟩)) (ha : evOps env args some = some vs)
    (k : RunL P N { c with ds := { target := .fn (.func f) ⟨cs⟩, args := ⟨fs ++ vs⟩ } :: c.ds } L l Q env mem) : RunL P N c L (⟨none, .defer ⟨.value x, ⟨args⟩, ats⟩, ty, pos, af, g⟩ :: l) Q env mem :=
  l_run hw fun a W hA hm => by
    have h1 := hA.evals ha
    simp only [Option.some.injEq] at h1
    have h3 : (⟨none, .defer ⟨.value x, ⟨args⟩, ats⟩, ty, pos, af, g⟩ : Oper).semAt c.F.round a.eval = execOp a.eval ⟨none, .defer ⟨.value x, ⟨args⟩, ats⟩, ty, pos, af, g⟩ := by rw [hF]; rfl
    rw [h3]
    have h2 : (execOp a.eval ⟨none, .defer ⟨.value x, ⟨args⟩, ats⟩, ty, pos, af, g⟩).run P W = .ok (.defer { target := .fn (.func f) ⟨cs⟩, args := ⟨fs ++ vs⟩ }) W := by
      simp only [execOp, resolve, hA.eval hx, Deferred.ofValue, Sem.run_bind, List.map_toArray, h1]
      simp [Sem.run, pure]
    rw [h2]
    exact k.run _ _ ⟨hA.size, by rw [← hA.defers]; rfl, hA.env⟩ hm
end
end

/-! ## The door: one deferred call is made -/
section
variable {P : Program} {N : Nat} {c : Cx} {env : List (Nat × Value)} {mem : List (Nat × Obj)} {tt : List (TypeId × TI)}
/-- what the deferred call must do: the frame below goes on as a return -/
def Door (P : Program) (c : Cx) (mem : List (Nat × Obj)) (f : FuncId) (ws : Array Value) (u : FrameMode) {ι : Type} (mem' : ι → List (Nat × Obj)) : Prop :=
  ∀ W, SatW c.w0 c.D c.J mem W → CallsDIn Fence.wide 0 P f ws u W fun e u' W' => (∃ r, e = .returned r) ∧ settle u' = .returning ∧ ∃ i, SatW c.w0 c.D c.J (mem' i) W'
theorem door_leaves [T : TT P tt] {fn : Func} {rs : List ResultVar} {ι : Type} {vs : ι → List Value} {v : ι → Value} {mem' : ι → List (Nat × Obj)} {R : Ending → World → Prop} {fv : Fn} {cap args' : Array Value} {f : FuncId} {ws : Array Value} {u : FrameMode} (hu : u ≠ .run)
    (hds : c.ds = [{ target := .fn fv cap, args := args' }]) (hi : ∀ W, (invoke (.fn fv cap) args').run P W = .ok (.enter f ws) W) (hc : Door P c mem f ws u mem')
    (hr : fn.results = ⟨rs⟩) (h : ∀ i, Res tt env (mem' i) rs (vs i)) (hv : ∀ i, tupO (vs i) = some (v i)) (hR : ∀ i W, SatW c.w0 c.D c.J (mem' i) W → R (.returned (v i)) W) {a : Act} {W : World} (ha : SatA N c.ds env a) (hm : SatW c.w0 c.D c.J mem W) :
    LeavesInM Fence.wide 0 P fn a.tmps R a.defers u W := by
  rw [ha.defers, hds]
  refine ⟨hu, .inr ⟨(fun h => by cases h), fv, cap, f, ws, rfl, hi W, (fun _ _ => trivial), ?_⟩⟩
  have h1 := hc W hm
  refine ⟨h1.1, fun c₀ cs h2 h3 => ?_⟩
  obtain ⟨e, u', w', fr, ⟨⟨r, rfl⟩, hs, i, hW⟩, h5⟩ := h1.2 c₀ cs h2 h3
  refine ⟨.returned r, u', w', fr, ?_, h5⟩
  show LeavesInM _ _ _ _ _ _ [] (settle u') w'
  rw [hs]
  refine ⟨v i, ?_, hR i w' hW⟩
  rw [← tupO_eq (hv i)]
  exact results_run hr (h i) ha hW
theorem x_ret_d [T : TT P tt] {fn : Func} {rs : List ResultVar} {ι : Type} {vs : ι → List Value} {v : ι → Value} {mem' : ι → List (Nat × Obj)} {R : Ending → World → Prop} {fv : Fn} {cap args' : Array Value} {f : FuncId} {ws : Array Value}
    (hds : c.ds = [{ target := .fn fv cap, args := args' }]) (hi : ∀ W, (invoke (.fn fv cap) args').run P W = .ok (.enter f ws) W) (hc : Door P c mem f ws .returning mem')
    (hr : fn.results = ⟨rs⟩) (h : ∀ i, Res tt env (mem' i) rs (vs i)) (hv : ∀ i, tupO (vs i) = some (v i)) (hR : ∀ i W, SatW c.w0 c.D c.J (mem' i) W → R (.returned (v i)) W) : RunX N c (bodyPostK P fn R) .ret env mem := .mk fun a W ha hm =>
  door_leaves (by intro h; cases h) hds hi hc hr h hv hR ha hm
theorem x_panic_d [T : TT P tt] {fn : Func} {rs : List ResultVar} {ι : Type} {vs : ι → List Value} {v : ι → Value} {mem' : ι → List (Nat × Obj)} {R : Ending → World → Prop} {fv : Fn} {cap args' : Array Value} {f : FuncId} {ws : Array Value} {ch : List PanicEntry}
    (hds : c.ds = [{ target := .fn fv cap, args := args' }]) (hi : ∀ W, (invoke (.fn fv cap) args').run P W = .ok (.enter f ws) W) (hc : Door P c mem f ws (.panicking ch) mem')
    (hr : fn.results = ⟨rs⟩) (h : ∀ i, Res tt env (mem' i) rs (vs i)) (hv : ∀ i, tupO (vs i) = some (v i)) (hR : ∀ i W, SatW c.w0 c.D c.J (mem' i) W → R (.returned (v i)) W) : RunX N c (bodyPostK P fn R) (.panic ch) env mem := .mk fun a W ha hm =>
  door_leaves (by intro h; cases h) hds hi hc hr h hv hR ha hm
end
/-! ## Sums by a fact -/
section
variable {P : Program} {N : Nat} {c : Cx} [Wide c.F] {env : List (Nat × Value)} {mem : List (Nat × Obj)} {ty : TypeId} {pos : String} {af : Array Edge} {g : Option (Nat × Bool)} {dd : Option Tmp}
theorem v_subQ {t t' : TypeId} {x y : Operand} {m n q : Int} (hx : evOp env x = some (.int .i64 m)) (hy : evOp env y = some (.int .i64 n)) (hq : m - n = q) (h1 : -9223372036854775808 ≤ q) (h2 : q ≤ 9223372036854775807) :
    OpVal P N c env mem ⟨dd, .binOp .sub t x y t', ty, pos, af, g⟩ (.int .i64 q) := by subst hq; exact v_sub hx hy h1 h2
theorem v_addQ {t t' : TypeId} {x y : Operand} {m n q : Int} (hx : evOp env x = some (.int .i64 m)) (hy : evOp env y = some (.int .i64 n)) (hq : m + n = q) (h1 : -9223372036854775808 ≤ q) (h2 : q ≤ 9223372036854775807) :
    OpVal P N c env mem ⟨dd, .binOp .add t x y t', ty, pos, af, g⟩ (.int .i64 q) := by subst hq; exact v_add hx hy h1 h2
end
end Kin
end Go

set_option linter.unusedSectionVars false
set_option linter.unusedVariables false
set_option linter.unusedSimpArgs false
namespace Go
open Go.RowKit
namespace Kin
section
variable {P : Program} {N : Nat} {c : Cx} {Q : Exit → Act → World → Prop} {env : List (Nat × Value)} {mem : List (Nat × Obj)} {L l : List Oper} {tt : List (TypeId × TI)} [Wide c.F]
  {ty : TypeId} {pos : String} {af : Array Edge} {g : Option (Nat × Bool)} {dd : Option Tmp}

/-! ## Interfaces -/
def concrete : TK → Bool
  | .other => false
  | _ => true
theorem v_iface [T : TT P tt] {t sz bt : Nat} {kd : TK} {z v : Value} {x : Operand} (ht : look tt t = some ⟨kd, sz, bt, z⟩) (hk : concrete kd = true) (hx : evOp env x = some v) :
    OpVal P N c env mem ⟨dd, .makeInterface t x, ty, pos, af, g⟩ (.iface t v) := by
  have h1 := (TT.look (P := P) ht).1
  refine ⟨rfl, fun a W ha _ => ?_⟩
  simp only [execOp, ha.eval hx]
  cases kd with
  | other => cases hk
  | struct fs => obtain ⟨f, h1, _⟩ := h1; simp only [Instr.makeInterface, Sem.run_bind, run_und h1, Result.andThen_ok]; rfl
  | _ => simp only [TKOk] at h1; simp only [Instr.makeInterface, Sem.run_bind, run_und h1, Result.andThen_ok]; rfl
/-- a value of an interface compared with nil -/
theorem v_eqNil {t t' : TypeId} {ms : Array (String × TypeId)} (hu : P.underlying t = some (.interface ms)) {x : Operand} (hx : evOp env x = some .nilIface) : OpVal P N c env mem ⟨dd, .binOp .eql t x (.const .nilIface) t', ty, pos, af, g⟩ (.bool true) := by
  refine ⟨rfl, fun a W ha _ => ?_⟩
  have h1 : (eqGuard .eql t x (.const .nilIface) .nilIface .nilIface).run P W = .ok () W := by
    unfold eqGuard; simp [Sem.run, pure]
  have h2 : (Op.equal t .nilIface .nilIface).run P W = .ok true W := by
    show (Op.equalIn (9999 + 1) t .nilIface .nilIface).run P W = _
    rw [Op.equalIn]
    simp only [Sem.run_bind, run_und hu, Result.andThen_ok]; rfl
  have h3 : a.eval (.const .nilIface) = .nilIface := rfl
  simp only [execOp, ha.eval hx, h3, Sem.run_bind, h1, Result.andThen_ok, binOp, h2]
  rfl
theorem v_eqNil_no {t t' u : TypeId} {ms : Array (String × TypeId)} {v : Value} (hu : P.underlying t = some (.interface ms)) {x : Operand} (hx : evOp env x = some (.iface u v)) : OpVal P N c env mem ⟨dd, .binOp .eql t x (.const .nilIface) t', ty, pos, af, g⟩ (.bool false) := by
  refine ⟨rfl, fun a W ha _ => ?_⟩
  have h1 : (eqGuard .eql t x (.const .nilIface) (.iface u v) .nilIface).run P W = .ok () W := by
    unfold eqGuard; simp [Sem.run, pure]
  have h2 : (Op.equal t (.iface u v) .nilIface).run P W = .ok false W := by
    show (Op.equalIn (9999 + 1) t (.iface u v) .nilIface).run P W = _
    rw [Op.equalIn]
    simp only [Sem.run_bind, run_und hu, Result.andThen_ok]; rfl
  have h3 : a.eval (.const .nilIface) = .nilIface := rfl
  simp only [execOp, ha.eval hx, h3, Sem.run_bind, h1, Result.andThen_ok, binOp, h2]
  rfl
theorem v_assertOk [T : TT P tt] {t s sz bt : Nat} {kd : TK} {z v : Value} {x : Operand} (ht : look tt t = some ⟨kd, sz, bt, z⟩) (hk : concrete kd = true) (hx : evOp env x = some (.iface t v)) :
    OpVal P N c env mem ⟨dd, .typeAssert x s t true, ty, pos, af, g⟩ (.tuple ⟨[v, .bool true]⟩) := by
  have h1 := (TT.look (P := P) ht).1
  refine ⟨rfl, fun a W ha _ => ?_⟩
  simp only [execOp, ha.eval hx]
  cases kd with
  | other => cases hk
  | struct fs => obtain ⟨f, h1, _⟩ := h1; simp only [Instr.typeAssert, Sem.run_bind, run_und h1, Result.andThen_ok, if_true]; rfl
  | _ => simp only [TKOk] at h1; simp only [Instr.typeAssert, Sem.run_bind, run_und h1, Result.andThen_ok, if_true]; rfl
end

/-! ## Tests that are opposites, split -/
section
variable {P : Program} {N : Nat} {c : Cx} {Q : Exit → Act → World → Prop} {env : List (Nat × Value)} {mem : List (Nat × Obj)} {L l : List Oper} [Wide c.F] {p : Prop} [Decidable p]
theorem l_notS {o : Oper} {j d : Nat} {w : Bool} {o' : Oper} (hg : o.guard = some (j, w)) (hj : nth L j = some o') (hd : o'.dst = some d) (hb : look env d = some (.bool (!decide p)))
    (k1 : ¬ p → RunL P N c L (o :: l) Q ((d, .bool true) :: env) mem) (k2 : p → RunL P N c L (o :: l) Q ((d, .bool false) :: env) mem) : RunL P N c L (o :: l) Q env mem := by
  by_cases h : p
  · exact l_bool hg hj hd hb (by rw [decide_eq_true h]; rfl) (k2 h)
  · exact l_bool hg hj hd hb (by rw [decide_eq_false h]; rfl) (k1 h)
theorem q_notS {o : Oper} {j d : Nat} {w : Bool} {o' : Oper} (hg : o.guard = some (j, w)) (hj : nth L j = some o') (hd : o'.dst = some d) (hb : look env d = some (.bool (!decide p)))
    (k1 : ¬ p → RunQ P N c L (o :: l) Q ((d, .bool true) :: env) mem) (k2 : p → RunQ P N c L (o :: l) Q ((d, .bool false) :: env) mem) : RunQ P N c L (o :: l) Q env mem := by
  by_cases h : p
  · exact q_bool hg hj hd hb (by rw [decide_eq_true h]; rfl) (k2 h)
  · exact q_bool hg hj hd hb (by rw [decide_eq_false h]; rfl) (k1 h)
theorem c_notS {t : Operand} {x y : Code} (h : evOp env t = some (.bool (!decide p))) (k1 : ¬ p → RunC P N c x Q env mem) (k2 : p → RunC P N c y Q env mem) : RunC P N c (.cond t x y) Q env mem := by
  by_cases hp : p
  · exact c_false (h.trans (by rw [decide_eq_true hp]; rfl)) (k2 hp)
  · exact c_true (h.trans (by rw [decide_eq_false hp]; rfl)) (k1 hp)
end

/-! ## A deferred call that recovers -/
def DQ (P : Program) (fn : Func) (u' : FrameMode) (R : Ending → FrameMode → World → Prop) : Exit → Act → World → Prop
  | .normal, a, w | .ret, a, w => a.defers = [] ∧ ∃ v, (results fn a.tmps).run P w = .ok v w ∧ R (.returned v) u' w
  | _, _, _ => False
/-- what recover finds, and what it leaves -/
inductive Recov : FrameMode → Value → FrameMode → Prop
  | none : Recov .returning .nilIface .returning
  | some (v : Value) (older : List PanicEntry) : Recov (.panicking ({ v, recovered := false } :: older)) v (.panicking ({ v, recovered := true } :: older))
section
variable {P : Program} {N : Nat} {env : List (Nat × Value)} {mem : List (Nat × Obj)} {tt : List (TypeId × TI)}
theorem d_enter {f : FuncId} {fn : Func} {id d : Nat} {ats : Array TypeId} {ty : TypeId} {pos : String} {af : Array Edge} {rest : Code} {args : List Value} {u u' : FrameMode} {v : Value} {w0 w : World} {D : Nat → Prop} {J : (Nat → Prop) → World → Prop} {R : Ending → FrameMode → World → Prop}
    (hf : P.funcs[f]? = some fn) (hb : fn.body = some (.seq (.region id #[⟨some d, .call ⟨.builtin .recover, #[], ats⟩, ty, pos, af, none⟩] false) rest)) (hN : fn.ntmps = N)
    (hl : Nat.ble args.length N = true) (hd : Nat.blt d N = true) (he : enumK 0 args some = some env) (hm : SatW w0 D J mem w) (hu : Recov u v u')
    (k : RunC P N ⟨Fence.wide, 0, [], w0, D, J⟩ rest (DQ P fn u' R) ((d, v) :: env) mem) : CallsDIn Fence.wide 0 P f ⟨args⟩ u w R := by
  subst hN
  refine callsDIn_of_wpSIn hf hb trivial fun c₀ cs hc => ?_
  have ha : SatA fn.ntmps [] env { tmps := (⟨args⟩ : Array Value) ++ Array.replicate (fn.ntmps - (⟨args⟩ : Array Value).size) undef, defers := [] } := by
    obtain ⟨e, h1, h2⟩ := enumK_eq he
    simp only [Option.some.injEq] at h1
    subst h1
    have hl2 := Nat.le_of_ble_eq_true hl
    refine ⟨?_, rfl, fun s v hs => ?_⟩
    · simp only [Array.size_append, Array.size_replicate, List.size_toArray]; omega
    · obtain ⟨_, h3⟩ := h2 s v hs
      simp only [Nat.sub_zero] at h3
      have hlt := (List.getElem?_eq_some_iff.1 h3).1
      rw [Array.getElem?_append_left (by simpa using hlt)]
      simpa using h3
  have hk := k.run _ w (ha.put hd v) hm
  apply wpSIn_seq
  apply wpSIn_region
  have hrun : (execOp (Act.eval { tmps := (⟨args⟩ : Array Value) ++ Array.replicate (fn.ntmps - (⟨args⟩ : Array Value).size) undef, defers := [] }) ⟨some d, .call ⟨.builtin .recover, #[], ats⟩, ty, pos, af, none⟩).run P w = .ok .recover w := by
    simp only [execOp, resolve, Sem.run_bind]; rfl
  have hthen : ∀ a' cs', cs' = { c₀ with mode := u' } :: cs → rest.wpIn Fence.wide 0 P (DQ P fn u' R) a' w → rest.wpSIn Fence.wide 0 P (bodyPostS P fn c₀ cs R) a' cs' w := fun a' cs' e h => by
    subst e
    refine wpSIn_of_wpIn rfl (fun b k cs1 h1 h2 h3 => ?_)
    obtain ⟨e, a2, w2, hq, h4⟩ := h b k cs1 h1 h2 h3
    refine ⟨e, a2, w2, ?_, h4⟩
    cases e with
    | normal => obtain ⟨q1, v, q2, q3⟩ := hq; exact ⟨q1, u', rfl, v, q2, q3⟩
    | ret => obtain ⟨q1, v, q2, q3⟩ := hq; exact ⟨q1, u', rfl, v, q2, q3⟩
    | _ => exact hq.elim
  show wpOpsSIn _ _ _ _ _ [0] _ _ _
  unfold wpOpsSIn
  simp only [List.getElem?_toArray, List.getElem?_cons_zero]
  refine ⟨fun _ _ => trivial, ?_⟩
  rw [if_pos (by rfl)]
  rw [hrun]
  simp only
  cases hu with
  | none =>
    have hr : recoverD (c₀ :: cs) = none := by simp [recoverD, hc]
    rw [hr]
    simp only [wpOpsSIn, Exit.thenS]
    exact hthen _ _ (by cases c₀; simp_all) hk
  | some v older =>
    have hr : recoverD (c₀ :: cs) = some (v, { c₀ with mode := .panicking ({ v, recovered := true } :: older) } :: cs) := by simp [recoverD, hc]
    rw [hr]
    simp only [wpOpsSIn, Exit.thenS]
    exact hthen _ _ rfl hk
theorem x_door [T : TT P tt] {c : Cx} {fn : Func} {rs : List ResultVar} {vs : List Value} {v : Value} {u' : FrameMode} {R : Ending → FrameMode → World → Prop} (hds : c.ds = []) (hr : fn.results = ⟨rs⟩) (h : Res tt env mem rs vs) (hv : tupO vs = some v)
    (hR : ∀ W, SatW c.w0 c.D c.J mem W → R (.returned v) u' W) : RunX N c (DQ P fn u' R) .normal env mem := .mk fun a W ha hm => by
  obtain rfl := tupO_eq hv
  exact ⟨ha.defers.trans hds, _, results_run hr h ha hm, hR W hm⟩
theorem settle_recovered (v : Value) : settle (.panicking [{ v, recovered := true }]) = .returning := rfl
end
end Kin
end Go

set_option linter.unusedSectionVars false
set_option linter.unusedVariables false
set_option linter.unusedSimpArgs false
namespace Go
open Go.RowKit
namespace Kin
section
variable {P : Program} {N : Nat} {c : Cx} {Q : Exit → Act → World → Prop} {env : List (Nat × Value)} {L l : List Oper} {tl : List (Nat × Obj)} {fr : OM} {kt : Kt} {rd : List (Nat × Nat)} {d : Tmp} {dd : Option Tmp}
  {ty : TypeId} {pos : String} {af : Array Edge} {g : Option (Nat × Bool)} {tt : List (TypeId × TI)} {mem : List (Nat × Obj)}
/-- The operation appends to nil: what comes out are the elements `xs`, in a new block. -/
structure OpApp0 (P : Program) (N : Nat) (c : Cx) (env : List (Nat × Value)) (mem : List (Nat × Obj)) (o : Oper) (sz n : Nat) (xs : List Value) (e : TypeId) : Prop where
  plain : plainOp o.op = true
  run : ∀ a W, SatA N c.ds env a → SatW c.w0 c.D c.J mem W → ∃ cap rest, (execOp a.eval o).run P W = .ok (.value (.slice (some ⟨W.heap.size, 0, none⟩) n cap)) (W.drew.alloc (.cells ⟨xs ++ rest⟩ e (0, 0))) ∧ Grow sz n xs cap rest
theorem e_app0 {k p sz n : Nat} {op : Op} {xs : List Value} {e : TypeId} {mem' : List (Nat × Obj)} (hw : wantB L env g = some true) (hd : Nat.blt d N = true) (hk : kdOf kt k = some (.app p none sz)) (hp : fr[p]? = some none) (h0 : 0 < sz)
    (hx : xs.length = n * sz) (hn : n ≤ maxLen) (hm : pickO (rowS (shOf kt) rd k) 0 fr tl some = some mem') (hv : OpApp0 P N c env mem' ⟨some d, op, ty, pos, af, g⟩ sz n xs e)
    (kk : ∀ b cap rest, Grow sz n xs cap rest → RunE P N c L kt rd tl l (k + 1) Q ((d, .slice (some ⟨b, 0, none⟩) n cap) :: env) (fr.set p (some (b, .cells ⟨xs ++ rest⟩ e (0, 0))))) : RunE P N c L kt rd tl (⟨some d, op, ty, pos, af, g⟩ :: l) k Q env fr := .mk fun β a ha hr => by
  refine ⟨_, _, .app hk (wanted_of (o := ⟨some d, op, ty, pos, af, g⟩) hw ha) hv.1 hp h0 hx hn (fun q' h => by cases h) (e := e) (fun W hW => ?_), (kk (β k).b _ _ (growF_mk hx hn (β k).rest)).run β _ (ha.put hd _) hr⟩
  obtain ⟨m', h1, h2⟩ := pickO_eq (f := wrS (ancs .any L.toArray) (shOf kt) k) (fun p hp => rowS_ok hr hp) hm
  simp only [Option.some.injEq] at h2
  subst h2
  obtain ⟨cap, rest, g1, g2⟩ := hv.2 a W ha (hW.mono h1)
  exact ⟨_, cap, rest, _, g1, g2, World.alloc_heap_new W.drew _, .inr ⟨rfl, rfl⟩⟩
theorem a_append_nil [T : TT P tt] {t e m cx bx ox sz bt sz' bt' : Nat} {ke : TK} {z z' : Value} {x y : Operand} {ys : List Value}
    (hx : evOp env x = some (.slice none 0 0)) (hy : evOp env y = some (.slice (some ⟨bx, ox, none⟩) m cx)) (ht : look tt t = some ⟨.slice e, sz', bt', z'⟩) (hte : look tt e = some ⟨ke, sz, bt, z⟩) (hnews : News c mem bx ox ys)
    (hl : ys.length = m * sz) (hzl : Nat.beq (cellsL z).length sz = true) (h0 : 0 < m) (hb : m * bt ≤ 140737488355328) (hm : m ≤ maxLen) :
    OpApp0 P N c env mem ⟨dd, .call ⟨.builtin .append, ⟨[x, y]⟩, ⟨[t, t]⟩⟩, ty, pos, af, g⟩ sz m ys e := by
  have hu : P.underlying t = some (.slice e) := (TT.look (P := P) ht).1
  obtain ⟨_, inf, hi, hs, hbt, hz⟩ := TT.look (P := P) hte
  simp only at hs hz hbt
  have hzl := Nat.eq_of_beq_eq_true hzl
  refine ⟨rfl, fun a W ha hmm => ?_⟩
  have hr := run_append_nil (P := P) W t ty e inf z hu hi hz ⟨bx, ox, none⟩ m cx ys (by rw [hs]; exact hl) (fun j v hj => by rw [addr_add]; exact hnews.ok W hmm j v hj) h0 (by simp only [maxLen] at hm; omega) (by rw [hbt]; omega)
  have hge := grownCap_ge W m 0 e
  rw [show (ys.toArray ++ Builtin.zeroCells z.cells (grownCap W m 0 e - m)) = ⟨ys ++ (Builtin.zeroCells z.cells (grownCap W m 0 e - m)).toList⟩ by apply Array.ext'; simp] at hr
  refine ⟨grownCap W m 0 e, (Builtin.zeroCells z.cells (grownCap W m 0 e - m)).toList, p_append (ha.eval hx) (ha.eval hy) hr, hl, ?_, hge, grownCap_le_maxLen W m 0 e hm⟩
  rw [List.length_append, hl, zeroCells_len, cellsL_eq]
  show m * sz + (grownCap W m 0 e - m) * (cellsL z).length = _
  rw [hzl, ← Nat.add_mul]
  congr 1; omega
end
end Kin
end Go

set_option linter.unusedSectionVars false
set_option linter.unusedVariables false
set_option linter.unusedSimpArgs false
namespace Go
open Go.RowKit
namespace Kin
section
variable {P : Program} {N : Nat} {c : Cx} {Q : Exit → Act → World → Prop} {env : List (Nat × Value)} {mem mem' : List (Nat × Obj)} {x : Code}
/-- the blocks of a world but for some -/
def allBut (W : World) (ks : List Nat) : Nat → Prop := fun b => b < W.heap.size ∧ b ∉ ks
theorem satW_fresh {W : World} {m : List (Nat × Obj)} (hn : (m.map (·.1)).Nodup) (h : ∀ p ∈ m, W.heap[p.1]? = some p.2) : SatW W (allBut W (m.map (·.1))) noJ m W :=
  ⟨Same.refl _ _, fun _ hb => hb.1, hn, fun p hp => ⟨fun hb => hb.2 (List.mem_map.2 ⟨p, hp, rfl⟩), h p hp⟩, closed_noJ, trivial⟩
/-- from here on only some of the own blocks are written: the rest of the world stays as it is now -/
theorem c_freeze {F : Fence} {n : Nat} {ds : List Deferred} {w0 : World} {D : Nat → Prop} {J : (Nat → Prop) → World → Prop} (hM : MSub mem mem')
    (k : ∀ W, SatW w0 D J mem W → RunC P N ⟨F, n, ds, W, allBut W (mem'.map (·.1)), noJ⟩ x Q env mem') : RunC P N ⟨F, n, ds, w0, D, J⟩ x Q env mem := .mk fun a W ha hm => by
  have h2 : SatW w0 D J mem' W := hm.mono hM.sub
  exact (k W hm).run a W ha (satW_fresh h2.nodup fun p hp => (h2.own p hp).2)
/-- the end of a round -/
structure BackW {ι : Type} (N : Nat) (I : ι → Prop) (dd : ι → List Deferred) (ws : ι → World) (Ds : ι → Nat → Prop) (JJ : ι → (Nat → Prop) → World → Prop) (E : ι → List (Nat × Value)) (M : ι → List (Nat × Obj)) (μ : ι → Nat) (i : ι) (a : Act) (W : World) : Prop where
  ex : ∃ j, I j ∧ μ j < μ i ∧ SatA N (dd j) (E j) a ∧ SatW (ws j) (Ds j) (JJ j) (M j) W
theorem c_loopW {body : Code} {F : Fence} {n : Nat} {ds : List Deferred} {w0 : World} {D : Nat → Prop} {J : (Nat → Prop) → World → Prop} {ι : Type} (I : ι → Prop) (dd : ι → List Deferred) (ws : ι → World) (Ds : ι → Nat → Prop) (JJ : ι → (Nat → Prop) → World → Prop) (E : ι → List (Nat × Value)) (M : ι → List (Nat × Obj)) (μ : ι → Nat)
    (start : ∀ a W, SatA N ds env a → SatW w0 D J mem W → ∃ j, I j ∧ SatA N (dd j) (E j) a ∧ SatW (ws j) (Ds j) (JJ j) (M j) W)
    (round : ∀ i, I i → RunC P N ⟨F, n, dd i, ws i, Ds i, JJ i⟩ body (Exit.then (BackW N I dd ws Ds JJ E M μ i) Q) (E i) (M i)) : RunC P N ⟨F, n, ds, w0, D, J⟩ (.loop body) Q env mem := .mk fun a W ha hm => by
  classical
  let p : Act → World → Nat → Prop := fun a W n => ∃ j, I j ∧ μ j = n ∧ SatA N (dd j) (E j) a ∧ SatW (ws j) (Ds j) (JJ j) (M j) W
  let ν : Act → World → Nat := fun a W => if h : ∃ n, p a W n then Classical.choose (least h) else 0
  have hν : ∀ a W, (h : ∃ n, p a W n) → p a W (ν a W) ∧ ∀ m, p a W m → ν a W ≤ m := fun a W h => by
    show p a W (if h : ∃ n, p a W n then Classical.choose (least h) else 0) ∧ ∀ m, p a W m → (if h : ∃ n, p a W n then Classical.choose (least h) else 0) ≤ m
    rw [dif_pos h]; exact Classical.choose_spec (least h)
  obtain ⟨i0, g1, g2, g3⟩ := start a W ha hm
  refine wpIn_loop (fun a W => ∃ n, p a W n) ν ⟨_, i0, g1, rfl, g2, g3⟩ ?_
  intro a W hp
  obtain ⟨⟨j, h1, h2, h3, h4⟩, _⟩ := hν a W hp
  refine wpIn_mono ((round j h1).run a W h3 h4) ?_
  rintro e a' W' hq
  cases e with
  | normal =>
    obtain ⟨j', k1, k2, k3, k4⟩ := hq.ex
    have hp' : ∃ n, p a' W' n := ⟨_, j', k1, rfl, k3, k4⟩
    exact ⟨hp', by have := (hν a' W' hp').2 _ ⟨j', k1, rfl, k3, k4⟩; omega⟩
  | _ => exact hq
theorem x_backW {ι : Type} {I : ι → Prop} {dd : ι → List Deferred} {ws : ι → World} {Ds : ι → Nat → Prop} {JJ : ι → (Nat → Prop) → World → Prop} {E : ι → List (Nat × Value)} {M : ι → List (Nat × Obj)} {μ : ι → Nat} {i : ι} {Q' : Exit → Act → World → Prop}
    (h : ∀ a W, SatA N c.ds env a → SatW c.w0 c.D c.J mem W → ∃ j, I j ∧ μ j < μ i ∧ SatA N (dd j) (E j) a ∧ SatW (ws j) (Ds j) (JJ j) (M j) W) :
    RunX N c (Exit.then (BackW N I dd ws Ds JJ E M μ i) Q') .normal env mem := .mk fun a W ha hm => ⟨h a W ha hm⟩
/-- facts of the old ground hold on the new one -/
theorem Ext.move {w0 W : World} {D D' : Nat → Prop} {b o : Nat} {cs : List Value} (h : Ext w0 D b o cs) (hS : Same D w0 W) (hD : ∀ k, D k → D' k) : Ext W D' b o cs :=
  ⟨hD _ h.dom, fun i v hi => hS.cell (h.cell i v hi) h.dom⟩
end
end Kin
end Go

set_option linter.unusedSectionVars false
set_option linter.unusedVariables false
set_option linter.unusedSimpArgs false
namespace Go
open Go.RowKit
namespace Kin
section
variable {P : Program} {N : Nat} {c : Cx} {Q : Exit → Act → World → Prop} {env : List (Nat × Value)} {mem : List (Nat × Obj)} {L l : List Oper} {tt : List (TypeId × TI)}
  {ty : TypeId} {pos : String} {af : Array Edge} {g : Option (Nat × Bool)} {dd : Option Tmp} {t t' : TypeId} {x y : Operand}
/-! ## Bits -/
theorem v_shlA {k' : IntKind} {m r : Int} {n : Nat} (hx : evOp env x = some (.int .i64 m)) (hy : evOp env y = some (.int k' n)) (h : n ≤ 64) (hr : IntKind.i64.wrap (m * 2 ^ n) = r) : OpVal P N c env mem ⟨dd, .binOp .shl t x y t', ty, pos, af, g⟩ (.int .i64 r) :=
  ⟨rfl, fun a W ha _ => by
    have hmin : min n IntKind.i64.bits = n := by show min n 64 = n; omega
    have : (execOp a.eval ⟨dd, .binOp .shl t x y t', ty, pos, af, g⟩).run P W = .ok (.value (.int .i64 (IntKind.i64.wrap (m * 2 ^ n)))) W := by
      simp [execOp, ha.eval hx, ha.eval hy, eqGuard, binOp, Op.shift, hmin, Sem.run, pure, bind, Sem.bind]
    rw [this, hr]⟩
theorem v_shrA {k' : IntKind} {m r : Int} {n : Nat} (hx : evOp env x = some (.int .i64 m)) (hy : evOp env y = some (.int k' n)) (h : n ≤ 64) (hr : m / 2 ^ n = r) : OpVal P N c env mem ⟨dd, .binOp .shr t x y t', ty, pos, af, g⟩ (.int .i64 r) :=
  ⟨rfl, fun a W ha _ => by
    have hs : Op.shift .shr .i64 m k' n = pure (.int .i64 (m / 2 ^ n)) := by
      have := shift_shr .i64 k' m n (Int.natCast_nonneg n) (by show (n : Int) ≤ ((64 : Nat) : Int); omega)
      rwa [Int.toNat_natCast] at this
    have : (execOp a.eval ⟨dd, .binOp .shr t x y t', ty, pos, af, g⟩).run P W = .ok (.value (.int .i64 (m / 2 ^ n))) W := by
      simp [execOp, ha.eval hx, ha.eval hy, eqGuard, binOp, hs, Sem.run, pure, bind, Sem.bind]
    rw [this, hr]⟩
theorem v_andA {m n r : Int} (hx : evOp env x = some (.int .i64 m)) (hy : evOp env y = some (.int .i64 n)) (hr : bits .and .i64 m n = r) : OpVal P N c env mem ⟨dd, .binOp .and t x y t', ty, pos, af, g⟩ (.int .i64 r) :=
  ⟨rfl, fun a W ha _ => by
    have : (execOp a.eval ⟨dd, .binOp .and t x y t', ty, pos, af, g⟩).run P W = .ok (.value (.int .i64 (bits .and .i64 m n))) W := by
      simp only [execOp, ha.eval hx, ha.eval hy, eqGuard, binOp]; rfl
    rw [this, hr]⟩
theorem v_orA {m n r : Int} (hx : evOp env x = some (.int .i64 m)) (hy : evOp env y = some (.int .i64 n)) (hr : bits .or .i64 m n = r) : OpVal P N c env mem ⟨dd, .binOp .or t x y t', ty, pos, af, g⟩ (.int .i64 r) :=
  ⟨rfl, fun a W ha _ => by
    have : (execOp a.eval ⟨dd, .binOp .or t x y t', ty, pos, af, g⟩).run P W = .ok (.value (.int .i64 (bits .or .i64 m n))) W := by
      simp only [execOp, ha.eval hx, ha.eval hy, eqGuard, binOp]; rfl
    rw [this, hr]⟩
theorem wraps_i64 (n : Int) (h0 : 0 ≤ n) (h1 : n < 2 ^ 63) : IntKind.i64.wrap n = n := by rw [IntKind.wrap_i64]; omega
/-- the low bits of any number -/
theorem and_low (n : Int) (i : Nat) (hi : i ≤ 62) : bits .and .i64 n (2 ^ i - 1) = n % 2 ^ i := by
  have hpos : 0 < 2 ^ i := Nat.two_pow_pos i
  have hc : ((2 : Int) ^ i - 1) = ((2 ^ i - 1 : Nat) : Int) := by rw [Int.natCast_sub hpos]; simp
  have hle : 2 ^ i ≤ 2 ^ 62 := Nat.pow_le_pow_right (by decide) hi
  have hm : (BitVec.ofInt 64 ((2 : Int) ^ i - 1)).toNat = 2 ^ i - 1 := by
    rw [hc, BitVec.ofInt_natCast, BitVec.toNat_ofNat]
    exact Nat.mod_eq_of_lt (by omega)
  have key : (BitVec.ofInt 64 n &&& BitVec.ofInt 64 ((2 : Int) ^ i - 1)).toNat = (n % ((2 ^ 64 : Nat) : Int)).toNat % 2 ^ i := by
    rw [BitVec.toNat_and, BitVec.toNat_ofInt, hm, Nat.and_two_pow_sub_one_eq_mod]
  show IntKind.i64.wrap ((BitVec.ofInt 64 n &&& BitVec.ofInt 64 ((2 : Int) ^ i - 1)).toNat : Nat) = n % 2 ^ i
  rw [key]
  have h1 : (((n % ((2 ^ 64 : Nat) : Int)).toNat % 2 ^ i : Nat) : Int) = n % 2 ^ i := by
    have hn := Int.emod_nonneg n (show ((2 ^ 64 : Nat) : Int) ≠ 0 by decide)
    rw [Int.natCast_emod, Int.toNat_of_nonneg hn]
    have hd : (((2 ^ i : Nat) : Int)) ∣ ((2 ^ 64 : Nat) : Int) := by
      refine Int.natCast_dvd_natCast.2 ?_
      exact Nat.pow_dvd_pow 2 (by omega)
    rw [Int.emod_emod_of_dvd _ hd]
    simp
  rw [h1]
  have hb : (2 : Int) ^ i ≤ 2 ^ 62 := by exact_mod_cast hle
  have hp : (0 : Int) < 2 ^ i := by exact_mod_cast hpos
  have h2 := Int.emod_nonneg n (show (2 : Int) ^ i ≠ 0 by omega)
  have h3 := Int.emod_lt_of_pos n hp
  have h4 : (2 : Int) ^ 62 < 2 ^ 63 := by decide
  exact wraps_i64 _ h2 (by omega)
/-- a digit behind others -/
theorem or_join (x y : Int) (i : Nat) (hx : 0 ≤ x) (hy : 0 ≤ y) (hy1 : y < 2 ^ i) (h : x * 2 ^ i < 2 ^ 63) (h2 : (2 : Int) ^ i ≤ 2 ^ 62) : bits .or .i64 (x * 2 ^ i) y = x * 2 ^ i + y := by
  have hp : (0 : Int) < 2 ^ i := by
    have : 0 < 2 ^ i := Nat.two_pow_pos i
    exact_mod_cast this
  have h4 : (2 : Int) ^ 62 < 2 ^ 63 := by decide
  exact bits_join .i64 63 (by decide) wraps_i64 i _ y (Int.mul_nonneg hx (by omega)) (Int.mul_emod_left _ _) h hy hy1 (by omega)

/-! ## Calls that keep a word -/
theorem q_callJ [Wide c.F] {f : FuncId} [Ent P f] {d : Nat} {args : List Operand} {ats : Array TypeId} {vs : List Value} {v : Value} (hw : wantB L env g = some true) (hd : Nat.blt d N = true) (ha : evOps env args some = some vs)
    (hc : ∀ W, SatW c.w0 c.D c.J mem W → Calls P f ⟨vs⟩ W fun e W' => e = .returned v ∧ SatW c.w0 c.D c.J mem W')
    (k : RunQ P N c L l Q ((d, v) :: env) mem) : RunQ P N c L (⟨some d, .call ⟨.value (.func f), ⟨args⟩, ats⟩, ty, pos, af, g⟩ :: l) Q env mem :=
  q_run (v := v) hw (fun a hA W hm => by
    have h1 := hA.evals ha
    simp only [Option.some.injEq] at h1
    unfold Oper.quietAt
    rw [p_call, h1]
    exact ⟨rfl, (hc W hm).mono fun _ W' ⟨h2, h3⟩ => ⟨h2, h3⟩⟩) (fun a hA => k.run _ (hA.put hd v))
theorem q_callvJ [Wide c.F] {f : FuncId} [Ent P f] {d : Nat} {args : List Operand} {ats : Array TypeId} {vs fs cs ws : List Value} {v : Value} (hw : wantB L env g = some true) (hd : Nat.blt d N = true)
    (hx : evOp env x = some (.func (.func f) ⟨fs⟩ ⟨cs⟩)) (ha : evOps env args some = some vs) (hws : fs ++ vs ++ cs = ws)
    (hc : ∀ W, SatW c.w0 c.D c.J mem W → Calls P f ⟨ws⟩ W fun e W' => e = .returned v ∧ SatW c.w0 c.D c.J mem W')
    (k : RunQ P N c L l Q ((d, v) :: env) mem) : RunQ P N c L (⟨some d, .call ⟨.value x, ⟨args⟩, ats⟩, ty, pos, af, g⟩ :: l) Q env mem :=
  q_run (v := v) hw (fun a hA W hm => by
    subst hws
    have h1 := hA.evals ha
    simp only [Option.some.injEq] at h1
    unfold Oper.quietAt
    rw [p_callv (hA.eval hx), h1]
    exact ⟨rfl, (hc W hm).mono fun _ W' ⟨h2, h3⟩ => ⟨h2, h3⟩⟩) (fun a hA => k.run _ (hA.put hd v))
/-- a call of a closure that writes one block -/
theorem r_callvu [Wide c.F] {f : FuncId} [Ent P f] {d : Nat} {args : List Operand} {ats : Array TypeId} {vs fs cs ws : List Value} {v : Value} {b : Nat} {o o' : Obj} {mem' : List (Nat × Obj)} (hw : wantB L env g = some true) (hd : Nat.blt d N = true)
    (hx : evOp env x = some (.func (.func f) ⟨fs⟩ ⟨cs⟩)) (ha : evOps env args some = some vs) (hws : fs ++ vs ++ cs = ws) (hu : Upd mem b o o' mem')
    (hc : ∀ W, SatW c.w0 c.D c.J mem W → W.heap[b]? = some o → Calls P f ⟨ws⟩ W fun e W' => e = .returned v ∧ Same (fun k => k ≠ b) W W' ∧ W'.heap[b]? = some o') (hin : (b, o) ∈ mem)
    (k : RunL P N c L l Q ((d, v) :: env) mem') : RunL P N c L (⟨some d, .call ⟨.value x, ⟨args⟩, ats⟩, ty, pos, af, g⟩ :: l) Q env mem :=
  l_callv (ι := Unit) (v := fun _ => v) (mem' := fun _ => mem') hw hd hx ha hws (fun W hm => (hc W hm (hm.own _ hin).2).mono fun _ W' ⟨h1, h2, h3⟩ => ⟨(), h1, hm.upd hu h2 h3⟩) fun _ => k
end
end Kin
end Go

set_option linter.unusedSectionVars false
set_option linter.unusedVariables false
set_option linter.unusedSimpArgs false
namespace Go
open Go.RowKit
namespace Kin
section
variable {P : Program} {N : Nat} {c : Cx} {Q : Exit → Act → World → Prop} {env : List (Nat × Value)} {mem : List (Nat × Obj)} {L l : List Oper} {tt : List (TypeId × TI)}
  {ty : TypeId} {pos : String} {af : Array Edge} {g : Option (Nat × Bool)} {dd : Option Tmp}
@[reducible] def pairE (a b : Int) : List Value := [.int .i64 a, .int .i64 b]
theorem part_pair [T : TT P tt] {e bt : Nat} {z : Value} (he : look tt e = some ⟨.int .i64, 1, bt, z⟩) (a b : Int) (W : World) : (part e ⟨pairE a b⟩ (0 * 1)).run P W = .ok (.int .i64 a) W ∧ (part e ⟨pairE a b⟩ (1 * 1)).run P W = .ok (.int .i64 b) W :=
  ⟨run_part (TT.look he).size (TT.look he).1 rfl, run_part (TT.look he).size (TT.look he).1 rfl⟩
theorem run_eqA2 [T : TT P tt] {t e bt sz' bt' d : Nat} {z z' : Value} (ht : look tt t = some ⟨.array 2 e, sz', bt', z'⟩) (he : look tt e = some ⟨.int .i64, 1, bt, z⟩) (a b a' b' : Int) (W : World) :
    (Op.equalIn (d + 2) t (.agg ⟨pairE a b⟩) (.agg ⟨pairE a' b'⟩)).run P W = .ok (decide (a = a') && decide (b = b')) W := by
  have hu : P.underlying t = some (.array 2 e) := (TT.look (P := P) ht).1
  have hue : P.underlying e = some (.int .i64) := (TT.look (P := P) he).1
  obtain ⟨i, hi, hs⟩ := (TT.look (P := P) he).size
  obtain ⟨p1, p2⟩ := part_pair (P := P) he a b W
  obtain ⟨q1, q2⟩ := part_pair (P := P) he a' b' W
  have hsz : (sizeOf e).run P W = .ok 1 W := by rw [run_size hi, hs]
  have eqi : ∀ m n : Int, (Op.equalIn (d + 1) e (.int .i64 m) (.int .i64 n)).run P W = .ok (m == n) W := fun m n => run_equalIn_int W d e .i64 .i64 m n hue
  rw [Op.equalIn]
  simp only [Sem.run_bind, run_und hu, Result.andThen_ok, hsz]
  simp only [Std.Legacy.Range.forIn_eq_forIn_range', Std.Legacy.Range.size, Nat.sub_zero, Nat.add_sub_cancel, Nat.div_one, List.range'_succ, List.range'_zero, List.forIn_cons, List.forIn_nil, Sem.run_bind, p1, q1, p2, q2, eqi, Result.andThen_ok]
  by_cases h1 : a = a'
  · by_cases h2 : b = b'
    · subst h1 h2; simp [Sem.run_bind, Sem.run_pure, p1, p2, eqi]
    · subst h1; simp [Sem.run_bind, Sem.run_pure, p1, p2, q2, eqi, h2]
  · simp [Sem.run_bind, Sem.run_pure, h1]

theorem v_eqA2 [T : TT P tt] {t e t' bt sz' bt' : Nat} {z z' : Value} {x y : Operand} {a b a' b' : Int} (hx : evOp env x = some (.agg ⟨[.int .i64 a, .int .i64 b]⟩)) (hy : evOp env y = some (.agg ⟨[.int .i64 a', .int .i64 b']⟩))
    (ht : look tt t = some ⟨.array 2 e, sz', bt', z'⟩) (he : look tt e = some ⟨.int .i64, 1, bt, z⟩) (hg : P.eqGuardType P.depth t = false) : OpVal P N c env mem ⟨dd, .binOp .eql t x y t', ty, pos, af, g⟩ (.bool (decide (a = a') && decide (b = b'))) :=
  ⟨rfl, fun a0 W ha _ => by
    have h2 := run_eqA2 (P := P) (d := 9998) ht he a b a' b' W
    have h3 : (Op.equal t (.agg ⟨pairE a b⟩) (.agg ⟨pairE a' b'⟩)).run P W = _ := h2
    simp only [execOp, ha.eval hx, ha.eval hy, Sem.run_bind, run_eqGuard_agg W _ t x y _ _ hg, Result.andThen_ok, binOp]
    rw [h3]; rfl⟩
theorem v_neA2 [T : TT P tt] {t e t' bt sz' bt' : Nat} {z z' : Value} {x y : Operand} {a b a' b' : Int} (hx : evOp env x = some (.agg ⟨[.int .i64 a, .int .i64 b]⟩)) (hy : evOp env y = some (.agg ⟨[.int .i64 a', .int .i64 b']⟩))
    (ht : look tt t = some ⟨.array 2 e, sz', bt', z'⟩) (he : look tt e = some ⟨.int .i64, 1, bt, z⟩) (hg : P.eqGuardType P.depth t = false) : OpVal P N c env mem ⟨dd, .binOp .neq t x y t', ty, pos, af, g⟩ (.bool (!(decide (a = a') && decide (b = b')))) :=
  ⟨rfl, fun a0 W ha _ => by
    have h2 := run_eqA2 (P := P) (d := 9998) ht he a b a' b' W
    have h3 : (Op.equal t (.agg ⟨pairE a b⟩) (.agg ⟨pairE a' b'⟩)).run P W = _ := h2
    simp only [execOp, ha.eval hx, ha.eval hy, Sem.run_bind, run_eqGuard_agg W _ t x y _ _ hg, Result.andThen_ok, binOp]
    rw [h3]; rfl⟩

/-! ## A map of pairs, as a word -/
def EntF (F : Int → Int → Int) (e : MapEntry) : Prop := ∃ i k : Int, e.key = .agg ⟨pairE i k⟩ ∧ e.val = .int .i64 (F i k)
/-- the block holds a map from pairs to what a function says of them -/
def MapJ (b : Nat) (F : Int → Int → Int) : (Nat → Prop) → World → Prop := fun S A => b < A.heap.size ∧ ¬ S b ∧ ∃ ents clock, A.heap[b]? = some (.map ⟨ents⟩ clock) ∧ ∀ e ∈ ents, EntF F e
theorem closed_mapJ (b : Nat) (F : Int → Int → Int) : Closed (MapJ b F) := fun S S' A B h hS hs => by
  obtain ⟨h1, h2, ents, clock, h3, h4⟩ := h
  have hb := hS.size
  exact ⟨by omega, fun h => (hs b h).elim h2 (fun h => by omega), ents, clock, hS.obj h3 h2, h4⟩
theorem satW_mapJ {w0 : World} {D : Nat → Prop} {b : Nat} {F : Int → Int → Int} {mem : List (Nat × Obj)} {W W' : World} (h : SatW w0 D (MapJ b F) mem W) (hD : ¬ D b) (hS : Same (fun k => k ≠ b) W W') {ents : List MapEntry} {clock : Nat} (hb : W'.heap[b]? = some (.map ⟨ents⟩ clock)) (he : ∀ e ∈ ents, EntF F e) :
    SatW w0 D (MapJ b F) mem W' := by
  have hk : ∀ p ∈ mem, p.1 ≠ b := fun p hp e => h.word.2.1 (List.mem_map.2 ⟨p, hp, e⟩)
  refine ⟨h.same.trans (hS.mono fun k hk e => hD (e ▸ hk)), h.dom, h.nodup, fun p hp => ⟨(h.own p hp).1, hS.obj (h.own p hp).2 (hk p hp)⟩, h.closed, lt_of_heap hb, h.word.2.1, ents, clock, hb, he⟩
theorem fpair (a b : Int) (F : Int → Int → Int) [T : TT P tt] {t e bt sz' bt' : Nat} {z z' : Value} (ht : look tt t = some ⟨.array 2 e, sz', bt', z'⟩) (he : look tt e = some ⟨.int .i64, 1, bt, z⟩) {ents : List MapEntry} (hf : ∀ en ∈ ents, EntF F en) (W : World) :
    ∃ r, (Instr.findKey t (.agg ⟨pairE a b⟩) ents).run P W = .ok r W ∧ ∀ j v, r = some (j, v) → v = .int .i64 (F a b) := by
  have hu : P.underlying t = some (.array 2 e) := (TT.look (P := P) ht).1
  let f : Value → Bool := fun key => match key with
    | .agg ⟨[.int .i64 a', .int .i64 b']⟩ => decide (a = a') && decide (b = b')
    | _ => false
  have hfk : ∀ en ∈ ents, (Op.equal t (.agg ⟨pairE a b⟩) en.key).run P W = .ok (f en.key) W := fun en hen => by
    obtain ⟨i, k, h1, _⟩ := hf en hen
    rw [h1]
    exact run_eqA2 (P := P) (d := 9998) ht he a b i k W
  refine ⟨_, run_findKey hu rfl ents hfk, ?_⟩
  have key : ∀ (l : List MapEntry) (n : Nat), (∀ en ∈ l, EntF F en) → ∀ j v, findB f l n = some (j, v) → v = .int .i64 (F a b) := by
    intro l
    induction l with
    | nil => intro n _ j v h; cases h
    | cons en l ih =>
      intro n hl j v h
      unfold findB at h
      cases hh : f en.key with
      | false => rw [hh] at h; exact ih (n + 1) (fun e he => hl e (List.mem_cons_of_mem _ he)) j v h
      | true =>
        rw [hh] at h
        simp only [Option.some.injEq, Prod.mk.injEq] at h
        obtain ⟨i, k, h1, h2⟩ := hl en List.mem_cons_self
        rw [h1] at hh
        have hh : (decide (a = i) && decide (b = k)) = true := hh
        simp only [Bool.and_eq_true, decide_eq_true_eq] at hh
        rw [← h.2, h2, hh.1, hh.2]
  exact key ents 0 hf
/-- what is known, or that it is not known yet -/
theorem l_lookupF [T : TT P tt] [Wide c.F] {F : Fence} {n : Nat} {ds : List Deferred} {w0 : World} {D : Nat → Prop} {b : Nat} {G : Int → Int → Int} {t kt et e d sz bt sz1 bt1 sz2 bt2 bt3 : Nat} {m kx : Operand} {i k : Int} {z z1 z2 : Value}
    (hc : c = ⟨F, n, ds, w0, D, MapJ b G⟩) (hw : wantB L env g = some true) (hd : Nat.blt d N = true) (hm0 : evOp env m = some (.map (some b))) (hk : evOp env kx = some (.agg ⟨[.int .i64 i, .int .i64 k]⟩))
    (ht : look tt t = some ⟨.map kt et, sz, bt, z⟩) (hkt : look tt kt = some ⟨.array 2 e, sz1, bt1, z1⟩) (he : look tt e = some ⟨.int .i64, 1, bt2, z2⟩) (het : look tt et = some ⟨.int .i64, sz2, bt3, .int .i64 0⟩)
    (k1 : RunL P N c L l Q ((d, .tuple ⟨[.int .i64 (G i k), .bool true]⟩) :: env) mem) (k2 : RunL P N c L l Q ((d, .tuple ⟨[.int .i64 0, .bool false]⟩) :: env) mem) :
    RunL P N c L (⟨some d, .lookup t m kx true, ty, pos, af, g⟩ :: l) Q env mem := by
  subst hc
  refine l_eff (ι := Bool) (v := fun x => if x then .tuple ⟨[.int .i64 (G i k), .bool true]⟩ else .tuple ⟨[.int .i64 0, .bool false]⟩) (mem' := fun _ => mem) hw hd ⟨rfl, fun a W ha hm => ?_⟩ (fun x => by cases x; exact k2; exact k1)
  obtain ⟨_, _, ents, clock, hb, hf⟩ := hm.word
  have hmu : P.underlying t = some (.map kt et) := (TT.look (P := P) ht).1
  have hku : P.underlying kt = some (.array 2 e) := (TT.look (P := P) hkt).1
  have heu : P.underlying e = some (.int .i64) := (TT.look (P := P) he).1
  obtain ⟨_, i2, hi2, _, _, hz⟩ := TT.look (P := P) het
  have hz2 : (zeroValue et).run P W = .ok (.int .i64 0) W := by
    simp only [zeroValue, Sem.run_bind, run_info hi2, Result.andThen_ok, hz]; rfl
  obtain ⟨p1, p2⟩ := part_pair (P := P) he i k W
  obtain ⟨ie, hie, hse⟩ := (TT.look (P := P) he).size
  have hsz : (sizeOf e).run P W = .ok 1 W := by rw [run_size hie, hse]
  have hck : ∀ em : Bool, (Instr.checkKey em 10000 kt (.agg ⟨pairE i k⟩)).run P W = .ok () W := fun em => by
    have hp : ∀ v : Value, (Instr.checkKey em 9999 e v).run P W = .ok () W := fun v => run_checkPlain (n := 9998) heu rfl
    rw [show (10000 : Nat) = 9999 + 1 from rfl, Instr.checkKey]
    simp only [Sem.run_bind, run_und hku, Result.andThen_ok]
    simp only [Std.Legacy.Range.forIn_eq_forIn_range', Std.Legacy.Range.size, Nat.sub_zero, Nat.add_sub_cancel, Nat.div_one, List.range'_succ, List.range'_zero, List.forIn_cons, List.forIn_nil, Sem.run_bind, hsz, p1, p2, hp, Result.andThen_ok, Sem.run_pure]
  obtain ⟨r, hr, hv⟩ := fpair (P := P) i k G hkt he hf W
  cases r with
  | none =>
    refine ⟨false, W, ?_, hm⟩
    simp only [execOp, ha.eval hm0, ha.eval hk, Instr.lookup, Sem.run_bind, run_und hmu, Result.andThen_ok, MapKept.run_getObj_map hb, hck, hr, hz2, Sem.run_pure]
    rfl
  | some p =>
    obtain ⟨j, v⟩ := p
    have hvv := hv j v rfl
    subst hvv
    refine ⟨true, W, ?_, hm⟩
    simp only [execOp, ha.eval hm0, ha.eval hk, Instr.lookup, Sem.run_bind, run_und hmu, Result.andThen_ok, MapKept.run_getObj_map hb, hck, hr, Sem.run_pure]
    rfl
/-- what has been reckoned is noted -/
theorem l_noteF [T : TT P tt] [Wide c.F] {F : Fence} {n : Nat} {ds : List Deferred} {w0 : World} {D : Nat → Prop} {b : Nat} {G : Int → Int → Int} {t kt et e sz bt sz1 bt1 bt2 : Nat} {m kx vx : Operand} {i k : Int} {z z1 z2 : Value}
    (hc : c = ⟨F, n, ds, w0, D, MapJ b G⟩) (hD : ¬ D b) (hw : wantB L env g = some true) (hm0 : evOp env m = some (.map (some b))) (hk : evOp env kx = some (.agg ⟨[.int .i64 i, .int .i64 k]⟩)) (hv : evOp env vx = some (.int .i64 (G i k)))
    (ht : look tt t = some ⟨.map kt et, sz, bt, z⟩) (hkt : look tt kt = some ⟨.array 2 e, sz1, bt1, z1⟩) (he : look tt e = some ⟨.int .i64, 1, bt2, z2⟩)
    (kk : RunL P N c L l Q env mem) : RunL P N c L (⟨none, .mapUpdate t m kx vx, ty, pos, af, g⟩ :: l) Q env mem := by
  subst hc
  refine l_do (mem' := mem) hw ⟨rfl, fun a W ha hm => ?_⟩ kk
  have hm' := hm
  obtain ⟨_, _, ents, clock, hb, hf⟩ := hm.word
  have hmu : P.underlying t = some (.map kt et) := (TT.look (P := P) ht).1
  have hku : P.underlying kt = some (.array 2 e) := (TT.look (P := P) hkt).1
  have heu : P.underlying e = some (.int .i64) := (TT.look (P := P) he).1
  obtain ⟨p1, p2⟩ := part_pair (P := P) he i k W
  obtain ⟨ie, hie, hse⟩ := (TT.look (P := P) he).size
  have hsz : (sizeOf e).run P W = .ok 1 W := by rw [run_size hie, hse]
  have hck : ∀ em : Bool, (Instr.checkKey em 10000 kt (.agg ⟨pairE i k⟩)).run P W = .ok () W := fun em => by
    have hp : ∀ v : Value, (Instr.checkKey em 9999 e v).run P W = .ok () W := fun v => run_checkPlain (n := 9998) heu rfl
    rw [show (10000 : Nat) = 9999 + 1 from rfl, Instr.checkKey]
    simp only [Sem.run_bind, run_und hku, Result.andThen_ok]
    simp only [Std.Legacy.Range.forIn_eq_forIn_range', Std.Legacy.Range.size, Nat.sub_zero, Nat.add_sub_cancel, Nat.div_one, List.range'_succ, List.range'_zero, List.forIn_cons, List.forIn_nil, Sem.run_bind, hsz, p1, p2, hp, Result.andThen_ok, Sem.run_pure]
  have hlt := lt_of_heap hb
  obtain ⟨f, hfk, hkey⟩ : ∃ f : Value → Bool, (∀ en ∈ ents, (Op.equal kt (.agg ⟨pairE i k⟩) en.key).run P W = .ok (f en.key) W) ∧ ∀ en ∈ ents, f en.key = true → en.key = .agg ⟨pairE i k⟩ := by
    refine ⟨fun key => match key with
      | .agg ⟨[.int .i64 a', .int .i64 b']⟩ => decide (i = a') && decide (k = b')
      | _ => false, fun en hen => ?_, fun en hen h => ?_⟩
    · obtain ⟨i', k', h1, _⟩ := hf en hen
      rw [h1]
      exact run_eqA2 (P := P) (d := 9998) hkt he i k i' k' W
    · obtain ⟨i', k', h1, _⟩ := hf en hen
      rw [h1] at h ⊢
      have h : (decide (i = i') && decide (k = k')) = true := h
      simp only [Bool.and_eq_true, decide_eq_true_eq] at h
      rw [h.1, h.2]
  have hr := run_findKey (P := P) (W := W) hku rfl ents hfk
  cases hfind : findB f ents 0 with
  | none =>
    rw [hfind] at hr
    refine ⟨W.putObj b (.map ⟨ents ++ [⟨.agg ⟨pairE i k⟩, .int .i64 (G i k), clock⟩]⟩ (clock + 1)), ?_, satW_mapJ hm' hD (Same.putObj _ _ _ fun h => h rfl) (ents := ents ++ [⟨.agg ⟨pairE i k⟩, .int .i64 (G i k), clock⟩]) (World.putObj_heap_same hlt) fun en hen => ?_⟩
    · simp only [execOp, ha.eval hm0, ha.eval hk, ha.eval hv, Instr.mapUpdate, Sem.run_bind, run_und hmu, Result.andThen_ok, MapKept.run_getObj_map hb, hck, hr]
      rw [MapKept.run_setObj_map _ hb]
      simp [World.putObj]
    · rcases List.mem_append.1 hen with h | h
      · exact hf en h
      · rw [List.mem_singleton.1 h]; exact ⟨i, k, rfl, rfl⟩
  | some p =>
    obtain ⟨j, v⟩ := p
    rw [hfind] at hr
    obtain ⟨en0, hj, hjk⟩ : ∃ en0, ents[j]? = some en0 ∧ f en0.key = true := by
      have key : ∀ (l : List MapEntry) (n : Nat), findB f l n = some (j, v) → ∃ en0, n ≤ j ∧ l[j - n]? = some en0 ∧ f en0.key = true := by
        intro l
        induction l with
        | nil => intro n h; cases h
        | cons en l ih =>
          intro n h
          unfold findB at h
          cases hh : f en.key with
          | false =>
            rw [hh] at h
            obtain ⟨en0, h1, h2, h3⟩ := ih (n + 1) h
            exact ⟨en0, by omega, by rw [show j - n = j - (n + 1) + 1 by omega]; exact h2, h3⟩
          | true =>
            rw [hh] at h
            simp only [Option.some.injEq, Prod.mk.injEq] at h
            exact ⟨en, by omega, by rw [show j - n = 0 by omega]; rfl, hh⟩
      obtain ⟨en0, _, h2, h3⟩ := key ents 0 hfind
      exact ⟨en0, h2, h3⟩
    have hk0 := hkey en0 (List.mem_of_getElem? hj) hjk
    have hstay : (Instr.keyThatStays (.agg ⟨pairE i k⟩) (.agg ⟨pairE i k⟩)).run P W = .ok (.agg ⟨pairE i k⟩) W := by
      unfold Instr.keyThatStays
      have : Instr.sameBits 10000 (.agg ⟨pairE i k⟩) (.agg ⟨pairE i k⟩) = true := by
        have e1 : ∀ m : Int, Instr.sameBits 9999 (.int .i64 m) (.int .i64 m) = true := fun m => by rw [Instr.sameBits]; simp
        rw [show (10000 : Nat) = 9999 + 1 from rfl, Instr.sameBits]
        simp only [pairE, List.zip_cons_cons, List.all_cons, e1]
        rfl
      rw [if_pos this]; rfl
    have hg : ((((⟨ents⟩ : Array MapEntry)[j]?).map (·.key)).getD (.agg ⟨pairE i k⟩)) = .agg ⟨pairE i k⟩ := by
      have : (⟨ents⟩ : Array MapEntry)[j]? = some en0 := by simpa using hj
      rw [this]; exact hk0
    refine ⟨W.putObj b (.map ⟨ents.modify j fun e => { e with key := .agg ⟨pairE i k⟩, val := .int .i64 (G i k) }⟩ clock), ?_, satW_mapJ hm' hD (Same.putObj _ _ _ fun h => h rfl) (ents := ents.modify j fun e => { e with key := .agg ⟨pairE i k⟩, val := .int .i64 (G i k) }) (World.putObj_heap_same hlt) fun en hen => ?_⟩
    · simp only [execOp, ha.eval hm0, ha.eval hk, ha.eval hv, Instr.mapUpdate, Sem.run_bind, run_und hmu, Result.andThen_ok, MapKept.run_getObj_map hb, hck, hr, hg, hstay]
      rw [MapKept.run_setObj_map _ hb]
      simp [World.putObj]
    · obtain ⟨n', hn'⟩ := List.getElem?_of_mem hen
      rw [List.getElem?_modify] at hn'
      cases hq : ents[n']? with
      | none => rw [hq] at hn'; cases hn'
      | some en1 =>
        rw [hq] at hn'
        have hn' : (if j = n' then ({ en1 with key := .agg ⟨pairE i k⟩, val := .int .i64 (G i k) } : MapEntry) else en1) = en := Option.some.inj hn'
        by_cases hjn : j = n'
        · rw [if_pos hjn] at hn'
          rw [← hn']; exact ⟨i, k, rfl, rfl⟩
        · rw [if_neg hjn] at hn'
          rw [← hn']; exact hf en1 (List.mem_of_getElem? hq)
/-- a new map becomes a word -/
theorem c_mapJ {F : Fence} {n : Nat} {ds : List Deferred} {w0 : World} {D : Nat → Prop} {b : Nat} (G : Int → Int → Int) {x : Code} {mem' : List (Nat × Obj)} (hp : mem.Perm ((b, .map ⟨[]⟩ 0) :: mem'))
    (k : RunC P N ⟨F, n, ds, w0, D, MapJ b G⟩ x Q env mem') : RunC P N ⟨F, n, ds, w0, D, noJ⟩ x Q env mem := .mk fun a W ha hm => by
  have h := hm.perm hp
  have hn := h.nodup
  simp only [List.map_cons, List.nodup_cons] at hn
  have hb := (h.own _ List.mem_cons_self).2
  exact k.run a W ha ⟨h.same, h.dom, hn.2, fun p hp => h.own p (List.mem_cons_of_mem _ hp), closed_mapJ b G, lt_of_heap hb, hn.1, [], 0, hb, fun e he => by cases he⟩
end
end Kin
end Go

set_option linter.unusedSectionVars false
set_option linter.unusedVariables false
set_option linter.unusedSimpArgs false
namespace Go
open Go.RowKit
namespace Kin
section
variable {P : Program} {N : Nat} {c : Cx} {Q : Exit → Act → World → Prop} {env : List (Nat × Value)} {mem mem' : List (Nat × Obj)} {L l : List Oper} {ty : TypeId} {pos : String} {af : Array Edge} {g : Option (Nat × Bool)}
/-- a call that leaves something behind of which a predicate tells: from here on the world that it leaves is the ground -/
theorem l_callF {F : Fence} {n : Nat} {ds : List Deferred} {w0 : World} {D : Nat → Prop} {J : (Nat → Prop) → World → Prop} [Wide F] {f : FuncId} [Ent P f] {d : Nat} {args : List Operand} {ats : Array TypeId} {vs : List Value} {ι : Type} {v : ι → Value} (R : ι → World → World → Prop)
    (hw : wantB L env g = some true) (hd : Nat.blt d N = true) (ha : evOps env args some = some vs) (hM : MSub mem mem')
    (hc : ∀ W, SatW w0 D J mem W → Calls P f ⟨vs⟩ W fun e W' => ∃ i, e = .returned (v i) ∧ Below W.heap.size W W' ∧ R i W W')
    (k : ∀ i W W', SatW w0 D J mem W → Below W.heap.size W W' → SatW w0 D J mem' W' → R i W W' → RunL P N ⟨F, n, ds, W', allBut W' (mem'.map (·.1)), noJ⟩ L l Q ((d, v i) :: env) mem') :
    RunL P N ⟨F, n, ds, w0, D, J⟩ L (⟨some d, .call ⟨.value (.func f), ⟨args⟩, ats⟩, ty, pos, af, g⟩ :: l) Q env mem :=
  l_run hw fun a W hA hm => by
    have h1 := hA.evals ha
    simp only [Option.some.injEq] at h1
    rw [semAt_plain _ rfl, p_call, h1]
    refine ⟨Wide.depth F n, (Wide.calls (F := F) (hc W hm)).mono ?_⟩
    rintro e W' ⟨i, rfl, hb, hR⟩
    have h2 : SatW w0 D J mem' W' := (hm.later hb).mono hM.sub
    exact (k i W W' hm hb h2 hR).run _ _ (hA.put hd _) (satW_fresh h2.nodup fun p hp => (h2.own p hp).2)
end
/-- rows in the world: the block of slices, and the blocks of the rows -/
structure Mat (W : World) (D : Nat → Prop) (bc : Nat) (n m : Nat) (bs : Nat → Nat) (f : Nat → Nat → Int) : Prop where
  top : Ext W D bc 0 (vec n fun j => .slice (some ⟨bs j, 0, none⟩) m m)
  row : ∀ j, j < n → Ext W D (bs j) 0 (ivec m (f j))
/-- a row's slice, read from the block of slices -/
theorem Ext.at {W : World} {D : Nat → Prop} {b o : Nat} {cs : List Value} {i : Nat} {v : Value} (h : Ext W D b o cs) (hi : cs[i]? = some v) : Ext W D b (o + i) [v] :=
  ⟨h.dom, fun j u hj => by
    cases j with
    | zero => simp at hj; subst hj; exact h.cell i v hi
    | succ j => simp at hj⟩
theorem Mat.slice {W : World} {D : Nat → Prop} {bc n m : Nat} {bs : Nat → Nat} {f : Nat → Nat → Int} (h : Mat W D bc n m bs f) {j : Nat} (hj : j < n) : Ext W D bc (0 + j) [.slice (some ⟨bs j, 0, none⟩) m m] := h.top.at (vec_get hj)
theorem Mat.cell {W : World} {D : Nat → Prop} {bc n m : Nat} {bs : Nat → Nat} {f : Nat → Nat → Int} (h : Mat W D bc n m bs f) {j k : Nat} (hj : j < n) (hk : k < m) : Ext W D (bs j) (0 + k) [.int .i64 (f j k)] := (h.row j hj).at (ivec_get hk)
theorem flat_vec {n : Nat} {v : Value} : (flat n fun _ => [v]) = vec n fun _ => v := flat_one
end Kin
end Go

set_option linter.unusedSectionVars false
set_option linter.unusedVariables false
set_option linter.unusedSimpArgs false
namespace Go
open Go.RowKit
namespace Kin
section
variable {P : Program} {N : Nat} {c : Cx} {Q : Exit → Act → World → Prop} {env : List (Nat × Value)} {mem mem' : List (Nat × Obj)} {L l : List Oper} {tt : List (TypeId × TI)} {ty : TypeId} {pos : String} {af : Array Edge} {g : Option (Nat × Bool)} {dd : Option Tmp}
/-- nothing is appended: the slice as it is -/
theorem v_append0 [T : TT P tt] {t e n cap cx sz bt sz' bt' : Nat} {A B : Option Addr} {ke : TK} {z z' : Value} {x y : Operand}
    (hx : evOp env x = some (.slice B n cap)) (hy : evOp env y = some (.slice A 0 cx)) (ht : look tt t = some ⟨.slice e, sz', bt', z'⟩) (hte : look tt e = some ⟨ke, sz, bt, z⟩) (hle : n ≤ cap) :
    OpVal P N c env mem ⟨dd, .call ⟨.builtin .append, ⟨[x, y]⟩, ⟨[t, t]⟩⟩, ty, pos, af, g⟩ (.slice B n cap) := by
  have hu : P.underlying t = some (.slice e) := (TT.look (P := P) ht).1
  obtain ⟨_, inf, hi, hs, hbt, hz⟩ := TT.look (P := P) hte
  refine ⟨rfl, fun a W ha hmm => p_append (ha.eval hx) (ha.eval hy) ?_⟩
  cases A <;> cases B <;> simp [Builtin.append_, Sem.run_bind, run_und hu, run_size hi, Builtin.lenOf, hle, Builtin.firstCells, storeCells, Sem.run_pure, loadCells, loadCellsFrom]
theorem n_make [T : TT P tt] {t e n sz bt sz' bt' : Nat} {ke : TK} {z z' : Value} {x y : Operand} {m : Int} {cs : List Value} {kd : IntKind}
    (ht : look tt t = some ⟨.slice e, sz', bt', z'⟩) (hte : look tt e = some ⟨ke, sz, bt, z⟩) (hx : evOp env x = some (.int kd m)) (hy : evOp env y = some (.int kd m)) (hm : m = (n : Int)) (hn : n * bt ≤ 140737488355328) (hn2 : n ≤ 281474976710656)
    (hs0 : Nat.beq sz 0 = false) (hzl : Nat.beq (cellsL z).length sz = true) (hcs : (flat n fun _ => cellsL z) = cs) :
    OpNew P N c env ⟨dd, .makeSlice t x y, ty, pos, af, g⟩ (fun b => .slice (some ⟨b, 0, none⟩) n n) (.cells ⟨cs⟩ e (0, 0)) := by
  subst hm
  subst hcs
  have hu : P.underlying t = some (.slice e) := (TT.look (P := P) ht).1
  obtain ⟨_, inf, hi, hs, hb, hz⟩ := TT.look (P := P) hte
  simp only at hs hz hb
  have hs0 := Nat.ne_of_beq_eq_false hs0
  have hzl := Nat.eq_of_beq_eq_true hzl
  refine ⟨rfl, fun a W ha => ?_⟩
  have hzsz : z.cells.size = sz := by rw [cellsL_eq]; exact hzl
  have hzero : madeCells z.cells ((n : Int).toNat * inf.size) = ⟨flat n fun _ => cellsL z⟩ := by
    have := zeros_eq z.cells n (by rw [hzsz]; exact hs0)
    rw [hzsz, cellsL_eq] at this
    rw [Int.toNat_natCast, hs, madeCells, cellsL_eq]
    simpa [hzl] using this
  have hbb : (inf.bytes : Int) * (n : Int) ≤ 281474976710656 := by
    have h : ((inf.bytes * n : Nat) : Int) ≤ 281474976710656 := by rw [hb, Nat.mul_comm]; omega
    rwa [Int.natCast_mul] at h
  have hr := run_make (P := P) W t e inf z hu hi hz kd kd n n (by omega) (Int.le_refl _) hbb (by omega)
  rw [hzero, Int.toNat_natCast] at hr
  simp only [execOp, ha.eval hx, ha.eval hy, Sem.run_bind, hr, Result.andThen_ok]; rfl
end
/-- an array on the ground -/
def Ar (W : World) (D : Nat → Prop) (A : Option Addr) (sz : Nat) (rows : List (List Value)) : Prop :=
  ∀ i r, rows[i]? = some r → ∃ b o, A = some ⟨b, o, none⟩ ∧ Ext W D b (o + i * sz) r
theorem Ar.move {W W' : World} {D D' : Nat → Prop} {A : Option Addr} {sz : Nat} {rows : List (List Value)} (h : Ar W D A sz rows) (hS : Same D W W') (hD : ∀ k, D k → D' k) : Ar W' D' A sz rows := fun i r hr => by
  obtain ⟨b, o, e, g⟩ := h i r hr
  exact ⟨b, o, e, g.move hS hD⟩
theorem Ar.nil {W : World} {D : Nat → Prop} {A : Option Addr} {sz : Nat} : Ar W D A sz [] := fun i r h => by simp at h
theorem Ar.at {W W' : World} {D : Nat → Prop} {J : (Nat → Prop) → World → Prop} {mem : List (Nat × Obj)} {A : Option Addr} {sz : Nat} {rows : List (List Value)} (h : Ar W D A sz rows) (hm : SatW W D J mem W') : At W' A sz rows := fun i r hr => by
  obtain ⟨b, o, e, g⟩ := h i r hr
  have g2 := g.move hm.same (fun _ hk => hk)
  exact ⟨b, o, e, fun j v hv => g2.cell j v hv⟩
theorem Ar.get {α : Type} {W : World} {D : Nat → Prop} {A : Option Addr} {sz : Nat} {f : α → List Value} {l : List α} (h : Ar W D A sz (l.map f)) {i : Nat} {x : α} (hx : l[i]? = some x) : ∃ b o, A = some ⟨b, o, none⟩ ∧ Ext W D b (o + i * sz) (f x) :=
  h i (f x) (by rw [List.getElem?_map, hx]; rfl)
/-- memory that came in -/
theorem Ar.of {w W : World} {D : Nat → Prop} {A : Option Addr} {sz : Nat} {rows : List (List Value)} (h : At w A sz rows) (hne : ∀ r ∈ rows, r ≠ []) (hS : Same (base w) w W) (hD : ∀ k, base w k → D k) : Ar W D A sz rows := fun i r hr => by
  obtain ⟨b, o, e, hc⟩ := h i r hr
  cases r with
  | nil => exact absurd rfl (hne [] (List.mem_of_getElem? hr))
  | cons x cs => exact ⟨b, o, e, (ext_of hc).move hS hD⟩
theorem Same.base_later {w W : World} (h : Same (base w) w W) : Below w.heap.size w W := h.below (Nat.le_refl _) fun _ hk => hk
section
variable {P : Program} {N : Nat} {c : Cx} {Q : Exit → Act → World → Prop} {env : List (Nat × Value)} {mem mem' : List (Nat × Obj)}
theorem SatW.allBut {w0 : World} {D : Nat → Prop} {J : (Nat → Prop) → World → Prop} {W : World} (h : SatW w0 D J mem W) (hs : MSub mem mem') : ∀ k, D k → Kin.allBut W (mem'.map (·.1)) k := fun k hk => by
  refine ⟨Nat.lt_of_lt_of_le (h.dom k hk) h.same.size, fun hm => ?_⟩
  obtain ⟨p, hp, e⟩ := List.mem_map.1 hm
  exact (h.own p (hs.sub.mem hp)).1 (e ▸ hk)
/-- the world of now as the ground -/
theorem SatW.fresh0 {w0 : World} {D : Nat → Prop} {J : (Nat → Prop) → World → Prop} {W : World} (h : SatW w0 D J mem W) (hs : MSub mem mem') : SatW W (Kin.allBut W (mem'.map (·.1))) noJ mem' W :=
  satW_fresh (h.mono hs.sub).nodup fun p hp => ((h.mono hs.sub).own p hp).2
theorem l_gen {L l : List Oper} {F : Fence} {n : Nat} {ds : List Deferred} {w0 : World} {D : Nat → Prop} {J : (Nat → Prop) → World → Prop} (h : ∀ D', D' = D → RunL P N ⟨F, n, ds, w0, D', J⟩ L l Q env mem) : RunL P N ⟨F, n, ds, w0, D, J⟩ L l Q env mem := h D rfl
/-! ## Where ways meet, on a new ground -/
structure MidW {ι : Type} (N : Nat) (I : ι → Prop) (dd : ι → List Deferred) (ws : ι → World) (Ds : ι → Nat → Prop) (JJ : ι → (Nat → Prop) → World → Prop) (E : ι → List (Nat × Value)) (M : ι → List (Nat × Obj)) (a : Act) (W : World) : Prop where
  ex : ∃ i, I i ∧ SatA N (dd i) (E i) a ∧ SatW (ws i) (Ds i) (JJ i) (M i) W
theorem c_joinW {x y : Code} {F : Fence} {n : Nat} {ds : List Deferred} {w0 : World} {D : Nat → Prop} {J : (Nat → Prop) → World → Prop} {ι : Type} (I : ι → Prop) (dd : ι → List Deferred) (ws : ι → World) (Ds : ι → Nat → Prop) (JJ : ι → (Nat → Prop) → World → Prop) (E : ι → List (Nat × Value)) (M : ι → List (Nat × Obj))
    (k1 : RunC P N ⟨F, n, ds, w0, D, J⟩ x (Exit.then (MidW N I dd ws Ds JJ E M) Q) env mem) (k2 : ∀ i, I i → RunC P N ⟨F, n, dd i, ws i, Ds i, JJ i⟩ y Q (E i) (M i)) : RunC P N ⟨F, n, ds, w0, D, J⟩ (.seq x y) Q env mem :=
  .mk fun a W ha hm => wpIn_seq (wpIn_mono (k1.run a W ha hm) fun e a' W' h => by
    cases e with
    | normal =>
      obtain ⟨i, h1, h2, h3⟩ := h.ex
      exact (k2 i h1).run a' W' h2 h3
    | _ => exact h)
theorem x_midW {ι : Type} {I : ι → Prop} {dd : ι → List Deferred} {ws : ι → World} {Ds : ι → Nat → Prop} {JJ : ι → (Nat → Prop) → World → Prop} {E : ι → List (Nat × Value)} {M : ι → List (Nat × Obj)} {Q' : Exit → Act → World → Prop}
    (h : ∀ a W, SatA N c.ds env a → SatW c.w0 c.D c.J mem W → ∃ i, I i ∧ SatA N (dd i) (E i) a ∧ SatW (ws i) (Ds i) (JJ i) (M i) W) : RunX N c (Exit.then (MidW N I dd ws Ds JJ E M) Q') .normal env mem := .mk fun a W ha hm => ⟨h a W ha hm⟩
end
end Kin
end Go

set_option linter.unusedSectionVars false
set_option linter.unusedVariables false
set_option linter.unusedSimpArgs false
namespace Go
open Go.RowKit
namespace Kin
section
variable {P : Program} {N : Nat} {c : Cx} {Q : Exit → Act → World → Prop} {env : List (Nat × Value)} {mem mem' : List (Nat × Obj)} {L l : List Oper} {tt : List (TypeId × TI)} {ty : TypeId} {pos : String} {af : Array Edge} {g : Option (Nat × Bool)} {d : Nat} [Wide c.F]
theorem l_perm (hp : mem.Perm mem') (k : RunL P N c L l Q env mem') : RunL P N c L l Q env mem := .mk fun a W ha hm => k.run a W ha (hm.perm hp)
theorem Rem.perm {b : Nat} {o : Obj} (h : Rem mem b o mem') : mem.Perm ((b, o) :: mem') := by
  induction h with
  | head => exact List.Perm.refl _
  | tail h ih => exact (ih.cons _).trans (List.Perm.swap _ _ _)
/-- an array that came in is what is appended, or nothing is -/
def NewsG (c : Cx) (mem : List (Nat × Obj)) (A : Option Addr) (m : Nat) (ys : List Value) : Prop := (m = 0 ∧ ys = []) ∨ ∃ bx ox, A = some ⟨bx, ox, none⟩ ∧ News c mem bx ox ys
theorem r_appendG [T : TT P tt] {t e n cap b m cx sz bt sz' bt' : Nat} {A : Option Addr} {ke : TK} {z z' : Value} {x y : Operand} {xs rest ys : List Value} (hw : wantB L env g = some true) (hd : Nat.blt d N = true)
    (hx : evOp env x = some (.slice (some ⟨b, 0, none⟩) n cap)) (hy : evOp env y = some (.slice A m cx)) (ht : look tt t = some ⟨.slice e, sz', bt', z'⟩) (hte : look tt e = some ⟨ke, sz, bt, z⟩) (hnews : NewsG c mem A m ys)
    (hr : Rem mem b (.cells ⟨xs ++ rest⟩ e (0, 0)) mem') (hg : Grow sz n xs cap rest)
    (hl : ys.length = m * sz) (hone : allOne ys = true) (hzl : Nat.beq (cellsL z).length sz = true) (hb : (n + m) * bt ≤ 140737488355328) (hm : n + m ≤ maxLen)
    (k : ∀ b cap rest, Grow sz (n + m) (xs ++ ys) cap rest → RunL P N c L l Q ((d, .slice (some ⟨b, 0, none⟩) (n + m) cap) :: env) ((b, .cells ⟨xs ++ ys ++ rest⟩ e (0, 0)) :: mem')) :
    RunL P N c L (⟨some d, .call ⟨.builtin .append, ⟨[x, y]⟩, ⟨[t, t]⟩⟩, ty, pos, af, g⟩ :: l) Q env mem := by
  rcases hnews with ⟨rfl, rfl⟩ | ⟨bx, ox, rfl, hn⟩
  · refine l_val hw hd (v_append0 hx hy ht hte hg.le) (l_perm hr.perm ?_)
    have := k b cap rest (by rw [List.append_nil]; exact hg)
    rw [List.append_nil] at this
    exact this
  · exact r_append hw hd hx hy ht hte hn hr hg hl hone hzl hb hm k
end
end Kin
end Go

set_option linter.unusedSectionVars false
set_option linter.unusedVariables false
set_option linter.unusedSimpArgs false
namespace Go
open Go.RowKit
namespace Kin
section
variable {P : Program} {N : Nat} {c : Cx} {Q : Exit → Act → World → Prop} {env : List (Nat × Value)} {mem : List (Nat × Obj)} {L l : List Oper} {ty : TypeId} {pos : String} {af : Array Edge} {g : Option (Nat × Bool)}
/-- a call that hands back memory of its own: a list of blocks -/
theorem r_callL [Wide c.F] {d : Nat} {f : FuncId} [Ent P f] {args : List Operand} {ats : Array TypeId} {vs : List Value} {ι : Type} {v : ι → Value} {ms : ι → List (Nat × Obj)} (hw : wantB L env g = some true) (hd : Nat.blt d N = true) (ha : evOps env args some = some vs)
    (hc : ∀ W, SatW c.w0 c.D c.J mem W → Calls P f ⟨vs⟩ W fun e W' => ∃ i, e = .returned (v i) ∧ Below W.heap.size W W' ∧ ((ms i).map (·.1)).Nodup ∧ ∀ p ∈ ms i, W.heap.size ≤ p.1 ∧ W'.heap[p.1]? = some p.2)
    (k : ∀ i, RunL P N c L l Q ((d, v i) :: env) (ms i ++ mem)) : RunL P N c L (⟨some d, .call ⟨.value (.func f), ⟨args⟩, ats⟩, ty, pos, af, g⟩ :: l) Q env mem :=
  l_call (ι := ι) (v := v) (mem' := fun i => ms i ++ mem) hw hd ha (fun W hm => (hc W hm).mono fun _ W' ⟨i, h1, h2, h3, h4⟩ => ⟨i, h1, by
    have hm2 := hm.later h2
    have hfar : ∀ b, W.heap.size ≤ b → b ∉ mem.map (·.1) ∧ ¬ c.D b := fun b hb => ⟨fun hmm => by
      obtain ⟨p, hp, e⟩ := List.mem_map.1 hmm
      have := hm.lt hp
      omega, fun hdd => by have := hm.dom _ hdd; have := hm.same.size; omega⟩
    refine ⟨hm2.same, hm2.dom, ?_, fun p hp => ?_, hm.closed, hm.closed _ _ _ _ hm.word (Same.of_below_all h2) fun b hb => ?_⟩
    · rw [List.map_append, List.nodup_append]
      refine ⟨h3, hm2.nodup, fun a ha b hb e => ?_⟩
      obtain ⟨p, hp, rfl⟩ := List.mem_map.1 ha
      exact (hfar _ (h4 p hp).1).1 (e ▸ hb)
    · rcases List.mem_append.1 hp with hp | hp
      · exact ⟨(hfar _ (h4 p hp).1).2, (h4 p hp).2⟩
      · exact hm2.own p hp
    · unfold keys at hb
      rw [List.map_append] at hb
      rcases List.mem_append.1 hb with hb | hb
      · obtain ⟨p, hp, rfl⟩ := List.mem_map.1 hb
        exact .inr (h4 p hp).1
      · exact .inl hb⟩) k
/-- a call of a closure that writes one block, of which something is told -/
theorem r_callvuI [Wide c.F] {f : FuncId} [Ent P f] {d : Nat} {x : Operand} {args : List Operand} {ats : Array TypeId} {vs fs cs ws : List Value} {ι : Type} {v : ι → Value} {b : Nat} {o : Obj} {o' : ι → Obj} {mem' : ι → List (Nat × Obj)} (hw : wantB L env g = some true) (hd : Nat.blt d N = true)
    (hx : evOp env x = some (.func (.func f) ⟨fs⟩ ⟨cs⟩)) (ha : evOps env args some = some vs) (hws : fs ++ vs ++ cs = ws) (hin : (b, o) ∈ mem) (hu : ∀ i, Upd mem b o (o' i) (mem' i))
    (hc : ∀ W, SatW c.w0 c.D c.J mem W → W.heap[b]? = some o → Calls P f ⟨ws⟩ W fun e W' => ∃ i, e = .returned (v i) ∧ Same (fun k => k ≠ b) W W' ∧ W'.heap[b]? = some (o' i))
    (k : ∀ i, RunL P N c L l Q ((d, v i) :: env) (mem' i)) : RunL P N c L (⟨some d, .call ⟨.value x, ⟨args⟩, ats⟩, ty, pos, af, g⟩ :: l) Q env mem :=
  l_callv (ι := ι) (v := v) (mem' := mem') hw hd hx ha hws (fun W hm => (hc W hm (hm.own _ hin).2).mono fun _ W' ⟨i, h1, h2, h3⟩ => ⟨i, h1, hm.upd (hu i) h2 h3⟩) k
/-- a block of a map with entries of a kind, as a word -/
def HasJ (b : Nat) (R : MapEntry → Prop) : (Nat → Prop) → World → Prop := fun S A => b < A.heap.size ∧ ¬ S b ∧ ∃ ents clock, A.heap[b]? = some (.map ⟨ents⟩ clock) ∧ ∀ e ∈ ents, R e
theorem closed_hasJ (b : Nat) (R : MapEntry → Prop) : Closed (HasJ b R) := fun S S' A B h hS hs => by
  obtain ⟨h1, h2, ents, clock, h3, h4⟩ := h
  have hb := hS.size
  exact ⟨by omega, fun h => (hs b h).elim h2 (fun h => by omega), ents, clock, hS.obj h3 h2, h4⟩
theorem satW_hasJ {w0 : World} {D : Nat → Prop} {b : Nat} {R : MapEntry → Prop} {W W' : World} (h : SatW w0 D (HasJ b R) mem W) (hD : ¬ D b) (hS : Same (fun k => k ≠ b) W W') {ents : List MapEntry} {clock : Nat} (hb : W'.heap[b]? = some (.map ⟨ents⟩ clock)) (he : ∀ e ∈ ents, R e) :
    SatW w0 D (HasJ b R) mem W' := by
  have hk : ∀ p ∈ mem, p.1 ≠ b := fun p hp e => h.word.2.1 (List.mem_map.2 ⟨p, hp, e⟩)
  exact ⟨h.same.trans (hS.mono fun k hk e => hD (e ▸ hk)), h.dom, h.nodup, fun p hp => ⟨(h.own p hp).1, hS.obj (h.own p hp).2 (hk p hp)⟩, h.closed, lt_of_heap hb, h.word.2.1, ents, clock, hb, he⟩
/-- a map that lies among the blocks becomes a word -/
theorem c_hasJ {F : Fence} {n : Nat} {ds : List Deferred} {w0 : World} {D : Nat → Prop} {b : Nat} {R : MapEntry → Prop} {ents : List MapEntry} {clock : Nat} {x : Code} {mem' : List (Nat × Obj)} (hp : mem.Perm ((b, .map ⟨ents⟩ clock) :: mem')) (he : ∀ e ∈ ents, R e)
    (k : ¬ D b → RunC P N ⟨F, n, ds, w0, D, HasJ b R⟩ x Q env mem') : RunC P N ⟨F, n, ds, w0, D, noJ⟩ x Q env mem := .mk fun a W ha hm => by
  have h := hm.perm hp
  have hn := h.nodup
  simp only [List.map_cons, List.nodup_cons] at hn
  have hb := (h.own _ List.mem_cons_self).2
  exact (k (h.own _ List.mem_cons_self).1).run a W ha ⟨h.same, h.dom, hn.2, fun p hp => h.own p (List.mem_cons_of_mem _ hp), closed_hasJ b R, lt_of_heap hb, hn.1, ents, clock, hb, he⟩
/-- pointers to blocks, or none -/
def ptrV (o : Option Nat) : Value := .pointer (o.map fun b => ⟨b, 0, none⟩)
def pvec (n : Nat) (f : Nat → Option Nat) : List Value := vec n fun i => ptrV (f i)
theorem pvec_length {n : Nat} {f : Nat → Option Nat} : (pvec n f).length = n := vec_length _ _
theorem pvec_get {n : Nat} {f : Nat → Option Nat} {i : Nat} (h : i < n) : (pvec n f)[i]? = some (ptrV (f i)) := vec_get h
theorem pvec_set {n : Nat} {f : Nat → Option Nat} {i b : Nat} : (pvec n f).set i (.pointer (some ⟨b, 0, none⟩)) = pvec n (iset f i (some b)) := by
  unfold pvec
  rw [vec_set]
  congr 1
  funext j
  unfold iset
  by_cases e : j = i
  · rw [if_pos e, if_pos e]; rfl
  · rw [if_neg e, if_neg e]
theorem flat_ptr {n : Nat} : (flat n fun _ => [Value.pointer none]) = pvec n fun _ => none := flat_one
end
end Kin
end Go

set_option linter.unusedSectionVars false
set_option linter.unusedVariables false
set_option linter.unusedSimpArgs false
namespace Go
open Go.RowKit
namespace Kin
section
variable {P : Program} {N : Nat} {c : Cx} {Q : Exit → Act → World → Prop} {env : List (Nat × Value)} {mem : List (Nat × Obj)} {L l : List Oper} {ty : TypeId} {pos : String} {af : Array Edge} {g : Option (Nat × Bool)}
theorem r_callI [Wide c.F] {d : Nat} {f : FuncId} [Ent P f] {args : List Operand} {ats : Array TypeId} {vs : List Value} {ι : Type} {v : ι → Value} (hw : wantB L env g = some true) (hd : Nat.blt d N = true) (ha : evOps env args some = some vs)
    (hc : ∀ W, SatW c.w0 c.D c.J mem W → Calls P f ⟨vs⟩ W fun e W' => ∃ i, e = .returned (v i) ∧ Below W.heap.size W W')
    (k : ∀ i, RunL P N c L l Q ((d, v i) :: env) mem) : RunL P N c L (⟨some d, .call ⟨.value (.func f), ⟨args⟩, ats⟩, ty, pos, af, g⟩ :: l) Q env mem :=
  l_call (ι := ι) (v := v) (mem' := fun _ => mem) hw hd ha (fun W hm => (hc W hm).mono fun _ _ ⟨i, h1, h2⟩ => ⟨i, h1, hm.later h2⟩) k
/-- a quiet call that keeps a word, in a region's head -/
theorem h_callvJ [Wide c.F] {n : Nat} {f : FuncId} [Ent P f] {d : Nat} {x : Operand} {args : List Operand} {ats : Array TypeId} {vs fs cs ws : List Value} {v : Value} (hw : wantB L env g = some true) (hd : Nat.blt d N = true)
    (hx : evOp env x = some (.func (.func f) ⟨fs⟩ ⟨cs⟩)) (ha : evOps env args some = some vs) (hws : fs ++ vs ++ cs = ws)
    (hc : ∀ W, SatW c.w0 c.D c.J mem W → Calls P f ⟨ws⟩ W fun e W' => e = .returned v ∧ SatW c.w0 c.D c.J mem W')
    (k : RunH P N c L n l Q ((d, v) :: env) mem) : RunH P N c L n (⟨some d, .call ⟨.value x, ⟨args⟩, ats⟩, ty, pos, af, g⟩ :: l) Q env mem := .mk fun a hA => by
  show if _ then _ else _
  rw [if_pos (wanted_of (o := ⟨some d, .call ⟨.value x, ⟨args⟩, ats⟩, ty, pos, af, g⟩) hw hA)]
  refine ⟨v, fun W hm => ?_, k.run _ (hA.put hd v)⟩
  subst hws
  have h1 := hA.evals ha
  simp only [Option.some.injEq] at h1
  unfold Oper.quietAt
  rw [p_callv (hA.eval hx), h1]
  exact ⟨rfl, (hc W hm).mono fun _ W' ⟨h2, h3⟩ => ⟨h2, h3⟩⟩
/-- a word is dropped -/
theorem x_noJ {e : Exit} {F : Fence} {n : Nat} {ds : List Deferred} {w0 : World} {D : Nat → Prop} {J : (Nat → Prop) → World → Prop} (k : RunX N ⟨F, n, ds, w0, D, noJ⟩ Q e env mem) : RunX N ⟨F, n, ds, w0, D, J⟩ Q e env mem := .mk fun a W ha hm =>
  k.run a W ha ⟨hm.same, hm.dom, hm.nodup, hm.own, closed_noJ, trivial⟩
/-- blocks are forgotten -/
theorem x_sub {e : Exit} (mem' : List (Nat × Obj)) (h : List.Sublist mem' mem) (k : RunX N c Q e env mem') : RunX N c Q e env mem := .mk fun a W ha hm => k.run a W ha (hm.mono h)
theorem c_sub {x : Code} (mem' : List (Nat × Obj)) (h : List.Sublist mem' mem) (k : RunC P N c x Q env mem') : RunC P N c x Q env mem := .mk fun a W ha hm => k.run a W ha (hm.mono h)
/-- a rule of blocks that lie in another order -/
theorem c_perm {x : Code} {mem' : List (Nat × Obj)} (hp : mem.Perm mem') (k : RunC P N c x Q env mem') : RunC P N c x Q env mem := .mk fun a W ha hm => k.run a W ha (hm.perm hp)
end
end Kin
end Go

set_option linter.unusedSectionVars false
set_option linter.unusedVariables false
set_option linter.unusedSimpArgs false
namespace Go
open Go.RowKit
namespace Kin
section
variable {P : Program} {N : Nat} {c : Cx} {Q : Exit → Act → World → Prop} {env : List (Nat × Value)} {mem : List (Nat × Obj)} {L l : List Oper} {tt : List (TypeId × TI)} [Wide c.F]
  {ty : TypeId} {pos : String} {af : Array Edge} {g : Option (Nat × Bool)} {dd : Option Tmp}
theorem v_neNilS [T : TT P tt] {t t' e n m sz bt : Nat} {z : Value} {ad : Addr} {x : Operand} (ht : look tt t = some ⟨.slice e, sz, bt, z⟩) (hx : evOp env x = some (.slice (some ad) n m)) :
    OpVal P N c env mem ⟨dd, .binOp .neq t x (.const (.slice none 0 0)) t', ty, pos, af, g⟩ (.bool true) := by
  have hu : P.underlying t = some (.slice e) := (TT.look (P := P) ht).1
  refine ⟨rfl, fun a W ha _ => ?_⟩
  have h1 : (eqGuard .neq t x (.const (.slice none 0 0)) (.slice (some ad) n m) (.slice none 0 0)).run P W = .ok () W := by
    unfold eqGuard; simp [Sem.run, pure]
  have h2 : (Op.equal t (.slice (some ad) n m) (.slice none 0 0)).run P W = .ok false W := by
    show (Op.equalIn (9999 + 1) t _ _).run P W = _
    rw [Op.equalIn]
    simp only [Sem.run_bind, run_und hu, Result.andThen_ok]; rfl
  have h3 : a.eval (.const (.slice none 0 0)) = .slice none 0 0 := rfl
  simp only [execOp, ha.eval hx, h3, Sem.run_bind, h1, Result.andThen_ok, binOp, h2]
  rfl
theorem v_neNilS0 [T : TT P tt] {t t' e sz bt : Nat} {z : Value} {x : Operand} (ht : look tt t = some ⟨.slice e, sz, bt, z⟩) (hx : evOp env x = some (.slice none 0 0)) :
    OpVal P N c env mem ⟨dd, .binOp .neq t x (.const (.slice none 0 0)) t', ty, pos, af, g⟩ (.bool false) := by
  have hu : P.underlying t = some (.slice e) := (TT.look (P := P) ht).1
  refine ⟨rfl, fun a W ha _ => ?_⟩
  have h1 : (eqGuard .neq t x (.const (.slice none 0 0)) (.slice none 0 0) (.slice none 0 0)).run P W = .ok () W := by
    unfold eqGuard; simp [Sem.run, pure]
  have h2 : (Op.equal t (.slice none 0 0) (.slice none 0 0)).run P W = .ok true W := by
    show (Op.equalIn (9999 + 1) t _ _).run P W = _
    rw [Op.equalIn]
    simp only [Sem.run_bind, run_und hu, Result.andThen_ok]; rfl
  have h3 : a.eval (.const (.slice none 0 0)) = .slice none 0 0 := rfl
  simp only [execOp, ha.eval hx, h3, Sem.run_bind, h1, Result.andThen_ok, binOp, h2]
  rfl
end
end Kin
end Go

set_option linter.unusedSectionVars false
set_option linter.unusedVariables false
set_option linter.unusedSimpArgs false
namespace Go
open Go.RowKit
namespace Kin
section
variable {P : Program} {N : Nat} {c : Cx} {Q : Exit → Act → World → Prop} {env : List (Nat × Value)} {mem mem' : List (Nat × Obj)} {L l : List Oper} {tt : List (TypeId × TI)} [Wide c.F]
  {ty : TypeId} {pos : String} {af : Array Edge} {g : Option (Nat × Bool)} {dd : Option Tmp} {α : Type}
/-- the end of a slice whose room ends there -/
theorem v_sliceE [T : TT P tt] {t e n cap k0 sz bt sz' bt' : Nat} {A : Option Addr} {x lo : Operand} {ke : TK} {z z' : Value} {k : IntKind} {i : Int} (hx : evOp env x = some (.slice A n cap)) (hl : evOp env lo = some (.int k i)) (ht : look tt t = some ⟨.slice e, sz', bt', z'⟩)
    (hte : look tt e = some ⟨ke, sz, bt, z⟩) (hil : i = k0) (h1 : k0 ≤ n) (h2 : cap = k0) :
    OpVal P N c env mem ⟨dd, .slice t x (some lo) none none, ty, pos, af, g⟩ (.slice A (n - k0) 0) :=
  ⟨rfl, fun a W ha _ => by
    subst hil
    subst h2
    have hu : P.underlying t = some (.slice e) := (TT.look (P := P) ht).1
    obtain ⟨i', hi', hs'⟩ := (TT.look (P := P) hte).size
    simp only [execOp, ha.eval hx, Option.map_some, Option.map_none, ha.eval hl, Instr.sliceAt, Instr.slice, Instr.sliceBounds, Instr.sliceBound, asIntOf, Sem.run_bind, Sem.run_pure, Result.andThen_ok, run_und hu]
    rw [if_pos (⟨by omega, by omega⟩ : 0 ≤ ((cap : Nat) : Int) ∧ ((cap : Nat) : Int) ≤ n)]
    simp only [Sem.run_bind, Sem.run_pure, Result.andThen_ok, run_size hi', hs', Int.toNat_natCast, if_pos, Nat.sub_self]⟩
/-- a list as a slice, nil when it is empty -/
def gSl (l : List α) (b cap : Nat) : Value := match l with
  | [] => .slice none 0 0
  | _ :: _ => .slice (some ⟨b, 0, none⟩) l.length cap
/-- its block -/
def gM (f : α → List Value) (T : TypeId) (l : List α) (b : Nat) (rest : List Value) : List (Nat × Obj) := match l with
  | [] => []
  | _ :: _ => [(b, .cells ⟨(l.map f).flatten ++ rest⟩ T (0, 0))]
def gOK (f : α → List Value) (sz : Nat) (l : List α) (cap : Nat) (rest : List Value) : Prop := l ≠ [] → Grow sz l.length ((l.map f).flatten) cap rest
theorem gSl_len {l : List α} {b cap : Nat} : ∃ A c, gSl l b cap = .slice A l.length c := by
  cases l with
  | nil => exact ⟨none, 0, rfl⟩
  | cons x l => exact ⟨_, cap, rfl⟩
/-- appending to it whatever there is -/
theorem r_appendZ [T : TT P tt] {d t e m cx sz bt sz' bt' b cap : Nat} {A : Option Addr} {ke : TK} {z z' : Value} {x y : Operand} {f : α → List Value} {xs ys : List α} {rest : List Value} {mem0 : List (Nat × Obj)} (hw : wantB L env g = some true) (hd : Nat.blt d N = true)
    (hx : evOp env x = some (gSl xs b cap)) (hy : evOp env y = some (.slice A m cx)) (ht : look tt t = some ⟨.slice e, sz', bt', z'⟩) (hte : look tt e = some ⟨ke, sz, bt, z⟩) (hm0 : m = ys.length) (hnews : NewsG c mem A m ((ys.map f).flatten))
    (hmem : mem.Perm (gM f e xs b rest ++ mem0)) (hg : gOK f sz xs cap rest)
    (hl : ∀ zs : List α, ((zs.map f).flatten).length = zs.length * sz) (hone : allOne ((ys.map f).flatten) = true) (hzl : Nat.beq (cellsL z).length sz = true) (hb : (xs.length + m) * bt ≤ 140737488355328) (hm : xs.length + m ≤ maxLen)
    (k : ∀ b cap rest, gOK f sz (xs ++ ys) cap rest → RunL P N c L l Q ((d, gSl (xs ++ ys) b cap) :: env) (gM f e (xs ++ ys) b rest ++ mem0)) :
    RunL P N c L (⟨some d, .call ⟨.builtin .append, ⟨[x, y]⟩, ⟨[t, t]⟩⟩, ty, pos, af, g⟩ :: l) Q env mem := by
  cases xs with
  | nil =>
    have hp : mem.Perm mem0 := hmem
    cases ys with
    | nil =>
      have hm1 : m = 0 := hm0
      subst hm1
      refine l_val hw hd (v_append0 hx hy ht hte (Nat.le_refl _)) (l_perm hp ?_)
      exact k 0 0 [] (fun h => absurd rfl h)
    | cons y0 ys =>
      rcases hnews with ⟨h, _⟩ | ⟨bx, ox, rfl, hn⟩
      · rw [h] at hm0; cases hm0
      · subst hm0
        refine r_append_nil hw hd hx hy ht hte hn (hl _) hzl (by simp) (by simpa using hb) (by simpa using hm) (fun b' c' r' hg' => ?_)
        refine l_perm (hp.cons _) ?_
        exact k b' c' r' (fun _ => hg')
  | cons x0 xs =>
    have hgr := hg (by simp)
    have hr : mem.Perm ((b, .cells ⟨((x0 :: xs).map f).flatten ++ rest⟩ e (0, 0)) :: mem0) := hmem
    refine l_perm hr ?_
    have hn2 : NewsG c ((b, .cells ⟨((x0 :: xs).map f).flatten ++ rest⟩ e (0, 0)) :: mem0) A m ((ys.map f).flatten) := by
      rcases hnews with h | ⟨bx, ox, h, hn⟩
      · exact .inl h
      · exact .inr ⟨bx, ox, h, ⟨fun W hW => hn.ok W (hW.perm hr.symm)⟩⟩
    refine r_appendG (xs := ((x0 :: xs).map f).flatten) (rest := rest) (ys := (ys.map f).flatten) hw hd hx hy ht hte hn2 Rem.head hgr (by rw [hl, hm0]) hone hzl hb hm (fun b' c' r' hg' => ?_)
    have he : ((x0 :: xs).map f).flatten ++ (ys.map f).flatten = (((x0 :: xs) ++ ys).map f).flatten := by rw [List.map_append, List.flatten_append]
    rw [he] at hg' ⊢
    have hlen : (x0 :: xs).length + m = ((x0 :: xs) ++ ys).length := by rw [List.length_append, hm0]
    rw [hlen] at hg' ⊢
    exact k b' c' r' (fun _ => hg')
end
end Kin
end Go

set_option linter.unusedSectionVars false
set_option linter.unusedVariables false
set_option linter.unusedSimpArgs false
namespace Go
open Go.RowKit
namespace Kin
section
variable {P : Program} {N : Nat} {c : Cx} {Q : Exit → Act → World → Prop} {env : List (Nat × Value)} {mem mem' : List (Nat × Obj)} {L l : List Oper} {tt : List (TypeId × TI)} [Wide c.F]
  {ty : TypeId} {pos : String} {af : Array Edge} {g : Option (Nat × Bool)} {dd : Option Tmp} {α : Type}
/-- the entries of a set of numbers, in the order in which they came -/
def setF : Nat → List Nat → List MapEntry
  | _, [] => []
  | k, x :: l => ⟨.int .i64 x, .bool true, k⟩ :: setF (k + 1) l
theorem setF_snoc (x : Nat) : ∀ (l : List Nat) (k : Nat), setF k (l ++ [x]) = setF k l ++ [⟨.int .i64 x, .bool true, k + l.length⟩]
  | [], k => rfl
  | y :: l, k => by
    rw [List.cons_append, setF, setF_snoc x l (k + 1), setF, List.cons_append, List.length_cons, show k + 1 + l.length = k + (l.length + 1) by omega]
theorem setF_key : ∀ {l : List Nat} {k : Nat} {e : MapEntry}, e ∈ setF k l → ∃ x ∈ l, e.key = .int .i64 x ∧ e.val = .bool true
  | [], _, _, h => by cases h
  | y :: l, k, e, h => by
    rw [setF] at h
    rcases List.mem_cons.1 h with rfl | h
    · exact ⟨y, List.mem_cons_self, rfl, rfl⟩
    · obtain ⟨x, h1, h2⟩ := setF_key h
      exact ⟨x, List.mem_cons_of_mem _ h1, h2⟩
theorem setF_has : ∀ {l : List Nat} {k x : Nat}, x ∈ l → ∃ e ∈ setF k l, e.key = .int .i64 x
  | y :: l, k, x, h => by
    rw [setF]
    rcases List.mem_cons.1 h with rfl | h
    · exact ⟨_, List.mem_cons_self, rfl⟩
    · obtain ⟨e, h1, h2⟩ := setF_has (k := k + 1) h
      exact ⟨e, List.mem_cons_of_mem _ h1, h2⟩
def setO (l : List Nat) : Obj := .map ⟨setF 0 l⟩ l.length
theorem setF_find {l : List Nat} {i : Nat} : (i ∉ l ∧ Instr.findNow (.int .i64) (.int .i64 i) (setF 0 l) 0 = some none) ∨ (i ∈ l ∧ ∃ j, Instr.findNow (.int .i64) (.int .i64 i) (setF 0 l) 0 = some (some (j, .bool true))) := by
  have hk : MapKept.IsKey (.int .i64) (.int .i64 i) := rfl
  have hks : ∀ e ∈ setF 0 l, MapKept.IsKey (.int .i64) e.key := fun e he => by
    obtain ⟨x, _, h, _⟩ := setF_key he
    rw [h]; rfl
  rcases MapKept.findNow_spec hk (setF 0 l) 0 hks with ⟨h1, h2⟩ | ⟨j, e, h1, h2, h3⟩
  · refine .inl ⟨fun hm => ?_, h1⟩
    obtain ⟨e, he, hke⟩ := setF_has (k := 0) hm
    exact h2 e he hke
  · obtain ⟨x, g1, g2, g3⟩ := setF_key (List.mem_of_getElem? h2)
    have hx : x = i := by rw [h3] at g2; injection g2 with _ g2; omega
    subst hx
    exact .inr ⟨g1, 0 + j, by rw [h1, g3]⟩
theorem v_setGet [T : TT P tt] {t kt et b : Nat} {m kx : Operand} {i : Nat} {s : List Nat} {kd : TK} {sz bt sz' bt' sz2 bt2 : Nat} {z z' : Value} {out : Bool}
    (hm0 : evOp env m = some (.map (some b))) (hk : evOp env kx = some (.int .i64 i)) (ht : look tt t = some ⟨.map kt et, sz, bt, z⟩) (hkt : look tt kt = some ⟨.int .i64, sz', bt', z'⟩) (het : look tt et = some ⟨kd, sz2, bt2, .bool false⟩)
    (hin : (b, setO s) ∈ mem) (ho : decide (i ∈ s) = out) :
    OpVal P N c env mem ⟨dd, .lookup t m kx false, ty, pos, af, g⟩ (.bool out) :=
  ⟨rfl, fun a W ha hm => by
    have hb := (hm.own _ hin).2
    have hku : P.underlying kt = some (.int .i64) := (TT.look (P := P) hkt).1
    have hmu : P.underlying t = some (.map kt et) := (TT.look (P := P) ht).1
    obtain ⟨_, i', hi, _, _, hz⟩ := TT.look (P := P) het
    have hz2 : (zeroValue et).run P W = .ok (.bool false) W := by
      simp only [zeroValue, Sem.run_bind, run_info hi, Result.andThen_ok, hz]; rfl
    unfold setO at hb
    subst ho
    rcases setF_find (l := s) (i := i) with ⟨h1, h2⟩ | ⟨h1, j, h2⟩
    · rw [decide_eq_false h1]
      simp only [execOp, ha.eval hm0, ha.eval hk, Instr.lookup, Sem.run_bind, run_und hmu, Result.andThen_ok, MapKept.run_getObj_map hb, Sem.run_pure, MapKept.run_checkKey hku (k := .int .i64 i) rfl, MapKept.run_findKey hku h2, hz2]
      rfl
    · rw [decide_eq_true h1]
      simp only [execOp, ha.eval hm0, ha.eval hk, Instr.lookup, Sem.run_bind, run_und hmu, Result.andThen_ok, MapKept.run_getObj_map hb, Sem.run_pure, MapKept.run_checkKey hku (k := .int .i64 i) rfl, MapKept.run_findKey hku h2]
      rfl⟩
theorem d_setNew [T : TT P tt] {t kt et b : Nat} {m kx vx : Operand} {i : Nat} {s : List Nat} {sz bt sz' bt' : Nat} {z z' : Value} {mem' : List (Nat × Obj)}
    (hm0 : evOp env m = some (.map (some b))) (hk : evOp env kx = some (.int .i64 i)) (hv : evOp env vx = some (.bool true)) (ht : look tt t = some ⟨.map kt et, sz, bt, z⟩) (hkt : look tt kt = some ⟨.int .i64, sz', bt', z'⟩)
    (hnew : i ∉ s) (hu : Upd mem b (setO s) (setO (s ++ [i])) mem') :
    OpDo P N c env mem ⟨none, .mapUpdate t m kx vx, ty, pos, af, g⟩ mem' :=
  ⟨rfl, fun a W ha hm => by
    have hb := (hm.own _ hu.isIn).2
    have hku : P.underlying kt = some (.int .i64) := (TT.look (P := P) hkt).1
    have hmu : P.underlying t = some (.map kt et) := (TT.look (P := P) ht).1
    have h2 : Instr.findNow (.int .i64) (.int .i64 i) (setF 0 s) 0 = some none := by
      rcases setF_find (l := s) (i := i) with ⟨_, h2⟩ | ⟨h1, _⟩
      · exact h2
      · exact absurd h1 hnew
    refine ⟨W.putObj b (setO (s ++ [i])), ?_, hm.upd hu (Same.putObj _ _ _ fun h => h rfl) (World.putObj_heap_same (lt_of_heap hb))⟩
    unfold setO at hb ⊢
    simp only [execOp, ha.eval hm0, ha.eval hk, ha.eval hv, Instr.mapUpdate, Sem.run_bind, run_und hmu, Result.andThen_ok, MapKept.run_getObj_map hb, MapKept.run_checkKey hku (k := .int .i64 i) rfl, MapKept.run_findKey hku h2]
    rw [MapKept.run_setObj_map _ hb]
    simp [World.putObj, setF_snoc, List.length_append]⟩
variable {ι : Type}
/-- ways that meet in one of many states, at a place within a sequence -/
theorem c_meetI {x y : Code} (I : ι → Prop) (E : ι → List (Nat × Value)) (M : ι → List (Nat × Obj)) (k1 : RunC P N c x (Exit.then (MidI N c I E M) Q) env mem) (k2 : ∀ i, I i → RunC P N c y Q (E i) (M i)) : RunC P N c x (Exit.then (y.wpIn c.F c.n P Q) Q) env mem :=
  .mk fun a W ha hm => wpIn_mono (k1.run a W ha hm) fun e a' W' h => by
    cases e with
    | normal =>
      obtain ⟨i, h1, h2, h3⟩ := h.ex
      exact (k2 i h1).run a' W' h2 h3
    | _ => exact h
end
end Kin
end Go

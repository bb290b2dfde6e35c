/- The engine's rule for regions that draw their order and make memory: whatever the order, the outcome is that of the text's own. Generic: no program is named here. -/
import Derived.Test.YtajnkdgbpffinaaGreatEng11
set_option linter.unusedSectionVars false
set_option linter.unusedVariables false
set_option linter.unusedSimpArgs false
namespace Go
open Go.RowKit
namespace Kin

/-! ## Blocks in places -/
abbrev OM := List (Option (Nat × Obj))
def flatO (m : OM) : List (Nat × Obj) := m.filterMap id
def keepO (f : Nat -> Bool) : Nat -> OM -> List (Nat × Obj)
 | _, [] => []
 | k, none :: m => keepO f (k + 1) m
 | k, some x :: m => bif f k then keepO f (k + 1) m else x :: keepO f (k + 1) m

theorem keepO_sub (f : Nat -> Bool) (k : Nat) (m : OM) : List.Sublist (keepO f k m) (flatO m) := by
 induction m generalizing k with
 | nil => exact List.nil_sublist _
 | cons x m ih =>
  cases x with
  | none => exact ih (k + 1)
  | some x =>
   simp only [keepO]
   show List.Sublist _ (x :: flatO m)
   cases f k with
   | true => exact (ih (k + 1)).cons _
   | false => exact (ih (k + 1)).cons_cons _
theorem keepO_set {f : Nat -> Bool} {k p : Nat} {m : OM} {x : Option (Nat × Obj)} (h : f (k + p) = true) : keepO f k (m.set p x) = keepO f k m := by
 induction m generalizing k p with
 | nil => rfl
 | cons y m ih =>
  cases p with
  | zero =>
   rw [Nat.add_zero] at h
   cases x <;> cases y <;> simp [keepO, h]
  | succ p =>
   have h2 := ih (k := k + 1) (p := p) (by rw [<- h]; congr 1; omega)
   cases y <;> simp [keepO, h2]

theorem perm_set {m : OM} {p : Nat} {x : Nat × Obj} (h : m[p]? = some none) : (x :: flatO m).Perm (flatO (m.set p (some x))) := by
 induction m generalizing p with
 | nil => simp at h
 | cons y m ih =>
  cases p with
  | zero =>
   simp only [List.getElem?_cons_zero, Option.some.injEq] at h
   subst h
   exact List.Perm.refl _
  | succ p =>
   have h2 := ih (p := p) (by simpa using h)
   cases y with
   | none => exact h2
   | some y => exact (List.Perm.swap _ _ _).trans (h2.cons y)
theorem sub_set {m : OM} {p : Nat} : List.Sublist (flatO (m.set p none)) (flatO m) := by
 induction m generalizing p with
 | nil => exact List.Sublist.refl _
 | cons y m ih =>
  cases p with
  | zero => cases y with
    | none => exact List.Sublist.refl _
    | some y => exact (List.Sublist.refl _).cons _
  | succ p => cases y with
    | none => exact ih
    | some y => exact ih.cons_cons _
theorem upd_setO {m : OM} {p b : Nat} {o o' : Obj} {tl : List (Nat × Obj)} (h : m[p]? = some (some (b, o))) : Upd (flatO m ++ tl) b o o' (flatO (m.set p (some (b, o'))) ++ tl) := by
 induction m generalizing p with
 | nil => simp at h
 | cons y m ih =>
  cases p with
  | zero =>
   simp only [List.getElem?_cons_zero, Option.some.injEq] at h
   subst h
   exact Upd.head
  | succ p =>
   have h2 := ih (p := p) (by simpa using h)
   cases y with
   | none => exact h2
   | some y => exact h2.tail

def setAll (m : OM) (δ : List (Nat × Option (Nat × Obj))) : OM := δ.foldl (fun m c => m.set c.1 c.2) m
theorem setAll_get {δ : List (Nat × Option (Nat × Obj))} {m : OM} {p : Nat} (h : ∀ c ∈ δ, c.1 ≠ p) : (setAll m δ)[p]? = m[p]? := by
 induction δ generalizing m with
 | nil => rfl
 | cons c δ ih =>
  show (setAll (m.set c.1 c.2) δ)[p]? = _
  rw [ih fun e he => h e (List.mem_cons_of_mem _ he), List.getElem?_set_ne (h c List.mem_cons_self)]
theorem keepO_setAll {f : Nat -> Bool} {δ : List (Nat × Option (Nat × Obj))} {m : OM} (h : ∀ c ∈ δ, f c.1 = true) : keepO f 0 (setAll m δ) = keepO f 0 m := by
 induction δ generalizing m with
 | nil => rfl
 | cons c δ ih =>
  show keepO f 0 (setAll (m.set c.1 c.2) δ) = _
  rw [ih fun e he => h e (List.mem_cons_of_mem _ he), keepO_set (by rw [Nat.zero_add]; exact h c List.mem_cons_self)]
theorem set_setAll {δ : List (Nat × Option (Nat × Obj))} {m : OM} {p : Nat} {x : Option (Nat × Obj)} (h : ∀ c ∈ δ, c.1 ≠ p) : setAll (m.set p x) δ = (setAll m δ).set p x := by
 induction δ generalizing m with
 | nil => rfl
 | cons c δ ih =>
  show setAll ((m.set p x).set c.1 c.2) δ = (setAll (m.set c.1 c.2) δ).set p x
  rw [List.set_comm _ _ (Ne.symm (h c List.mem_cons_self)), ih fun e he => h e (List.mem_cons_of_mem _ he)]
theorem setAll_comm {δ ε : List (Nat × Option (Nat × Obj))} {m : OM} (h : ∀ c ∈ δ, ∀ e ∈ ε, c.1 ≠ e.1) : setAll (setAll m δ) ε = setAll (setAll m ε) δ := by
 induction δ generalizing m with
 | nil => rfl
 | cons c δ ih =>
  show setAll (setAll (m.set c.1 c.2) δ) ε = setAll ((setAll m ε).set c.1 c.2) δ
  rw [ih fun d hd => h d (List.mem_cons_of_mem _ hd), set_setAll fun e he => (h c List.mem_cons_self e he).symm]

theorem perm_setL : ∀ {ps : List Nat} {xs : List (Nat × Obj)} {m : OM}, (∀ p ∈ ps, m[p]? = some none) -> ps.Nodup -> xs.length <= ps.length -> (xs ++ flatO m).Perm (flatO (setAll m (List.zipWith (fun p x => (p, some x)) ps xs)))
 | [], [], m, _, _, _ => List.Perm.refl _
 | [], x :: xs, m, _, _, h => by simp at h
 | p :: ps, [], m, _, _, _ => List.Perm.refl _
 | p :: ps, x :: xs, m, h1, h2, h3 => by
  rw [List.nodup_cons] at h2
  have h4 := perm_setL (ps := ps) (xs := xs) (m := m.set p (some x)) (fun q hq => by rw [List.getElem?_set_ne (fun e => h2.1 (by rw [e]; exact hq))]; exact h1 q (List.mem_cons_of_mem _ hq)) h2.2 (by simpa using h3)
  refine List.Perm.trans ?_ h4
  have h5 := perm_set (x := x) (h1 p List.mem_cons_self)
  exact (List.perm_middle.symm).trans (h5.append_left xs)

/-! ## What operations do to places -/
/-- what an operation is handed by chance: the new block, and what lies behind the elements -/
structure Pi where
 b : Nat
 rest : List Value
 ns : List Nat := []
 rs : List (List Value) := []
inductive Kd where
 | sto (p f len : Nat)
 | upd (p : Nat)
 | new (p : Nat)
 | app (p : Nat) (q : Option Nat) (sz : Nat)
 | cal (v : Value)
 | calA (p sz n : Nat) (xs : List Value) (e : TypeId)
 | calO (p : Nat) (V : Nat -> Value) (o : Obj)
 | calL (ps : List Nat) (V : Array Value -> Pi -> Value) (O : Array Value -> Pi -> List (Nat × Obj))
 | calW (p : Nat) (V : Array Value -> Pi -> Value) (O : Array Value -> Pi -> Obj)
def Kd.at : Kd -> List Nat
 | .sto p _ _ => [p]
 | .upd p => [p]
 | .new p => [p]
 | .app p q _ => p :: q.toList
 | .cal _ => []
 | .calA p _ _ _ _ => [p]
 | .calO p _ _ => [p]
 | .calL ps _ _ => ps
 | .calW p _ _ => [p]
abbrev Kt := List (Nat × Kd)
abbrev Sh := List (Nat × List Nat)
def kdOf (kt : Kt) (i : Nat) : Option Kd := (kt.find? (fun s => s.1 == i)).map (·.2)
theorem kdOf_mem {kt : Kt} {i : Nat} {k : Kd} (h : kdOf kt i = some k) : (i, k) ∈ kt := by
 unfold kdOf at h
 cases hf : kt.find? (fun s => s.1 == i) with
 | none => rw [hf] at h; cases h
 | some s =>
  rw [hf] at h
  simp only [Option.map_some, Option.some.injEq] at h
  have h1 := List.mem_of_find?_eq_some hf
  have h2 := List.find?_some hf
  simp only [beq_iff_eq] at h2
  subst h; subst h2
  exact h1
def shOf (kt : Kt) : Sh := kt.map fun s => (s.1, s.2.at)
def wrS (an : List Nat) (sh : Sh) (i p : Nat) : Bool := sh.any fun s => s.2.contains p && s.1 != i && !waitsB an s.1 i && !waitsB an i s.1
def apartS (an : List Nat) (sh : Sh) : Bool := sh.all fun s => sh.all fun t => s.1 == t.1 || waitsB an s.1 t.1 || waitsB an t.1 s.1 || s.2.all fun p => !t.2.contains p
theorem apartS_spec {an : List Nat} {kt : Kt} (h : apartS an (shOf kt) = true) {i j : Nat} {k l : Kd} (hk : kdOf kt i = some k) (hl : kdOf kt j = some l) (hij : i ≠ j) (h1 : waitsB an i j = false) (h2 : waitsB an j i = false) : ∀ p ∈ k.at, p ∉ l.at := by
 have m1 : (i, k.at) ∈ shOf kt := List.mem_map.2 ⟨_, kdOf_mem hk, rfl⟩
 have m2 : (j, l.at) ∈ shOf kt := List.mem_map.2 ⟨_, kdOf_mem hl, rfl⟩
 have h3 := List.all_eq_true.1 (List.all_eq_true.1 h _ m1) _ m2
 simp only [h1, h2, Bool.or_false, Bool.or_eq_true, beq_iff_eq, hij, false_or] at h3
 intro p hp hq
 have h4 := List.all_eq_true.1 h3 p hp
 simp [hq] at h4
theorem wrS_of {an : List Nat} {kt : Kt} {i j : Nat} {k : Kd} (hk : kdOf kt j = some k) (hij : j ≠ i) (h1 : waitsB an i j = false) (h2 : waitsB an j i = false) : ∀ p ∈ k.at, wrS an (shOf kt) i p = true := fun p hp => by
 refine List.any_eq_true.2 ⟨(j, k.at), List.mem_map.2 ⟨_, kdOf_mem hk, rfl⟩, ?_⟩
 simp [hp, hij, h1, h2]

/-- what is taken of a rest, so that it fits -/
def capF (sz n : Nat) (r : List Value) : Nat := n + min (r.length / sz) (maxLen - n)
def restF (sz n : Nat) (r : List Value) : List Value := r.take (min (r.length / sz) (maxLen - n) * sz)
theorem growF {sz n cap : Nat} {xs rest : List Value} (h : Grow sz n xs cap rest) (h0 : 0 < sz) : capF sz n rest = cap /\ restF sz n rest = rest := by
 have h1 := h.all
 rw [List.length_append, h.len] at h1
 have h2 : rest.length = (cap - n) * sz := by rw [Nat.sub_mul]; omega
 have h3 : rest.length / sz = cap - n := by rw [h2]; exact Nat.mul_div_cancel _ h0
 have h4 := h.max
 have h5 := h.le
 have h6 : min (cap - n) (maxLen - n) = cap - n := by omega
 unfold capF restF
 rw [h3, h6]
 refine ⟨by omega, ?_⟩
 rw [<- h2]; exact List.take_length
theorem growF_mk {sz n : Nat} {xs : List Value} (hx : xs.length = n * sz) (hn : n <= maxLen) (r : List Value) : Grow sz n xs (capF sz n r) (restF sz n r) := by
 have h1 : min (r.length / sz) (maxLen - n) * sz <= r.length := Nat.le_trans (Nat.mul_le_mul_right _ (Nat.min_le_left _ _)) (Nat.div_mul_le_self _ _)
 have h2 : ∀ k : Nat, n <= n + min k (maxLen - n) /\ n + min k (maxLen - n) <= maxLen := fun k => by omega
 refine ⟨hx, ?_, (h2 _).1, (h2 _).2⟩
 unfold capF restF
 rw [List.length_append, List.length_take, hx, Nat.add_mul, Nat.min_eq_left h1]

section
variable {P : Program} {ops : Array Oper} {C : List (Nat × Obj) -> World -> Prop} {kt : Kt} {wr : Nat -> Nat -> Bool} {β : Nat -> Pi} {Lq : Act -> OM -> Prop}

/-- what an operation that updates a block says -/
inductive UpdV : Next -> Value -> Prop
 | skip : UpdV .skip undef
 | val (v : Value) : UpdV (.value v) v
theorem UpdV.det {x : Next} {v v' : Value} (h : UpdV x v) (h' : UpdV x v') : v = v' := by
 cases h <;> cases h' <;> rfl
theorem UpdV.upon {x : Next} {v : Value} (h : UpdV x v) {o : Oper} {F : Fence} {n : Nat} {P : Program} {a : Act} {next : Act -> World -> Prop} {Q : Exit -> Act -> World -> Prop} {w : World} : o.uponIn F n P a next Q (.ok x w) = next (a.put o.dst v) w := by
 cases h <;> rfl
inductive EffO (P : Program) (ops : Array Oper) (C : List (Nat × Obj) -> World -> Prop) (kt : Kt) (wr : Nat -> Nat -> Bool) (β : Nat -> Pi) (o : Oper) (i : Nat) (a : Act) (m : OM) : Value -> List (Nat × Option (Nat × Obj)) -> Prop
 | val {v : Value} (hk : kdOf kt i = none) (hw : Region.wanted o (yielded ops a.tmps) = true) (hp : plainOp o.op = true) (h : ∀ W, C (keepO (wr i) 0 m) W -> (execOp a.eval o).run P W = .ok (.value v) W) : EffO P ops C kt wr β o i a m v []
 | skip (hw : Region.wanted o (yielded ops a.tmps) = false) : EffO P ops C kt wr β o i a m undef []
 | cal {f : FuncId} {vs : Array Value} {v : Value} (hk : kdOf kt i = some (.cal v)) (hw : Region.wanted o (yielded ops a.tmps) = true) (hp : plainOp o.op = true)
   (h : ∀ W, C (keepO (wr i) 0 m) W -> (execOp a.eval o).run P W = .ok (.enter f vs) W /\ Calls P f vs W (fun e W' => e = .returned v /\ Under W.heap.size W W')) : EffO P ops C kt wr β o i a m v []
 | calA {p sz n : Nat} {xs : List Value} {e : TypeId} {f : FuncId} {vs : Array Value} (hk : kdOf kt i = some (.calA p sz n xs e)) (hw : Region.wanted o (yielded ops a.tmps) = true) (hp : plainOp o.op = true) (h2 : m[p]? = some none) (h0 : 0 < sz) (hx : xs.length = n * sz) (hn : n <= maxLen)
   (h : ∀ W, C (keepO (wr i) 0 m) W -> (execOp a.eval o).run P W = .ok (.enter f vs) W /\ Calls P f vs W (fun e' W' => ∃ b cap rest, e' = .returned (.slice (some ⟨b, 0, none⟩) n cap) /\ Grow sz n xs cap rest /\ Under W.heap.size W W' /\ W.heap.size <= b /\ W'.heap[b]? = some (.cells ⟨xs ++ rest⟩ e (0, 0)))) :
   EffO P ops C kt wr β o i a m (.slice (some ⟨(β i).b, 0, none⟩) n (capF sz n (β i).rest)) [(p, some ((β i).b, .cells ⟨xs ++ restF sz n (β i).rest⟩ e (0, 0)))]
 | calO {p : Nat} {V : Nat -> Value} {ob : Obj} {f : FuncId} {vs : Array Value} (hk : kdOf kt i = some (.calO p V ob)) (hw : Region.wanted o (yielded ops a.tmps) = true) (hp : plainOp o.op = true) (h2 : m[p]? = some none)
   (h : ∀ W, C (keepO (wr i) 0 m) W -> (execOp a.eval o).run P W = .ok (.enter f vs) W /\ Calls P f vs W (fun e' W' => ∃ b, e' = .returned (V b) /\ Under W.heap.size W W' /\ W.heap.size <= b /\ W'.heap[b]? = some ob)) :
   EffO P ops C kt wr β o i a m (V (β i).b) [(p, some ((β i).b, ob))]
 | calL {ps : List Nat} {V : Array Value -> Pi -> Value} {O : Array Value -> Pi -> List (Nat × Obj)} {f : FuncId} {vs : Array Value} (hk : kdOf kt i = some (.calL ps V O)) (hw : Region.wanted o (yielded ops a.tmps) = true) (hp : plainOp o.op = true) (h2 : ∀ p ∈ ps, m[p]? = some none) (hn : ps.Nodup) (hl : ∀ π, (O vs π).length <= ps.length)
   (h : ∀ W, C (keepO (wr i) 0 m) W -> (execOp a.eval o).run P W = .ok (.enter f vs) W /\ Calls P f vs W (fun e' W' => ∃ π, e' = .returned (V vs π) /\ ∀ l, C l W -> C (O vs π ++ l) W')) :
   EffO P ops C kt wr β o i a m (V vs (β i)) (List.zipWith (fun p x => (p, some x)) ps (O vs (β i)))
 | calW {p b : Nat} {ob : Obj} {V : Array Value -> Pi -> Value} {O : Array Value -> Pi -> Obj} {f : FuncId} {vs : Array Value} (hk : kdOf kt i = some (.calW p V O)) (hw : Region.wanted o (yielded ops a.tmps) = true) (hp : plainOp o.op = true) (h2 : m[p]? = some (some (b, ob)))
   (h : ∀ W, C (keepO (wr i) 0 m) W -> W.heap[b]? = some ob -> (execOp a.eval o).run P W = .ok (.enter f vs) W /\ Calls P f vs W (fun e' W' => ∃ π, e' = .returned (V vs π) /\ ∀ l, C ((b, ob) :: l) W -> C ((b, O vs π) :: l) W')) :
   EffO P ops C kt wr β o i a m (V vs (β i)) [(p, some (b, O vs (β i)))]
 | sto {p f b : Nat} {cs vs : List Value} {T : TypeId} (hk : kdOf kt i = some (.sto p f vs.length)) (hw : Region.wanted o (yielded ops a.tmps) = true) (hp : plainOp o.op = true) (h2 : m[p]? = some (some (b, .cells ⟨cs⟩ T (0, 0)))) (h3 : f + vs.length <= cs.length)
   (h : ∀ W : World, W.heap[b]? = some (.cells ⟨cs⟩ T (0, 0)) -> (execOp a.eval o).run P W = .ok .skip (W.setRow b (splice cs f vs).toArray)) :
   EffO P ops C kt wr β o i a m undef [(p, some (b, .cells ⟨splice cs f vs⟩ T (0, 0)))]
 | upd {p b : Nat} {ob ob' : Obj} {v : Value} {x : Next} (hk : kdOf kt i = some (.upd p)) (hw : Region.wanted o (yielded ops a.tmps) = true) (hp : plainOp o.op = true) (h2 : m[p]? = some (some (b, ob))) (hv : UpdV x v)
   (h : ∀ W : World, W.heap[b]? = some ob -> (execOp a.eval o).run P W = .ok x (W.putObj b ob')) :
   EffO P ops C kt wr β o i a m v [(p, some (b, ob'))]
 | new {p : Nat} {V : Nat -> Value} {ob : Obj} (hk : kdOf kt i = some (.new p)) (hw : Region.wanted o (yielded ops a.tmps) = true) (hp : plainOp o.op = true) (h2 : m[p]? = some none)
   (h : ∀ W, C (keepO (wr i) 0 m) W -> (execOp a.eval o).run P W = .ok (.value (V W.heap.size)) (W.alloc ob)) : EffO P ops C kt wr β o i a m (V (β i).b) [(p, some ((β i).b, ob))]
 | app {p sz n : Nat} {q : Option Nat} {xs : List Value} {e : TypeId} (hk : kdOf kt i = some (.app p q sz)) (hw : Region.wanted o (yielded ops a.tmps) = true) (hp : plainOp o.op = true) (h2 : m[p]? = some none) (h0 : 0 < sz) (hx : xs.length = n * sz) (hn : n <= maxLen) (hq : ∀ q', q = some q' -> q' ≠ p)
   (h : ∀ W, C (keepO (wr i) 0 m) W -> ∃ b cap rest W', (execOp a.eval o).run P W = .ok (.value (.slice (some ⟨b, 0, none⟩) n cap)) W' /\ Grow sz n xs cap rest /\ W'.heap[b]? = some (.cells ⟨xs ++ rest⟩ e (0, 0)) /\
    ((∃ q' o', q = some q' /\ m[q']? = some (some (b, o')) /\ Same (fun k => k ≠ b) W W') ∨ (b = W.heap.size /\ W' = W.drew.alloc (.cells ⟨xs ++ rest⟩ e (0, 0))))) :
   EffO P ops C kt wr β o i a m (.slice (some ⟨(β i).b, 0, none⟩) n (capF sz n (β i).rest)) (q.toList.map (fun q' => (q', none)) ++ [(p, some ((β i).b, .cells ⟨xs ++ restF sz n (β i).rest⟩ e (0, 0)))])

theorem EffO.of_same {o : Oper} {i : Nat} {a a' : Act} {m : OM} {v : Value} {δ : List (Nat × Option (Nat × Obj))} (h : EffO P ops C kt wr β o i a m v δ) (he : execOp a'.eval o = execOp a.eval o) (hw : Region.wanted o (yielded ops a'.tmps) = Region.wanted o (yielded ops a.tmps)) : EffO P ops C kt wr β o i a' m v δ := by
 cases h with
 | val h0 h1 h2 h3 => exact .val h0 (hw.trans h1) h2 (by rw [he]; exact h3)
 | sto h0 h1 h2 h3 h4 h5 => exact .sto h0 (hw.trans h1) h2 h3 h4 (by rw [he]; exact h5)
 | upd h0 h1 h2 h3 hv h4 => exact .upd h0 (hw.trans h1) h2 h3 hv (by rw [he]; exact h4)
 | skip h1 => exact .skip (hw.trans h1)
 | cal h0 h1 h2 h3 => exact .cal h0 (hw.trans h1) h2 (by rw [he]; exact h3)
 | calA h0 h1 h2 h3 h4 h5 h6 h7 => exact .calA h0 (hw.trans h1) h2 h3 h4 h5 h6 (by rw [he]; exact h7)
 | calO h0 h1 h2 h3 h4 => exact .calO h0 (hw.trans h1) h2 h3 (by rw [he]; exact h4)
 | calL h0 h1 h2 h3 h4 h5 h6 => exact .calL h0 (hw.trans h1) h2 h3 h4 h5 (by rw [he]; exact h6)
 | calW h0 h1 h2 h3 h4 => exact .calW h0 (hw.trans h1) h2 h3 (by rw [he]; exact h4)
 | new h0 h1 h2 h3 h4 => exact .new h0 (hw.trans h1) h2 h3 (by rw [he]; exact h4)
 | app h0 h1 h2 h3 h4 h5 h6 h7 h8 => exact .app h0 (hw.trans h1) h2 h3 h4 h5 h6 h7 (by rw [he]; exact h8)

theorem EffO.at {o : Oper} {i : Nat} {a : Act} {m : OM} {v : Value} {δ : List (Nat × Option (Nat × Obj))} (h : EffO P ops C kt wr β o i a m v δ) : ∀ c ∈ δ, ∃ k, kdOf kt i = some k /\ c.1 ∈ k.at := by
 intro c hc
 cases h with
 | val => cases hc
 | skip => cases hc
 | cal => cases hc
 | sto h0 =>
  simp only [List.mem_singleton] at hc
  subst hc
  exact ⟨_, h0, by simp [Kd.at]⟩
 | new h0 =>
  simp only [List.mem_singleton] at hc
  subst hc
  exact ⟨_, h0, by simp [Kd.at]⟩
 | upd h0 =>
  simp only [List.mem_singleton] at hc
  subst hc
  exact ⟨_, h0, by simp [Kd.at]⟩
 | calA h0 =>
  simp only [List.mem_singleton] at hc
  subst hc
  exact ⟨_, h0, by simp [Kd.at]⟩
 | calO h0 =>
  simp only [List.mem_singleton] at hc
  subst hc
  exact ⟨_, h0, by simp [Kd.at]⟩
 | calW h0 =>
  simp only [List.mem_singleton] at hc
  subst hc
  exact ⟨_, h0, by simp [Kd.at]⟩
 | calL h0 =>
  refine ⟨_, h0, ?_⟩
  rw [<- List.map_uncurry_zip_eq_zipWith] at hc
  obtain ⟨⟨p, x⟩, h1, rfl⟩ := List.mem_map.1 hc
  exact (List.of_mem_zip h1).1
 | app h0 =>
  refine ⟨_, h0, ?_⟩
  simp only [List.mem_append, List.mem_map, List.mem_singleton] at hc
  rcases hc with ⟨q', hq, rfl⟩ | rfl
  ·simp [Kd.at, hq]
  ·simp [Kd.at]

theorem EffO.stable {o : Oper} {i : Nat} {a : Act} {m m2 : OM} {v : Value} {δ : List (Nat × Option (Nat × Obj))} (h : EffO P ops C kt wr β o i a m v δ) (hk : keepO (wr i) 0 m2 = keepO (wr i) 0 m) (hat : ∀ k, kdOf kt i = some k -> ∀ p ∈ k.at, m2[p]? = m[p]?) : EffO P ops C kt wr β o i a m2 v δ := by
 cases h with
 | val h0 h1 h2 h3 => exact .val h0 h1 h2 (by rw [hk]; exact h3)
 | skip h1 => exact .skip h1
 | cal h0 h1 h2 h3 => exact .cal h0 h1 h2 (by rw [hk]; exact h3)
 | calA h0 h1 h2 h3 h4 h5 h6 h7 => exact .calA h0 h1 h2 ((hat _ h0 _ (by simp [Kd.at])).trans h3) h4 h5 h6 (by rw [hk]; exact h7)
 | calO h0 h1 h2 h3 h4 => exact .calO h0 h1 h2 ((hat _ h0 _ (by simp [Kd.at])).trans h3) (by rw [hk]; exact h4)
 | calW h0 h1 h2 h3 h4 => exact .calW h0 h1 h2 ((hat _ h0 _ (by simp [Kd.at])).trans h3) (by rw [hk]; exact h4)
 | calL h0 h1 h2 h3 h4 h5 h6 => exact .calL h0 h1 h2 (fun p hp => (hat _ h0 p hp).trans (h3 p hp)) h4 h5 (by rw [hk]; exact h6)
 | sto h0 h1 h2 h3 h4 h5 => exact .sto h0 h1 h2 ((hat _ h0 _ (by simp [Kd.at])).trans h3) h4 h5
 | upd h0 h1 h2 h3 hv h4 => exact .upd h0 h1 h2 ((hat _ h0 _ (by simp [Kd.at])).trans h3) hv h4
 | new h0 h1 h2 h3 h4 => exact .new h0 h1 h2 ((hat _ h0 _ (by simp [Kd.at])).trans h3) (by rw [hk]; exact h4)
 | app h0 h1 h2 h3 h4 h5 h6 h7 h8 =>
  refine .app h0 h1 h2 ((hat _ h0 _ (by simp [Kd.at])).trans h3) h4 h5 h6 h7 (fun W hW => ?_)
  rw [hk] at hW
  obtain ⟨b, cap, rest, W', g1, g2, g3, g4⟩ := h8 W hW
  refine ⟨b, cap, rest, W', g1, g2, g3, g4.imp (fun ⟨q', o', e1, e2, e3⟩ => ⟨q', o', e1, ?_, e3⟩) id⟩
  rw [hat _ h0 q' (by simp [Kd.at, e1])]; exact e2

/-- Two that do not wait for each other. -/
theorem EffO.swap {oi oj : Oper} {i j : Nat} {a : Act} {m : OM} {v u : Value} {δ ε : List (Nat × Option (Nat × Obj))} (hap : oi.apart ops oj = true) (hsi : ∀ cs b, oi.op ≠ .select cs b) (hsj : ∀ cs b, oj.op ≠ .select cs b)
  (s1 : ∀ k, kdOf kt j = some k -> ∀ p ∈ k.at, wr i p = true) (s2 : ∀ k, kdOf kt i = some k -> ∀ p ∈ k.at, wr j p = true) (s3 : ∀ k l, kdOf kt i = some k -> kdOf kt j = some l -> ∀ p ∈ k.at, p ∉ l.at)
  (hi : EffO P ops C kt wr β oi i a m v δ) (hj : EffO P ops C kt wr β oj j (a.put oi.dst v) (setAll m δ) u ε) :
  EffO P ops C kt wr β oj j a m u ε /\ EffO P ops C kt wr β oi i (a.put oj.dst u) (setAll m ε) v δ /\ setAll (setAll m ε) δ = setAll (setAll m δ) ε := by
 obtain ⟨h1, h2, h3⟩ := Oper.apart_spec hap
 have ha := hi.at
 have hb := hj.at
 have hne : ∀ c ∈ δ, ∀ e ∈ ε, c.1 ≠ e.1 := fun c hc e he h => by
  obtain ⟨k, k1, k2⟩ := ha c hc
  obtain ⟨l, l1, l2⟩ := hb e he
  exact s3 k l k1 l1 _ k2 (h ▸ l2)
 have hk := hj.of_same (execOp_put oj hsj a oi.dst v h1).symm (wanted_put oj a oi.dst v h1).symm
 refine ⟨hk.stable (m2 := m) ?_ ?_, ?_, setAll_comm fun c hc e he => (hne e he c hc).symm⟩
 ·exact (keepO_setAll fun c hc => by obtain ⟨k, k1, k2⟩ := ha c hc; exact s2 k k1 _ k2).symm
 ·intro l hl p hp
  exact (setAll_get fun c hc h => by obtain ⟨k, k1, k2⟩ := ha c hc; exact s3 k l k1 hl _ k2 (h ▸ hp)).symm
 ·refine (hi.of_same (execOp_put oi hsi a oj.dst u h3) (wanted_put oi a oj.dst u h3)).stable ?_ ?_
  ·exact keepO_setAll fun c hc => by obtain ⟨k, k1, k2⟩ := hb c hc; exact s1 k k1 _ k2
  ·intro k hk p hp
   exact setAll_get fun c hc h => by obtain ⟨l, l1, l2⟩ := hb c hc; exact s3 k l hk l1 _ hp (h ▸ l2)

/-- whatever order -/
def gAnyO (P : Program) (ops : Array Oper) (C : List (Nat × Obj) -> World -> Prop) (kt : Kt) (wr : Nat -> Nat -> Bool) (β : Nat -> Pi) (Lq : Act -> OM -> Prop) : Nat -> Array Bool -> Act -> OM -> Prop
 | 0, listed, a, m => Region.ready .any ops listed = [] /\ Lq a m
 | f + 1, listed, a, m => Region.ready .any ops listed ≠ [] /\ ∀ i ∈ Region.ready .any ops listed, ∀ o, ops[i]? = some o -> ∃ v δ, EffO P ops C kt wr β o i a m v δ /\ gAnyO P ops C kt wr β Lq f (listed.setIfInBounds i true) (a.put o.dst v) (setAll m δ)
/-- in the order of the text -/
def gSeqO (P : Program) (ops : Array Oper) (C : List (Nat × Obj) -> World -> Prop) (kt : Kt) (wr : Nat -> Nat -> Bool) (β : Nat -> Pi) (Lq : Act -> OM -> Prop) : List Oper -> Nat -> Act -> OM -> Prop
 | [], _, a, m => Lq a m
 | o :: l, k, a, m => ∃ v δ, EffO P ops C kt wr β o k a m v δ /\ gSeqO P ops C kt wr β Lq l (k + 1) (a.put o.dst v) (setAll m δ)

theorem gAnyO_first {i : Nat} {oi : Oper} (hi : ops[i]? = some oi) (hsel : ∀ (j : Nat) (o : Oper) cs b, ops[j]? = some o -> o.op ≠ .select cs b) (s3 : apartS (ancs .any ops) (shOf kt) = true) :
  ∀ (f : Nat) (listed : Array Bool) (a : Act) (m : OM) (v : Value) (δ : List (Nat × Option (Nat × Obj))), ClosedL .any ops listed ->
   (∀ j oj, ops[j]? = some oj -> j ≠ i -> listed.getD j true = false -> (∀ e ∈ oj.after, Region.binds .any e = true -> e.on ≠ i) -> oi.apart ops oj = true) ->
   i ∈ Region.ready .any ops listed -> EffO P ops C kt (wrS (ancs .any ops) (shOf kt)) β oi i a m v δ ->
   gAnyO P ops C kt (wrS (ancs .any ops) (shOf kt)) β Lq f (listed.setIfInBounds i true) (a.put oi.dst v) (setAll m δ) -> gAnyO P ops C kt (wrS (ancs .any ops) (shOf kt)) β Lq (f + 1) listed a m := by
 intro f
 induction f with
 | zero =>
  intro listed a m v δ _ _ hr hy H
  refine ⟨fun h => (by rw [h] at hr; cases hr), fun j hj o ho => ?_⟩
  by_cases hji : j = i
  ·subst hji
   rw [hi] at ho; cases ho
   exact ⟨v, δ, hy, H⟩
  ·have := ready_mono hj hji
   rw [H.1] at this
   cases this
 | succ f ih =>
  intro listed a m v δ hcl hfree hr hy H
  refine ⟨fun h => (by rw [h] at hr; cases hr), fun j hj oj hoj => ?_⟩
  by_cases hji : j = i
  ·subst hji
   rw [hi] at hoj; cases hoj
   exact ⟨v, δ, hy, H⟩
  ·obtain ⟨u, ε, h1, h2⟩ := H.2 j (ready_mono hj hji) oj hoj
   obtain ⟨hjun, oj', hoj', hall⟩ := mem_ready.1 hj
   rw [hoj] at hoj'; cases hoj'
   have hnot : ∀ e ∈ oj.after, Region.binds .any e = true -> e.on ≠ i := fun e he hb heq => by
    have h1 := hall e he hb
    have h0 := (mem_ready.1 hr).1
    rw [heq] at h1
    rcases Nat.lt_or_ge i listed.size with h' | h'
    ·simp [h'] at h0 h1; rw [h0] at h1; cases h1
    ·simp [Array.getElem?_eq_none h'] at h1
   have hap := hfree j oj hoj hji hjun hnot
   have f1 := ready_free hcl hr hj
   have f2 := ready_free hcl hj hr
   obtain ⟨g1, g2, g3⟩ := EffO.swap hap (fun cs b => hsel i oi cs b hi) (fun cs b => hsel j oj cs b hoj)
    (fun k hk => wrS_of hk hji f2 f1) (fun k hk => wrS_of hk (Ne.symm hji) f1 f2) (fun k l hk hl => apartS_spec s3 hk hl (Ne.symm hji) f2 f1) hy h1
   have hfree' : ∀ k ok, ops[k]? = some ok -> k ≠ i -> (listed.setIfInBounds j true).getD k true = false ->
     (∀ e ∈ ok.after, Region.binds .any e = true -> e.on ≠ i) -> oi.apart ops ok = true := fun k ok hk hki hun hno => by
    refine hfree k ok hk hki ?_ hno
    by_cases hjk : j = k
    ·subst hjk; exact hjun
    ·rw [getD_set_ne true hjk] at hun; exact hun
   refine ⟨u, ε, g1, ih (listed.setIfInBounds j true) _ _ v δ (hcl.set hj) hfree' (ready_mono hr (Ne.symm hji)) g2 ?_⟩
   rw [Array.setIfInBounds_comm _ _ hji, <- Act.put_comm a v u (Oper.apart_spec hap).2.1, g3]
   exact h2

theorem gAnyO_lex (hs : Region.noSelect ops = true) (s3 : apartS (ancs .any ops) (shOf kt) = true) : ∀ (l : List Oper) (k : Nat) (listed : Array Bool) (a : Act) (m : OM), ClosedL .any ops listed -> (∀ j, l[j]? = ops[k + j]?) ->
  Region.lexFrom .any ops l.length k listed = true -> gSeqO P ops C kt (wrS (ancs .any ops) (shOf kt)) β Lq l k a m -> gAnyO P ops C kt (wrS (ancs .any ops) (shOf kt)) β Lq l.length listed a m
 | [], _, _, _, _, _, _, hB, h => ⟨by simpa [Region.lexFrom] using hB, h⟩
 | o :: l, k, listed, a, m, hcl, hl, hB, h => by
  have h0 : ops[k]? = some o := by simpa using (hl 0).symm
  simp only [List.length_cons, Region.lexFrom, Bool.and_eq_true] at hB
  obtain ⟨⟨hr, hf⟩, hB'⟩ := hB
  obtain ⟨v, δ, h1, h2⟩ := h
  have hr' : k ∈ Region.ready .any ops listed := by simpa using hr
  exact gAnyO_first h0 (Region.noSelect_spec hs) s3 l.length listed a m v δ hcl (Region.free_spec h0 hf) hr' h1
   (gAnyO_lex hs s3 l (k + 1) _ _ _ (hcl.set hr') (fun j => by have := hl (j + 1); simpa [Nat.add_assoc, Nat.add_comm 1 j] using this) hB' h2)
end
end Kin
end Go

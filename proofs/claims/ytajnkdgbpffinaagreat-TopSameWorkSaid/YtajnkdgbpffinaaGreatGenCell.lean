/- A law for a range over a function whose iterator yields a known list, at the level of Code.wp; its conditions are the iterator's contract, the round's walk and what lies behind it. Generic: no program is named here. -/
import Derived.RangeFuncNested
import Derived.RangeFuncLeaves
import Derived.Shelf.Abstract
import Derived.WalkKit
import Derived.OwnWalkIn
import Derived.Deep.Draws
set_option linter.unusedSectionVars false
set_option linter.unusedVariables false
set_option linter.unusedSimpArgs false
namespace Go
open Go.RowKit
namespace Kin

/-- the library's `Under`, and no draw is taken back -/
structure Under (B : Nat) (w w' : World) : Prop where
 old : Go.RowKit.Below B w w'
 drawn : w.drawn <= w'.drawn
section
variable {B B' : Nat} {a b c w w' : World}
theorem Under.os (h : Under B w w') : w'.os = w.os := h.old.os
theorem Under.tape (h : Under B w w') : w'.tape = w.tape := h.old.tape
theorem Under.output (h : Under B w w') : w'.output = w.output := h.old.output
theorem Under.size (h : Under B w w') : w.heap.size <= w'.heap.size := h.old.size
theorem Under.block (h : Under B w w') : ∀ k, k < B -> w'.heap[k]? = w.heap[k]? := h.old.block
theorem Under.refl (B : Nat) (w : World) : Under B w w := ⟨Go.RowKit.Below.refl B w, Nat.le_refl _⟩
theorem Under.trans (h : Under B a b) (k : Under B b c) : Under B a c := ⟨h.old.trans k.old, Nat.le_trans h.drawn k.drawn⟩
theorem Under.mono (h : Under B w w') (hB : B' <= B) : Under B' w w' := ⟨h.old.mono hB, h.drawn⟩
theorem Under.drew (h : Under B a w) : Under B a w.drew := ⟨h.old.drew, Nat.le_succ_of_le h.drawn⟩
theorem Under.alloc (h : Under B a w) (hB : B <= w.heap.size) (o : Obj) : Under B a (w.alloc o) := ⟨h.old.alloc hB o, h.drawn⟩
theorem Under.setCell (h : Under B a w) {p : Addr} (hp : B <= p.block) (u : Value) : Under B a (w.setCell p u) := ⟨h.old.setCell hp u, h.drawn⟩
theorem Under.cell (h : Under B w w') {p : Addr} (hp : p.block < B) : w'.cell? p = w.cell? p := h.old.cell hp
end
/-- The blocks of D lie as they lay; the heap has not shrunk; the world outside is the same. -/
structure Same (D : Nat -> Prop) (W W' : World) : Prop where
 os : W'.os = W.os
 tape : W'.tape = W.tape
 output : W'.output = W.output
 drawn : W.drawn <= W'.drawn
 size : W.heap.size <= W'.heap.size
 block : ∀ k, k < W.heap.size -> D k -> W'.heap[k]? = W.heap[k]?

theorem Same.refl (D : Nat -> Prop) (W : World) : Same D W W := ⟨rfl, rfl, rfl, Nat.le_refl _, Nat.le_refl _, fun _ _ _ => rfl⟩
theorem Same.trans {D : Nat -> Prop} {A B C : World} (h : Same D A B) (k : Same D B C) : Same D A C :=
 ⟨k.os.trans h.os, k.tape.trans h.tape, k.output.trans h.output, Nat.le_trans h.drawn k.drawn, Nat.le_trans h.size k.size,
  fun i hi hd => (k.block i (Nat.lt_of_lt_of_le hi h.size) hd).trans (h.block i hi hd)⟩
theorem Same.mono {D D' : Nat -> Prop} {A B : World} (h : Same D A B) (hd : ∀ k, D' k -> D k) : Same D' A B :=
 ⟨h.os, h.tape, h.output, h.drawn, h.size, fun i hi h' => h.block i hi (hd i h')⟩
/-- as `mono`, but only blocks that lay in A count -/
theorem Same.monoLt {D D' : Nat -> Prop} {A B : World} (h : Same D A B) (hd : ∀ k, k < A.heap.size -> D' k -> D k) : Same D' A B :=
 ⟨h.os, h.tape, h.output, h.drawn, h.size, fun i hi h' => h.block i hi (hd i hi h')⟩
theorem Same.alloc (D : Nat -> Prop) (W : World) (o : Obj) : Same D W (W.alloc o) :=
 ⟨rfl, rfl, rfl, Nat.le_refl _, by simp, fun i hi _ => Below.heap_alloc W o i hi⟩
theorem Same.drew (D : Nat -> Prop) (W : World) : Same D W W.drew := ⟨rfl, rfl, rfl, Nat.le_succ _, Nat.le_refl _, fun _ _ _ => rfl⟩
theorem Same.setCell {D : Nat -> Prop} (W : World) (a : Addr) (v : Value) (h : ¬ D a.block) : Same D W (W.setCell a v) :=
 ⟨rfl, rfl, rfl, Nat.le_refl _, by show W.heap.size <= (W.heap.modify _ _).size; rw [Array.size_modify]; exact Nat.le_refl _,
  fun i _ hd => Below.heap_setCell W a v i (fun e => h (e ▸ hd))⟩
theorem Same.putObj {D : Nat -> Prop} (W : World) (r : Nat) (o : Obj) (h : ¬ D r) : Same D W (W.putObj r o) :=
 ⟨rfl, rfl, rfl, Nat.le_refl _, by simp, fun i _ hd => World.putObj_heap_other (fun e => h (e ▸ hd))⟩
theorem Same.below {D : Nat -> Prop} {B : Nat} {W W' : World} (h : Same D W W') (hB : B <= W.heap.size) (hd : ∀ k, k < B -> D k) : Under B W W' :=
 ⟨⟨h.os, h.tape, h.output, h.size, fun k hk => h.block k (Nat.lt_of_lt_of_le hk hB) (hd k hk)⟩, h.drawn⟩
/-- `Under` at the heap's own size keeps all. -/
theorem Same.of_below_all {D : Nat -> Prop} {W W' : World} (h : Under W.heap.size W W') : Same D W W' :=
 ⟨h.os, h.tape, h.output, h.drawn, h.size, fun k hk _ => h.block k hk⟩
theorem lt_of_heap {W : World} {k : Nat} {o : Obj} (h : W.heap[k]? = some o) : k < W.heap.size := (Array.getElem?_eq_some_iff.1 h).1
theorem Same.obj {D : Nat -> Prop} {W W' : World} (h : Same D W W') {k : Nat} {o : Obj} (hk : W.heap[k]? = some o) (hd : D k) : W'.heap[k]? = some o :=
 (h.block k (lt_of_heap hk) hd).trans hk
theorem lt_of_cell {W : World} {a : Addr} {v : Value} (h : W.cell? a = some v) : a.block < W.heap.size := by
 unfold World.cell? at h
 cases ho : W.heap[a.block]? with
 | none => rw [ho] at h; cases h
 | some o => exact lt_of_heap ho
theorem Same.cell {D : Nat -> Prop} {W W' : World} (h : Same D W W') {a : Addr} {v : Value} (hc : W.cell? a = some v) (hd : D a.block) : W'.cell? a = some v := by
 have := h.block a.block (lt_of_cell hc) hd
 unfold World.cell? at hc ⊢; rw [this]; exact hc
/-- A box: one cell, not frozen, in a block of its own. -/
def Box (W : World) (b : Nat) (t : TypeId) (v : Value) : Prop := W.heap[b]? = some (.cells #[v] t (0, 0))
theorem Box.keep {D : Nat -> Prop} {W W' : World} {b : Nat} {t : TypeId} {v : Value} (h : Box W b t v) (hs : Same D W W') (hd : D b) : Box W' b t v := hs.obj h hd
theorem Box.cell {W : World} {b : Nat} {t : TypeId} {v : Value} (h : Box W b t v) : W.cell? ⟨b, 0, none⟩ = some v := by
 unfold World.cell?; rw [show W.heap[b]? = _ from h]; rfl
theorem Box.frozen {W : World} {b : Nat} {t : TypeId} {v : Value} (h : Box W b t v) : W.frozen? ⟨b, 0, none⟩ = false := by
 unfold World.frozen?; rw [show W.heap[b]? = _ from h]; rfl
theorem Box.lt {W : World} {b : Nat} {t : TypeId} {v : Value} (h : Box W b t v) : b < W.heap.size := lt_of_heap h
theorem Box.new (W : World) (t : TypeId) (v : Value) : Box (W.alloc (.cells #[v] t (0, 0))) W.heap.size t v := World.alloc_heap_new W _
theorem Box.set {W : World} {b : Nat} {t : TypeId} {v : Value} (h : Box W b t v) (u : Value) : Box (W.setCell ⟨b, 0, none⟩ u) b t u := by
 unfold Box World.setCell
 show (W.heap.modify b _)[b]? = _
 have hl := h.lt
 rw [Array.getElem?_eq_getElem (by rw [Array.size_modify]; exact hl), Array.getElem_modify_self]
 have : W.heap[b] = .cells #[v] t (0, 0) := by
  have h' : W.heap[b]? = some (.cells #[v] t (0, 0)) := h
  rw [Array.getElem?_eq_getElem hl] at h'; exact Option.some.inj h'
 rw [this]; rfl
theorem Box.other {W : World} {b b' : Nat} {t : TypeId} {v : Value} (h : Box W b t v) (hne : b ≠ b') (o : Nat) (u : Value) : Box (W.setCell ⟨b', o, none⟩ u) b t v :=
 (Below.heap_setCell W ⟨b', o, none⟩ u b hne).trans h
theorem Box.alloc {W : World} {b : Nat} {t : TypeId} {v : Value} (h : Box W b t v) (o : Obj) : Box (W.alloc o) b t v := (Below.heap_alloc W o b h.lt).trans h

theorem Under.allocC {B : Nat} {w0 w : World} {o : Obj} (h : Under B w0 w) (hb : B <= w.heap.size) : Under B w0 (w.alloc o) := h.alloc hb o
theorem Under.drewNC {B : Nat} {w0 w : World} {n : Nat} (h : Under B w0 w) : Under B w0 (w.drewN n) :=
 ⟨⟨h.os, h.tape, h.output, h.size, h.block⟩, Nat.le_trans h.drawn (Nat.le_add_right _ _)⟩

/-- W is w1 with new blocks: all that lay lies as it lay. -/
def Later (w1 W : World) : Prop := Under w1.heap.size w1 W
theorem Later.drew1 (w : World) : Later w { w with drawn := w.drawn + 1 } := (Under.refl w.heap.size w).drew
theorem Later.step {a b c : World} (h : Later a b) (k : Under b.heap.size b c) : Later a c := Under.trans h (Under.mono k h.size)
theorem Later.cell {a b : World} (h : Later a b) {p : Addr} {v : Value} (hc : a.cell? p = some v) : b.cell? p = some v := (Under.cell h (lt_of_cell hc)).trans hc
theorem Later.below {a b w0 : World} {B : Nat} (h : Later a b) (k : Under B w0 a) (hB : B <= a.heap.size) : Under B w0 b := k.trans (Under.mono h hB)
/-- **An iterator's contract**: called at the yield of whatever loop `l`, in the world `W`: it hands the rounds the elements of `xs`, one by one, and returns; or a round says 'no more', and it returns. `T`: the iterator's own blocks, which it may write; `R`: the blocks that it reads or writes between rounds, which the rounds must keep. `N`: how deep. -/
def Iter {α : Type} (P : Program) (gf : Nat) (lb : Array Value) (encs : α -> Array Value) (xs : List α) (T R : Nat -> Prop) (W : World) : Prop :=
 ∀ (n l : Nat) (J Jx : Nat -> World -> Prop),
  (∀ k A B, J k A -> Same (fun b => ¬ T b) A B -> J k B) ->
  (∀ k A B, Jx k A -> Same (fun b => ¬ T b) A B -> Jx k B) ->
  (∀ k (hk : k < xs.length) A, J k A -> YieldAt Fence.wide n P l (encs xs[k]) A fun e B =>
   (e = .returned (.bool true) /\ J (k + 1) B /\ Same R A B) ∨ (e = .returned (.bool false) /\ Jx k B)) ->
  J 0 W ->
  Calls P gf (#[.func (.yield l) #[] #[]] ++ lb) W fun e W' => (∃ v, e = .returned v) /\ (J xs.length W' ∨ ∃ k, k < xs.length /\ Jx k W')

/-- How the body of a round may be left. `D`: the two blocks of the loop's own. -/
def roundEnd (D R : Nat -> Prop) (I : Nat -> World -> Prop) (Ix : Code -> Nat -> World -> Prop) (k : Nat) (W : World) : Exit -> Act -> World -> Prop
 | .normal, _, W' => Same (fun b => D b ∨ R b) W W' /\ I (k + 1) W'
 | .ret, _, W' => Same D W W' /\ Ix .ret k W'
 | .exit id, _, W' => Same D W W' /\ Ix (.exit id) k W'
 | .goto t, _, W' => Same D W W' /\ Ix (.goto t) k W'
 | .panic _, _, _ => False
 | .outgrown, _, _ => False

/-- **The law**, outermost loop. -/
theorem wp_rangeList {α : Type} {P : Program} {g : Operand} {ps : Array Tmp} {assign body : Code} {Q : Exit -> Act -> World -> Prop} {a : Act} {w : World}
  {gf : Nat} {lb : Array Value} (hg : a.eval g = .func (.func gf) #[] lb) (eg : ∀ args w, (callFunc gf args).run P w = .ok (.enter gf args) w)
  {encs : α -> Array Value} {xs : List α} {T R : Nat -> Prop}
  (hit : ∀ W, Same (fun _ => True) w W -> Iter P gf lb encs xs T R W)
  (hT : ∀ b, T b -> b < w.heap.size) (hR : ∀ b, R b -> b < w.heap.size) (hps : ∀ x ∈ xs, (encs x).size = ps.size)
  (I : Nat -> World -> Prop) (Ix : Code -> Nat -> World -> Prop)
  (hI : ∀ k A B, I k A -> Same (fun b => ¬ T b /\ b ≠ w.heap.size + 1) A B -> I k B)
  (hIx : ∀ c k A B, Ix c k A -> Same (fun b => ¬ T b /\ b ≠ w.heap.size + 1) A B -> Ix c k B)
  (h0 : ∀ W, Same (fun _ => True) w W -> I 0 W)
  (Ax : Nat -> World -> Act -> World -> Prop)
  (hassign : ∀ (n k : Nat) (hk : k < xs.length) (W : World) (K : Act -> World -> Prop), I k W -> w.heap.size + 1 < W.heap.size ->
   (∀ a' W', Same (fun b => (b = w.heap.size ∨ b = w.heap.size + 1) ∨ R b) W W' -> Ax k W a' W' -> K a' W') ->
   assign.wpIn (Fence.wide.inRound (w.heap.size + 1)) n P (Exit.then K (fun _ _ _ => False)) { tmps := (ps.zip (encs xs[k])).foldl (fun t (p, v) => t.setIfInBounds p v) a.tmps, defers := [] } W)
  (hbody : ∀ (n k : Nat) (_ : k < xs.length) (W : World) (a' : Act) (W' W'' : World), I k W -> Ax k W a' W' -> Same (fun b => b ≠ w.heap.size + 1) W' W'' -> (∃ r, W''.heap[w.heap.size + 1]? = some (.loop r)) ->
   body.wpIn (Fence.wide.inRound (w.heap.size + 1)) n P (roundEnd (fun b => b = w.heap.size ∨ b = w.heap.size + 1) R I Ix k W'') a' W'')
  (hdone : ∀ (W : World), I xs.length W -> W.heap[w.heap.size]? = some (.deferred (some [])) -> Q .normal { a with defers := { target := .collected w.heap.size, args := #[] } :: a.defers } W)
  (hstop : ∀ (c : Code) (k : Nat) (W : World), k < xs.length -> Ix c k W -> W.heap[w.heap.size]? = some (.deferred (some [])) -> c.wp P Q { a with defers := { target := .collected w.heap.size, args := #[] } :: a.defers } W) :
  (Code.rangeFunc g ps assign body).wp P Q a w := by
 refine (wpIn_wide (n := 0)).1 (wpIn_rangeFunc ?_)
 intro fn _
 obtain ⟨rec, hrec⟩ : ∃ rec : LoopState -> Option Code -> Loop, rec = fun st pe => { state := st, pending := pe, fn, tmps := a.tmps, params := ps, assign, body, defers := w.heap.size } := ⟨_, rfl⟩
 obtain ⟨W1, hW1⟩ : ∃ W1, (w.alloc (.deferred (some []))).alloc (.loop (rec .ready none)) = W1 := ⟨_, rfl⟩
 have hs1 : Same (fun _ => True) w W1 := by rw [<- hW1]; exact (Same.alloc _ _ _).trans (Same.alloc _ _ _)
 have hL1 : W1.heap[w.heap.size + 1]? = some (.loop (rec .ready none)) := by
  rw [<- hW1]; have := World.alloc_heap_new (w.alloc (.deferred (some []))) (.loop (rec .ready none)); rwa [World.size_alloc] at this
 have hK1 : W1.heap[w.heap.size]? = some (.deferred (some [])) := by
  rw [<- hW1]; exact (Below.heap_alloc _ _ _ (by simp)).trans (World.alloc_heap_new w _)
 refine ⟨w.heap.size + 1, [{ target := .collected w.heap.size, args := #[] }], W1, { target := .fn (.func gf) lb, args := #[.func (.yield (w.heap.size + 1)) #[] #[]] }, W1, gf,
  #[.func (.yield (w.heap.size + 1)) #[] #[]] ++ lb, W1, ?_, ?_, ?_, ?_, (fun h => by cases h), ?_⟩
 ·rw [<- hW1, hrec]; exact run_enterLoop_outer _ _ _ _ _
 ·simp only [resolve, hg]
  simp [go_sem]
 ·intro f' _; trivial
 ·simp [invoke, go_sem, eg]
 have nT : ∀ {b}, b = w.heap.size ∨ b = w.heap.size + 1 -> ¬ T b := fun h ht => by have := hT _ ht; omega
 have keepI : ∀ {A B : World} {k : Nat} {o : Obj} {j : Nat}, A.heap[j]? = some o -> (j = w.heap.size ∨ j = w.heap.size + 1) -> Same (fun b => ¬ T b) A B -> B.heap[j]? = some o := fun h hj hs => hs.obj h (nT hj)
 refine callsIn_wide.2 ((hit W1 hs1 0 (w.heap.size + 1)
  (fun k W => I k W /\ W.heap[w.heap.size + 1]? = some (.loop (rec .ready none)) /\ W.heap[w.heap.size]? = some (.deferred (some [])))
  (fun k W => ∃ c, Ix c k W /\ W.heap[w.heap.size + 1]? = some (.loop (rec .done (some c))) /\ W.heap[w.heap.size]? = some (.deferred (some [])))
  (fun k A B h hs => ⟨hI k A B h.1 (hs.mono fun _ h => h.1), hs.obj h.2.1 (nT (.inr rfl)), hs.obj h.2.2 (nT (.inl rfl))⟩)
  (fun k A B ⟨c, h1, h2, h3⟩ hs => ⟨c, hIx c k A B h1 (hs.mono fun _ h => h.1), hs.obj h2 (nT (.inr rfl)), hs.obj h3 (nT (.inl rfl))⟩)
  ?_ ⟨h0 W1 hs1, hL1, hK1⟩).mono ?_)
 ·rintro k hk W ⟨hi, hl, hd⟩
  have hy := run_yield (P := P) (args := encs xs[k]) hl (by rw [hrec]; exact hps _ (List.getElem_mem hk))
  rw [hrec] at hy
  refine ⟨fn, _, assign, body, hy, roundIn_of_wpIn trivial (hassign _ k hk W _ hi (lt_of_heap hl) ?_)⟩
  intro a' W' hsa hax
  have hl' := hsa.obj hl (.inl (.inr rfl))
  have hd' := hsa.obj hd (.inl (.inl rfl))
  refine ⟨_, run_beginRound hl' (by rw [hrec]), ?_⟩
  obtain ⟨W'', hW''⟩ : ∃ W'', W'.putObj (w.heap.size + 1) (.loop { rec .ready none with state := .busy }) = W'' := ⟨_, rfl⟩
  rw [hW'']
  have hl2 : W''.heap[w.heap.size + 1]? = some (.loop { rec .ready none with state := .busy }) := by rw [<- hW'']; exact World.putObj_heap_same (lt_of_heap hl')
  have hd2 : W''.heap[w.heap.size]? = some (.deferred (some [])) := by rw [<- hW'']; exact (World.putObj_heap_other (by omega)).trans hd'
  have hs2 : Same (fun b => b ≠ w.heap.size + 1) W' W'' := by rw [<- hW'']; exact Same.putObj _ _ _ (fun h => h rfl)
  have fin : ∀ (jump : Option Code) (W3 : World), Same (fun b => b = w.heap.size ∨ b = w.heap.size + 1) W'' W3 ->
    (Instr.endRound (w.heap.size + 1) jump).run P W3 = .ok (.bool jump.isNone) (W3.putObj (w.heap.size + 1) (.loop (rec (if jump.isNone then .ready else .done) jump))) /\
    (W3.putObj (w.heap.size + 1) (.loop (rec (if jump.isNone then .ready else .done) jump))).heap[w.heap.size + 1]? = some (.loop (rec (if jump.isNone then .ready else .done) jump)) /\
    (W3.putObj (w.heap.size + 1) (.loop (rec (if jump.isNone then .ready else .done) jump))).heap[w.heap.size]? = some (.deferred (some [])) := fun jump W3 hs3 => by
   have hl3 := hs3.obj hl2 (.inr rfl)
   have hd3 := hs3.obj hd2 (.inl rfl)
   have := run_endRound (P := P) jump hl3
   rw [hrec] at this ⊢
   exact ⟨this, World.putObj_heap_same (lt_of_heap hl3), (World.putObj_heap_other (by omega)).trans hd3⟩
  refine wpIn_mono (hbody _ k hk W a' W' W'' hi hax hs2 ⟨_, hl2⟩) ?_
  have hput : ∀ (W3 : World) (o : Obj), Same (fun b => ¬ T b /\ b ≠ w.heap.size + 1) W3 (W3.putObj (w.heap.size + 1) o) := fun W3 o => Same.putObj _ _ _ (fun h => h.2 rfl)
  rintro e a3 W3 hp
  cases e with
  | normal =>
   obtain ⟨hs3, hi3⟩ := hp
   obtain ⟨hr, hl4, hd4⟩ := fin none W3 (hs3.mono fun _ h => .inl h)
   refine ⟨_, _, hr, .inl ⟨rfl, ⟨hI _ _ _ hi3 (hput _ _), hl4, hd4⟩, ?_⟩⟩
   have nR : ∀ b, R b -> b ≠ w.heap.size + 1 := fun b hb => by have := hR b hb; omega
   exact ((hsa.mono fun _ h => .inr h).trans (hs2.mono nR)).trans ((hs3.mono fun _ h => .inr h).trans (Same.putObj _ _ _ (fun h => nR _ h rfl)))
  | ret =>
   obtain ⟨hs3, hi3⟩ := hp
   obtain ⟨hr, hl4, hd4⟩ := fin (some .ret) W3 hs3
   exact ⟨_, _, hr, .inr ⟨rfl, .ret, hIx _ _ _ _ hi3 (hput _ _), hl4, hd4⟩⟩
  | exit id =>
   obtain ⟨hs3, hi3⟩ := hp
   obtain ⟨hr, hl4, hd4⟩ := fin (some (.exit id)) W3 hs3
   exact ⟨_, _, hr, .inr ⟨rfl, .exit id, hIx _ _ _ _ hi3 (hput _ _), hl4, hd4⟩⟩
  | goto t =>
   obtain ⟨hs3, hi3⟩ := hp
   obtain ⟨hr, hl4, hd4⟩ := fin (some (.goto t)) W3 hs3
   exact ⟨_, _, hr, .inr ⟨rfl, .goto t, hIx _ _ _ _ hi3 (hput _ _), hl4, hd4⟩⟩
  | panic ch => exact hp.elim
  | outgrown => exact hp.elim
 ·have hput : ∀ (W3 : World) (o : Obj), Same (fun b => ¬ T b /\ b ≠ w.heap.size + 1) W3 (W3.putObj (w.heap.size + 1) o) := fun W3 o => Same.putObj _ _ _ (fun h => h.2 rfl)
  rintro e W2 ⟨⟨v, rfl⟩, (⟨hi, hl, hd⟩ | ⟨k, hk, c, hi, hl, hd⟩)⟩
  ·exact ⟨none, _, by have := run_endLoop (P := P) hl (by rw [hrec]; simp); rw [hrec] at this; exact this,
    hdone _ (hI _ _ _ hi (hput _ _)) ((World.putObj_heap_other (by omega)).trans hd)⟩
  ·exact ⟨some c, _, by have := run_endLoop (P := P) hl (by rw [hrec]; simp); rw [hrec] at this; exact this,
    wpIn_wide.2 (hstop c k _ hk (hIx _ _ _ _ hi (hput _ _)) ((World.putObj_heap_other (by omega)).trans hd))⟩

/-- What the body of a function must achieve where it may hold ranges over functions. -/
def bodyPostK (P : Program) (fn : Func) (R : Ending -> World -> Prop) : Exit -> Act -> World -> Prop := bodyPostM Fence.wide 0 P fn R

theorem calls_of_wpK {P : Program} {f : FuncId} {fn : Func} {c : Code} {args : Array Value} {w : World} {R : Ending -> World -> Prop}
  (hf : P.funcs[f]? = some fn) (hb : fn.body = some c)
  (h : c.wp P (bodyPostK P fn R) { tmps := args ++ Array.replicate (fn.ntmps - args.size) undef, defers := [] } w) : Calls P f args w R :=
 callsIn_wide.1 (callsIn_of_wp_marks (F := Fence.wide) (n := 0) hf hb trivial (wpIn_wide.2 h))

/-- the end, no mark -/
theorem bodyPostK_ret0 {P : Program} {fn : Func} {R : Ending -> World -> Prop} {a : Act} {w : World} {v : Value} (hd : a.defers = [])
  (hr : (results fn a.tmps).run P w = .ok v w) (hR : R (.returned v) w) : bodyPostK P fn R .ret a w := by
 show LeavesInM _ _ _ _ _ _ a.defers _ _
 rw [hd]; exact ⟨v, hr, hR⟩
/-- the end, behind one loop -/
theorem bodyPostK_ret1 {P : Program} {fn : Func} {R : Ending -> World -> Prop} {a : Act} {w : World} {v : Value} {D : Nat} (hd : a.defers = [{ target := .collected D, args := #[] }])
  (hD : w.heap[D]? = some (.deferred (some []))) (hr : (results fn a.tmps).run P (w.putObj D (.deferred none)) = .ok v (w.putObj D (.deferred none))) (hR : R (.returned v) (w.putObj D (.deferred none))) : bodyPostK P fn R .ret a w := by
 show LeavesInM _ _ _ _ _ _ a.defers _ _
 rw [hd]; exact ⟨by simp, .inl ⟨D, _, rfl, run_takeDeferred hD, v, hr, hR⟩⟩
theorem bodyPostK_end0 {P : Program} {fn : Func} {R : Ending -> World -> Prop} {a : Act} {w : World} {v : Value} (hd : a.defers = [])
  (hr : (results fn a.tmps).run P w = .ok v w) (hR : R (.returned v) w) : bodyPostK P fn R .normal a w := by
 show LeavesInM _ _ _ _ _ _ a.defers _ _
 rw [hd]; exact ⟨v, hr, hR⟩
end Kin
end Go

namespace Go
open Go.RowKit
namespace Kin

/-! ## The end of a function that gathered marks -/

def mark (D : Nat) : Deferred := { target := .collected D, args := #[] }

/-- The world with all marks' blocks shut. -/
def shut : List Nat -> World -> World
 | [], w => w
 | D :: Ds, w => shut Ds (w.putObj D (.deferred none))

/-- All marks' blocks lie open, each in a block of its own. -/
def Marks (Ds : List Nat) (w : World) : Prop := Ds.Nodup /\ ∀ D ∈ Ds, w.heap[D]? = some (.deferred (some []))

theorem Marks.tail {D : Nat} {Ds : List Nat} {w : World} (h : Marks (D :: Ds) w) : Marks Ds (w.putObj D (.deferred none)) := by
 obtain ⟨h1, h2⟩ := h
 rw [List.nodup_cons] at h1
 exact ⟨h1.2, fun E hE => (World.putObj_heap_other (r := D) (fun e => by subst e; exact h1.1 hE)).trans (h2 E (List.mem_cons_of_mem _ hE))⟩

theorem shut_same (Ds : List Nat) (w : World) : Same (fun b => b ∉ Ds) w (shut Ds w) := by
 induction Ds generalizing w with
 | nil => exact Same.refl _ _
 | cons D Ds ih =>
  exact (Same.putObj (D := fun b => b ∉ D :: Ds) w D _ (fun h => h List.mem_cons_self)).trans
   ((ih _).mono fun b hb h => hb (List.mem_cons_of_mem _ h))

theorem leaves_marks {P : Program} {fn : Func} {tmps : Array Value} {R : Ending -> World -> Prop} {v : Value} (Ds : List Nat) (w : World) (h : Marks Ds w)
  (hr : (results fn tmps).run P (shut Ds w) = .ok v (shut Ds w)) (hR : R (.returned v) (shut Ds w)) :
  LeavesInM Fence.wide 0 P fn tmps R (Ds.map mark) .returning w := by
 induction Ds generalizing w with
 | nil => exact ⟨v, hr, hR⟩
 | cons D Ds ih =>
  exact ⟨by simp, .inl ⟨D, _, rfl, run_takeDeferred (h.2 D List.mem_cons_self), ih _ h.tail hr hR⟩⟩

theorem bodyPostK_rets {P : Program} {fn : Func} {R : Ending -> World -> Prop} {a : Act} {w : World} {v : Value} {Ds : List Nat} (hd : a.defers = Ds.map mark) (h : Marks Ds w)
  (hr : (results fn a.tmps).run P (shut Ds w) = .ok v (shut Ds w)) (hR : R (.returned v) (shut Ds w)) : bodyPostK P fn R .ret a w := by
 show LeavesInM _ _ _ _ _ _ a.defers _ _
 rw [hd]; exact leaves_marks Ds w h hr hR

end Kin
end Go

namespace Go
open Go.RowKit
namespace Kin
end Kin
end Go

/- A law for a range over a function whose iterator yields a known list, at the level of Code.wp; its conditions are the iterator's contract, the round's walk and what lies behind it. Generic: no program is named here. -/
import Derived.RangeFuncNested
import Derived.RangeFuncLeaves
import Derived.Shelf.Abstract
import Derived.WalkKit
import Derived.OwnWalkIn
import Derived.Deep.Draws
set_option linter.unusedSectionVars false
set_option linter.unusedVariables false
set_option linter.unusedSimpArgs false
namespace Go
open Go.RowKit
namespace Kin

/-- The blocks of D lie as they lay; the heap has not shrunk; the world outside is the same. -/
structure Same (D : Nat -> Prop) (W W' : World) : Prop where
 os : W'.os = W.os
 tape : W'.tape = W.tape
 output : W'.output = W.output
 size : W.heap.size <= W'.heap.size
 block : ∀ k, k < W.heap.size -> D k -> W'.heap[k]? = W.heap[k]?

theorem Same.refl (D : Nat -> Prop) (W : World) : Same D W W := ⟨rfl, rfl, rfl, Nat.le_refl _, fun _ _ _ => rfl⟩
theorem Same.trans {D : Nat -> Prop} {A B C : World} (h : Same D A B) (k : Same D B C) : Same D A C :=
 ⟨k.os.trans h.os, k.tape.trans h.tape, k.output.trans h.output, Nat.le_trans h.size k.size,
  fun i hi hd => (k.block i (Nat.lt_of_lt_of_le hi h.size) hd).trans (h.block i hi hd)⟩
theorem Same.mono {D D' : Nat -> Prop} {A B : World} (h : Same D A B) (hd : ∀ k, D' k -> D k) : Same D' A B :=
 ⟨h.os, h.tape, h.output, h.size, fun i hi h' => h.block i hi (hd i h')⟩
/-- as `mono`, but only blocks that lay in A count -/
theorem Same.monoLt {D D' : Nat -> Prop} {A B : World} (h : Same D A B) (hd : ∀ k, k < A.heap.size -> D' k -> D k) : Same D' A B :=
 ⟨h.os, h.tape, h.output, h.size, fun i hi h' => h.block i hi (hd i hi h')⟩
theorem Same.alloc (D : Nat -> Prop) (W : World) (o : Obj) : Same D W (W.alloc o) :=
 ⟨rfl, rfl, rfl, by simp, fun i hi _ => Below.heap_alloc W o i hi⟩
theorem Same.drew (D : Nat -> Prop) (W : World) : Same D W W.drew := ⟨rfl, rfl, rfl, Nat.le_refl _, fun _ _ _ => rfl⟩
theorem Same.drewN (D : Nat -> Prop) (W : World) (n : Nat) : Same D W (W.drewN n) := ⟨rfl, rfl, rfl, Nat.le_refl _, fun _ _ _ => rfl⟩
theorem Same.putObj {D : Nat -> Prop} (W : World) (r : Nat) (o : Obj) (h : ¬ D r) : Same D W (W.putObj r o) :=
 ⟨rfl, rfl, rfl, by simp, fun i _ hd => World.putObj_heap_other (fun e => h (e ▸ hd))⟩
theorem Same.below {D : Nat -> Prop} {B : Nat} {W W' : World} (h : Same D W W') (hB : B <= W.heap.size) (hd : ∀ k, k < B -> D k) : Below B W W' :=
 ⟨h.os, h.tape, h.output, h.size, fun k hk => h.block k (Nat.lt_of_lt_of_le hk hB) (hd k hk)⟩
/-- `Below` at the heap's own size keeps all. -/
theorem Same.of_below_all {D : Nat -> Prop} {W W' : World} (h : Below W.heap.size W W') : Same D W W' :=
 ⟨h.os, h.tape, h.output, h.size, fun k hk _ => h.block k hk⟩
theorem lt_of_heap {W : World} {k : Nat} {o : Obj} (h : W.heap[k]? = some o) : k < W.heap.size := (Array.getElem?_eq_some_iff.1 h).1
theorem Same.obj {D : Nat -> Prop} {W W' : World} (h : Same D W W') {k : Nat} {o : Obj} (hk : W.heap[k]? = some o) (hd : D k) : W'.heap[k]? = some o :=
 (h.block k (lt_of_heap hk) hd).trans hk
theorem lt_of_cell {W : World} {a : Addr} {v : Value} (h : W.cell? a = some v) : a.block < W.heap.size := by
 unfold World.cell? at h
 cases ho : W.heap[a.block]? with
 | none => rw [ho] at h; cases h
 | some o => exact lt_of_heap ho
theorem Same.cell {D : Nat -> Prop} {W W' : World} (h : Same D W W') {a : Addr} {v : Value} (hc : W.cell? a = some v) (hd : D a.block) : W'.cell? a = some v := by
 have := h.block a.block (lt_of_cell hc) hd
 unfold World.cell? at hc ⊢; rw [this]; exact hc
/-- W is w1 with new blocks: all that lay lies as it lay. -/
def Later (w1 W : World) : Prop := Below w1.heap.size w1 W
theorem Later.step {a b c : World} (h : Later a b) (k : Below b.heap.size b c) : Later a c := Below.trans h (Below.mono k h.size)
theorem Later.cell {a b : World} (h : Later a b) {p : Addr} {v : Value} (hc : a.cell? p = some v) : b.cell? p = some v := (Below.cell h (lt_of_cell hc)).trans hc
/-- What the body of a function must achieve where it may hold ranges over functions. -/
def bodyPostK (P : Program) (fn : Func) (R : Ending -> World -> Prop) : Exit -> Act -> World -> Prop := bodyPostM Fence.wide 0 P fn R

theorem calls_of_wpK {P : Program} {f : FuncId} {fn : Func} {c : Code} {args : Array Value} {w : World} {R : Ending -> World -> Prop}
  (hf : P.funcs[f]? = some fn) (hb : fn.body = some c)
  (h : c.wp P (bodyPostK P fn R) { tmps := args ++ Array.replicate (fn.ntmps - args.size) undef, defers := [] } w) : Calls P f args w R :=
 callsIn_wide.1 (callsIn_of_wp_marks (F := Fence.wide) (n := 0) hf hb trivial (wpIn_wide.2 h))

/-- the end, no mark -/
theorem bodyPostK_ret0 {P : Program} {fn : Func} {R : Ending -> World -> Prop} {a : Act} {w : World} {v : Value} (hd : a.defers = [])
  (hr : (results fn a.tmps).run P w = .ok v w) (hR : R (.returned v) w) : bodyPostK P fn R .ret a w := by
 show LeavesInM _ _ _ _ _ _ a.defers _ _
 rw [hd]; exact ⟨v, hr, hR⟩
theorem bodyPostK_end0 {P : Program} {fn : Func} {R : Ending -> World -> Prop} {a : Act} {w : World} {v : Value} (hd : a.defers = [])
  (hr : (results fn a.tmps).run P w = .ok v w) (hR : R (.returned v) w) : bodyPostK P fn R .normal a w := by
 show LeavesInM _ _ _ _ _ _ a.defers _ _
 rw [hd]; exact ⟨v, hr, hR⟩
end Kin
end Go

namespace Go
open Go.RowKit
namespace Kin

/-! ## The end of a function that gathered marks -/

def mark (D : Nat) : Deferred := { target := .collected D, args := #[] }

/-- The world with all marks' blocks shut. -/
def shut : List Nat -> World -> World
 | [], w => w
 | D :: Ds, w => shut Ds (w.putObj D (.deferred none))

/-- All marks' blocks lie open, each in a block of its own. -/
def Marks (Ds : List Nat) (w : World) : Prop := Ds.Nodup /\ ∀ D ∈ Ds, w.heap[D]? = some (.deferred (some []))

theorem Marks.tail {D : Nat} {Ds : List Nat} {w : World} (h : Marks (D :: Ds) w) : Marks Ds (w.putObj D (.deferred none)) := by
 obtain ⟨h1, h2⟩ := h
 rw [List.nodup_cons] at h1
 exact ⟨h1.2, fun E hE => (World.putObj_heap_other (r := D) (fun e => by subst e; exact h1.1 hE)).trans (h2 E (List.mem_cons_of_mem _ hE))⟩

theorem shut_same (Ds : List Nat) (w : World) : Same (fun b => b ∉ Ds) w (shut Ds w) := by
 induction Ds generalizing w with
 | nil => exact Same.refl _ _
 | cons D Ds ih =>
  exact (Same.putObj (D := fun b => b ∉ D :: Ds) w D _ (fun h => h List.mem_cons_self)).trans
   ((ih _).mono fun b hb h => hb (List.mem_cons_of_mem _ h))

theorem leaves_marks {P : Program} {fn : Func} {tmps : Array Value} {R : Ending -> World -> Prop} {v : Value} (Ds : List Nat) (w : World) (h : Marks Ds w)
  (hr : (results fn tmps).run P (shut Ds w) = .ok v (shut Ds w)) (hR : R (.returned v) (shut Ds w)) :
  LeavesInM Fence.wide 0 P fn tmps R (Ds.map mark) .returning w := by
 induction Ds generalizing w with
 | nil => exact ⟨v, hr, hR⟩
 | cons D Ds ih =>
  exact ⟨by simp, .inl ⟨D, _, rfl, run_takeDeferred (h.2 D List.mem_cons_self), ih _ h.tail hr hR⟩⟩

theorem bodyPostK_rets {P : Program} {fn : Func} {R : Ending -> World -> Prop} {a : Act} {w : World} {v : Value} {Ds : List Nat} (hd : a.defers = Ds.map mark) (h : Marks Ds w)
  (hr : (results fn a.tmps).run P (shut Ds w) = .ok v (shut Ds w)) (hR : R (.returned v) (shut Ds w)) : bodyPostK P fn R .ret a w := by
 show LeavesInM _ _ _ _ _ _ a.defers _ _
 rw [hd]; exact leaves_marks Ds w h hr hR

end Kin
end Go

namespace Go
open Go.RowKit
namespace Kin
end Kin
end Go

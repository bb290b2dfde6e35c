/- An engine for walks: what is known of a frame is a list of slots with their values, what is known of memory a list of blocks; each operation is one rule. Generic: no program is named here. -/
import Derived.Test.YtnmbglemgkopaaaGenCell
import Derived.TacticsIn
import Derived.Deep.Quiet
import Derived.OrdersIn
import Derived.IntWalk
import Derived.Laws.CopyRow
import Derived.Laws.Cells
import Derived.Laws.AppendOwn
import Derived.Laws.MakeOwn
import Derived.StillTail
import Derived.Scope
import Derived.Laws.StructEq
import Derived.MapKept
import Derived.Carry
set_option linter.unusedSectionVars false
set_option linter.unusedVariables false
set_option linter.unusedSimpArgs false
namespace Go
open Go.RowKit
namespace Kin

/-! ## Types -/
inductive TK where
  | int (k : IntKind)
  | bool
  | str
  | slice (e : TypeId)
  | array (n : Nat) (e : TypeId)
  | struct (fs : List (TypeId × Nat))
  | map (k e : TypeId)
  | other

def TK.isAgg : TK → Bool
  | .array .. => true
  | .struct .. => true
  | _ => false

structure TI where
  kind : TK
  size : Nat
  bytes : Nat
  zero : Value

def TKOk (P : Program) (t : TypeId) : TK → Prop
  | .int k => P.underlying t = some (.int k)
  | .bool => P.underlying t = some .bool
  | .str => P.underlying t = some .string
  | .slice e => P.underlying t = some (.slice e)
  | .array n e => P.underlying t = some (.array n e)
  | .struct fs => ∃ fields, P.underlying t = some (.struct fields) ∧ fields.toList.map (fun f => (f.type, f.offset)) = fs
  | .map k e => P.underlying t = some (.map k e)
  | .other => ∃ d, P.underlying t = some d ∧ (match d with | .struct _ | .array .. => False | _ => True)

def TIOk (P : Program) (t : TypeId) (ti : TI) : Prop :=
  TKOk P t ti.kind ∧ ∃ i, P.info? t = some i ∧ i.size = ti.size ∧ i.bytes = ti.bytes ∧ i.zero = some ti.zero

def look {α : Type} : List (Nat × α) → Nat → Option α
  | [], _ => none
  | (k, v) :: l, s => bif Nat.beq k s then some v else look l s

theorem look_mem {α : Type} {l : List (Nat × α)} {s : Nat} {v : α} (h : look l s = some v) : (s, v) ∈ l := by
  induction l with
  | nil => cases h
  | cons p l ih =>
    obtain ⟨k, u⟩ := p
    simp only [look] at h
    cases hb : Nat.beq k s with
    | true =>
      rw [hb] at h
      simp only [cond_true, Option.some.injEq] at h
      have := Nat.eq_of_beq_eq_true hb
      subst this; subst h; exact List.mem_cons_self
    | false => rw [hb] at h; exact List.mem_cons_of_mem _ (ih h)

class TT (P : Program) (tt : outParam (List (TypeId × TI))) : Prop where
  ok : ∀ p ∈ tt, TIOk P p.1 p.2

theorem TT.look {P : Program} {tt : List (TypeId × TI)} [T : TT P tt] {t : TypeId} {ti : TI} (h : look tt t = some ti) : TIOk P t ti := T.ok _ (look_mem h)

/-- The function can be entered. -/
class Ent (P : Program) (f : FuncId) : Prop where
  ok : ∀ args w, (callFunc f args).run P w = .ok (.enter f args) w

class Wide (F : Fence) : Prop where
  w : F = Fence.wide ∨ ∃ l, F = Fence.wide.inRound l

instance : Wide Fence.wide := ⟨.inl rfl⟩
instance (l : Nat) : Wide (Fence.wide.inRound l) := ⟨.inr ⟨l, rfl⟩⟩

theorem Wide.fn (F : Fence) [W : Wide F] (f : FuncId) : F.fn f := by rcases W.w with rfl | ⟨l, rfl⟩ <;> trivial
theorem Wide.depth (F : Fence) [W : Wide F] (n : Nat) : F.depth.isSome = true → 1 ≤ n := by rcases W.w with rfl | ⟨l, rfl⟩ <;> exact fun h => by cases h
theorem Wide.calls {F : Fence} [W : Wide F] {n : Nat} {P : Program} {f : FuncId} {args : Array Value} {w : World} {R : Ending → World → Prop} (h : Calls P f args w R) : CallsIn F n P f args w R := by
  rcases W.w with rfl | ⟨l, rfl⟩
  · exact callsIn_wide.2 h
  · exact CallsIn.inRound l (callsIn_wide.2 h)

/-! ## What is known of a frame, and of memory -/
structure SatA (N : Nat) (ds : List Deferred) (env : List (Nat × Value)) (a : Act) : Prop where
  size : a.tmps.size = N
  defers : a.defers = ds
  env : ∀ s v, look env s = some v → a.tmps[s]? = some v

theorem look_cons {α : Type} {k s : Nat} {u : α} {l : List (Nat × α)} : look ((k, u) :: l) s = if k = s then some u else look l s := by
  simp only [look]
  cases hb : Nat.beq k s with
  | true => rw [if_pos (Nat.eq_of_beq_eq_true hb)]; rfl
  | false => rw [if_neg (Nat.ne_of_beq_eq_false hb)]; rfl

theorem SatA.put {N : Nat} {ds : List Deferred} {env : List (Nat × Value)} {a : Act} (h : SatA N ds env a) {d : Nat} (hd : Nat.blt d N = true) (v : Value) : SatA N ds ((d, v) :: env) (a.put (some d) v) := by
  have hlt : d < a.tmps.size := by rw [h.size]; exact Nat.le_of_ble_eq_true hd
  refine ⟨by simp [Act.put, h.size], h.defers, fun s u hs => ?_⟩
  rw [look_cons] at hs
  simp only [Act.put]
  split at hs
  · rename_i e; subst e; cases hs; simp [hlt]
  · rename_i e
    rw [Array.getElem?_setIfInBounds_ne e]; exact h.env s u hs

def evOp (env : List (Nat × Value)) : Operand → Option Value
  | .tmp t => look env t
  | .const v => some v
  | .global g => some (.pointer (some ⟨g, 0, none⟩))
  | .func f => some (.func (.func f) #[] #[])

theorem SatA.eval {N : Nat} {ds : List Deferred} {env : List (Nat × Value)} {a : Act} (h : SatA N ds env a) {x : Operand} {v : Value} (hx : evOp env x = some v) : a.eval x = v := by
  cases x with
  | tmp t => have := h.env t v hx; simp [Act.eval, this]
  | const u => exact Option.some.inj hx
  | global g => exact Option.some.inj hx
  | func f => exact Option.some.inj hx

def evOps {β : Type} (env : List (Nat × Value)) : List Operand → (List Value → Option β) → Option β
  | [], k => k []
  | x :: xs, k => match evOp env x with
    | some v => evOps env xs fun vs => k (v :: vs)
    | none => none

theorem SatA.evals {β : Type} {N : Nat} {ds : List Deferred} {env : List (Nat × Value)} {a : Act} (h : SatA N ds env a) {xs : List Operand} {k : List Value → Option β} {r : β}
    (hx : evOps env xs k = some r) : k (xs.map a.eval) = some r := by
  induction xs generalizing k with
  | nil => exact hx
  | cons x xs ih =>
    simp only [evOps] at hx
    cases he : evOp env x with
    | none => rw [he] at hx; cases hx
    | some v =>
      rw [he] at hx
      have := ih hx
      simpa only [List.map_cons, h.eval he] using this

/-- Nothing further is known of the world. -/
def noJ : (Nat → Prop) → World → Prop := fun _ _ => True

/-- What a word on the world must bear: the blocks of the list may be written, and new ones laid. -/
def Closed (J : (Nat → Prop) → World → Prop) : Prop :=
  ∀ (S S' : Nat → Prop) (A B : World), J S A → Same (fun b => ¬ S b) A B → (∀ b, S' b → S b ∨ A.heap.size ≤ b) → J S' B
theorem closed_noJ : Closed noJ := fun _ _ _ _ _ _ _ => trivial

def keys (mem : List (Nat × Obj)) : Nat → Prop := fun b => b ∈ mem.map (·.1)

/-- `w0`, `D`: the world of before and what of it has not been touched; `mem`: the blocks that are known and may be written; `J`: a further word on the world. -/
structure SatW (w0 : World) (D : Nat → Prop) (J : (Nat → Prop) → World → Prop) (mem : List (Nat × Obj)) (W : World) : Prop where
  same : Same D w0 W
  dom : ∀ k, D k → k < w0.heap.size
  nodup : (mem.map (·.1)).Nodup
  own : ∀ p ∈ mem, ¬ D p.1 ∧ W.heap[p.1]? = some p.2
  closed : Closed J
  word : J (keys mem) W

section
variable {w0 : World} {D : Nat → Prop} {J : (Nat → Prop) → World → Prop} {mem : List (Nat × Obj)} {W : World}

theorem SatW.lt (h : SatW w0 D J mem W) {p : Nat × Obj} (hp : p ∈ mem) : p.1 < W.heap.size := lt_of_heap (h.own p hp).2

theorem SatW.alloc (h : SatW w0 D J mem W) (o : Obj) : SatW w0 D J ((W.heap.size, o) :: mem) (W.alloc o) := by
  refine ⟨h.same.trans (Same.alloc D W o), h.dom, ?_, ?_, h.closed, h.closed _ _ _ _ h.word (Same.alloc _ W o) fun b hb => ?_⟩
  · simp only [List.map_cons, List.nodup_cons]
    refine ⟨fun hm => ?_, h.nodup⟩
    obtain ⟨p, hp, e⟩ := List.mem_map.1 hm
    have := h.lt hp
    omega
  · intro p hp
    rcases List.mem_cons.1 hp with rfl | hp
    · exact ⟨fun hd => by have := h.dom _ hd; have := h.same.size; omega, World.alloc_heap_new W o⟩
    · exact ⟨(h.own p hp).1, (Below.heap_alloc W o p.1 (h.lt hp)).trans (h.own p hp).2⟩
  · simp only [keys, List.map_cons, List.mem_cons] at hb
    rcases hb with rfl | hb
    · exact .inr (Nat.le_refl _)
    · exact .inl hb

theorem SatW.later (h : SatW w0 D J mem W) {W' : World} (hb : Below W.heap.size W W') : SatW w0 D J mem W' :=
  ⟨h.same.trans (Same.of_below_all hb), h.dom, h.nodup, fun p hp => ⟨(h.own p hp).1, (hb.block _ (h.lt hp)).trans (h.own p hp).2⟩, h.closed,
   h.closed _ _ _ _ h.word (Same.of_below_all hb) fun _ hb => .inl hb⟩

theorem SatW.drew (h : SatW w0 D J mem W) : SatW w0 D J mem { W with drawn := W.drawn + 1 } :=
  ⟨h.same.trans (Same.drew D W), h.dom, h.nodup, h.own, h.closed, h.closed _ _ _ _ h.word (Same.drew _ W) fun _ hb => .inl hb⟩

/-- One block of the list is written. -/
inductive Upd : List (Nat × Obj) → Nat → Obj → Obj → List (Nat × Obj) → Prop
  | head {b : Nat} {o o' : Obj} {m : List (Nat × Obj)} : Upd ((b, o) :: m) b o o' ((b, o') :: m)
  | tail {b : Nat} {o o' : Obj} {x : Nat × Obj} {m m' : List (Nat × Obj)} (h : Upd m b o o' m') : Upd (x :: m) b o o' (x :: m')

theorem Upd.isIn {m m' : List (Nat × Obj)} {b : Nat} {o o' : Obj} (h : Upd m b o o' m') : (b, o) ∈ m := by
  induction h with
  | head => exact List.mem_cons_self
  | tail _ ih => exact List.mem_cons_of_mem _ ih
theorem Upd.keys {m m' : List (Nat × Obj)} {b : Nat} {o o' : Obj} (h : Upd m b o o' m') : m'.map (·.1) = m.map (·.1) := by
  induction h with
  | head => rfl
  | tail _ ih => simp [ih]
theorem Upd.of {m m' : List (Nat × Obj)} {b : Nat} {o o' : Obj} (h : Upd m b o o' m') (hn : (m.map (·.1)).Nodup) {p : Nat × Obj} (hp : p ∈ m') : p = (b, o') ∨ (p ∈ m ∧ p.1 ≠ b) := by
  induction h with
  | head =>
    rename_i b o o' m
    simp only [List.map_cons, List.nodup_cons] at hn
    rcases List.mem_cons.1 hp with rfl | hp
    · exact .inl rfl
    · exact .inr ⟨List.mem_cons_of_mem _ hp, fun e => hn.1 (List.mem_map.2 ⟨p, hp, e⟩)⟩
  | tail hu ih =>
    rename_i b o o' x m m'
    simp only [List.map_cons, List.nodup_cons] at hn
    rcases List.mem_cons.1 hp with rfl | hp
    · exact .inr ⟨List.mem_cons_self, fun e => hn.1 (List.mem_map.2 ⟨_, hu.isIn, e.symm⟩)⟩
    · rcases ih hn.2 hp with h | ⟨h, h'⟩
      · exact .inl h
      · exact .inr ⟨List.mem_cons_of_mem _ h, h'⟩

/-- a world that differs in one block of the list alone -/
theorem SatW.upd (h : SatW w0 D J mem W) {mem' : List (Nat × Obj)} {b : Nat} {o o' : Obj} (hu : Upd mem b o o' mem') {W' : World}
    (hs : Same (fun k => k ≠ b) W W') (hb : W'.heap[b]? = some o') : SatW w0 D J mem' W' := by
  have hwd : J (keys mem') W' := h.closed _ _ _ _ h.word (hs.mono fun k hk e => hk (List.mem_map.2 ⟨_, hu.isIn, e.symm⟩)) fun b hb => .inl (by unfold keys at hb ⊢; rwa [hu.keys] at hb)
  refine ⟨h.same.trans (hs.mono fun k hk e => (h.own _ hu.isIn).1 (show D b from e ▸ hk)), h.dom, by rw [hu.keys]; exact h.nodup, fun p hp => ?_, h.closed, hwd⟩
  rcases hu.of h.nodup hp with rfl | ⟨hp, hne⟩
  · exact ⟨(h.own _ hu.isIn).1, hb⟩
  · exact ⟨(h.own p hp).1, (hs.block _ (h.lt hp) hne).trans (h.own p hp).2⟩

theorem SatW.mono (h : SatW w0 D J mem W) {mem' : List (Nat × Obj)} (hs : List.Sublist mem' mem) : SatW w0 D J mem' W :=
  ⟨h.same, h.dom, h.nodup.sublist (hs.map _), fun p hp => h.own p (hs.mem hp), h.closed,
   h.closed _ _ _ _ h.word (Same.refl _ _) fun b hb => .inl (by
     obtain ⟨p, hp, e⟩ := List.mem_map.1 hb
     exact List.mem_map.2 ⟨p, hs.mem hp, e⟩)⟩
end

/-! ## Judgements -/
structure Cx where
  F : Fence
  n : Nat
  ds : List Deferred
  w0 : World
  D : Nat → Prop
  J : (Nat → Prop) → World → Prop := noJ

structure RunC (P : Program) (N : Nat) (c : Cx) (code : Code) (Q : Exit → Act → World → Prop) (env : List (Nat × Value)) (mem : List (Nat × Obj)) : Prop where
  run : ∀ a W, SatA N c.ds env a → SatW c.w0 c.D c.J mem W → code.wpIn c.F c.n P Q a W
structure RunL (P : Program) (N : Nat) (c : Cx) (L l : List Oper) (Q : Exit → Act → World → Prop) (env : List (Nat × Value)) (mem : List (Nat × Obj)) : Prop where
  run : ∀ a W, SatA N c.ds env a → SatW c.w0 c.D c.J mem W → wpListIn c.F c.n P L.toArray Q l a W
structure RunX (N : Nat) (c : Cx) (Q : Exit → Act → World → Prop) (e : Exit) (env : List (Nat × Value)) (mem : List (Nat × Obj)) : Prop where
  run : ∀ a W, SatA N c.ds env a → SatW c.w0 c.D c.J mem W → Q e a W

section
variable {P : Program} {N : Nat} {c : Cx} {Q : Exit → Act → World → Prop} {env : List (Nat × Value)} {mem : List (Nat × Obj)}

theorem c_skip (k : RunX N c Q .normal env mem) : RunC P N c .skip Q env mem := .mk fun a W ha hw => wpIn_skip (k.run a W ha hw)
theorem c_label {l : Nat} (k : RunX N c Q .normal env mem) : RunC P N c (.label l) Q env mem := .mk fun a W ha hw => wpIn_label (k.run a W ha hw)
theorem c_exit {id : Nat} (k : RunX N c Q (.exit id) env mem) : RunC P N c (.exit id) Q env mem := .mk fun a W ha hw => wpIn_exit (k.run a W ha hw)
theorem c_ret (k : RunX N c Q .ret env mem) : RunC P N c .ret Q env mem := .mk fun a W ha hw => wpIn_ret (k.run a W ha hw)
theorem c_seq {x y : Code} (k : RunC P N c x (Exit.then (y.wpIn c.F c.n P Q) Q) env mem) : RunC P N c (.seq x y) Q env mem := .mk fun a W ha hw => wpIn_seq (k.run a W ha hw)
theorem c_block {id : Nat} {x : Code} (k : RunC P N c x (Exit.inBlock id Q) env mem) : RunC P N c (.block id x) Q env mem := .mk fun a W ha hw => wpIn_block (k.run a W ha hw)
theorem c_region {id : Nat} {l : List Oper} (k : RunL P N c l l Q env mem) : RunC P N c (.region id l.toArray false) Q env mem := .mk fun a W ha hw => wpIn_region_lit (k.run a W ha hw)
theorem c_true {t : Operand} {x y : Code} (h : evOp env t = some (.bool true)) (k : RunC P N c x Q env mem) : RunC P N c (.cond t x y) Q env mem :=
  .mk fun a W ha hw => wpIn_cond_true (ha.eval h) (k.run a W ha hw)
theorem c_false {t : Operand} {x y : Code} (h : evOp env t = some (.bool false)) (k : RunC P N c y Q env mem) : RunC P N c (.cond t x y) Q env mem :=
  .mk fun a W ha hw => wpIn_cond_false (ha.eval h) (k.run a W ha hw)
theorem c_cond {t : Operand} {x y : Code} {b : Bool} (h : evOp env t = some (.bool b)) (k1 : b = true → RunC P N c x Q env mem) (k2 : b = false → RunC P N c y Q env mem) : RunC P N c (.cond t x y) Q env mem :=
  .mk fun a W ha hw => wpIn_cond_split (ha.eval h) (fun e => (k1 e).run a W ha hw) (fun e => (k2 e).run a W ha hw)
theorem c_dec_t {t : Operand} {x y : Code} {p : Prop} [Decidable p] (h : evOp env t = some (.bool (decide p))) (hp : p) (k : RunC P N c x Q env mem) : RunC P N c (.cond t x y) Q env mem :=
  c_true (h.trans (by rw [decide_eq_true hp])) k
theorem c_dec_f {t : Operand} {x y : Code} {p : Prop} [Decidable p] (h : evOp env t = some (.bool (decide p))) (hp : ¬ p) (k : RunC P N c y Q env mem) : RunC P N c (.cond t x y) Q env mem :=
  c_false (h.trans (by rw [decide_eq_false hp])) k
theorem c_dec {t : Operand} {x y : Code} {p : Prop} [Decidable p] (h : evOp env t = some (.bool (decide p))) (k1 : p → RunC P N c x Q env mem) (k2 : ¬ p → RunC P N c y Q env mem) : RunC P N c (.cond t x y) Q env mem :=
  c_cond h (fun e => k1 (of_decide_eq_true e)) (fun e => k2 (of_decide_eq_false e))

theorem x_then {y : Code} {Q' : Exit → Act → World → Prop} (k : RunC P N c y Q env mem) : RunX N c (Exit.then (y.wpIn c.F c.n P Q) Q') .normal env mem := .mk fun a W ha hw => k.run a W ha hw
theorem x_then_exit {id : Nat} {next : Act → World → Prop} (k : RunX N c Q (.exit id) env mem) : RunX N c (Exit.then next Q) (.exit id) env mem := .mk fun a W ha hw => k.run a W ha hw
theorem x_then_ret {next : Act → World → Prop} (k : RunX N c Q .ret env mem) : RunX N c (Exit.then next Q) .ret env mem := .mk fun a W ha hw => k.run a W ha hw
theorem x_block {id : Nat} (k : RunX N c Q .normal env mem) : RunX N c (Exit.inBlock id Q) .normal env mem := .mk fun a W ha hw => k.run a W ha hw
theorem x_block_ret {id : Nat} (k : RunX N c Q .ret env mem) : RunX N c (Exit.inBlock id Q) .ret env mem := .mk fun a W ha hw => k.run a W ha hw
theorem x_block_same {id : Nat} (k : RunX N c Q .normal env mem) : RunX N c (Exit.inBlock id Q) (.exit id) env mem := .mk fun a W ha hw => by
  show (if id = id then Q .normal a W else Q (.exit id) a W); rw [if_pos rfl]; exact k.run a W ha hw
theorem x_block_other {id id' : Nat} (hne : Nat.beq id' id = false) (k : RunX N c Q (.exit id') env mem) : RunX N c (Exit.inBlock id Q) (.exit id') env mem := .mk fun a W ha hw => by
  show (if id' = id then Q .normal a W else Q (.exit id') a W); rw [if_neg (Nat.ne_of_beq_eq_false hne)]; exact k.run a W ha hw
theorem l_nil {L : List Oper} (k : RunX N c Q .normal env mem) : RunL P N c L [] Q env mem := .mk fun a W ha hw => wpListIn_nil (k.run a W ha hw)

/-! ## Operations -/
def nth {α : Type} : List α → Nat → Option α
  | [], _ => none
  | x :: _, 0 => some x
  | _ :: l, n + 1 => nth l n
theorem nth_eq {α : Type} (l : List α) (n : Nat) : nth l n = l[n]? := by
  induction l generalizing n with
  | nil => simp [nth]
  | cons x l ih => cases n with
    | zero => simp [nth]
    | succ n => simp [nth, ih]

/-- Whether an operation is carried out. -/
def wantB (L : List Oper) (env : List (Nat × Value)) : Option (Nat × Bool) → Option Bool
  | none => some true
  | some (j, w) => match nth L j with
    | some o => match o.dst with
      | some d => match look env d with
        | some (.bool b) => some (b == w)
        | some (.tuple ⟨[]⟩) => some false
        | _ => none
      | none => none
    | none => none

theorem wanted_of {L : List Oper} {env : List (Nat × Value)} {o : Oper} {b : Bool} (h : wantB L env o.guard = some b) {a : Act} {ds : List Deferred} (ha : SatA N ds env a) :
    Region.wanted o (yielded L.toArray a.tmps) = b := by
  unfold Region.wanted
  cases hg : o.guard with
  | none => rw [hg] at h; simpa [wantB] using h
  | some p =>
    obtain ⟨j, w⟩ := p
    rw [hg] at h
    simp only [wantB, nth_eq] at h
    simp only [yielded, List.getElem?_toArray]
    cases h1 : L[j]? with
    | none => rw [h1] at h; cases h
    | some o' =>
      rw [h1] at h
      cases h2 : o'.dst with
      | none => simp only [h2] at h; cases h
      | some d =>
        simp only [h2] at h
        cases h3 : look env d with
        | none => rw [h3] at h; cases h
        | some v =>
          rw [h3] at h
          cases v with
          | bool b' =>
            simp only [Option.some.injEq] at h
            simp only [Option.bind_some, h2, ha.env d _ h3, ← h]
            rcases b' <;> rcases w <;> rfl
          | tuple u =>
            obtain ⟨u⟩ := u
            cases u with
            | nil =>
              simp only [Option.some.injEq] at h
              simp only [Option.bind_some, h2, ha.env d _ h3, ← h]
              rcases w <;> rfl
            | cons x u => cases h
          | _ => cases h

def plainOp : Op → Bool
  | .defer _ => false
  | _ => true

theorem semAt_plain {o : Oper} {ρ : Operand → Value} (ro : Option Nat) (h : plainOp o.op = true) : o.semAt ro ρ = execOp ρ o :=
  Oper.semAt_eq ro ρ o fun cl e => by rw [e] at h; cases h

/-- The operation yields `v` and leaves the world alone. -/
structure OpVal (P : Program) (N : Nat) (c : Cx) (env : List (Nat × Value)) (mem : List (Nat × Obj)) (o : Oper) (v : Value) : Prop where
  plain : plainOp o.op = true
  run : ∀ a W, SatA N c.ds env a → SatW c.w0 c.D c.J mem W → (execOp a.eval o).run P W = .ok (.value v) W

/-- The operation yields one of the values `v i`, and memory is then `mem' i`. -/
structure OpEff (P : Program) (N : Nat) (c : Cx) (env : List (Nat × Value)) (mem : List (Nat × Obj)) (o : Oper) {ι : Type} (v : ι → Value) (mem' : ι → List (Nat × Obj)) : Prop where
  plain : plainOp o.op = true
  run : ∀ a W, SatA N c.ds env a → SatW c.w0 c.D c.J mem W → ∃ i W', (execOp a.eval o).run P W = .ok (.value (v i)) W' ∧ SatW c.w0 c.D c.J (mem' i) W'

/-- The operation yields nothing, and memory is then `mem'`. -/
structure OpDo (P : Program) (N : Nat) (c : Cx) (env : List (Nat × Value)) (mem : List (Nat × Obj)) (o : Oper) (mem' : List (Nat × Obj)) : Prop where
  plain : plainOp o.op = true
  run : ∀ a W, SatA N c.ds env a → SatW c.w0 c.D c.J mem W → ∃ W', (execOp a.eval o).run P W = .ok .skip W' ∧ SatW c.w0 c.D c.J mem' W'

variable {L l : List Oper} [Wide c.F]

theorem l_run {o : Oper} (hw : wantB L env o.guard = some true)
    (h : ∀ a W, SatA N c.ds env a → SatW c.w0 c.D c.J mem W → o.uponIn c.F c.n P a (wpListIn c.F c.n P L.toArray Q l) Q ((o.semAt c.F.round a.eval).run P W)) : RunL P N c L (o :: l) Q env mem := .mk fun a W ha hm => by
  show if _ then _ else _
  rw [if_pos (wanted_of hw ha)]
  exact ⟨fun f _ => Wide.fn c.F f, h a W ha hm⟩

theorem l_skip {op : Op} {d : Nat} {ty : TypeId} {pos : String} {af : Array Edge} {g : Option (Nat × Bool)} (hw : wantB L env g = some false) (hd : Nat.blt d N = true)
    (k : RunL P N c L l Q ((d, undef) :: env) mem) : RunL P N c L (⟨some d, op, ty, pos, af, g⟩ :: l) Q env mem := .mk fun a W ha hm => by
  show if _ then _ else _
  rw [if_neg (by rw [wanted_of (o := ⟨some d, op, ty, pos, af, g⟩) hw ha]; exact Bool.false_ne_true)]
  exact ⟨fun f _ => Wide.fn c.F f, k.run _ _ (ha.put hd undef) hm⟩

theorem l_skip0 {op : Op} {ty : TypeId} {pos : String} {af : Array Edge} {g : Option (Nat × Bool)} (hw : wantB L env g = some false)
    (k : RunL P N c L l Q env mem) : RunL P N c L (⟨none, op, ty, pos, af, g⟩ :: l) Q env mem := .mk fun a W ha hm => by
  show if _ then _ else _
  rw [if_neg (by rw [wanted_of (o := ⟨none, op, ty, pos, af, g⟩) hw ha]; exact Bool.false_ne_true)]
  exact ⟨fun f _ => Wide.fn c.F f, k.run _ _ ha hm⟩

/-- A guard whose test is still open: both ways. -/
theorem l_guard {o : Oper} {j d : Nat} {w b : Bool} {o' : Oper} (hg : o.guard = some (j, w)) (hj : nth L j = some o') (hd : o'.dst = some d) (hb : look env d = some (.bool b)) (hN : Nat.blt d N = true)
    (k1 : b = true → RunL P N c L (o :: l) Q ((d, .bool true) :: env) mem) (k2 : b = false → RunL P N c L (o :: l) Q ((d, .bool false) :: env) mem) : RunL P N c L (o :: l) Q env mem := .mk fun a W ha hm => by
  have same : ∀ b', b = b' → SatA N c.ds ((d, .bool b') :: env) a := fun b' e => by
    refine ⟨ha.size, ha.defers, fun s v hs => ?_⟩
    rw [look_cons] at hs
    split at hs
    · rename_i e2; subst e2; cases hs; subst e; exact ha.env _ _ hb
    · exact ha.env _ _ hs
  cases hbb : b with
  | true => exact (k1 hbb).run a W (same _ hbb) hm
  | false => exact (k2 hbb).run a W (same _ hbb) hm

theorem l_val {op : Op} {d : Nat} {ty : TypeId} {pos : String} {af : Array Edge} {g : Option (Nat × Bool)} {v : Value} (hw : wantB L env g = some true) (hd : Nat.blt d N = true)
    (hv : OpVal P N c env mem ⟨some d, op, ty, pos, af, g⟩ v) (k : RunL P N c L l Q ((d, v) :: env) mem) : RunL P N c L (⟨some d, op, ty, pos, af, g⟩ :: l) Q env mem :=
  l_run hw fun a W ha hm => by
    rw [semAt_plain _ hv.1, hv.2 a W ha hm]
    exact k.run _ _ (ha.put hd v) hm

theorem l_val0 {op : Op} {ty : TypeId} {pos : String} {af : Array Edge} {g : Option (Nat × Bool)} {v : Value} (hw : wantB L env g = some true)
    (hv : OpVal P N c env mem ⟨none, op, ty, pos, af, g⟩ v) (k : RunL P N c L l Q env mem) : RunL P N c L (⟨none, op, ty, pos, af, g⟩ :: l) Q env mem :=
  l_run hw fun a W ha hm => by
    rw [semAt_plain _ hv.1, hv.2 a W ha hm]
    exact k.run _ _ ha hm

theorem l_eff {op : Op} {d : Nat} {ty : TypeId} {pos : String} {af : Array Edge} {g : Option (Nat × Bool)} {ι : Type} {v : ι → Value} {mem' : ι → List (Nat × Obj)} (hw : wantB L env g = some true) (hd : Nat.blt d N = true)
    (hv : OpEff P N c env mem ⟨some d, op, ty, pos, af, g⟩ v mem') (k : ∀ i, RunL P N c L l Q ((d, v i) :: env) (mem' i)) : RunL P N c L (⟨some d, op, ty, pos, af, g⟩ :: l) Q env mem :=
  l_run hw fun a W ha hm => by
    obtain ⟨i, W', h1, h2⟩ := hv.2 a W ha hm
    rw [semAt_plain _ hv.1, h1]
    exact (k i).run _ _ (ha.put hd _) h2

theorem l_do {op : Op} {ty : TypeId} {pos : String} {af : Array Edge} {g : Option (Nat × Bool)} {mem' : List (Nat × Obj)} (hw : wantB L env g = some true)
    (hv : OpDo P N c env mem ⟨none, op, ty, pos, af, g⟩ mem') (k : RunL P N c L l Q env mem') : RunL P N c L (⟨none, op, ty, pos, af, g⟩ :: l) Q env mem :=
  l_run hw fun a W ha hm => by
    obtain ⟨W', h1, h2⟩ := hv.2 a W ha hm
    rw [semAt_plain _ hv.1, h1]
    exact k.run _ _ ha h2

/-! ## Pure operations, by computation -/
def intBin (op : BinOp) (k k' : IntKind) (a b : Int) : Option Value :=
  if k = k' then
    match op with
    | .add => some (.int k (k.wrap (a + b)))
    | .sub => some (.int k (k.wrap (a - b)))
    | .mul => some (.int k (k.wrap (a * b)))
    | .lss => some (.bool (decide (a < b)))
    | .leq => some (.bool (decide (a ≤ b)))
    | .gtr => some (.bool (decide (b < a)))
    | .geq => some (.bool (decide (b ≤ a)))
    | .eql => some (.bool (decide (a = b)))
    | .neq => some (.bool (decide (a ≠ b)))
    | _ => none
  else none

def boolBin (op : BinOp) (a b : Bool) : Option Value :=
  match op with
  | .eql => some (.bool (decide (a = b)))
  | .neq => some (.bool (decide (a ≠ b)))
  | _ => none

/-- cells `off .. off + n - 1`, handed on as a list. -/
def cutK {β : Type} : List Value → Nat → Nat → (List Value → Option β) → Option β
  | _, 0, 0, k => k []
  | x :: l, 0, n + 1, k => cutK l 0 n fun r => k (x :: r)
  | [], 0, _ + 1, _ => none
  | _ :: l, o + 1, n, k => cutK l o n k
  | [], _ + 1, _, _ => none

theorem cutK_eq {β : Type} {l : List Value} {o n : Nat} {k : List Value → Option β} {r : β} (h : cutK l o n k = some r) : o + n ≤ l.length ∧ k ((l.drop o).take n) = some r := by
  induction l generalizing o n k with
  | nil => cases o <;> cases n <;> simp_all [cutK]
  | cons x l ih =>
    cases o with
    | zero =>
      cases n with
      | zero => simpa [cutK] using h
      | succ n =>
        simp only [cutK] at h
        have := ih h
        simp only [Nat.zero_add, List.drop_zero, List.length_cons, List.take_succ_cons] at this ⊢
        exact ⟨by omega, this.2⟩
    | succ o =>
      simp only [cutK] at h
      have := ih h
      simp only [List.length_cons, List.drop_succ_cons]
      exact ⟨by omega, this.2⟩

def aggV (agg : Bool) (size : Nat) (l : List Value) (off : Nat) : Option Value :=
  match agg with
  | true => cutK l off size fun r => some (.agg ⟨r⟩)
  | false => nth l off

def callEval (tt : List (TypeId × TI)) (env : List (Nat × Value)) (cl : Call) : Option Value :=
  match cl with
  | ⟨.builtin .len, ⟨[x]⟩, ⟨[t]⟩⟩ => match look tt t with
    | some ⟨.slice _, _, _, _⟩ => match evOp env x with
      | some (.slice _ n _) => some (.int .i64 n)
      | _ => none
    | some ⟨.str, _, _, _⟩ => match evOp env x with
      | some (.string s) => some (.int .i64 s.size)
      | _ => none
    | some ⟨.array n _, _, _, _⟩ => match evOp env x with
      | some _ => some (.int .i64 n)
      | _ => none
    | _ => none
  | ⟨.builtin .min, ⟨[x, y]⟩, _⟩ => match evOp env x with
    | some (.int k a) => match evOp env y with
      | some (.int _ b) => some (.int k (min a b))
      | _ => none
    | _ => none
  | ⟨.builtin .max, ⟨[x, y]⟩, _⟩ => match evOp env x with
    | some (.int k a) => match evOp env y with
      | some (.int _ b) => some (.int k (max a b))
      | _ => none
    | _ => none
  | _ => none

def pureEval (tt : List (TypeId × TI)) (env : List (Nat × Value)) : Op → Option Value
  | .move x => evOp env x
  | .assign x => evOp env x
  | .pick c a b => match evOp env c with
    | some (.bool true) => evOp env a
    | some (.bool false) => evOp env b
    | _ => none
  | .binOp op t x y _ => match evOp env x with
    | some (.int k a) => match evOp env y with
      | some (.int k' b) => intBin op k k' a b
      | _ => none
    | some (.bool a) => match evOp env y with
      | some (.bool b) => match look tt t with
        | some ⟨.bool, _, _, _⟩ => boolBin op a b
        | _ => none
      | _ => none
    | _ => none
  | .unOp op _ x => match op with
    | .not => match evOp env x with
      | some (.bool b) => some (.bool (!b))
      | _ => none
    | .neg => match evOp env x with
      | some (.int k n) => some (.int k (k.wrap (0 - n)))
      | _ => none
    | _ => none
  | .fieldAddr s x f => match look tt s with
    | some ⟨.struct fs, _, _, _⟩ => match nth fs f with
      | some (ft, off) => match look tt ft with
        | some ⟨_, sz, _, _⟩ => match evOp env x with
          | some (.pointer (some ⟨b, o, none⟩)) => bif Nat.beq sz 0 then none else bif Nat.beq off 0 then some (.pointer (some ⟨b, o, none⟩)) else some (.pointer (some ⟨b, o + off, none⟩))
          | _ => none
        | none => none
      | none => none
    | _ => none
  | .field s x f => match look tt s with
    | some ⟨.struct fs, _, _, _⟩ => match nth fs f with
      | some (ft, off) => match look tt ft with
        | some ⟨kd, sz, _, _⟩ => match evOp env x with
          | some (.agg ⟨l⟩) => aggV kd.isAgg sz l off
          | _ => none
        | none => none
      | none => none
    | _ => none
  | .extract x i => match evOp env x with
    | some (.tuple ⟨l⟩) => nth l i
    | _ => none
  | .convert src dst x => match look tt src with
    | some _ => match look tt dst with
      | some ⟨.int k, _, _, _⟩ => match evOp env x with
        | some (.int _ n) => some (.int k (k.wrap n))
        | _ => none
      | _ => none
    | none => none
  | .makeFunc fn ⟨first⟩ ⟨cap⟩ => evOps env first fun fs => evOps env cap fun cs => some (.func fn ⟨fs⟩ ⟨cs⟩)
  | .nilCheck x => match evOp env x with
    | some (.pointer (some a)) => some (.pointer (some a))
    | _ => none
  | .call cl => callEval tt env cl
  | _ => none

theorem run_und {P : Program} {t : TypeId} {d : TypeDesc} (h : P.underlying t = some d) (W : World) : (underlying t).run P W = .ok d W := by
  simp [underlying, program, Sem.run, h, pure, bind, Sem.bind]
theorem run_info {P : Program} {t : TypeId} {i : TypeInfo} (h : P.info? t = some i) (W : World) : (typeInfo t).run P W = .ok i W := by
  simp [typeInfo, program, Sem.run, h, pure, bind, Sem.bind]
theorem run_size {P : Program} {t : TypeId} {i : TypeInfo} (h : P.info? t = some i) (W : World) : (sizeOf t).run P W = .ok i.size W := by
  simp only [sizeOf, Sem.run_bind, run_info h, Result.andThen_ok]; rfl
theorem TKOk.und {P : Program} {t : TypeId} {k : TK} (h : TKOk P t k) : ∃ d, P.underlying t = some d := by
  cases k with
  | struct fs => obtain ⟨f, h, _⟩ := h; exact ⟨_, h⟩
  | other => obtain ⟨d, h, _⟩ := h; exact ⟨_, h⟩
  | _ => exact ⟨_, h⟩
theorem run_isAgg {P : Program} {t : TypeId} {k : TK} (h : TKOk P t k) (W : World) : (isAgg t).run P W = .ok k.isAgg W := by
  cases k with
  | struct fs => obtain ⟨f, h, _⟩ := h; simp only [isAgg, Sem.run_bind, run_und h, Result.andThen_ok]; rfl
  | other =>
    obtain ⟨d, h, h2⟩ := h
    simp only [isAgg, Sem.run_bind, run_und h, Result.andThen_ok]
    cases d <;> first | rfl | exact h2.elim
  | _ => simp only [isAgg, Sem.run_bind, run_und h, Result.andThen_ok]; rfl

section pure
variable {tt : List (TypeId × TI)} {d : Option Tmp} {ty : TypeId} {pos : String} {af : Array Edge} {g : Option (Nat × Bool)} {a : Act} {W : World} {ds : List Deferred}

theorem p_binInt {op : BinOp} {t t' : TypeId} {x y : Operand} {k k' : IntKind} {m n : Int} {v : Value} (hx : a.eval x = .int k m) (hy : a.eval y = .int k' n) (h : intBin op k k' m n = some v) :
    (execOp a.eval ⟨d, .binOp op t x y t', ty, pos, af, g⟩).run P W = .ok (.value v) W := by
  unfold intBin at h
  split at h
  · rename_i hk
    subst hk
    cases op <;> simp only [Option.some.injEq, reduceCtorEq] at h <;> subst h <;>
      simp [execOp, hx, hy, eqGuard, binOp, Op.intArith, Op.intCmp, Sem.run, pure, bind, Sem.bind] <;> rfl
  · cases h

theorem run_equal_bool {t : TypeId} (ht : P.underlying t = some .bool) (m n : Bool) : (Op.equal t (.bool m) (.bool n)).run P W = .ok (m == n) W := by
  show (Op.equalIn (9999 + 1) t (.bool m) (.bool n)).run P W = _
  rw [Op.equalIn]
  simp only [Sem.run_bind, run_und ht, Result.andThen_ok]; rfl

theorem p_binBool {op : BinOp} {t t' : TypeId} {x y : Operand} {m n : Bool} {v : Value} (ht : P.underlying t = some .bool) (hx : a.eval x = .bool m) (hy : a.eval y = .bool n) (h : boolBin op m n = some v) :
    (execOp a.eval ⟨d, .binOp op t x y t', ty, pos, af, g⟩).run P W = .ok (.value v) W := by
  unfold boolBin at h
  cases op <;> simp only [Option.some.injEq, reduceCtorEq] at h <;> subst h
  · simp only [execOp, hx, hy, eqGuard, binOp, Sem.run_bind, run_equal_bool ht, Result.andThen_ok]
    show Result.ok _ W = _
    cases m <;> cases n <;> rfl
  · simp only [execOp, hx, hy, eqGuard, binOp, Sem.run_bind, run_equal_bool ht, Result.andThen_ok]
    show Result.ok _ W = _
    cases m <;> cases n <;> rfl

theorem extract_list (l : List Value) (o n : Nat) : (⟨l⟩ : Array Value).extract o (o + n) = ⟨(l.drop o).take n⟩ := by
  simp [List.extract_eq_take_drop]

theorem run_part {ft off sz : Nat} {l : List Value} {kd : TK} {v : Value} (h3 : ∃ i, P.info? ft = some i ∧ i.size = sz) (h4 : TKOk P ft kd) (h : aggV kd.isAgg sz l off = some v) :
    (part ft ⟨l⟩ off).run P W = .ok v W := by
  obtain ⟨i, hi, rfl⟩ := h3
  simp only [part, Sem.run_bind, run_isAgg h4, Result.andThen_ok]
  unfold aggV at h
  cases hk : kd.isAgg with
  | true =>
    rw [hk] at h
    obtain ⟨h5, h6⟩ := cutK_eq h
    simp only [Option.some.injEq] at h6
    subst h6
    simp only [if_true, Sem.run_bind, run_size hi, Result.andThen_ok, extract_list]
    rfl
  | false =>
    rw [hk] at h
    rw [nth_eq] at h
    simp [h]

theorem p_field {s : TypeId} {x : Operand} {f ft off sz : Nat} {fs : List (TypeId × Nat)} {l : List Value} {kd : TK} {v : Value} (h1 : TKOk P s (.struct fs)) (h2 : nth fs f = some (ft, off))
    (h3 : ∃ i, P.info? ft = some i ∧ i.size = sz) (h4 : TKOk P ft kd) (hx : a.eval x = .agg ⟨l⟩) (h : aggV kd.isAgg sz l off = some v) :
    (execOp a.eval ⟨d, .field s x f, ty, pos, af, g⟩).run P W = .ok (.value v) W := by
  obtain ⟨fields, hu, hf⟩ := h1
  subst hf
  rw [nth_eq, List.getElem?_map] at h2
  cases hff : fields.toList[f]? with
  | none => rw [hff] at h2; cases h2
  | some fl =>
    rw [hff] at h2
    simp only [Option.map_some, Option.some.injEq, Prod.mk.injEq] at h2
    obtain ⟨rfl, rfl⟩ := h2
    have hf2 : fields[f]? = some fl := by rw [← hff]; simp
    simp only [execOp, hx, Instr.field, Sem.run_bind, run_und hu, Result.andThen_ok, hf2]
    simp only [asAgg, Sem.run_bind]
    show (((part fl.type ⟨l⟩ fl.offset).run P W).andThen _) = _
    rw [run_part h3 h4 h]; rfl

theorem p_fieldAddr {s : TypeId} {x : Operand} {f ft off sz b o : Nat} {fs : List (TypeId × Nat)} {v : Value} (h1 : TKOk P s (.struct fs)) (h2 : nth fs f = some (ft, off))
    (h3 : ∃ i, P.info? ft = some i ∧ i.size = sz) (hx : a.eval x = .pointer (some ⟨b, o, none⟩))
    (h : (bif Nat.beq sz 0 then none else bif Nat.beq off 0 then some (.pointer (some ⟨b, o, none⟩)) else some (.pointer (some ⟨b, o + off, none⟩))) = some v) :
    (execOp a.eval ⟨d, .fieldAddr s x f, ty, pos, af, g⟩).run P W = .ok (.value v) W := by
  obtain ⟨fields, hu, hf⟩ := h1
  subst hf
  rw [nth_eq, List.getElem?_map] at h2
  cases hff : fields.toList[f]? with
  | none => rw [hff] at h2; cases h2
  | some fl =>
    rw [hff] at h2
    simp only [Option.map_some, Option.some.injEq, Prod.mk.injEq] at h2
    obtain ⟨rfl, rfl⟩ := h2
    have hf2 : fields[f]? = some fl := by rw [← hff]; simp
    obtain ⟨i, hi, rfl⟩ := h3
    cases hb : Nat.beq i.size 0 with
    | true => rw [hb] at h; cases h
    | false =>
      have hz : i.size ≠ 0 := Nat.ne_of_beq_eq_false hb
      rw [hb] at h
      simp only [execOp, hx, Instr.fieldAt, Sem.run_bind, run_und hu, Result.andThen_ok, hf2, Instr.sureAddr, fieldPlace]
      show (((((sizeOf fl.type).run P W).andThen _).andThen _).andThen _) = _
      rw [run_size hi]
      simp only [Result.andThen_ok, hz, if_false]
      cases hb2 : Nat.beq fl.offset 0 with
      | true =>
        rw [hb2] at h
        have := Nat.eq_of_beq_eq_true hb2
        simp only [cond_true, cond_false, Option.some.injEq] at h
        subst h
        simp [Sem.run, pure, Addr.add, this]
      | false =>
        rw [hb2] at h
        have := Nat.ne_of_beq_eq_false hb2
        simp only [cond_false, Option.some.injEq] at h
        subst h
        simp [Sem.run, pure, Addr.add, this]

theorem TIOk.size {t : TypeId} {kd : TK} {sz by' : Nat} {z : Value} (h : TIOk P t ⟨kd, sz, by', z⟩) : ∃ i, P.info? t = some i ∧ i.size = sz := by
  obtain ⟨_, i, h1, h2, _⟩ := h; exact ⟨i, h1, h2⟩

theorem pureEval_ok [T : TT P tt] {op : Op} {v : Value} {env : List (Nat × Value)} (h : pureEval tt env op = some v) : OpVal P N c env mem ⟨d, op, ty, pos, af, g⟩ v := by
  refine ⟨by cases op <;> first | rfl | (simp [pureEval] at h; done), fun a W ha _ => ?_⟩
  cases op with
  | move x => show Result.ok (Next.value (a.eval x)) W = _; rw [ha.eval h]
  | assign x => show Result.ok (Next.value (a.eval x)) W = _; rw [ha.eval h]
  | pick cc x y =>
    simp only [pureEval] at h
    split at h
    · rename_i hc; simp only [execOp, ha.eval hc, asBool, Sem.run_bind]; show Result.ok _ W = _; simp [ha.eval h]
    · rename_i hc; simp only [execOp, ha.eval hc, asBool, Sem.run_bind]; show Result.ok _ W = _; simp [ha.eval h]
    · cases h
  | binOp op t x y t' =>
    simp only [pureEval] at h
    split at h
    · rename_i k m hx
      split at h
      · rename_i k' n hy; exact p_binInt (ha.eval hx) (ha.eval hy) h
      · cases h
    · rename_i m hx
      split at h
      · rename_i n hy
        split at h
        · rename_i ht; exact p_binBool (TT.look ht).1 (ha.eval hx) (ha.eval hy) h
        · cases h
      · cases h
    · cases h
  | unOp op t x =>
    simp only [pureEval] at h
    split at h
    · split at h
      · rename_i b hx; cases h; simp only [execOp, ha.eval hx]; rfl
      · cases h
    · split at h
      · rename_i k n hx; cases h; simp only [execOp, ha.eval hx]; rfl
      · cases h
    · cases h
  | fieldAddr s x f =>
    simp only [pureEval] at h
    split at h
    · rename_i h1
      split at h
      · rename_i h2
        split at h
        · rename_i h3
          split at h
          · rename_i hx; exact p_fieldAddr (TT.look h1).1 h2 (TT.look h3).size (ha.eval hx) h
          · cases h
        · cases h
      · cases h
    · cases h
  | field s x f =>
    simp only [pureEval] at h
    split at h
    · rename_i h1
      split at h
      · rename_i h2
        split at h
        · rename_i h3
          split at h
          · rename_i hx; exact p_field (TT.look h1).1 h2 (TT.look h3).size (TT.look h3).1 (ha.eval hx) h
          · cases h
        · cases h
      · cases h
    · cases h
  | extract x i =>
    simp only [pureEval] at h
    split at h
    · rename_i l hx; rw [nth_eq] at h; simp [execOp, ha.eval hx, Instr.extract, h]
    · cases h
  | convert src dst x =>
    simp only [pureEval] at h
    split at h
    · rename_i h0
      obtain ⟨ds, hs⟩ := (TT.look (P := P) h0).1.und
      split at h
      · rename_i h1
        split at h
        · rename_i k n hx
          cases h
          have h1' : P.underlying dst = some (.int _) := (TT.look (P := P) h1).1
          simp only [execOp, ha.eval hx, convert, Sem.run_bind, run_und hs, run_und h1', Result.andThen_ok]
          cases ds <;> rfl
        · cases h
      · cases h
    · cases h
  | makeFunc fn first cap =>
    obtain ⟨first⟩ := first
    obtain ⟨cap⟩ := cap
    simp only [pureEval] at h
    have h2 := ha.evals (ha.evals h)
    simp only [Option.some.injEq] at h2
    subst h2
    simp [execOp, Instr.makeFunc, Sem.run, pure]
  | nilCheck x =>
    simp only [pureEval] at h
    split at h
    · rename_i b hx; cases h; simp only [execOp, ha.eval hx]; rfl
    · cases h
  | call cl =>
    simp only [pureEval] at h
    unfold callEval at h
    split at h
    · rename_i x t
      split at h
      · rename_i h1
        have hu : P.underlying t = some (.slice _) := (TT.look (P := P) h1).1
        split at h
        · rename_i hx
          cases h
          simp only [execOp, resolve, List.map_toArray, List.map_cons, List.map_nil, ha.eval hx, Sem.run_bind]
          simp [invoke, builtin, Builtin.len_, run_und hu, Sem.run, pure, goInt]
        · cases h
      · rename_i h1
        have hu : P.underlying t = some .string := (TT.look (P := P) h1).1
        split at h
        · rename_i hx
          cases h
          simp only [execOp, resolve, List.map_toArray, List.map_cons, List.map_nil, ha.eval hx, Sem.run_bind]
          simp [invoke, builtin, Builtin.len_, run_und hu, Sem.run, pure, goInt]
        · cases h
      · rename_i h1
        have hu : P.underlying t = some (.array _ _) := (TT.look (P := P) h1).1
        split at h
        · rename_i hx
          cases h
          simp only [execOp, resolve, List.map_toArray, List.map_cons, List.map_nil, ha.eval hx, Sem.run_bind]
          simp [invoke, builtin, Builtin.len_, run_und hu, Sem.run, pure, goInt]
        · cases h
      · cases h
    · split at h
      · rename_i hx
        split at h
        · rename_i hy
          cases h
          simp only [execOp, resolve, List.map_toArray, List.map_cons, List.map_nil, ha.eval hx, ha.eval hy, Sem.run_bind]
          simp [invoke, builtin, Builtin.min_, Builtin.min2, Sem.run, pure]
          show (if _ then _ else _) = _
          split <;> omega
        · cases h
      · cases h
    · split at h
      · rename_i hx
        split at h
        · rename_i hy
          cases h
          simp only [execOp, resolve, List.map_toArray, List.map_cons, List.map_nil, ha.eval hx, ha.eval hy, Sem.run_bind]
          simp [invoke, builtin, Builtin.max_, Builtin.max2, Sem.run, pure]
          show (if _ then _ else _) = _
          split <;> omega
        · cases h
      · cases h
    · cases h
  | _ => simp [pureEval] at h

end pure

end
end Kin
end Go

set_option linter.unusedSectionVars false
set_option linter.unusedVariables false
set_option linter.unusedSimpArgs false
namespace Go
open Go.RowKit
namespace Kin
section
variable {P : Program} {N : Nat} {c : Cx} {Q : Exit → Act → World → Prop} {env : List (Nat × Value)} {mem : List (Nat × Obj)} {L l : List Oper} [Wide c.F]
  {tt : List (TypeId × TI)} {d : Nat} {ty : TypeId} {pos : String} {af : Array Edge} {g : Option (Nat × Bool)} {dd : Option Tmp}

theorem r_pure [TT P tt] {op : Op} {v : Value} (hw : wantB L env g = some true) (hv : pureEval tt env op = some v) (hd : Nat.blt d N = true) (k : RunL P N c L l Q ((d, v) :: env) mem) :
    RunL P N c L (⟨some d, op, ty, pos, af, g⟩ :: l) Q env mem := l_val hw hd (pureEval_ok hv) k

theorem wrap_i64 {n : Int} (h1 : -9223372036854775808 ≤ n) (h2 : n ≤ 9223372036854775807) : IntKind.i64.wrap n = n := by
  have e1 : (2 : Int) ^ 64 = 18446744073709551616 := by decide
  have e2 : (2 : Int) ^ (64 - 1) = 9223372036854775808 := by decide
  simp only [IntKind.wrap, IntKind.bits, IntKind.signed, Bool.true_and, e1, e2, decide_eq_true_eq, ge_iff_le]
  split <;> omega

theorem v_add {t t' : TypeId} {x y : Operand} {m n : Int} (hx : evOp env x = some (.int .i64 m)) (hy : evOp env y = some (.int .i64 n))
    (h1 : -9223372036854775808 ≤ m + n) (h2 : m + n ≤ 9223372036854775807) :
    OpVal P N c env mem ⟨dd, .binOp .add t x y t', ty, pos, af, g⟩ (.int .i64 (m + n)) :=
  ⟨rfl, fun a W ha _ => p_binInt (ha.eval hx) (ha.eval hy) (by simp [intBin, wrap_i64 h1 h2])⟩
theorem v_sub {t t' : TypeId} {x y : Operand} {m n : Int} (hx : evOp env x = some (.int .i64 m)) (hy : evOp env y = some (.int .i64 n))
    (h1 : -9223372036854775808 ≤ m - n) (h2 : m - n ≤ 9223372036854775807) :
    OpVal P N c env mem ⟨dd, .binOp .sub t x y t', ty, pos, af, g⟩ (.int .i64 (m - n)) :=
  ⟨rfl, fun a W ha _ => p_binInt (ha.eval hx) (ha.eval hy) (by simp [intBin, wrap_i64 h1 h2])⟩
theorem v_mul {t t' : TypeId} {x y : Operand} {m n : Int} (hx : evOp env x = some (.int .i64 m)) (hy : evOp env y = some (.int .i64 n))
    (h1 : -9223372036854775808 ≤ m * n) (h2 : m * n ≤ 9223372036854775807) :
    OpVal P N c env mem ⟨dd, .binOp .mul t x y t', ty, pos, af, g⟩ (.int .i64 (m * n)) :=
  ⟨rfl, fun a W ha _ => p_binInt (ha.eval hx) (ha.eval hy) (by simp [intBin, wrap_i64 h1 h2])⟩
theorem v_neg {t : TypeId} {x : Operand} {m : Int} (hx : evOp env x = some (.int .i64 m))
    (h1 : -9223372036854775808 ≤ -m) (h2 : -m ≤ 9223372036854775807) :
    OpVal P N c env mem ⟨dd, .unOp .neg t x, ty, pos, af, g⟩ (.int .i64 (-m)) :=
  ⟨rfl, fun a W ha _ => by
    simp only [execOp, ha.eval hx]
    show Result.ok (Next.value (.int .i64 (IntKind.i64.wrap (0 - m)))) W = _
    rw [wrap_i64 (by omega) (by omega), Int.zero_sub]⟩

theorem p_rem {t t' : TypeId} {x y : Operand} {m n : Int} {a : Act} {W : World} {kd : IntKind} (hx : a.eval x = .int kd m) (hy : a.eval y = .int kd n) (h0 : n ≠ 0) :
    (execOp a.eval ⟨dd, .binOp .rem t x y t', ty, pos, af, g⟩).run P W = .ok (.value (.int kd (m.tmod n))) W := by
  simp [execOp, hx, hy, eqGuard, binOp, Op.intDiv, h0, pure, bind, Sem.bind, Sem.run]
theorem p_quo {t t' : TypeId} {x y : Operand} {m n : Int} {a : Act} {W : World} {kd : IntKind} (hx : a.eval x = .int kd m) (hy : a.eval y = .int kd n) (h0 : n ≠ 0) :
    (execOp a.eval ⟨dd, .binOp .quo t x y t', ty, pos, af, g⟩).run P W = .ok (.value (.int kd (kd.wrap (m.tdiv n)))) W := by
  simp [execOp, hx, hy, eqGuard, binOp, Op.intDiv, h0, pure, bind, Sem.bind, Sem.run]

theorem v_rem {t t' : TypeId} {x y : Operand} {m n : Int} {kd : IntKind} (hx : evOp env x = some (.int kd m)) (hy : evOp env y = some (.int kd n))
    (h1 : 0 ≤ m) (h2 : 0 < n) :
    OpVal P N c env mem ⟨dd, .binOp .rem t x y t', ty, pos, af, g⟩ (.int kd (m % n)) :=
  ⟨rfl, fun a W ha _ => by rw [p_rem (ha.eval hx) (ha.eval hy) (by omega), Int.tmod_eq_emod_of_nonneg h1]⟩
theorem v_rem' {t t' : TypeId} {x y : Operand} {m n : Int} {kd : IntKind} (hx : evOp env x = some (.int kd m)) (hy : evOp env y = some (.int kd n))
    (h2 : n ≠ 0) :
    OpVal P N c env mem ⟨dd, .binOp .rem t x y t', ty, pos, af, g⟩ (.int kd (m.tmod n)) :=
  ⟨rfl, fun a W ha _ => p_rem (ha.eval hx) (ha.eval hy) h2⟩
theorem v_quo {t t' : TypeId} {x y : Operand} {m n : Int} (hx : evOp env x = some (.int .i64 m)) (hy : evOp env y = some (.int .i64 n))
    (h1 : 0 ≤ m) (h2 : 0 < n) (h3 : m ≤ 9223372036854775807) :
    OpVal P N c env mem ⟨dd, .binOp .quo t x y t', ty, pos, af, g⟩ (.int .i64 (m / n)) :=
  ⟨rfl, fun a W ha _ => by
    rw [p_quo (ha.eval hx) (ha.eval hy) (by omega), Int.tdiv_eq_ediv_of_nonneg h1, wrap_i64]
    · have := Int.ediv_nonneg h1 (Int.le_of_lt h2); omega
    · have := Int.ediv_le_self n h1; omega⟩
theorem v_quo' {t t' : TypeId} {x y : Operand} {m n : Int} {kd : IntKind} (hx : evOp env x = some (.int kd m)) (hy : evOp env y = some (.int kd n))
    (h2 : n ≠ 0) :
    OpVal P N c env mem ⟨dd, .binOp .quo t x y t', ty, pos, af, g⟩ (.int kd (kd.wrap (m.tdiv n))) :=
  ⟨rfl, fun a W ha _ => p_quo (ha.eval hx) (ha.eval hy) h2⟩

/-! ## New blocks -/
def cellsL : Value → List Value
  | .agg ⟨l⟩ => l
  | v => [v]
theorem cellsL_eq (v : Value) : v.cells = ⟨cellsL v⟩ := by cases v <;> rfl

theorem r_box {e : TypeId} {x : Operand} {v : Value} {cs : List Value} (hw : wantB L env g = some true) (hd : Nat.blt d N = true) (hx : evOp env x = some v) (hc : cellsL v = cs)
    (k : ∀ b, RunL P N c L l Q ((d, .pointer (some ⟨b, 0, none⟩)) :: env) ((b, .cells ⟨cs⟩ e (0, 0)) :: mem)) :
    RunL P N c L (⟨some d, .box e x, ty, pos, af, g⟩ :: l) Q env mem := by
  subst hc
  refine l_eff (ι := Nat) (v := fun b => .pointer (some ⟨b, 0, none⟩)) (mem' := fun b => (b, .cells ⟨cellsL v⟩ e (0, 0)) :: mem) hw hd ⟨rfl, fun a W ha hm => ?_⟩ k
  refine ⟨W.heap.size, _, ?_, hm.alloc _⟩
  simp only [execOp, ha.eval hx]
  show Result.ok _ (W.alloc (.cells v.cells e (0, 0))) = _
  rw [cellsL_eq]

theorem r_alloc [T : TT P tt] {e : TypeId} {kd : TK} {sz bt : Nat} {z : Value} {cs : List Value} (hw : wantB L env g = some true) (hd : Nat.blt d N = true) (ht : look tt e = some ⟨kd, sz, bt, z⟩) (hc : cellsL z = cs)
    (k : ∀ b, RunL P N c L l Q ((d, .pointer (some ⟨b, 0, none⟩)) :: env) ((b, .cells ⟨cs⟩ e (0, 0)) :: mem)) :
    RunL P N c L (⟨some d, .alloc e, ty, pos, af, g⟩ :: l) Q env mem := by
  subst hc
  obtain ⟨_, i, hi, _, _, hz⟩ := TT.look (P := P) ht
  refine l_eff (ι := Nat) (v := fun b => .pointer (some ⟨b, 0, none⟩)) (mem' := fun b => (b, .cells ⟨cellsL z⟩ e (0, 0)) :: mem) hw hd ⟨rfl, fun a W ha hm => ?_⟩ k
  refine ⟨W.heap.size, _, ?_, hm.alloc _⟩
  have hz2 : (zeroValue e).run P W = .ok z W := by
    simp only [zeroValue, Sem.run_bind, run_info hi, Result.andThen_ok, hz]; rfl
  simp only [execOp, Instr.alloc, Sem.run_bind, hz2, Result.andThen_ok]
  show Result.ok _ (W.alloc (.cells z.cells e (0, 0))) = _
  rw [cellsL_eq]


/-! ## Loads -/
/-- Cells of memory that came in and that nobody writes. -/
structure Ext (w0 : World) (D : Nat → Prop) (b o : Nat) (cs : List Value) : Prop where
  dom : D b
  cell : ∀ i v, cs[i]? = some v → w0.cell? ⟨b, o + i, none⟩ = some v

theorem load_of {t b o f sz bt : Nat} {kd : TK} {z v : Value} {cs : List Value} {W : World} (ht : TIOk P t ⟨kd, sz, bt, z⟩)
    (h : ∀ i v, cs[i]? = some v → W.cell? ⟨b, o + i, none⟩ = some v) (hv : aggV kd.isAgg sz cs f = some v) : (loadVar t ⟨b, o + f, none⟩).run P W = .ok v W := by
  obtain ⟨h1, i, hi, hs, _⟩ := ht
  simp only [loadVar, Sem.run_bind, run_isAgg h1, Result.andThen_ok]
  unfold aggV at hv
  cases hk : kd.isAgg with
  | true =>
    rw [hk] at hv
    obtain ⟨h5, h6⟩ := cutK_eq hv
    simp only [Option.some.injEq] at h6
    subst h6
    simp only [if_true, Sem.run_bind, run_size hi, Result.andThen_ok]
    have hl : ((cs.drop f).take sz).length = i.size := by rw [hs]; simp only at hs ⊢; simp; omega
    have := run_loadCells_list (P := P) W ⟨b, o + f, none⟩ ((cs.drop f).take sz) (fun j u hj => by
      have hj2 : cs[f + j]? = some u := by
        rw [List.getElem?_take] at hj
        split at hj
        · rwa [List.getElem?_drop] at hj
        · cases hj
      have h7 := h _ _ hj2
      rw [show o + (f + j) = o + f + j by omega] at h7
      unfold Addr.add
      split
      · rename_i e; subst e; exact h7
      · exact h7)
    rw [hl] at this
    simp only [this, Result.andThen_ok]; rfl
  | false =>
    rw [hk] at hv
    simp only [nth_eq] at hv
    have h7 := h _ _ hv
    simp [load, Sem.run, h7]

theorem p_load {t : TypeId} {x : Operand} {a : Act} {W : World} {ad : Addr} {v : Value} {dd : Option Tmp} (hx : a.eval x = .pointer (some ad)) (h : (loadVar t ad).run P W = .ok v W) :
    (execOp a.eval ⟨dd, .load t x, ty, pos, af, g⟩).run P W = .ok (.value v) W := by
  simp only [execOp, hx, Instr.loadAt, Instr.sureAddr, Sem.run_bind]
  show (((loadVar t ad).run P W).andThen _) = _
  rw [h]; rfl

theorem SatW.cellAt {w0 : World} {D : Nat → Prop} {J : (Nat → Prop) → World → Prop} {mem : List (Nat × Obj)} {W : World} (h : SatW w0 D J mem W) {b : Nat} {l : List Value} {T : TypeId} {fr : Nat × Nat} (hb : (b, Obj.cells ⟨l⟩ T fr) ∈ mem) (i : Nat) :
    W.cell? ⟨b, i, none⟩ = l[i]? := by
  have := (h.own _ hb).2
  simp only at this
  simp [World.cell?, this]

theorem v_load [T : TT P tt] {t b o sz bt : Nat} {x : Operand} {kd : TK} {z v : Value} {cs : List Value} {T' : TypeId} {fr : Nat × Nat}
    (hx : evOp env x = some (.pointer (some ⟨b, o, none⟩))) (hm : (b, Obj.cells ⟨cs⟩ T' fr) ∈ mem) (ht : look tt t = some ⟨kd, sz, bt, z⟩) (hv : aggV kd.isAgg sz cs o = some v) :
    OpVal P N c env mem ⟨dd, .load t x, ty, pos, af, g⟩ (v) :=
  ⟨rfl, fun a W ha hmw => by
    refine p_load (ha.eval hx) ?_
    have := load_of (P := P) (o := 0) (W := W) (b := b) (TT.look ht) (fun i v hi => by rw [hmw.cellAt hm, Nat.zero_add]; exact hi) hv
    rwa [Nat.zero_add] at this⟩

theorem v_load_ext0 [T : TT P tt] {t b o sz bt : Nat} {x : Operand} {kd : TK} {z v : Value} {cs : List Value}
    (hx : evOp env x = some (.pointer (some ⟨b, o, none⟩))) (hm : Ext c.w0 c.D b o cs) (ht : look tt t = some ⟨kd, sz, bt, z⟩) (hv : aggV kd.isAgg sz cs 0 = some v) :
    OpVal P N c env mem ⟨dd, .load t x, ty, pos, af, g⟩ (v) :=
  ⟨rfl, fun a W ha hmw => by
    refine p_load (ha.eval hx) ?_
    exact load_of (P := P) (f := 0) (TT.look ht) (fun i v hi => hmw.same.cell (hm.cell i v hi) hm.dom) hv⟩

theorem v_load_ext [T : TT P tt] {t b o f sz bt : Nat} {x : Operand} {kd : TK} {z v : Value} {cs : List Value}
    (hx : evOp env x = some (.pointer (some ⟨b, o + f, none⟩))) (hm : Ext c.w0 c.D b o cs) (ht : look tt t = some ⟨kd, sz, bt, z⟩) (hv : aggV kd.isAgg sz cs f = some v) :
    OpVal P N c env mem ⟨dd, .load t x, ty, pos, af, g⟩ (v) :=
  ⟨rfl, fun a W ha hmw => by
    refine p_load (ha.eval hx) ?_
    exact load_of (P := P) (f := f) (TT.look ht) (fun i v hi => hmw.same.cell (hm.cell i v hi) hm.dom) hv⟩

/-- one cell of a block of which a list is known -/
theorem v_load_at [T : TT P tt] {t b o sz bt : Nat} {x : Operand} {kd : TK} {z v : Value} {cs : List Value} {T' : TypeId} {fr : Nat × Nat}
    (hx : evOp env x = some (.pointer (some ⟨b, o, none⟩))) (hm : (b, Obj.cells ⟨cs⟩ T' fr) ∈ mem) (ht : look tt t = some ⟨kd, sz, bt, z⟩) (hk : kd.isAgg = false) (hv : cs[o]? = some v) :
    OpVal P N c env mem ⟨dd, .load t x, ty, pos, af, g⟩ (v) :=
  v_load hx hm ht (by rw [hk]; simp only [aggV, nth_eq]; exact hv)

/-! ## Stores -/
def putK {β : Type} : List Value → Nat → List Value → (List Value → Option β) → Option β
  | l, 0, [], k => k l
  | _ :: l, 0, v :: vs, k => putK l 0 vs fun r => k (v :: r)
  | x :: l, o + 1, vs, k => putK l o vs fun r => k (x :: r)
  | _, _, _, _ => none

theorem putK_eq {β : Type} {l : List Value} {o : Nat} {vs : List Value} {k : List Value → Option β} {r : β} (h : putK l o vs k = some r) :
    o + vs.length ≤ l.length ∧ k (l.take o ++ vs ++ l.drop (o + vs.length)) = some r := by
  induction l generalizing o vs k with
  | nil => cases o <;> cases vs <;> simp_all [putK]
  | cons x l ih =>
    cases o with
    | zero =>
      cases vs with
      | nil => simpa [putK] using h
      | cons v vs =>
        simp only [putK] at h
        have := ih h
        simp only [Nat.zero_add, List.take_zero, List.nil_append, List.length_cons, List.cons_append, List.drop_succ_cons] at this ⊢
        exact ⟨by omega, this.2⟩
    | succ o =>
      simp only [putK] at h
      have := ih h
      simp only [List.length_cons, List.take_succ_cons, List.cons_append, show o + 1 + vs.length = o + vs.length + 1 by omega, List.drop_succ_cons]
      exact ⟨by omega, this.2⟩

def one : Value → Bool
  | .agg _ => false
  | .tuple _ => false
  | _ => true
def allOne : List Value → Bool
  | [] => true
  | v :: vs => bif one v then allOne vs else false
theorem allOne_mem {l : List Value} (h : allOne l = true) : ∀ v ∈ l, v.oneCell' = true := by
  induction l with
  | nil => intro v hv; cases hv
  | cons x l ih =>
    simp only [allOne] at h
    cases hx : one x with
    | false => rw [hx] at h; cases h
    | true =>
      rw [hx] at h
      intro v hv
      rcases List.mem_cons.1 hv with rfl | hv
      · cases v <;> first | rfl | cases hx
      · exact ih h v hv

theorem setRow_same (W : World) (b : Nat) (r : Array Value) : Same (fun k => k ≠ b) W (W.setRow b r) := by
  refine ⟨rfl, rfl, rfl, by simp [World.setRow], fun k _ hne => ?_⟩
  simp only [World.setRow]
  rw [Array.getElem?_modify, if_neg (Ne.symm hne)]

theorem p_store {t b o : Nat} {T' : TypeId} {x y : Operand} {a : Act} {W : World} {cs : List Value} {v : Value} {dd : Option Tmp} {i : TypeInfo} (hx : a.eval x = .pointer (some ⟨b, o, none⟩)) (hy : a.eval y = v)
    (hi : P.info? t = some i) (hs : (cellsL v).length = i.size) (h1 : ∀ u ∈ cellsL v, u.oneCell' = true) (hb : W.heap[b]? = some (.cells ⟨cs⟩ T' (0, 0))) (hl : o + (cellsL v).length ≤ cs.length) :
    (execOp a.eval ⟨dd, .store t x y, ty, pos, af, g⟩).run P W = .ok .skip (W.setRow b (cs.take o ++ cellsL v ++ cs.drop (o + (cellsL v).length)).toArray) := by
  simp only [execOp, hx, hy, Instr.storeAt, Instr.sureAddr, Sem.run_bind]
  show ((((storeVar t ⟨b, o, none⟩ v)).run P W).andThen _) = _
  have : (storeVar t ⟨b, o, none⟩ v).run P W = .ok () (W.setRow b (cs.take o ++ cellsL v ++ cs.drop (o + (cellsL v).length)).toArray) := by
    simp only [storeVar, Sem.run_bind, run_size hi, Result.andThen_ok, cellsL_eq]
    have hsz : ¬ (⟨cellsL v⟩ : Array Value).size ≠ i.size := by show ¬ (cellsL v).length ≠ i.size; omega
    rw [if_neg hsz]
    have := run_storeCells_at (P := P) b o T' (cellsL v) 0 ⟨cs⟩ W hb (by simpa using hl) h1
    simpa using this
  rw [this]; rfl

theorem SatW.put {w0 : World} {D : Nat → Prop} {J : (Nat → Prop) → World → Prop} {mem mem' : List (Nat × Obj)} {W : World} (h : SatW w0 D J mem W) {b : Nat} {cs cs' : List Value} {T' : TypeId}
    (hu : Upd mem b (.cells ⟨cs⟩ T' (0, 0)) (.cells ⟨cs'⟩ T' (0, 0)) mem') : SatW w0 D J mem' (W.setRow b cs'.toArray) := by
  have hb := (h.own _ hu.isIn).2
  refine h.upd hu (setRow_same _ _ _) ?_
  exact setRow_heap W b ⟨cs⟩ cs'.toArray T' _ hb

theorem d_store [T : TT P tt] {t b o sz bt : Nat} {x y : Operand} {kd : TK} {z v : Value} {cs cs' vs : List Value} {T' : TypeId} {mem' : List (Nat × Obj)}
    (hx : evOp env x = some (.pointer (some ⟨b, o, none⟩))) (hy : evOp env y = some v) (hvs : cellsL v = vs) (ht : look tt t = some ⟨kd, sz, bt, z⟩) (hs : Nat.beq vs.length sz = true) (h1 : allOne vs = true)
    (hu : Upd mem b (.cells ⟨cs⟩ T' (0, 0)) (.cells ⟨cs'⟩ T' (0, 0)) mem') (hp : putK cs o vs some = some cs') : OpDo P N c env mem ⟨dd, .store t x y, ty, pos, af, g⟩ mem' := by
  subst hvs
  obtain ⟨i, hi, hsz⟩ := (TT.look (P := P) ht).size
  obtain ⟨h2, h3⟩ := putK_eq hp
  simp only [Option.some.injEq] at h3
  refine ⟨rfl, fun a W ha hm => ⟨_, p_store (ha.eval hx) (ha.eval hy) hi (by rw [hsz]; exact Nat.eq_of_beq_eq_true hs) (allOne_mem h1) (hm.own _ hu.isIn).2 h2, ?_⟩⟩
  rw [h3]
  exact hm.put hu

theorem r_store [T : TT P tt] {t b o sz bt : Nat} {x y : Operand} {kd : TK} {z v : Value} {cs cs' vs : List Value} {T' : TypeId} {mem' : List (Nat × Obj)} (hw : wantB L env g = some true)
    (hx : evOp env x = some (.pointer (some ⟨b, o, none⟩))) (hy : evOp env y = some v) (hvs : cellsL v = vs) (ht : look tt t = some ⟨kd, sz, bt, z⟩) (hs : Nat.beq vs.length sz = true) (h1 : allOne vs = true)
    (hu : Upd mem b (.cells ⟨cs⟩ T' (0, 0)) (.cells ⟨cs'⟩ T' (0, 0)) mem') (hp : putK cs o vs some = some cs') (k : RunL P N c L l Q env mem') : RunL P N c L (⟨none, .store t x y, ty, pos, af, g⟩ :: l) Q env mem :=
  l_do hw (d_store hx hy hvs ht hs h1 hu hp) k

theorem set_eq_splice {l : List Value} {o : Nat} {v : Value} (h : o < l.length) : l.take o ++ [v] ++ l.drop (o + 1) = l.set o v := by
  rw [List.set_eq_take_append_cons_drop, if_pos h]; simp

/-- one cell, at a place that is an expression -/
theorem d_store_at [T : TT P tt] {t b o sz bt : Nat} {x y : Operand} {kd : TK} {z v : Value} {cs cs' : List Value} {T' : TypeId} {mem' : List (Nat × Obj)}
    (hx : evOp env x = some (.pointer (some ⟨b, o, none⟩))) (hy : evOp env y = some v) (h1 : one v = true) (ht : look tt t = some ⟨kd, sz, bt, z⟩) (hs : Nat.beq 1 sz = true)
    (hu : Upd mem b (.cells ⟨cs⟩ T' (0, 0)) (.cells ⟨cs'⟩ T' (0, 0)) mem') (ho : o < cs.length) (hp : cs.set o v = cs') : OpDo P N c env mem ⟨dd, .store t x y, ty, pos, af, g⟩ mem' := by
  subst hp
  obtain ⟨i, hi, hsz⟩ := (TT.look (P := P) ht).size
  have hcv : cellsL v = [v] := by cases v <;> first | rfl | cases h1
  refine ⟨rfl, fun a W ha hm => ⟨_, p_store (ha.eval hx) (ha.eval hy) hi (by rw [hsz, hcv]; exact Nat.eq_of_beq_eq_true hs) (by rw [hcv]; exact allOne_mem (by simp [allOne, h1])) (hm.own _ hu.isIn).2 (by rw [hcv]; exact ho), ?_⟩⟩
  rw [hcv]
  show SatW _ _ _ _ (W.setRow b (cs.take o ++ [v] ++ cs.drop (o + 1)).toArray)
  rw [set_eq_splice ho]
  exact hm.put hu

theorem r_store_at [T : TT P tt] {t b o sz bt : Nat} {x y : Operand} {kd : TK} {z v : Value} {cs cs' : List Value} {T' : TypeId} {mem' : List (Nat × Obj)} (hw : wantB L env g = some true)
    (hx : evOp env x = some (.pointer (some ⟨b, o, none⟩))) (hy : evOp env y = some v) (h1 : one v = true) (ht : look tt t = some ⟨kd, sz, bt, z⟩) (hs : Nat.beq 1 sz = true)
    (hu : Upd mem b (.cells ⟨cs⟩ T' (0, 0)) (.cells ⟨cs'⟩ T' (0, 0)) mem') (ho : o < cs.length) (hp : cs.set o v = cs') (k : RunL P N c L l Q env mem') : RunL P N c L (⟨none, .store t x y, ty, pos, af, g⟩ :: l) Q env mem :=
  l_do hw (d_store_at hx hy h1 ht hs hu ho hp) k

end
end Kin
end Go

set_option linter.unusedSectionVars false
set_option linter.unusedVariables false
set_option linter.unusedSimpArgs false
namespace Go
open Go.RowKit
namespace Kin
section
variable {P : Program} {N : Nat} {c : Cx} {Q : Exit → Act → World → Prop} {env : List (Nat × Value)} {mem : List (Nat × Obj)} {L l : List Oper} [Wide c.F]
  {tt : List (TypeId × TI)} {d : Nat} {ty : TypeId} {pos : String} {af : Array Edge} {g : Option (Nat × Bool)} {dd : Option Tmp}

/-! ## Indexing -/
theorem addr_add (b o n : Nat) : (⟨b, o, none⟩ : Addr).add n = ⟨b, o + n, none⟩ := by
  unfold Addr.add; split
  · rename_i h; subst h; rfl
  · rfl

theorem p_indexSlice {t e sz b o len cap : Nat} {x ix : Operand} {a : Act} {W : World} {kd : IntKind} {i : Int} {ti : TypeInfo} (hu : P.underlying t = some (.slice e)) (hi : P.info? e = some ti) (hs : ti.size = sz)
    (hx : a.eval x = .slice (some ⟨b, o, none⟩) len cap) (hix : a.eval ix = .int kd i) (h1 : 0 ≤ i) (h2 : i < len) :
    (execOp a.eval ⟨dd, .indexAddr t x ix, ty, pos, af, g⟩).run P W = .ok (.value (.pointer (some ⟨b, o + i.toNat * sz, none⟩))) W := by
  subst hs
  simp [execOp, hx, hix, Instr.indexAt, asIntOf, Sem.run_bind, run_und hu, run_size hi, h1, h2, addr_add]

theorem p_indexArray {t n e sz b o : Nat} {x ix : Operand} {a : Act} {W : World} {kd : IntKind} {i : Int} {ti : TypeInfo} (hu : P.underlying t = some (.array n e)) (hi : P.info? e = some ti) (hs : ti.size = sz)
    (hx : a.eval x = .pointer (some ⟨b, o, none⟩)) (hix : a.eval ix = .int kd i) (h1 : 0 ≤ i) (h2 : i < n) :
    (execOp a.eval ⟨dd, .indexAddr t x ix, ty, pos, af, g⟩).run P W = .ok (.value (.pointer (some ⟨b, o + i.toNat * sz, none⟩))) W := by
  subst hs
  simp [execOp, hx, hix, Instr.indexAt, Instr.sureAddr, asIntOf, Sem.run_bind, run_und hu, run_size hi, h1, h2, addr_add]

theorem v_index [T : TT P tt] {t e b o len cap off sz bt sz' bt' : Nat} {x ix : Operand} {kd : IntKind} {i : Int} {z z' : Value} {ke : TK} (hx : evOp env x = some (.slice (some ⟨b, o, none⟩) len cap)) (hix : evOp env ix = some (.int kd i))
    (ht : look tt t = some ⟨.slice e, sz', bt', z'⟩) (hte : look tt e = some ⟨ke, sz, bt, z⟩) (h1 : 0 ≤ i) (h2 : i < len) (ho : o + i.toNat * sz = off) :
    OpVal P N c env mem ⟨dd, .indexAddr t x ix, ty, pos, af, g⟩ (.pointer (some ⟨b, off, none⟩)) := ⟨rfl, fun a W ha _ => by
  obtain ⟨_, hi, h3⟩ := (TT.look (P := P) hte).size
  rw [p_indexSlice (TT.look (P := P) ht).1 hi h3 (ha.eval hx) (ha.eval hix) h1 h2, ho]⟩

theorem v_indexA [T : TT P tt] {t n e b o off sz bt sz' bt' : Nat} {x ix : Operand} {kd : IntKind} {i : Int} {z z' : Value} {ke : TK} (hx : evOp env x = some (.pointer (some ⟨b, o, none⟩))) (hix : evOp env ix = some (.int kd i))
    (ht : look tt t = some ⟨.array n e, sz', bt', z'⟩) (hte : look tt e = some ⟨ke, sz, bt, z⟩) (h1 : 0 ≤ i) (h2 : i < n) (ho : o + i.toNat * sz = off) :
    OpVal P N c env mem ⟨dd, .indexAddr t x ix, ty, pos, af, g⟩ (.pointer (some ⟨b, off, none⟩)) := ⟨rfl, fun a W ha _ => by
  obtain ⟨_, hi, h3⟩ := (TT.look (P := P) hte).size
  rw [p_indexArray (TT.look (P := P) ht).1 hi h3 (ha.eval hx) (ha.eval hix) h1 h2, ho]⟩

theorem idx1 (k : Nat) : 0 + ((k : Nat) : Int).toNat * 1 = k := by omega
theorem idx2 (o k : Nat) : o + ((k : Nat) : Int).toNat * 1 = o + k := by omega
theorem idx3 (k s : Nat) : 0 + ((k : Nat) : Int).toNat * s = k * s := by rw [Int.toNat_natCast, Nat.zero_add]
theorem idx4 (o k s : Nat) : o + ((k : Nat) : Int).toNat * s = o + k * s := by rw [Int.toNat_natCast]
theorem idx5 (i : Int) : 0 + i.toNat * 1 = i.toNat := by omega
theorem idx6 (o : Nat) (i : Int) : o + i.toNat * 1 = o + i.toNat := by omega
theorem idx7 (i : Int) (s : Nat) : 0 + i.toNat * s = i.toNat * s := by omega
theorem idx8 (o : Nat) (i : Int) (s : Nat) : o + i.toNat * s = o + i.toNat * s := rfl

/-! ## Calls -/
theorem p_call {f : FuncId} [E : Ent P f] {args : List Operand} {ats : Array TypeId} {a : Act} {W : World} :
    (execOp a.eval ⟨dd, .call ⟨.value (.func f), ⟨args⟩, ats⟩, ty, pos, af, g⟩).run P W = .ok (.enter f ⟨args.map a.eval⟩) W := by
  simp only [execOp, resolve, Act.eval, Deferred.ofValue, Sem.run_bind]
  show (((invoke (.fn (.func f) #[]) (#[] ++ (⟨args⟩ : Array Operand).map a.eval)).run P W)) = _
  simp only [invoke]
  rw [E.ok]
  simp

theorem p_callv {f : FuncId} [E : Ent P f] {x : Operand} {args : List Operand} {ats : Array TypeId} {a : Act} {W : World} {fs cs : List Value} (hx : a.eval x = .func (.func f) ⟨fs⟩ ⟨cs⟩) :
    (execOp a.eval ⟨dd, .call ⟨.value x, ⟨args⟩, ats⟩, ty, pos, af, g⟩).run P W = .ok (.enter f ⟨fs ++ args.map a.eval ++ cs⟩) W := by
  simp only [execOp, resolve, hx, Deferred.ofValue, Sem.run_bind]
  show (((invoke (.fn (.func f) ⟨cs⟩) (⟨fs⟩ ++ (⟨args⟩ : Array Operand).map a.eval)).run P W)) = _
  simp only [invoke]
  rw [E.ok]
  simp

theorem calls_upon {f : FuncId} {vs : Array Value} {a : Act} {W : World} {next : Act → World → Prop} {o : Oper} {ι : Type} {v : ι → Value} {mem' : ι → List (Nat × Obj)}
    (hc : Calls P f vs W fun e W' => ∃ i, e = .returned (v i) ∧ SatW c.w0 c.D c.J (mem' i) W') (hn : ∀ i W', SatW c.w0 c.D c.J (mem' i) W' → next (a.put o.dst (v i)) W') :
    o.uponIn c.F c.n P a next Q (.ok (.enter f vs) W) := by
  refine ⟨Wide.depth c.F c.n, (Wide.calls (F := c.F) hc).mono ?_⟩
  rintro e W' ⟨i, rfl, hW⟩
  exact hn i W' hW

theorem l_call {f : FuncId} [Ent P f] {args : List Operand} {ats : Array TypeId} {vs : List Value} {ι : Type} {v : ι → Value} {mem' : ι → List (Nat × Obj)} (hw : wantB L env g = some true) (hd : Nat.blt d N = true) (ha : evOps env args some = some vs)
    (hc : ∀ W, SatW c.w0 c.D c.J mem W → Calls P f ⟨vs⟩ W fun e W' => ∃ i, e = .returned (v i) ∧ SatW c.w0 c.D c.J (mem' i) W')
    (k : ∀ i, RunL P N c L l Q ((d, v i) :: env) (mem' i)) : RunL P N c L (⟨some d, .call ⟨.value (.func f), ⟨args⟩, ats⟩, ty, pos, af, g⟩ :: l) Q env mem :=
  l_run hw fun a W hA hm => by
    have h1 := hA.evals ha
    simp only [Option.some.injEq] at h1
    rw [semAt_plain _ rfl, p_call, h1]
    exact calls_upon (hc W hm) fun i W' hW => (k i).run _ _ (hA.put hd _) hW

theorem l_callv {f : FuncId} [Ent P f] {x : Operand} {args : List Operand} {ats : Array TypeId} {vs fs cs ws : List Value} {ι : Type} {v : ι → Value} {mem' : ι → List (Nat × Obj)} (hw : wantB L env g = some true) (hd : Nat.blt d N = true)
    (hx : evOp env x = some (.func (.func f) ⟨fs⟩ ⟨cs⟩)) (ha : evOps env args some = some vs) (hws : fs ++ vs ++ cs = ws)
    (hc : ∀ W, SatW c.w0 c.D c.J mem W → Calls P f ⟨ws⟩ W fun e W' => ∃ i, e = .returned (v i) ∧ SatW c.w0 c.D c.J (mem' i) W')
    (k : ∀ i, RunL P N c L l Q ((d, v i) :: env) (mem' i)) : RunL P N c L (⟨some d, .call ⟨.value x, ⟨args⟩, ats⟩, ty, pos, af, g⟩ :: l) Q env mem :=
  l_run hw fun a W hA hm => by
    subst hws
    have h1 := hA.evals ha
    simp only [Option.some.injEq] at h1
    rw [semAt_plain _ rfl, p_callv (hA.eval hx), h1]
    exact calls_upon (hc W hm) fun i W' hW => (k i).run _ _ (hA.put hd _) hW

/-- a call that leaves all that lay as it lay -/
theorem r_call {f : FuncId} [Ent P f] {args : List Operand} {ats : Array TypeId} {vs : List Value} {v : Value} (hw : wantB L env g = some true) (hd : Nat.blt d N = true) (ha : evOps env args some = some vs)
    (hc : ∀ W, SatW c.w0 c.D c.J mem W → Calls P f ⟨vs⟩ W fun e W' => e = .returned v ∧ Below W.heap.size W W')
    (k : RunL P N c L l Q ((d, v) :: env) mem) : RunL P N c L (⟨some d, .call ⟨.value (.func f), ⟨args⟩, ats⟩, ty, pos, af, g⟩ :: l) Q env mem :=
  l_call (ι := Unit) (v := fun _ => v) (mem' := fun _ => mem) hw hd ha (fun W hm => (hc W hm).mono fun _ _ ⟨h1, h2⟩ => ⟨(), h1, hm.later h2⟩) fun _ => k

theorem r_callv {f : FuncId} [Ent P f] {x : Operand} {args : List Operand} {ats : Array TypeId} {vs fs cs ws : List Value} {v : Value} (hw : wantB L env g = some true) (hd : Nat.blt d N = true)
    (hx : evOp env x = some (.func (.func f) ⟨fs⟩ ⟨cs⟩)) (ha : evOps env args some = some vs) (hws : fs ++ vs ++ cs = ws)
    (hc : ∀ W, SatW c.w0 c.D c.J mem W → Calls P f ⟨ws⟩ W fun e W' => e = .returned v ∧ Below W.heap.size W W')
    (k : RunL P N c L l Q ((d, v) :: env) mem) : RunL P N c L (⟨some d, .call ⟨.value x, ⟨args⟩, ats⟩, ty, pos, af, g⟩ :: l) Q env mem :=
  l_callv (ι := Unit) (v := fun _ => v) (mem' := fun _ => mem) hw hd hx ha hws (fun W hm => (hc W hm).mono fun _ _ ⟨h1, h2⟩ => ⟨(), h1, hm.later h2⟩) fun _ => k

/-- a call that hands back memory of its own: one block -/
theorem r_call1 {f : FuncId} [Ent P f] {args : List Operand} {ats : Array TypeId} {vs : List Value} {ι : Type} {v : ι → Value} {bk : ι → Nat} {o : ι → Obj} (hw : wantB L env g = some true) (hd : Nat.blt d N = true) (ha : evOps env args some = some vs)
    (hc : ∀ W, SatW c.w0 c.D c.J mem W → Calls P f ⟨vs⟩ W fun e W' => ∃ i, e = .returned (v i) ∧ Below W.heap.size W W' ∧ W.heap.size ≤ bk i ∧ W'.heap[bk i]? = some (o i))
    (k : ∀ i, RunL P N c L l Q ((d, v i) :: env) ((bk i, o i) :: mem)) : RunL P N c L (⟨some d, .call ⟨.value (.func f), ⟨args⟩, ats⟩, ty, pos, af, g⟩ :: l) Q env mem :=
  l_call (ι := ι) (v := v) (mem' := fun i => (bk i, o i) :: mem) hw hd ha (fun W hm => (hc W hm).mono fun _ W' ⟨i, h1, h2, h3, h4⟩ => ⟨i, h1, by
    have hm2 := hm.later h2
    refine ⟨hm2.same, hm2.dom, ?_, ?_, hm.closed, hm.closed _ _ _ _ hm.word (Same.of_below_all h2) fun b hb => ?_⟩
    · simp only [List.map_cons, List.nodup_cons]
      refine ⟨fun hmm => ?_, hm2.nodup⟩
      obtain ⟨p, hp, e⟩ := List.mem_map.1 hmm
      have := hm.lt hp
      omega
    · intro p hp
      rcases List.mem_cons.1 hp with rfl | hp
      · exact ⟨fun hdd => by have := hm.dom _ hdd; have := hm.same.size; simp only at *; omega, h4⟩
      · exact hm2.own p hp
    · simp only [keys, List.map_cons, List.mem_cons] at hb
      rcases hb with rfl | hb
      · exact .inr h3
      · exact .inl hb⟩) k

/-! ## Loops -/
inductive EnvSub (env : List (Nat × Value)) : List (Nat × Value) → Prop
  | nil : EnvSub env []
  | cons {s : Nat} {v v' : Value} {env' : List (Nat × Value)} (h : look env s = some v') (e : v' = v) (t : EnvSub env env') : EnvSub env ((s, v) :: env')

theorem EnvSub.sat {ds : List Deferred} {env' : List (Nat × Value)} (h : EnvSub env env') {a : Act} (ha : SatA N ds env a) : SatA N ds env' a := by
  refine ⟨ha.size, ha.defers, ?_⟩
  induction h with
  | nil => intro s v hs; cases hs
  | cons h e _ ih =>
    intro s v hs
    rw [look_cons] at hs
    split at hs
    · rename_i e2; subst e2; cases hs; subst e; exact ha.env _ _ h
    · exact ih s v hs

inductive MSub : List (Nat × Obj) → List (Nat × Obj) → Prop
  | nil {m : List (Nat × Obj)} : MSub m []
  | keep {b : Nat} {o o' : Obj} {m m' : List (Nat × Obj)} (e : o = o') (t : MSub m m') : MSub ((b, o) :: m) ((b, o') :: m')
  | drop {x : Nat × Obj} {m m' : List (Nat × Obj)} (t : MSub m m') : MSub (x :: m) m'

theorem MSub.sub {m m' : List (Nat × Obj)} (h : MSub m m') : List.Sublist m' m := by
  induction h with
  | nil => exact List.nil_sublist _
  | keep e _ ih => subst e; exact ih.cons_cons _
  | drop _ ih => exact ih.cons _

/-- Back at a loop's head, lower. -/
structure Back (N : Nat) (c : Cx) {ι : Type} (I : ι → Prop) (E : ι → List (Nat × Value)) (M : ι → List (Nat × Obj)) (μ : ι → Nat) (i : ι) (a : Act) (W : World) : Prop where
  ex : ∃ j, I j ∧ μ j < μ i ∧ SatA N c.ds (E j) a ∧ SatW c.w0 c.D c.J (M j) W

theorem least {p : Nat → Prop} (h : ∃ n, p n) : ∃ n, p n ∧ ∀ m, p m → n ≤ m := by
  obtain ⟨n, hn⟩ := h
  induction n using Nat.strongRecOn with
  | _ n ih =>
    by_cases h2 : ∃ m, m < n ∧ p m
    · obtain ⟨m, h3, h4⟩ := h2; exact ih m h3 h4
    · exact ⟨n, hn, fun m hm => Nat.le_of_not_lt fun hlt => h2 ⟨m, hlt, hm⟩⟩

theorem c_loop {body : Code} {ι : Type} (I : ι → Prop) (E : ι → List (Nat × Value)) (M : ι → List (Nat × Obj)) (μ : ι → Nat) (i0 : ι) (h0 : I i0) (hE : EnvSub env (E i0)) (hM : MSub mem (M i0))
    (round : ∀ i, I i → RunC P N c body (Exit.then (Back N c I E M μ i) Q) (E i) (M i)) : RunC P N c (.loop body) Q env mem := .mk fun a W ha hm => by
  classical
  let p : Act → World → Nat → Prop := fun a W n => ∃ j, I j ∧ μ j = n ∧ SatA N c.ds (E j) a ∧ SatW c.w0 c.D c.J (M j) W
  let ν : Act → World → Nat := fun a W => if h : ∃ n, p a W n then Classical.choose (least h) else 0
  have hν : ∀ a W, (h : ∃ n, p a W n) → p a W (ν a W) ∧ ∀ m, p a W m → ν a W ≤ m := fun a W h => by
    show p a W (if h : ∃ n, p a W n then Classical.choose (least h) else 0) ∧ ∀ m, p a W m → (if h : ∃ n, p a W n then Classical.choose (least h) else 0) ≤ m
    rw [dif_pos h]; exact Classical.choose_spec (least h)
  refine wpIn_loop (fun a W => ∃ n, p a W n) ν ⟨_, i0, h0, rfl, hE.sat ha, hm.mono hM.sub⟩ ?_
  intro a W hp
  obtain ⟨⟨j, h1, h2, h3, h4⟩, _⟩ := hν a W hp
  refine wpIn_mono ((round j h1).run a W h3 h4) ?_
  rintro e a' W' hq
  cases e with
  | normal =>
    obtain ⟨j', k1, k2, k3, k4⟩ := hq.ex
    have hp' : ∃ n, p a' W' n := ⟨_, j', k1, rfl, k3, k4⟩
    exact ⟨hp', by have := (hν a' W' hp').2 _ ⟨j', k1, rfl, k3, k4⟩; omega⟩
  | _ => exact hq

theorem x_back {ι : Type} {I : ι → Prop} {E : ι → List (Nat × Value)} {M : ι → List (Nat × Obj)} {μ : ι → Nat} {i : ι} {Q' : Exit → Act → World → Prop} (j : ι) (hI : I j) (hμ : μ j < μ i) (hE : EnvSub env (E j)) (hM : MSub mem (M j)) :
    RunX N c (Exit.then (Back N c I E M μ i) Q') .normal env mem := .mk fun a W ha hm => ⟨⟨j, hI, hμ, hE.sat ha, hm.mono hM.sub⟩⟩

theorem c_weak {code : Code} {env' : List (Nat × Value)} {mem' : List (Nat × Obj)} (hE : EnvSub env env') (hM : MSub mem mem') (k : RunC P N c code Q env' mem') : RunC P N c code Q env mem :=
  .mk fun a W ha hm => k.run a W (hE.sat ha) (hm.mono hM.sub)
theorem x_weak {e : Exit} {env' : List (Nat × Value)} {mem' : List (Nat × Obj)} (hE : EnvSub env env') (hM : MSub mem mem') (k : RunX N c Q e env' mem') : RunX N c Q e env mem :=
  .mk fun a W ha hm => k.run a W (hE.sat ha) (hm.mono hM.sub)
theorem l_weak {env' : List (Nat × Value)} {mem' : List (Nat × Obj)} (hE : EnvSub env env') (hM : MSub mem mem') (k : RunL P N c L l Q env' mem') : RunL P N c L l Q env mem :=
  .mk fun a W ha hm => k.run a W (hE.sat ha) (hm.mono hM.sub)

/-! ## A function's beginning and its end -/
def enumK {β : Type} : Nat → List Value → (List (Nat × Value) → Option β) → Option β
  | _, [], k => k []
  | n, v :: vs, k => enumK (n + 1) vs fun r => k ((n, v) :: r)

theorem enumK_eq {β : Type} {n : Nat} {vs : List Value} {k : List (Nat × Value) → Option β} {r : β} (h : enumK n vs k = some r) :
    ∃ e, k e = some r ∧ ∀ s v, look e s = some v → n ≤ s ∧ vs[s - n]? = some v := by
  induction vs generalizing n k with
  | nil => exact ⟨[], h, fun s v hs => by cases hs⟩
  | cons x vs ih =>
    obtain ⟨e, h1, h2⟩ := ih h
    refine ⟨(n, x) :: e, h1, fun s v hs => ?_⟩
    rw [look_cons] at hs
    split at hs
    · rename_i e2; subst e2; cases hs; simp
    · obtain ⟨h3, h4⟩ := h2 s v hs
      refine ⟨by omega, ?_⟩
      rw [show s - n = (s - (n + 1)) + 1 by omega]; exact h4

def base (w : World) : Nat → Prop := fun k => k < w.heap.size

theorem satW_nil (w : World) : SatW w (base w) noJ [] w := ⟨Same.refl _ _, fun _ h => h, List.nodup_nil, fun p hp => (by cases hp), closed_noJ, trivial⟩

theorem fun_enter {f : FuncId} {fn : Func} {body : Code} {args : List Value} {w : World} {D : Nat → Prop} {J : (Nat → Prop) → World → Prop} {R : Ending → World → Prop} (hf : P.funcs[f]? = some fn) (hb : fn.body = some body) (hN : fn.ntmps = N)
    (hl : Nat.ble args.length N = true) (he : enumK 0 args some = some env) (hm : SatW w D J mem w)
    (k : RunC P N ⟨Fence.wide, 0, [], w, D, J⟩ body (bodyPostK P fn R) env mem) : Calls P f ⟨args⟩ w R := by
  subst hN
  refine calls_of_wpK hf hb (wpIn_wide (n := 0).1 (k.run _ _ ?_ hm))
  obtain ⟨e, h1, h2⟩ := enumK_eq he
  simp only [Option.some.injEq] at h1
  subst h1
  have hl2 := Nat.le_of_ble_eq_true hl
  refine ⟨?_, rfl, fun s v hs => ?_⟩
  · simp only [Array.size_append, Array.size_replicate, List.size_toArray]; omega
  · obtain ⟨_, h3⟩ := h2 s v hs
    simp only [Nat.sub_zero] at h3
    have hlt := (List.getElem?_eq_some_iff.1 h3).1
    rw [Array.getElem?_append_left (by simpa using hlt)]
    simpa using h3

/-- The values of a function's results. -/
inductive Res (tt : List (TypeId × TI)) (env : List (Nat × Value)) (mem : List (Nat × Obj)) : List ResultVar → List Value → Prop
  | nil : Res tt env mem [] []
  | tmp {t : Nat} {v : Value} {rs : List ResultVar} {vs : List Value} (h : look env t = some v) (k : Res tt env mem rs vs) : Res tt env mem (.tmp t :: rs) (v :: vs)
  | cell {s t b o sz bt : Nat} {cs : List Value} {T' : TypeId} {fr : Nat × Nat} {kd : TK} {z v : Value} {rs : List ResultVar} {vs : List Value} (h : look env s = some (.pointer (some ⟨b, o, none⟩)))
      (hm : (b, Obj.cells ⟨cs⟩ T' fr) ∈ mem) (ht : look tt t = some ⟨kd, sz, bt, z⟩) (hv : aggV kd.isAgg sz cs o = some v) (k : Res tt env mem rs vs) : Res tt env mem (.cell s t :: rs) (v :: vs)

def resF (tmps : Array Value) : ResultVar → Sem Value
  | .tmp t => pure (tmps.getD t undef)
  | .cell a t => do loadVar t (← asAddr (tmps.getD a undef))

theorem Res.run [T : TT P tt] {rs : List ResultVar} {vs : List Value} (h : Res tt env mem rs vs) {a : Act} {W : World} {ds : List Deferred} (ha : SatA N ds env a) {w0 : World} {D : Nat → Prop} {J : (Nat → Prop) → World → Prop} (hm : SatW w0 D J mem W) :
    (rs.mapM (resF a.tmps)).run P W = .ok vs W := by
  induction h with
  | nil => rfl
  | tmp h _ ih =>
    rw [List.mapM_cons]
    simp only [resF, Sem.run_bind]
    have := ha.env _ _ h
    show (Result.ok (a.tmps.getD _ undef) W).andThen _ = _
    simp only [Result.andThen_ok]
    rw [ih]
    simp only [Result.andThen_ok, Array.getD_eq_getD_getElem?, this]; rfl
  | cell h hmm ht hv _ ih =>
    rw [List.mapM_cons]
    simp only [resF, Sem.run_bind]
    have := ha.env _ _ h
    have hl := load_of (P := P) (o := 0) (W := W) (TT.look ht) (fun i v hi => by rw [hm.cellAt hmm, Nat.zero_add]; exact hi) hv
    rw [Nat.zero_add] at hl
    simp only [Array.getD_eq_getD_getElem?, this, Option.getD_some, asAddr]
    show ((((loadVar _ _).run P W).andThen _)) = _
    rw [hl]
    simp only [Result.andThen_ok]
    rw [ih]; rfl

def tupV : List Value → Value
  | [v] => v
  | vs => .tuple ⟨vs⟩
def tupO : List Value → Option Value
  | [v] => some v
  | vs => some (.tuple ⟨vs⟩)
theorem tupO_eq {vs : List Value} {v : Value} (h : tupO vs = some v) : tupV vs = v := by
  cases vs with
  | nil => exact Option.some.inj h
  | cons x vs => cases vs <;> exact Option.some.inj h

theorem results_run [T : TT P tt] {fn : Func} {rs : List ResultVar} {vs : List Value} (hr : fn.results = ⟨rs⟩) (h : Res tt env mem rs vs) {a : Act} {W : World} {ds : List Deferred} (ha : SatA N ds env a)
    {w0 : World} {D : Nat → Prop} {J : (Nat → Prop) → World → Prop} (hm : SatW w0 D J mem W) : (results fn a.tmps).run P W = .ok (tupV vs) W := by
  have h1 := h.run (P := P) ha hm
  have h2 : results fn a.tmps = (do let vs ← (⟨rs⟩ : Array ResultVar).mapM (resF a.tmps); pure (if h : vs.size = 1 then vs[0] else .tuple vs)) := by
    unfold results; rw [hr]; rfl
  rw [h2, Array.mapM_eq_mapM_toList]
  simp only [Sem.run_bind, Sem.run_map, h1, Result.andThen_ok]
  cases vs with
  | nil => rfl
  | cons v vs => cases vs <;> rfl

theorem x_ret [T : TT P tt] {fn : Func} {rs : List ResultVar} {vs : List Value} {v : Value} {R : Ending → World → Prop} (hds : c.ds = []) (hr : fn.results = ⟨rs⟩) (h : Res tt env mem rs vs) (hv : tupO vs = some v)
    (hR : ∀ W, SatW c.w0 c.D c.J mem W → R (.returned v) W) : RunX N c (bodyPostK P fn R) .ret env mem := .mk fun a W ha hm => by
  obtain rfl := tupO_eq hv
  exact bodyPostK_ret0 (ha.defers.trans hds) (results_run hr h ha hm) (hR W hm)

theorem x_end [T : TT P tt] {fn : Func} {rs : List ResultVar} {vs : List Value} {v : Value} {R : Ending → World → Prop} (hds : c.ds = []) (hr : fn.results = ⟨rs⟩) (h : Res tt env mem rs vs) (hv : tupO vs = some v)
    (hR : ∀ W, SatW c.w0 c.D c.J mem W → R (.returned v) W) : RunX N c (bodyPostK P fn R) .normal env mem := .mk fun a W ha hm => by
  obtain rfl := tupO_eq hv
  exact bodyPostK_end0 (ha.defers.trans hds) (results_run hr h ha hm) (hR W hm)

theorem SatW.below {w : World} {W : World} {J : (Nat → Prop) → World → Prop} (h : SatW w (base w) J mem W) : Below w.heap.size w W := h.same.below (Nat.le_refl _) fun _ hk => hk

/-! ## Regions that draw their order, and only read -/
structure RunQ (P : Program) (N : Nat) (c : Cx) (L l : List Oper) (Q : Exit → Act → World → Prop) (env : List (Nat × Value)) (mem : List (Nat × Obj)) : Prop where
  run : ∀ a, SatA N c.ds env a → wpQuiet P L.toArray (SatW c.w0 c.D c.J mem) (fun a' => ∀ W, SatW c.w0 c.D c.J mem W → Q .normal a' W) l a

theorem q_nil (k : RunX N c Q .normal env mem) : RunQ P N c L [] Q env mem := .mk fun a ha => wpQuiet_nil fun W hm => k.run a W ha hm

theorem q_run {o : Oper} {v : Value} (hw : wantB L env o.guard = some true) (h : ∀ a, SatA N c.ds env a → ∀ W, SatW c.w0 c.D c.J mem W → o.quietAt P a (SatW c.w0 c.D c.J mem) W v)
    (k : ∀ a, SatA N c.ds env a → wpQuiet P L.toArray (SatW c.w0 c.D c.J mem) (fun a' => ∀ W, SatW c.w0 c.D c.J mem W → Q .normal a' W) l (a.put o.dst v)) : RunQ P N c L (o :: l) Q env mem := .mk fun a ha => by
  show if _ then _ else _
  rw [if_pos (wanted_of hw ha)]
  exact ⟨v, h a ha, k a ha⟩

theorem q_val {op : Op} {v : Value} (hw : wantB L env g = some true) (hd : Nat.blt d N = true)
    (hv : OpVal P N c env mem ⟨some d, op, ty, pos, af, g⟩ v) (k : RunQ P N c L l Q ((d, v) :: env) mem) : RunQ P N c L (⟨some d, op, ty, pos, af, g⟩ :: l) Q env mem :=
  q_run (v := v) hw (fun a ha W hm => by
    unfold Oper.quietAt
    rw [hv.2 a W ha hm]
    exact ⟨rfl, rfl⟩) (fun a ha => k.run _ (ha.put hd v))

theorem q_skip {op : Op} (hw : wantB L env g = some false) (hd : Nat.blt d N = true) (k : RunQ P N c L l Q ((d, undef) :: env) mem) : RunQ P N c L (⟨some d, op, ty, pos, af, g⟩ :: l) Q env mem := .mk fun a ha => by
  show if _ then _ else _
  rw [if_neg (by rw [wanted_of (o := ⟨some d, op, ty, pos, af, g⟩) hw ha]; exact Bool.false_ne_true)]
  exact k.run _ (ha.put hd undef)

theorem q_guard {o : Oper} {j d : Nat} {w b : Bool} {o' : Oper} (_hg : o.guard = some (j, w)) (_hj : nth L j = some o') (_hd : o'.dst = some d) (hb : look env d = some (.bool b))
    (k1 : b = true → RunQ P N c L (o :: l) Q ((d, .bool true) :: env) mem) (k2 : b = false → RunQ P N c L (o :: l) Q ((d, .bool false) :: env) mem) : RunQ P N c L (o :: l) Q env mem := .mk fun a ha => by
  have same : ∀ b', b = b' → SatA N c.ds ((d, .bool b') :: env) a := fun b' e => by
    refine ⟨ha.size, ha.defers, fun s v hs => ?_⟩
    rw [look_cons] at hs
    split at hs
    · rename_i e2; subst e2; cases hs; subst e; exact ha.env _ _ hb
    · exact ha.env _ _ hs
  cases hbb : b with
  | true => exact (k1 hbb).run a (same _ hbb)
  | false => exact (k2 hbb).run a (same _ hbb)

theorem q_call {f : FuncId} [Ent P f] {args : List Operand} {ats : Array TypeId} {vs : List Value} {v : Value} (hw : wantB L env g = some true) (hd : Nat.blt d N = true) (ha : evOps env args some = some vs)
    (hc : ∀ W, SatW c.w0 c.D c.J mem W → Calls P f ⟨vs⟩ W fun e W' => e = .returned v ∧ Below W.heap.size W W')
    (k : RunQ P N c L l Q ((d, v) :: env) mem) : RunQ P N c L (⟨some d, .call ⟨.value (.func f), ⟨args⟩, ats⟩, ty, pos, af, g⟩ :: l) Q env mem :=
  q_run (v := v) hw (fun a hA W hm => by
    have h1 := hA.evals ha
    simp only [Option.some.injEq] at h1
    unfold Oper.quietAt
    rw [p_call, h1]
    exact ⟨rfl, (hc W hm).mono fun _ W' ⟨h2, h3⟩ => ⟨h2, hm.later h3⟩⟩) (fun a hA => k.run _ (hA.put hd v))

theorem wpIn_of_quiet {F : Fence} [Wide F] {n : Nat} {C : World → Prop} {o : Oper} {a : Act} {K : Act → Prop} {K' : Act → World → Prop} {w : World} (hw : C w) (h : ∀ a w', C w' → K a → K' a w') (hh : o.quiet P a C K) :
    o.wpIn F n P a w K' Q := by
  obtain ⟨v, h1, h2⟩ := hh
  refine ⟨fun f _ => Wide.fn F f, ?_⟩
  have h3 := h1 w hw
  unfold Oper.quietAt at h3
  have hd : ∀ cl, o.op ≠ .defer cl := fun cl e => by
    unfold execOp at h3
    rw [e] at h3
    simp only [Sem.run_bind] at h3
    cases hr : (resolve a.eval cl o.type).run P w with
    | ok d w' => rw [hr] at h3; exact h3
    | halt x w' => rw [hr] at h3; exact h3
  rw [Oper.semAt_eq _ _ _ hd]
  generalize (execOp a.eval o).run P w = r at *
  cases r with
  | ok nx w' =>
    cases nx <;> simp only [Oper.quietUpon] at h3
    case value u => obtain ⟨e1, e2⟩ := h3; subst e1; subst e2; exact h _ _ hw h2
    case skip => obtain ⟨e1, e2⟩ := h3; subst e1; subst e2; exact h _ _ hw h2
    case enter f args =>
      obtain ⟨e1, hc⟩ := h3
      subst e1
      refine ⟨Wide.depth F n, (Wide.calls (F := F) hc).mono ?_⟩
      rintro e w'' ⟨rfl, hw''⟩
      exact h _ _ hw'' h2
  | halt x w' => exact h3.elim

theorem wpOpIn_of_qOp {F : Fence} [Wide F] {n : Nat} {ops : Array Oper} {C : World → Prop} {i : Nat} {a : Act} {K : Act → Prop} {K' : Act → World → Prop} {w : World} (hC : C w) (h : ∀ a w', C w' → K a → K' a w') (hh : qOp P ops C i K a) :
    wpOpIn F n P ops Q i K' a w := by
  unfold qOp at hh
  unfold wpOpIn
  split
  · rename_i ho; simp only [ho] at hh; exact h _ _ hC hh
  · rename_i o ho
    simp only [ho] at hh
    split
    · rename_i hw; simp only [hw, if_true] at hh; exact wpIn_of_quiet hC h hh
    · rename_i hw; simp only [hw] at hh; exact ⟨fun f _ => Wide.fn F f, h _ _ hC hh⟩

theorem wpAnyIn_of_quiet {F : Fence} [Wide F] {n : Nat} {md : Region.Mode} {ops : Array Oper} {C : World → Prop} {K : Act → Prop} (hQ : ∀ a w, C w → K a → Q .normal a w) : ∀ (fuel : Nat) (listed : Array Bool) (a : Act) (w : World), C w →
    wpAnyQ P md ops C K fuel listed a → wpAnyIn F n P md ops Q fuel listed a w
  | 0, _, _, _, hw, h => ⟨h.1, hQ _ _ hw h.2⟩
  | fuel + 1, _, _, _, hw, h => ⟨fun h0 => hQ _ _ hw (h.1 h0), fun i hi => wpOpIn_of_qOp hw (fun a' w' hw' => wpAnyIn_of_quiet hQ fuel _ a' w' hw') (h.2 i hi)⟩

/-- A program under 'wide'. -/
class Mixed (P : Program) : Prop where
  ok : P.follows .mixedOrders = true

theorem c_quiet [M : Mixed P] {id : Nat} (hB : Region.lexB .any l.toArray = true) (k : RunQ P N c l l Q env mem) : RunC P N c (.region id l.toArray true) Q env mem := .mk fun a W ha hm => by
  simp only [Region.lexB, Bool.and_eq_true] at hB
  refine wpIn_region_any M.ok (wpAnyIn_of_quiet (C := SatW c.w0 c.D c.J mem) (K := fun a' => ∀ W, SatW c.w0 c.D c.J mem W → Q .normal a' W) (fun a w hw h => h w hw) _ _ _ _ hm.drew ?_)
  have := wpAnyQ_lex (P := P) (C := SatW c.w0 c.D c.J mem) (Q := fun a' => ∀ W, SatW c.w0 c.D c.J mem W → Q .normal a' W) (md := .any) hB.1 l 0 (Array.replicate l.toArray.size false) a (by simp) (by simpa using hB.2) (k.run a ha)
  simpa using this


/-! ## Tables -/
def vec {α : Type} (n : Nat) (f : Nat → α) : List α := (List.range n).map f
theorem vec_length {α : Type} (n : Nat) (f : Nat → α) : (vec n f).length = n := by simp [vec]
theorem vec_get {α : Type} {n : Nat} {f : Nat → α} {i : Nat} (h : i < n) : (vec n f)[i]? = some (f i) := by simp [vec, h]
theorem vec_set {α : Type} {n : Nat} {f : Nat → α} {i : Nat} {v : α} : (vec n f).set i v = vec n (fun j => if j = i then v else f j) := by
  apply List.ext_getElem?
  intro j
  simp only [vec, List.getElem?_set, List.getElem?_map, List.length_map, List.length_range]
  by_cases hj : i = j
  · subst hj
    by_cases hn : i < n
    · simp [hn]
    · simp [hn]
  · have h2 : ¬ j = i := fun e => hj e.symm
    by_cases hn : j < n
    · simp [hj, h2, hn]
    · simp [hj, hn]

/-- rows of several cells -/
def flat {α : Type} (n : Nat) (f : Nat → List α) : List α := (List.range n).flatMap f

theorem ti_mk {t : TypeId} {k : TK} {sz bt : Nat} {z : Value} (h1 : TKOk P t k) (h2 : (P.info? t).map (fun i => (i.zero, i.size, i.bytes)) = some (some z, sz, bt)) : TIOk P t ⟨k, sz, bt, z⟩ := by
  refine ⟨h1, ?_⟩
  cases hi : P.info? t with
  | none => rw [hi] at h2; cases h2
  | some i =>
    rw [hi] at h2
    simp only [Option.map_some, Option.some.injEq, Prod.mk.injEq] at h2
    exact ⟨i, rfl, h2.2.1, h2.2.2, h2.1⟩
theorem tk_struct {t : TypeId} {fs : List (TypeId × Nat)} (h : (P.underlying t).map (fun d => match d with | .struct fs => some (fs.toList.map fun f => (f.type, f.offset)) | _ => none) = some (some fs)) : TKOk P t (.struct fs) := by
  cases hi : P.underlying t with
  | none => rw [hi] at h; cases h
  | some dsc =>
    rw [hi] at h
    simp only [Option.map_some, Option.some.injEq] at h
    cases dsc with
    | struct f => simp only [Option.some.injEq] at h; exact ⟨f, hi, h⟩
    | _ => cases h
theorem tk_other {t : TypeId} (h : (P.underlying t).map (fun d => match d with | .struct _ => false | .array .. => false | _ => true) = some true) : TKOk P t .other := by
  cases hi : P.underlying t with
  | none => rw [hi] at h; cases h
  | some dsc =>
    rw [hi] at h
    simp only [Option.map_some, Option.some.injEq] at h
    cases dsc <;> first | (cases h; done) | exact ⟨_, hi, trivial⟩
theorem ent_of {f : FuncId} {fn : Func} (hf : P.funcs[f]? = some fn) (hb : fn.body.isNone = false) (hn : (fn.name == "runtime.NumGoroutine") = false) (args : Array Value) (w : World) :
    (callFunc f args).run P w = .ok (.enter f args) w := by
  have hn' : ¬ fn.name = "runtime.NumGoroutine" := by simpa using hn
  have hb' : ¬ fn.body = none := by intro e; rw [e] at hb; cases hb
  simp [callFunc, program, Sem.run, pure, bind, Sem.bind, hf, hb', hn']
theorem tt_nil : ∀ p ∈ ([] : List (TypeId × TI)), TIOk P p.1 p.2 := fun p hp => by cases hp
theorem tt_cons {t : TypeId} {ti : TI} {tl : List (TypeId × TI)} (h : TIOk P t ti) (k : ∀ p ∈ tl, TIOk P p.1 p.2) : ∀ p ∈ (t, ti) :: tl, TIOk P p.1 p.2 := fun p hp => by
  rcases List.mem_cons.1 hp with rfl | hp
  · exact h
  · exact k p hp


/-! ## Tests that are decided -/
theorem l_dec_t {o : Oper} {j d : Nat} {w : Bool} {o' : Oper} {p : Prop} [Decidable p] (hg : o.guard = some (j, w)) (hj : nth L j = some o') (hd : o'.dst = some d) (hb : look env d = some (.bool (decide p))) (hN : Nat.blt d N = true)
    (hp : p) (k : RunL P N c L (o :: l) Q ((d, .bool true) :: env) mem) : RunL P N c L (o :: l) Q env mem :=
  l_guard hg hj hd hb hN (fun _ => k) (fun e => absurd hp (of_decide_eq_false e))
theorem l_dec_f {o : Oper} {j d : Nat} {w : Bool} {o' : Oper} {p : Prop} [Decidable p] (hg : o.guard = some (j, w)) (hj : nth L j = some o') (hd : o'.dst = some d) (hb : look env d = some (.bool (decide p))) (hN : Nat.blt d N = true)
    (hp : ¬ p) (k : RunL P N c L (o :: l) Q ((d, .bool false) :: env) mem) : RunL P N c L (o :: l) Q env mem :=
  l_guard hg hj hd hb hN (fun e => absurd (of_decide_eq_true e) hp) (fun _ => k)
theorem l_dec {o : Oper} {j d : Nat} {w : Bool} {o' : Oper} {p : Prop} [Decidable p] (hg : o.guard = some (j, w)) (hj : nth L j = some o') (hd : o'.dst = some d) (hb : look env d = some (.bool (decide p))) (hN : Nat.blt d N = true)
    (k1 : p → RunL P N c L (o :: l) Q ((d, .bool true) :: env) mem) (k2 : ¬ p → RunL P N c L (o :: l) Q ((d, .bool false) :: env) mem) : RunL P N c L (o :: l) Q env mem :=
  l_guard hg hj hd hb hN (fun e => k1 (of_decide_eq_true e)) (fun e => k2 (of_decide_eq_false e))
theorem q_dec_t {o : Oper} {j d : Nat} {w : Bool} {o' : Oper} {p : Prop} [Decidable p] (hg : o.guard = some (j, w)) (hj : nth L j = some o') (hd : o'.dst = some d) (hb : look env d = some (.bool (decide p)))
    (hp : p) (k : RunQ P N c L (o :: l) Q ((d, .bool true) :: env) mem) : RunQ P N c L (o :: l) Q env mem :=
  q_guard hg hj hd hb (fun _ => k) (fun e => absurd hp (of_decide_eq_false e))
theorem q_dec_f {o : Oper} {j d : Nat} {w : Bool} {o' : Oper} {p : Prop} [Decidable p] (hg : o.guard = some (j, w)) (hj : nth L j = some o') (hd : o'.dst = some d) (hb : look env d = some (.bool (decide p)))
    (hp : ¬ p) (k : RunQ P N c L (o :: l) Q ((d, .bool false) :: env) mem) : RunQ P N c L (o :: l) Q env mem :=
  q_guard hg hj hd hb (fun e => absurd (of_decide_eq_true e) hp) (fun _ => k)
theorem q_dec {o : Oper} {j d : Nat} {w : Bool} {o' : Oper} {p : Prop} [Decidable p] (hg : o.guard = some (j, w)) (hj : nth L j = some o') (hd : o'.dst = some d) (hb : look env d = some (.bool (decide p)))
    (k1 : p → RunQ P N c L (o :: l) Q ((d, .bool true) :: env) mem) (k2 : ¬ p → RunQ P N c L (o :: l) Q ((d, .bool false) :: env) mem) : RunQ P N c L (o :: l) Q env mem :=
  q_guard hg hj hd hb (fun e => k1 (of_decide_eq_true e)) (fun e => k2 (of_decide_eq_false e))
/-- a test's slot is brought to a literal -/
theorem c_lit {code : Code} {d : Nat} {b b' : Bool} (hb : look env d = some (.bool b)) (e : b = b') (k : RunC P N c code Q ((d, .bool b') :: env) mem) : RunC P N c code Q env mem := .mk fun a W ha hm =>
  k.run a W ⟨ha.size, ha.defers, fun s v hs => by
    rw [look_cons] at hs
    split at hs
    · rename_i e2; subst e2; cases hs; subst e; exact ha.env _ _ hb
    · exact ha.env _ _ hs⟩ hm

/-! ## Memory that came in -/
/-- A slice that came in: its rows, `sz` cells each. -/
def At (w : World) (A : Option Addr) (sz : Nat) (rows : List (List Value)) : Prop :=
  ∀ i cs, rows[i]? = some cs → ∃ b o, A = some ⟨b, o, none⟩ ∧ ∀ j v, cs[j]? = some v → w.cell? ⟨b, o + i * sz + j, none⟩ = some v
theorem At.later {w w' : World} {A : Option Addr} {sz : Nat} {rows : List (List Value)} (h : At w A sz rows) (k : Later w w') : At w' A sz rows := fun i cs hi => by
  obtain ⟨b, o, hA, hc⟩ := h i cs hi
  exact ⟨b, o, hA, fun j v hj => k.cell (hc j v hj)⟩
theorem ext_of {w : World} {b o : Nat} {x : Value} {cs : List Value} (h : ∀ j v, (x :: cs)[j]? = some v → w.cell? ⟨b, o + j, none⟩ = some v) : Ext w (base w) b o (x :: cs) :=
  ⟨lt_of_cell (h 0 x rfl), h⟩
theorem At.sat {w W : World} {mem : List (Nat × Obj)} {J : (Nat → Prop) → World → Prop} {A : Option Addr} {sz : Nat} {rows : List (List Value)} (h : At w A sz rows) (hm : SatW w (base w) J mem W) : At W A sz rows := h.later hm.below

end
end Kin
end Go

set_option linter.unusedSectionVars false
set_option linter.unusedVariables false
set_option linter.unusedSimpArgs false
namespace Go
open Go.RowKit
namespace Kin

/-- All that lies, but for the blocks of the list. -/
def outside (mem : List (Nat × Obj)) (W : World) : Nat → Prop := fun k => k < W.heap.size ∧ k ∉ mem.map (·.1)

section
variable {w0 : World} {D : Nat → Prop} {J : (Nat → Prop) → World → Prop} {mem mem' : List (Nat × Obj)} {W W' : World}
theorem SatW.self (h : SatW w0 D J mem W) : SatW W (outside mem W) noJ mem W :=
  ⟨Same.refl _ _, fun _ h => h.1, h.nodup, fun p hp => ⟨fun ho => ho.2 (List.mem_map.2 ⟨p, hp, rfl⟩), (h.own p hp).2⟩, closed_noJ, trivial⟩

theorem SatW.any (h : SatW w0 D J mem W) (hs : Same (fun _ => True) W W') : SatW w0 D J mem W' :=
  ⟨h.same.trans (hs.mono fun _ _ => trivial), h.dom, h.nodup, fun p hp => ⟨(h.own p hp).1, (hs.block _ (h.lt hp) trivial).trans (h.own p hp).2⟩, h.closed,
   h.closed _ _ _ _ h.word (hs.mono fun _ _ => trivial) fun _ hb => .inl hb⟩

/-- other blocks have been written -/
theorem SatW.apart (h : SatW w0 D noJ mem W) {S : Nat → Prop} (hS : ∀ b, S b → b ∉ mem.map (·.1) ∧ ¬ D b) (hs : Same (fun b => ¬ S b) W W') : SatW w0 D noJ mem W' :=
  ⟨h.same.trans (hs.mono fun _ hk e => (hS _ e).2 hk), h.dom, h.nodup,
   fun p hp => ⟨(h.own p hp).1, (hs.block _ (h.lt hp) (fun e => (hS _ e).1 (List.mem_map.2 ⟨p, hp, rfl⟩))).trans (h.own p hp).2⟩, closed_noJ, trivial⟩

theorem SatW.sparing {B : Nat} (h : SatW w0 D noJ mem W) (hB : B ∉ mem.map (·.1)) (hD : ¬ D B) (hs : Same (fun b => b ≠ B) W W') : SatW w0 D noJ mem W' :=
  h.apart (S := fun b => b = B) (fun b e => by subst e; exact ⟨hB, hD⟩) hs

/-- What lay in W and is not of the list `mem` is not of a list `mem'` that has come out of it. -/
theorem SatW.away (h : SatW W (outside mem W) J mem' W') {b : Nat} (hb : b < W.heap.size) (hn : b ∉ mem.map (·.1)) : b ∉ mem'.map (·.1) := fun hm => by
  obtain ⟨p, hp, e⟩ := List.mem_map.1 hm
  exact (h.own p hp).1 (e ▸ ⟨hb, hn⟩)

theorem SatW.notIn (hm : SatW w0 D J mem W) {b : Nat} (hb : D b) : b ∉ mem.map (·.1) := fun hi => by
  obtain ⟨p, hp, e⟩ := List.mem_map.1 hi
  exact (hm.own p hp).1 (e ▸ hb)
theorem SatW.within (hm : SatW w0 D J mem W) {b : Nat} (hb : D b) : outside mem W b :=
  ⟨Nat.lt_of_lt_of_le (hm.dom _ hb) hm.same.size, hm.notIn hb⟩

/-- Back to the frame of before. -/
theorem SatW.back {J' : (Nat → Prop) → World → Prop} (h : SatW w0 D J mem W) (k : SatW W (outside mem W) J' mem' W') : SatW w0 D J mem' W' := by
  refine ⟨h.same.trans (k.same.mono fun b hb => h.within hb), h.dom, k.nodup, fun p hp => ⟨fun hd => (k.own p hp).1 (h.within hd), (k.own p hp).2⟩, h.closed, ?_⟩
  refine h.closed _ _ _ _ h.word (k.same.monoLt fun b hb hn => ⟨hb, hn⟩) fun b hb => ?_
  obtain ⟨p, hp, e⟩ := List.mem_map.1 hb
  have := (k.own p hp).1
  by_cases h2 : b < W.heap.size
  · left
    by_cases h3 : b ∈ mem.map (·.1)
    · exact h3
    · exact absurd ⟨by rw [e]; exact h2, by rw [e]; exact h3⟩ this
  · exact .inr (Nat.le_of_not_lt h2)

theorem Ext.into {b o : Nat} {cs : List Value} (h : Ext w0 D b o cs) (hm : SatW w0 D J mem W) : Ext W (outside mem W) b o cs :=
  ⟨hm.within h.dom, fun i v hi => hm.same.cell (h.cell i v hi) h.dom⟩
end

/-- **An iterator's contract**: called at the yield of whatever loop `l`: it hands the rounds the elements of `xs`, one by one, and returns; or a round says 'no more', and it returns. `S`: the blocks that the iterator has laid and may write: the rounds keep them, and those of `R`. -/
def It {α : Type} (P : Program) (gf : Nat) (lb : List Value) (encs : α → List Value) (xs : List α) (R : Nat → Prop) (W : World) : Prop :=
  ∀ (l : Nat) (J Jx : Nat → (Nat → Prop) → World → Prop), (∀ k, Closed (J k)) → (∀ k, Closed (Jx k)) →
    (∀ k (hk : k < xs.length) (S : Nat → Prop) (A : World), J k S A → (∀ b, S b → b < A.heap.size) → YieldAt Fence.wide 0 P l ⟨encs xs[k]⟩ A fun e B =>
      (e = .returned (.bool true) ∧ J (k + 1) S B ∧ Same (fun b => S b ∨ R b) A B) ∨ (e = .returned (.bool false) ∧ Jx k S B)) →
    J 0 (fun _ => False) W →
    Calls P gf ⟨.func (.yield l) #[] #[] :: lb⟩ W fun e W' => (∃ v, e = .returned v) ∧ ((∃ S, J xs.length S W') ∨ ∃ k, k < xs.length ∧ ∃ S, Jx k S W')

/-- The round's end: what must hold, by the way that it is left. -/
structure RQ {ι : Type} (kof : ι → Nat) (I : ι → Prop) (M : ι → List (Nat × Obj)) (St : Code → ι → Prop) (k : Nat) (W2 : World) (mem1 : List (Nat × Obj)) (e : Exit) (a : Act) (W3 : World) : Prop where
  ok : match e with
    | .normal => ∃ i, kof i = k + 1 ∧ I i ∧ SatW W2 (outside mem1 W2) noJ (M i) W3
    | .ret => ∃ i, St .ret i ∧ SatW W2 (outside mem1 W2) noJ (M i) W3
    | .exit id => ∃ i, St (.exit id) i ∧ SatW W2 (outside mem1 W2) noJ (M i) W3
    | .goto t => ∃ i, St (.goto t) i ∧ SatW W2 (outside mem1 W2) noJ (M i) W3
    | .panic _ => False
    | .outgrown => False

/-- The end of the assignments of a round: a state from which the round's body can be walked. -/
structure AX (P : Program) (N : Nat) (body : Code) {ι : Type} (kof : ι → Nat) (I : ι → Prop) (M : ι → List (Nat × Obj)) (St : Code → ι → Prop) (l k : Nat) (m : List (Nat × Obj)) (W : World) (a' : Act) (W' : World) : Prop where
  ex : ∃ env1 mem1, SatA N [] env1 a' ∧ SatW W (outside m W) noJ mem1 W' ∧
    ∀ (n : Nat) (W2 : World) (r : Loop), SatW W2 (outside mem1 W2) noJ mem1 W2 → Same (fun b => b ≠ l) W' W2 → W2.heap[l]? = some (.loop r) → outside mem1 W2 l →
      RunC P N ⟨Fence.wide.inRound l, n, [], W2, outside mem1 W2, noJ⟩ body (RQ kof I M St k W2 mem1) env1 mem1

/-- The parameters' values, laid ahead of what is known. -/
def zipE : List Tmp → List Value → List (Nat × Value) → List (Nat × Value)
  | p :: ps, v :: vs, e => zipE ps vs ((p, v) :: e)
  | _, _, e => e

section
variable {P : Program} {N : Nat} {c : Cx} {Q : Exit → Act → World → Prop} {env : List (Nat × Value)} {mem : List (Nat × Obj)}

theorem zipE_sat {ps : List Tmp} {vs : List Value} {a : Act} {ds : List Deferred} (ha : SatA N ds env a) (hp : ∀ p ∈ ps, p < N) :
    SatA N [] (zipE ps vs env) { tmps := (ps.zip vs).foldl (fun t (p, v) => t.setIfInBounds p v) a.tmps, defers := [] } := by
  induction ps generalizing vs env a ds with
  | nil => exact ⟨ha.size, rfl, ha.env⟩
  | cons p ps ih =>
    cases vs with
    | nil => exact ⟨ha.size, rfl, ha.env⟩
    | cons v vs =>
      have h1 : SatA N ds ((p, v) :: env) { tmps := a.tmps.setIfInBounds p v, defers := a.defers } := by
        have := ha.put (d := p) (v := v) (Nat.ble_eq_true_of_le (hp p List.mem_cons_self))
        exact this
      exact ih h1 fun q hq => hp q (List.mem_cons_of_mem _ hq)

section
variable {ι : Type} {kof : ι → Nat} {I : ι → Prop} {M : ι → List (Nat × Obj)} {St : Code → ι → Prop}

/-- from the assignments' end into the body -/
theorem x_body {body : Code} {l k n' : Nat} {m : List (Nat × Obj)} {W w0 : World} {D : Nat → Prop} {F : Fence}
    (hI : SatW w0 D noJ m W) (hDl : ¬ D l) (hl : outside m W l)
    (h : ∀ (n : Nat) (W2 : World) (r : Loop), SatW w0 D noJ mem W2 → W2.heap[l]? = some (.loop r) → outside mem W2 l →
      RunC P N ⟨Fence.wide.inRound l, n, [], W2, outside mem W2, noJ⟩ body (RQ kof I M St k W2 mem) env mem) :
    RunX N ⟨F, n', [], W, outside m W, noJ⟩ (Exit.then (AX P N body kof I M St l k m W) (fun _ _ _ => False)) .normal env mem := .mk fun _ W' ha hm =>
  ⟨env, mem, ha, hm, fun n W2 r _ hs hr ho => h n W2 r ((hI.back hm).sparing (hm.away hl.1 hl.2) hDl hs) hr ho⟩

theorem x_next {k n : Nat} {W2 : World} {mem1 : List (Nat × Obj)} {F : Fence} (i : ι) (hk : kof i = k + 1) (hI : I i) (hM : MSub mem (M i)) :
    RunX N ⟨F, n, [], W2, outside mem1 W2, noJ⟩ (RQ kof I M St k W2 mem1) .normal env mem := .mk fun _ _ _ hm => ⟨i, hk, hI, hm.mono hM.sub⟩
theorem x_leave {k n id : Nat} {W2 : World} {mem1 : List (Nat × Obj)} {F : Fence} (i : ι) (hS : St (.exit id) i) (hM : MSub mem (M i)) :
    RunX N ⟨F, n, [], W2, outside mem1 W2, noJ⟩ (RQ kof I M St k W2 mem1) (.exit id) env mem := .mk fun _ _ _ hm => ⟨i, hS, hm.mono hM.sub⟩
theorem x_leave_ret {k n : Nat} {W2 : World} {mem1 : List (Nat × Obj)} {F : Fence} (i : ι) (hS : St .ret i) (hM : MSub mem (M i)) :
    RunX N ⟨F, n, [], W2, outside mem1 W2, noJ⟩ (RQ kof I M St k W2 mem1) .ret env mem := .mk fun _ _ _ hm => ⟨i, hS, hm.mono hM.sub⟩
end

theorem SatW.more {w0 W : World} {D : Nat → Prop} {m ex : List (Nat × Obj)} (h : SatW w0 D noJ m W) (hn : (ex.map (·.1)).Nodup) (he : ∀ p ∈ ex, ¬ D p.1 ∧ W.heap[p.1]? = some p.2 ∧ p.1 ∉ m.map (·.1)) : SatW w0 D noJ (ex ++ m) W := by
  refine ⟨h.same, h.dom, ?_, fun p hp => ?_, closed_noJ, trivial⟩
  · rw [List.map_append, List.nodup_append]
    refine ⟨hn, h.nodup, fun a ha b hb e => ?_⟩
    subst e
    obtain ⟨p, hp, e⟩ := List.mem_map.1 ha
    exact (he p hp).2.2 (e ▸ hb)
  · rcases List.mem_append.1 hp with hp | hp
    · exact ⟨(he p hp).1, (he p hp).2.1⟩
    · exact h.own p hp

/-- What an engine's walk of a range shows of one round, said of the law's own words. -/
theorem round_ok {α : Type} {ps : List Tmp} {assign body : Code} {ι : Type} {kof : ι → Nat} {I : ι → Prop} {M : ι → List (Nat × Obj)} {St : Code → ι → Prop} {encs : α → List Value} {x : α} {w0 : World} {D : Nat → Prop} {env' : List (Nat × Value)}
    {i : ι} {n l : Nat} {a : Act} {W : World} {rec : LoopState → Option Code → Loop} {extra : List (Nat × Obj)} {S R : Nat → Prop}
    (hrec : ∀ st pe, (rec st pe).state = st) (hrs : ∀ st pe st' pe', ({ rec st pe with state := st', pending := pe' } : Loop) = rec st' pe')
    (hsat : SatW w0 D noJ (((l, .loop (rec .ready none)) :: extra) ++ M i) W) (hE : SatA N [] (zipE ps (encs x) env') a) (hS : ∀ b, S b → b < W.heap.size ∧ b ≠ l ∧ b ∉ (M i).map (·.1))
    (hR : ∀ b, R b → b < W.heap.size ∧ b ≠ l ∧ b ∉ (M i).map (·.1))
    (round : ∀ (n l : Nat) (W : World), SatW w0 D noJ (M i) W → ¬ D l → outside (M i) W l →
      RunC P N ⟨Fence.wide.inRound l, n, [], W, outside (M i) W, noJ⟩ assign (Exit.then (AX P N body kof I M St l (kof i) (M i) W) (fun _ _ _ => False)) (zipE ps (encs x) env') (M i)) :
    assign.wpIn (Fence.wide.inRound l) n P (Exit.then (fun a₁ w₁ => ∃ w₂, (Instr.beginRound l).run P w₁ = .ok () w₂ ∧ body.wpIn (Fence.wide.inRound l) n P
      (roundPost P l fun e B => (e = .returned (.bool true) ∧ (∃ j, kof j = kof i + 1 ∧ I j ∧ SatW w0 D noJ (((l, .loop (rec .ready none)) :: extra) ++ M j) B ∧ ∀ b, S b → b ∉ (M j).map (·.1)) ∧ Same (fun b => S b ∨ R b) W B) ∨
        (e = .returned (.bool false) ∧ ∃ j cd, St cd j ∧ SatW w0 D noJ (((l, .loop (rec .done (some cd))) :: extra) ++ M j) B ∧ ∀ b, S b → b ∉ (M j).map (·.1))) a₁ w₂) (fun _ _ _ => False)) a W := by
  have hM : SatW w0 D noJ (M i) W := hsat.mono (List.sublist_append_right _ _)
  have hnd := hsat.nodup
  rw [List.map_append, List.nodup_append] at hnd
  obtain ⟨hn1, _, hn3⟩ := hnd
  have hex : ∀ p ∈ ((l, Obj.loop (rec .ready none)) :: extra), ¬ D p.1 ∧ W.heap[p.1]? = some p.2 ∧ p.1 ∉ (M i).map (·.1) := fun p hp =>
    ⟨(hsat.own p (List.mem_append_left _ hp)).1, (hsat.own p (List.mem_append_left _ hp)).2, fun h => hn3 _ (List.mem_map.2 ⟨p, hp, rfl⟩) _ h rfl⟩
  obtain ⟨d1, d2, d3⟩ := hex _ List.mem_cons_self
  simp only at d1 d2 d3
  have o2 : outside (M i) W l := ⟨lt_of_heap d2, d3⟩
  refine wpIn_mono ((round n l W hM d1 o2).run a W hE hM.self) ?_
  rintro e0 a' W' hq
  cases e0 with
  | normal =>
    obtain ⟨env1, mem1, hA, hm1, hrun⟩ := hq
    have hl' := hm1.same.obj d2 o2
    refine ⟨_, run_beginRound hl' (hrec _ _), ?_⟩
    obtain ⟨W'', hW''⟩ : ∃ W'', W'.putObj l (.loop { rec .ready none with state := .busy }) = W'' := ⟨_, rfl⟩
    rw [hW'']
    have hl2 : W''.heap[l]? = some (.loop { rec .ready none with state := .busy }) := by rw [← hW'']; exact World.putObj_heap_same (lt_of_heap hl')
    have hs2 : Same (fun b => b ≠ l) W' W'' := by rw [← hW'']; exact Same.putObj _ _ _ (fun h => h rfl)
    have a2 := hm1.away o2.1 o2.2
    have hW2 : SatW w0 D noJ mem1 W'' := (hM.back hm1).sparing a2 d1 hs2
    have hsz : W.heap.size ≤ W''.heap.size := Nat.le_trans hm1.same.size hs2.size
    have p2 : outside mem1 W'' l := ⟨by have := o2.1; omega, a2⟩
    have far : ∀ b, b < W.heap.size → b ≠ l → b ∉ (M i).map (·.1) → outside mem1 W'' b := fun b h1 _ h3 => ⟨by omega, hm1.away h1 h3⟩
    refine wpIn_mono ((hrun n W'' _ hW2.self hs2 hl2 p2).run a' W'' hA hW2.self) ?_
    rintro e3 a3 W3 hq
    have leave : ∀ {m3 : List (Nat × Obj)} (jump : Option Code), SatW W'' (outside mem1 W'') noJ m3 W3 → ∃ W4,
        (Instr.endRound l jump).run P W3 = .ok (.bool jump.isNone) W4 ∧ SatW w0 D noJ (((l, .loop (rec (if jump.isNone then .ready else .done) jump)) :: extra) ++ m3) W4 ∧
        (∀ b, S b → b ∉ m3.map (·.1)) ∧ Same (fun b => S b ∨ R b) W W4 := fun {m3} jump h3 => by
      have hl3 := h3.same.obj hl2 p2
      have hr := run_endRound (P := P) jump hl3
      rw [show ({ ({ rec .ready none with state := .busy } : Loop) with state := if jump.isNone then .ready else .done, pending := jump } : Loop) = rec (if jump.isNone then .ready else .done) jump from hrs .ready none _ _] at hr
      refine ⟨_, hr, ?_, fun b hb => h3.away (far b (hS b hb).1 (hS b hb).2.1 (hS b hb).2.2).1 (far b (hS b hb).1 (hS b hb).2.1 (hS b hb).2.2).2, ?_⟩
      · have hl3n : l ∉ m3.map (·.1) := h3.away p2.1 p2.2
        have h4 : SatW w0 D noJ m3 (W3.putObj l (.loop (rec (if jump.isNone then .ready else .done) jump))) := (hW2.back h3).sparing hl3n d1 (Same.putObj _ _ _ (fun h => h rfl))
        refine h4.more hn1 fun p hp => ?_
        rcases List.mem_cons.1 hp with rfl | hp
        · exact ⟨d1, World.putObj_heap_same (lt_of_heap hl3), hl3n⟩
        · obtain ⟨q1, q2, q3⟩ := hex p (List.mem_cons_of_mem _ hp)
          have hne : p.1 ≠ l := fun e => by
            simp only [List.map_cons, List.nodup_cons] at hn1
            exact hn1.1 (List.mem_map.2 ⟨p, hp, e⟩)
          have f1 := far p.1 (lt_of_heap q2) hne q3
          have g1 := hm1.same.obj q2 ⟨lt_of_heap q2, q3⟩
          have g2 := hs2.obj g1 hne
          have g3 := h3.same.obj g2 f1
          exact ⟨q1, (World.putObj_heap_other hne).trans g3, h3.away f1.1 f1.2⟩
      · have all : ∀ b, (S b ∨ R b) → b < W.heap.size ∧ b ≠ l ∧ b ∉ (M i).map (·.1) := fun b hb => hb.elim (hS b) (hR b)
        exact (((hm1.same.mono fun b hb => ⟨(all b hb).1, (all b hb).2.2⟩).trans (hs2.mono fun b hb => (all b hb).2.1)).trans
          (h3.same.mono fun b hb => far b (all b hb).1 (all b hb).2.1 (all b hb).2.2)).trans (Same.putObj _ _ _ fun h => (all _ h).2.1 rfl)
    cases e3 with
    | normal =>
      obtain ⟨j, h1, h2, h3⟩ := hq.ok
      obtain ⟨W4, r1, r2, r3, r4⟩ := leave none h3
      exact ⟨_, W4, r1, .inl ⟨rfl, ⟨j, h1, h2, r2, r3⟩, r4⟩⟩
    | ret =>
      obtain ⟨j, h1, h3⟩ := hq.ok
      obtain ⟨W4, r1, r2, r3, r4⟩ := leave (some .ret) h3
      exact ⟨_, W4, r1, .inr ⟨rfl, j, .ret, h1, r2, r3⟩⟩
    | exit id =>
      obtain ⟨j, h1, h3⟩ := hq.ok
      obtain ⟨W4, r1, r2, r3, r4⟩ := leave (some (.exit id)) h3
      exact ⟨_, W4, r1, .inr ⟨rfl, j, .exit id, h1, r2, r3⟩⟩
    | goto t =>
      obtain ⟨j, h1, h3⟩ := hq.ok
      obtain ⟨W4, r1, r2, r3, r4⟩ := leave (some (.goto t)) h3
      exact ⟨_, W4, r1, .inr ⟨rfl, j, .goto t, h1, r2, r3⟩⟩
    | panic ch => exact hq.ok
    | outgrown => exact hq.ok
  | _ => exact hq


/-- What the iterator's walk is handed as its word: the rounds' state before round `k`. -/
def Jw {ι : Type} (w0 : World) (D : Nat → Prop) (kof : ι → Nat) (I : ι → Prop) (M : ι → List (Nat × Obj)) (l B : Nat) (o : Obj) (extra : List (Nat × Obj)) (k : Nat) (S : Nat → Prop) (W : World) : Prop :=
  (∃ i, kof i = k ∧ I i ∧ SatW w0 D noJ (((l, o) :: extra) ++ M i) W ∧ ∀ b, S b → b ∉ (M i).map (·.1)) ∧ ∀ b, S b → B ≤ b

theorem closed_of {ι : Type} {w0 : World} {D : Nat → Prop} {X : ι → Prop} {O : ι → List (Nat × Obj)} {M : ι → List (Nat × Obj)} {B : Nat} (hw : ∀ b, B ≤ b → ¬ D b) (hO : ∀ i, X i → ∀ p ∈ O i, p.1 < B) :
    Closed fun S W => (∃ i, X i ∧ SatW w0 D noJ (O i ++ M i) W ∧ ∀ b, S b → b ∉ (M i).map (·.1)) ∧ (∀ b, S b → B ≤ b) ∧ B ≤ W.heap.size := by
  rintro S S' A A' ⟨⟨i, h1, h2, h3⟩, h4, h5⟩ hs hS
  refine ⟨⟨i, h1, h2.apart (S := S) (fun b hb => ⟨fun hm => ?_, hw b (h4 b hb)⟩) hs, fun b hb hm => ?_⟩, fun b hb => ?_, Nat.le_trans h5 hs.size⟩
  · rw [List.map_append, List.mem_append] at hm
    rcases hm with hm | hm
    · obtain ⟨p, hp, e⟩ := List.mem_map.1 hm
      have := hO i h1 p hp
      have := h4 b hb
      omega
    · exact h3 b hb hm
  · rcases hS b hb with h | h
    · exact h3 b h hm
    · obtain ⟨p, hp, e⟩ := List.mem_map.1 hm
      have := h2.lt (List.mem_append_right _ hp)
      omega
  · rcases hS b hb with h | h
    · exact h4 b h
    · exact Nat.le_trans h5 h

theorem c_range {α : Type} {g : Operand} {ps : List Tmp} {assign body : Code} {gf : FuncId} [E : Ent P gf] {lb : List Value} {n0 : Nat} {ds : List Deferred} {w0 : World} {D : Nat → Prop} {env' : List (Nat × Value)}
    (encs : α → List Value) (xs : List α) (R : Nat → Prop) (K : List (Nat × Obj)) {ι : Type} (kof : ι → Nat) (I : ι → Prop) (M : ι → List (Nat × Obj)) (St : Code → ι → Prop) (i0 : ι)
    (hg : evOp env g = some (.func (.func gf) ⟨[]⟩ ⟨lb⟩))
    (hit : ∀ W W1, SatW w0 D noJ mem W → Same (fun _ => True) W W1 → It P gf lb encs xs R W1)
    (hR : ∀ b, R b → D b ∨ b ∈ K.map (·.1))
    (hps : ∀ x ∈ xs, (encs x).length = ps.length) (hpN : ∀ p ∈ ps, p < N) (hk0 : kof i0 = 0) (hI0 : I i0) (h0 : MSub mem (K ++ M i0)) (hE : EnvSub env env')
    (round : ∀ i, I i → ∀ (hk : kof i < xs.length) (n l : Nat) (W : World), SatW w0 D noJ (M i) W → ¬ D l → outside (M i) W l →
      RunC P N ⟨Fence.wide.inRound l, n, [], W, outside (M i) W, noJ⟩ assign (Exit.then (AX P N body kof I M St l (kof i) (M i) W) (fun _ _ _ => False)) (zipE ps (encs xs[kof i]) env') (M i))
    (done : ∀ B i, kof i = xs.length → I i → RunX N ⟨Fence.wide, n0, mark B :: ds, w0, D, noJ⟩ Q .normal env ((B, .deferred (some [])) :: (K ++ M i)))
    (stop : ∀ B c i, St c i → RunC P N ⟨Fence.wide, n0, mark B :: ds, w0, D, noJ⟩ c Q env ((B, .deferred (some [])) :: (K ++ M i))) :
    RunC P N ⟨Fence.wide, n0, ds, w0, D, noJ⟩ (.rangeFunc g ⟨ps⟩ assign body) Q env mem := .mk fun a w ha hm => by
  have hev := ha.eval hg
  have hB : ∀ b, w.heap.size ≤ b → ¬ D b := fun b hb hd => by have := hm.dom _ hd; have := hm.same.size; simp only at *; omega
  refine wpIn_rangeFunc ?_
  intro fn _
  obtain ⟨rec, hrec⟩ : ∃ rec : LoopState → Option Code → Loop, rec = fun st pe => { state := st, pending := pe, fn, tmps := a.tmps, params := ⟨ps⟩, assign, body, defers := w.heap.size } := ⟨_, rfl⟩
  have hst : ∀ st pe, (rec st pe).state = st := by rw [hrec]; exact fun _ _ => rfl
  have hrs : ∀ st pe st' pe', ({ rec st pe with state := st', pending := pe' } : Loop) = rec st' pe' := by rw [hrec]; exact fun _ _ _ _ => rfl
  obtain ⟨W1, hW1⟩ : ∃ W1, (w.alloc (.deferred (some []))).alloc (.loop (rec .ready none)) = W1 := ⟨_, rfl⟩
  have hs1 : Same (fun _ => True) w W1 := by rw [← hW1]; exact (Same.alloc _ _ _).trans (Same.alloc _ _ _)
  have hsz1 : W1.heap.size = w.heap.size + 2 := by rw [← hW1]; simp
  have hsat1 : SatW w0 D noJ (((w.heap.size + 1, .loop (rec .ready none)) :: (w.heap.size, .deferred (some [])) :: K) ++ M i0) W1 := by
    have := ((hm.mono h0.sub).alloc (.deferred (some []))).alloc (.loop (rec .ready none))
    rw [hW1] at this
    simpa using this
  refine ⟨w.heap.size + 1, [mark w.heap.size], W1, { target := .fn (.func gf) ⟨lb⟩, args := #[.func (.yield (w.heap.size + 1)) #[] #[]] }, W1, gf, ⟨.func (.yield (w.heap.size + 1)) #[] #[] :: lb⟩, W1, ?_, ?_, ?_, ?_, (fun h => by cases h), ?_⟩
  · rw [← hW1, hrec]; exact run_enterLoop_outer _ _ _ _ _
  · simp only [resolve, hev]
    simp [go_sem]
  · intro f' _; trivial
  · simp only [invoke]
    rw [E.ok]
    simp
  let J : Nat → (Nat → Prop) → World → Prop := fun k S W => (∃ i, (kof i = k ∧ I i) ∧ SatW w0 D noJ (((w.heap.size + 1, .loop (rec .ready none)) :: (w.heap.size, .deferred (some [])) :: K) ++ M i) W ∧ ∀ b, S b → b ∉ (M i).map (·.1)) ∧ (∀ b, S b → w.heap.size + 2 ≤ b) ∧ w.heap.size + 2 ≤ W.heap.size
  let Jx : Nat → (Nat → Prop) → World → Prop := fun k S W => (∃ i : Code × ι, St i.1 i.2 ∧ SatW w0 D noJ (((w.heap.size + 1, .loop (rec .done (some i.1))) :: (w.heap.size, .deferred (some [])) :: K) ++ M i.2) W ∧ ∀ b, S b → b ∉ (M i.2).map (·.1)) ∧ (∀ b, S b → w.heap.size + 2 ≤ b) ∧ w.heap.size + 2 ≤ W.heap.size
  have cJ : ∀ k, Closed (J k) := fun k => closed_of (X := fun i => kof i = k ∧ I i) (O := fun _ => ((w.heap.size + 1, .loop (rec .ready none)) :: (w.heap.size, .deferred (some [])) :: K)) (M := M) (fun b hb => hB b (by omega)) (fun i _ p hp => by
    rcases List.mem_cons.1 hp with rfl | hp
    · simp
    · rcases List.mem_cons.1 hp with rfl | hp
      · simp
      · have := hm.lt (h0.sub.mem (List.mem_append_left _ hp)); omega)
  have cJx : ∀ k, Closed (Jx k) := fun k => closed_of (X := fun i : Code × ι => St i.1 i.2) (O := fun i => ((w.heap.size + 1, .loop (rec .done (some i.1))) :: (w.heap.size, .deferred (some [])) :: K)) (M := fun i => M i.2) (fun b hb => hB b (by omega)) (fun i _ p hp => by
    rcases List.mem_cons.1 hp with rfl | hp
    · simp
    · rcases List.mem_cons.1 hp with rfl | hp
      · simp
      · have := hm.lt (h0.sub.mem (List.mem_append_left _ hp)); omega)
  have hRok : ∀ {i : ι} {A : World}, SatW w0 D noJ (((w.heap.size + 1, .loop (rec .ready none)) :: (w.heap.size, .deferred (some [])) :: K) ++ M i) A → ∀ b, R b → b < A.heap.size ∧ b ≠ w.heap.size + 1 ∧ b ∉ (M i).map (·.1) := fun {i A} h b hb => by
    rcases hR b hb with hd | hk
    · have h1 := h.notIn hd
      refine ⟨Nat.lt_of_lt_of_le (hm.dom _ hd) h.same.size, fun e => ?_, fun e => ?_⟩
      · subst e; exact h1 (by simp)
      · exact h1 (by rw [List.map_append]; exact List.mem_append_right _ e)
    · have hn := h.nodup
      rw [List.map_append, List.nodup_append] at hn
      obtain ⟨p, hp, e⟩ := List.mem_map.1 hk
      have hlt := hm.lt (h0.sub.mem (List.mem_append_left _ hp))
      have hpin := List.mem_cons_of_mem (w.heap.size + 1, Obj.loop (rec .ready none)) (List.mem_cons_of_mem (w.heap.size, Obj.deferred (some [])) hp)
      exact ⟨by have := h.lt (p := p) (List.mem_append_left _ hpin); omega, by omega, fun e2 => hn.2.2 b (List.mem_map.2 ⟨p, hpin, e⟩) b e2 rfl⟩
  refine callsIn_wide.2 ((hit w W1 hm hs1 (w.heap.size + 1) J Jx cJ cJx ?_ ⟨⟨i0, ⟨hk0, hI0⟩, hsat1, fun _ h => h.elim⟩, fun _ h => h.elim, by omega⟩).mono ?_)
  · rintro k hk S A ⟨⟨i, ⟨rfl, hI⟩, hsat, hSM⟩, hSB, hsz⟩ hSA
    have hl : A.heap[w.heap.size + 1]? = some (.loop (rec .ready none)) := (hsat.own _ (List.mem_cons_self)).2
    have hy := run_yield (P := P) (args := ⟨encs xs[kof i]⟩) hl (by rw [hrec]; exact hps _ (List.getElem_mem hk))
    rw [hrec] at hy
    simp only at hy
    have e : (((⟨ps⟩ : Array Tmp).zip ⟨encs xs[kof i]⟩).foldl (fun t (x : Tmp × Value) => t.setIfInBounds x.1 x.2) a.tmps) = (ps.zip (encs xs[kof i])).foldl (fun t (x : Tmp × Value) => t.setIfInBounds x.1 x.2) a.tmps := by simp
    refine ⟨fn, _, assign, body, hy, roundIn_of_wpIn trivial ?_⟩
    have hro := round_ok (P := P) (n := 0) (l := w.heap.size + 1) (rec := rec) (extra := (w.heap.size, .deferred (some [])) :: K) (S := S) (R := R) (i := i) (x := xs[kof i]) hst hrs hsat (zipE_sat (hE.sat ha) hpN)
      (fun b hb => ⟨hSA b hb, by have := hSB b hb; omega, hSM b hb⟩) (hRok hsat) (round i hI hk)
    rw [← e] at hro
    refine wpIn_mono hro ?_
    rintro ex a' W' hq
    cases ex with
    | normal =>
      obtain ⟨w2, h1, h2⟩ := hq
      refine ⟨w2, h1, wpIn_mono h2 ?_⟩
      rintro ex a3 W3 hq
      have conv : ∀ {e : Ending} {B : World}, ((e = .returned (.bool true) ∧ (∃ j, kof j = kof i + 1 ∧ I j ∧ SatW w0 D noJ (((w.heap.size + 1, .loop (rec .ready none)) :: (w.heap.size, .deferred (some [])) :: K) ++ M j) B ∧ ∀ b, S b → b ∉ (M j).map (·.1)) ∧ Same (fun b => S b ∨ R b) A B) ∨
        (e = .returned (.bool false) ∧ ∃ j cd, St cd j ∧ SatW w0 D noJ (((w.heap.size + 1, .loop (rec .done (some cd))) :: (w.heap.size, .deferred (some [])) :: K) ++ M j) B ∧ ∀ b, S b → b ∉ (M j).map (·.1))) →
          (e = .returned (.bool true) ∧ J (kof i + 1) S B ∧ Same (fun b => S b ∨ R b) A B) ∨ (e = .returned (.bool false) ∧ Jx (kof i) S B) := by
        rintro e B (⟨h1, ⟨j, h2, h3, h4, h5⟩, h6⟩ | ⟨h1, j, cd, h3, h4, h5⟩)
        · exact .inl ⟨h1, ⟨⟨j, ⟨h2, h3⟩, h4, h5⟩, hSB, Nat.le_trans hsz h6.size⟩, h6⟩
        · refine .inr ⟨h1, ⟨(cd, j), h3, h4, h5⟩, hSB, ?_⟩
          have := lt_of_heap (h4.own _ (List.mem_cons_self)).2
          simp only at this; omega
      cases ex with
      | normal => obtain ⟨v, w', h1, h2⟩ := hq; exact ⟨v, w', h1, conv h2⟩
      | ret => obtain ⟨v, w', h1, h2⟩ := hq; exact ⟨v, w', h1, conv h2⟩
      | exit id => obtain ⟨v, w', h1, h2⟩ := hq; exact ⟨v, w', h1, conv h2⟩
      | goto t => obtain ⟨v, w', h1, h2⟩ := hq; exact ⟨v, w', h1, conv h2⟩
      | panic ch => exact hq
      | outgrown => exact hq
    | _ => exact hq
  · have fin : ∀ {i : ι} {st : LoopState} {pe : Option Code} {W2 : World}, st ≠ .busy → SatW w0 D noJ (((w.heap.size + 1, .loop (rec st pe)) :: (w.heap.size, .deferred (some [])) :: K) ++ M i) W2 →
        ∃ W3, (Instr.endLoop (w.heap.size + 1)).run P W2 = .ok (rec st pe).pending W3 ∧ SatW w0 D noJ ((w.heap.size, .deferred (some [])) :: (K ++ M i)) W3 := fun {i st pe W2} hst2 h => by
      have hl := (h.own _ (List.mem_cons_self)).2
      simp only at hl
      refine ⟨_, run_endLoop hl (by rw [hst]; exact hst2), ?_⟩
      have hn := h.nodup
      simp only [List.cons_append, List.nil_append, List.map_cons, List.nodup_cons] at hn
      have h2 : SatW w0 D noJ ((w.heap.size, .deferred (some [])) :: (K ++ M i)) W2 := h.mono (List.sublist_cons_self _ _)
      exact h2.sparing (by simp only [List.map_cons]; exact hn.1) (hB _ (by omega)) (Same.putObj _ _ _ fun h => h rfl)
    have hds : SatA N (mark w.heap.size :: ds) env { a with defers := [mark w.heap.size] ++ a.defers } := ⟨ha.size, by show mark _ :: a.defers = _; rw [ha.defers], ha.env⟩
    rintro e W2 ⟨⟨v, rfl⟩, (⟨S, ⟨i, ⟨h1, h2⟩, h3, _⟩, _⟩ | ⟨k, hk, S, ⟨⟨cd, i⟩, h2, h3, _⟩, _⟩)⟩
    · obtain ⟨W3, r1, r2⟩ := fin (by simp) h3
      rw [hrec] at r1
      exact ⟨none, W3, r1, (done _ i h1 h2).run _ W3 hds r2⟩
    · obtain ⟨W3, r1, r2⟩ := fin (by simp) h3
      rw [hrec] at r1
      exact ⟨some cd, W3, r1, (stop _ cd i h2).run _ W3 hds r2⟩

/-- The same within a round of another range. -/
theorem c_rangeN {α : Type} {g : Operand} {ps : List Tmp} {assign body : Code} {gf : FuncId} [E : Ent P gf] {lb : List Value} {n0 l0 : Nat} {r0 : Loop} {ds : List Deferred} {w0 : World} {D : Nat → Prop} {env' : List (Nat × Value)}
    (encs : α → List Value) (xs : List α) (R : Nat → Prop) (K : List (Nat × Obj)) {ι : Type} (kof : ι → Nat) (I : ι → Prop) (M : ι → List (Nat × Obj)) (St : Code → ι → Prop) (i0 : ι)
    (hl0 : w0.heap[l0]? = some (.loop r0)) (hDl : D l0) (hg : evOp env g = some (.func (.func gf) ⟨[]⟩ ⟨lb⟩))
    (hit : ∀ W W1, SatW w0 D noJ mem W → Same (fun _ => True) W W1 → It P gf lb encs xs R W1)
    (hR : ∀ b, R b → D b ∨ b ∈ K.map (·.1))
    (hps : ∀ x ∈ xs, (encs x).length = ps.length) (hpN : ∀ p ∈ ps, p < N) (hk0 : kof i0 = 0) (hI0 : I i0) (h0 : MSub mem (K ++ M i0)) (hE : EnvSub env env')
    (round : ∀ i, I i → ∀ (hk : kof i < xs.length) (n l : Nat) (W : World), SatW w0 D noJ (M i) W → ¬ D l → outside (M i) W l →
      RunC P N ⟨Fence.wide.inRound l, n, [], W, outside (M i) W, noJ⟩ assign (Exit.then (AX P N body kof I M St l (kof i) (M i) W) (fun _ _ _ => False)) (zipE ps (encs xs[kof i]) env') (M i))
    (done : ∀ i, kof i = xs.length → I i → RunX N ⟨Fence.wide.inRound l0, n0, ds, w0, D, noJ⟩ Q .normal env (K ++ M i))
    (stop : ∀ c i, St c i → RunC P N ⟨Fence.wide.inRound l0, n0, ds, w0, D, noJ⟩ c Q env (K ++ M i)) :
    RunC P N ⟨Fence.wide.inRound l0, n0, ds, w0, D, noJ⟩ (.rangeFunc g ⟨ps⟩ assign body) Q env mem := .mk fun a w ha hm => by
  have hev := ha.eval hg
  have hB : ∀ b, w.heap.size ≤ b → ¬ D b := fun b hb hd => by have := hm.dom _ hd; have := hm.same.size; simp only at *; omega
  refine wpIn_rangeFunc ?_
  intro fn _
  obtain ⟨rec, hrec⟩ : ∃ rec : LoopState → Option Code → Loop, rec = fun st pe => { state := st, pending := pe, fn, tmps := a.tmps, params := ⟨ps⟩, assign, body, defers := r0.defers } := ⟨_, rfl⟩
  have hst : ∀ st pe, (rec st pe).state = st := by rw [hrec]; exact fun _ _ => rfl
  have hrs : ∀ st pe st' pe', ({ rec st pe with state := st', pending := pe' } : Loop) = rec st' pe' := by rw [hrec]; exact fun _ _ _ _ => rfl
  obtain ⟨W1, hW1⟩ : ∃ W1, w.alloc (.loop (rec .ready none)) = W1 := ⟨_, rfl⟩
  have hs1 : Same (fun _ => True) w W1 := by rw [← hW1]; exact Same.alloc _ _ _
  have hsz1 : W1.heap.size = w.heap.size + 1 := by rw [← hW1]; simp
  have hsat1 : SatW w0 D noJ (((w.heap.size, .loop (rec .ready none)) :: K) ++ M i0) W1 := by
    have := (hm.mono h0.sub).alloc (.loop (rec .ready none))
    rw [hW1] at this
    simpa using this
  refine ⟨w.heap.size, [], W1, { target := .fn (.func gf) ⟨lb⟩, args := #[.func (.yield w.heap.size) #[] #[]] }, W1, gf, ⟨.func (.yield w.heap.size) #[] #[] :: lb⟩, W1, ?_, ?_, ?_, ?_, (fun h => by cases h), ?_⟩
  · rw [← hW1, hrec]; exact run_enterLoop_inner (hm.same.obj hl0 hDl) _ _ _ _ _
  · simp only [resolve, hev]
    simp [go_sem]
  · intro f' _; trivial
  · simp only [invoke]
    rw [E.ok]
    simp
  let J : Nat → (Nat → Prop) → World → Prop := fun k S W => (∃ i, (kof i = k ∧ I i) ∧ SatW w0 D noJ (((w.heap.size, .loop (rec .ready none)) :: K) ++ M i) W ∧ ∀ b, S b → b ∉ (M i).map (·.1)) ∧ (∀ b, S b → w.heap.size + 1 ≤ b) ∧ w.heap.size + 1 ≤ W.heap.size
  let Jx : Nat → (Nat → Prop) → World → Prop := fun k S W => (∃ i : Code × ι, St i.1 i.2 ∧ SatW w0 D noJ (((w.heap.size, .loop (rec .done (some i.1))) :: K) ++ M i.2) W ∧ ∀ b, S b → b ∉ (M i.2).map (·.1)) ∧ (∀ b, S b → w.heap.size + 1 ≤ b) ∧ w.heap.size + 1 ≤ W.heap.size
  have cJ : ∀ k, Closed (J k) := fun k => closed_of (X := fun i => kof i = k ∧ I i) (O := fun _ => ((w.heap.size, .loop (rec .ready none)) :: K)) (M := M) (fun b hb => hB b (by omega)) (fun i _ p hp => by
    rcases List.mem_cons.1 hp with rfl | hp
    · simp
    · have := hm.lt (h0.sub.mem (List.mem_append_left _ hp)); omega)
  have cJx : ∀ k, Closed (Jx k) := fun k => closed_of (X := fun i : Code × ι => St i.1 i.2) (O := fun i => ((w.heap.size, .loop (rec .done (some i.1))) :: K)) (M := fun i => M i.2) (fun b hb => hB b (by omega)) (fun i _ p hp => by
    rcases List.mem_cons.1 hp with rfl | hp
    · simp
    · have := hm.lt (h0.sub.mem (List.mem_append_left _ hp)); omega)
  have hRok : ∀ {i : ι} {A : World}, SatW w0 D noJ (((w.heap.size, .loop (rec .ready none)) :: K) ++ M i) A → ∀ b, R b → b < A.heap.size ∧ b ≠ w.heap.size ∧ b ∉ (M i).map (·.1) := fun {i A} h b hb => by
    rcases hR b hb with hd | hk
    · have h1 := h.notIn hd
      refine ⟨Nat.lt_of_lt_of_le (hm.dom _ hd) h.same.size, fun e => ?_, fun e => ?_⟩
      · subst e; exact h1 (by simp)
      · exact h1 (by rw [List.map_append]; exact List.mem_append_right _ e)
    · have hn := h.nodup
      rw [List.map_append, List.nodup_append] at hn
      obtain ⟨p, hp, e⟩ := List.mem_map.1 hk
      have hlt := hm.lt (h0.sub.mem (List.mem_append_left _ hp))
      have hpin := List.mem_cons_of_mem (w.heap.size, Obj.loop (rec .ready none)) hp
      exact ⟨by have := h.lt (p := p) (List.mem_append_left _ hpin); omega, by omega, fun e2 => hn.2.2 b (List.mem_map.2 ⟨p, hpin, e⟩) b e2 rfl⟩
  refine callsIn_wide.2 ((hit w W1 hm hs1 w.heap.size J Jx cJ cJx ?_ ⟨⟨i0, ⟨hk0, hI0⟩, hsat1, fun _ h => h.elim⟩, fun _ h => h.elim, by omega⟩).mono ?_)
  · rintro k hk S A ⟨⟨i, ⟨rfl, hI⟩, hsat, hSM⟩, hSB, hsz⟩ hSA
    have hl : A.heap[w.heap.size]? = some (.loop (rec .ready none)) := (hsat.own _ (List.mem_cons_self)).2
    have hy := run_yield (P := P) (args := ⟨encs xs[kof i]⟩) hl (by rw [hrec]; exact hps _ (List.getElem_mem hk))
    rw [hrec] at hy
    simp only at hy
    have e : (((⟨ps⟩ : Array Tmp).zip ⟨encs xs[kof i]⟩).foldl (fun t (x : Tmp × Value) => t.setIfInBounds x.1 x.2) a.tmps) = (ps.zip (encs xs[kof i])).foldl (fun t (x : Tmp × Value) => t.setIfInBounds x.1 x.2) a.tmps := by simp
    refine ⟨fn, _, assign, body, hy, roundIn_of_wpIn trivial ?_⟩
    have hro := round_ok (P := P) (n := 0) (l := w.heap.size) (rec := rec) (extra := K) (S := S) (R := R) (i := i) (x := xs[kof i]) hst hrs hsat (zipE_sat (hE.sat ha) hpN)
      (fun b hb => ⟨hSA b hb, by have := hSB b hb; omega, hSM b hb⟩) (hRok hsat) (round i hI hk)
    rw [← e] at hro
    refine wpIn_mono hro ?_
    rintro ex a' W' hq
    cases ex with
    | normal =>
      obtain ⟨w2, h1, h2⟩ := hq
      refine ⟨w2, h1, wpIn_mono h2 ?_⟩
      rintro ex a3 W3 hq
      have conv : ∀ {e : Ending} {B : World}, ((e = .returned (.bool true) ∧ (∃ j, kof j = kof i + 1 ∧ I j ∧ SatW w0 D noJ (((w.heap.size, .loop (rec .ready none)) :: K) ++ M j) B ∧ ∀ b, S b → b ∉ (M j).map (·.1)) ∧ Same (fun b => S b ∨ R b) A B) ∨
        (e = .returned (.bool false) ∧ ∃ j cd, St cd j ∧ SatW w0 D noJ (((w.heap.size, .loop (rec .done (some cd))) :: K) ++ M j) B ∧ ∀ b, S b → b ∉ (M j).map (·.1))) →
          (e = .returned (.bool true) ∧ J (kof i + 1) S B ∧ Same (fun b => S b ∨ R b) A B) ∨ (e = .returned (.bool false) ∧ Jx (kof i) S B) := by
        rintro e B (⟨h1, ⟨j, h2, h3, h4, h5⟩, h6⟩ | ⟨h1, j, cd, h3, h4, h5⟩)
        · exact .inl ⟨h1, ⟨⟨j, ⟨h2, h3⟩, h4, h5⟩, hSB, Nat.le_trans hsz h6.size⟩, h6⟩
        · refine .inr ⟨h1, ⟨(cd, j), h3, h4, h5⟩, hSB, ?_⟩
          have := lt_of_heap (h4.own _ (List.mem_cons_self)).2
          simp only at this; omega
      cases ex with
      | normal => obtain ⟨v, w', h1, h2⟩ := hq; exact ⟨v, w', h1, conv h2⟩
      | ret => obtain ⟨v, w', h1, h2⟩ := hq; exact ⟨v, w', h1, conv h2⟩
      | exit id => obtain ⟨v, w', h1, h2⟩ := hq; exact ⟨v, w', h1, conv h2⟩
      | goto t => obtain ⟨v, w', h1, h2⟩ := hq; exact ⟨v, w', h1, conv h2⟩
      | panic ch => exact hq
      | outgrown => exact hq
    | _ => exact hq
  · have fin : ∀ {i : ι} {st : LoopState} {pe : Option Code} {W2 : World}, st ≠ .busy → SatW w0 D noJ (((w.heap.size, .loop (rec st pe)) :: K) ++ M i) W2 →
        ∃ W3, (Instr.endLoop w.heap.size).run P W2 = .ok (rec st pe).pending W3 ∧ SatW w0 D noJ (K ++ M i) W3 := fun {i st pe W2} hst2 h => by
      have hl := (h.own _ (List.mem_cons_self)).2
      simp only at hl
      refine ⟨_, run_endLoop hl (by rw [hst]; exact hst2), ?_⟩
      have hn := h.nodup
      simp only [List.cons_append, List.nil_append, List.map_cons, List.nodup_cons] at hn
      have h2 : SatW w0 D noJ (K ++ M i) W2 := h.mono (List.sublist_cons_self _ _)
      exact h2.sparing hn.1 (hB _ (by omega)) (Same.putObj _ _ _ fun h => h rfl)
    rintro e W2 ⟨⟨v, rfl⟩, (⟨S, ⟨i, ⟨h1, h2⟩, h3, _⟩, _⟩ | ⟨k, hk, S, ⟨⟨cd, i⟩, h2, h3, _⟩, _⟩)⟩
    · obtain ⟨W3, r1, r2⟩ := fin (by simp) h3
      rw [hrec] at r1
      exact ⟨none, W3, r1, (done i h1 h2).run _ W3 ha r2⟩
    · obtain ⟨W3, r1, r2⟩ := fin (by simp) h3
      rw [hrec] at r1
      exact ⟨some cd, W3, r1, (stop cd i h2).run _ W3 ha r2⟩

/-! ## Ends behind marks -/
theorem sat_shut {w0 W : World} {D : Nat → Prop} (Ds : List Nat) (h : SatW w0 D noJ mem W) (hn : ∀ d ∈ Ds, ¬ D d ∧ d ∉ mem.map (·.1)) : SatW w0 D noJ mem (shut Ds W) := by
  refine h.apart (S := fun b => b ∈ Ds) (fun b hb => ⟨(hn b hb).2, (hn b hb).1⟩) (shut_same Ds W)

def opn (D : Nat) : Nat × Obj := (D, .deferred (some []))

/-- The marks of the list `Ds`, in this order, and what else is kept. -/
inductive Split : List (Nat × Obj) → List Nat → List (Nat × Obj) → Prop
  | nil : Split [] [] []
  | all {Ds : List Nat} : Split (Ds.map opn) Ds []
  | mark {B : Nat} {m : List (Nat × Obj)} {Ds : List Nat} {m' : List (Nat × Obj)} (k : Split m Ds m') : Split ((B, .deferred (some [])) :: m) (B :: Ds) m'
  | keep {x : Nat × Obj} {m : List (Nat × Obj)} {Ds : List Nat} {m' : List (Nat × Obj)} (k : Split m Ds m') : Split (x :: m) Ds (x :: m')
  | drop {x : Nat × Obj} {m : List (Nat × Obj)} {Ds : List Nat} {m' : List (Nat × Obj)} (k : Split m Ds m') : Split (x :: m) Ds m'

theorem Split.facts {m : List (Nat × Obj)} {Ds : List Nat} {m' : List (Nat × Obj)} (h : Split m Ds m') (hn : (m.map (·.1)).Nodup) :
    Ds.Nodup ∧ (∀ d ∈ Ds, opn d ∈ m) ∧ (∀ d ∈ Ds, d ∉ m'.map (·.1)) ∧ List.Sublist m' m := by
  induction h with
  | nil => exact ⟨List.nodup_nil, fun d hd => (by cases hd), fun d hd => (by cases hd), List.Sublist.refl _⟩
  | all =>
    rename_i Ds
    refine ⟨?_, fun d hd => List.mem_map.2 ⟨d, hd, rfl⟩, fun d _ h => (by cases h), List.nil_sublist _⟩
    rw [List.map_map] at hn
    have : ((fun x : Nat × Obj => x.1) ∘ opn) = id := by funext d; rfl
    rwa [this, List.map_id] at hn
  | mark k ih =>
    simp only [List.map_cons, List.nodup_cons] at hn
    obtain ⟨h1, h2, h3, h4⟩ := ih hn.2
    refine ⟨List.nodup_cons.2 ⟨fun hd => hn.1 (List.mem_map.2 ⟨_, h2 _ hd, rfl⟩), h1⟩, fun d hd => ?_, fun d hd => ?_, h4.cons _⟩
    · rcases List.mem_cons.1 hd with rfl | hd
      · exact List.mem_cons_self
      · exact List.mem_cons_of_mem _ (h2 d hd)
    · rcases List.mem_cons.1 hd with rfl | hd
      · intro hm
        obtain ⟨p, hp, e⟩ := List.mem_map.1 hm
        exact hn.1 (List.mem_map.2 ⟨p, h4.mem hp, e⟩)
      · exact h3 d hd
  | keep k ih =>
    simp only [List.map_cons, List.nodup_cons] at hn
    obtain ⟨h1, h2, h3, h4⟩ := ih hn.2
    refine ⟨h1, fun d hd => List.mem_cons_of_mem _ (h2 d hd), fun d hd hm => ?_, h4.cons_cons _⟩
    simp only [List.map_cons, List.mem_cons] at hm
    rcases hm with rfl | hm
    · exact hn.1 (List.mem_map.2 ⟨_, h2 _ hd, rfl⟩)
    · exact h3 d hd hm
  | drop k ih =>
    simp only [List.map_cons, List.nodup_cons] at hn
    obtain ⟨h1, h2, h3, h4⟩ := ih hn.2
    exact ⟨h1, fun d hd => List.mem_cons_of_mem _ (h2 d hd), h3, h4.cons _⟩

theorem x_rets {tt : List (TypeId × TI)} [T : TT P tt] {fn : Func} {rs : List ResultVar} {vs : List Value} {v : Value} {R : Ending → World → Prop} {Ds : List Nat} {mem' : List (Nat × Obj)} (hJ : c.J = noJ) (hds : c.ds = Ds.map mark)
    (hS : Split mem Ds mem') (hr : fn.results = ⟨rs⟩) (h : Res tt env mem' rs vs) (hv : tupO vs = some v)
    (hR : ∀ W, SatW c.w0 c.D noJ mem' W → R (.returned v) W) : RunX N c (bodyPostK P fn R) .ret env mem := .mk fun a W ha hm => by
  obtain rfl := tupO_eq hv
  rw [hJ] at hm
  obtain ⟨h1, h2, h3, h4⟩ := hS.facts hm.nodup
  have hsh : SatW c.w0 c.D noJ mem' (shut Ds W) := sat_shut Ds (hm.mono h4) fun d hd => ⟨(hm.own _ (h2 d hd)).1, h3 d hd⟩
  exact bodyPostK_rets (ha.defers.trans hds) ⟨h1, fun d hd => (hm.own _ (h2 d hd)).2⟩ (results_run hr h ha hsh) (hR _ hsh)

/-! ## Loops whose rounds gather marks -/
structure BackD (N : Nat) (F : Fence) (n : Nat) (w0 : World) (D : Nat → Prop) {ι : Type} (I : ι → Prop) (dd : ι → List Deferred) (JJ : ι → (Nat → Prop) → World → Prop) (E : ι → List (Nat × Value)) (M : ι → List (Nat × Obj)) (μ : ι → Nat) (i : ι) (a : Act) (W : World) : Prop where
  ex : ∃ j, I j ∧ μ j < μ i ∧ SatA N (dd j) (E j) a ∧ SatW w0 D (JJ j) (M j) W

theorem c_loopD {body : Code} {F : Fence} {n : Nat} {ds : List Deferred} {w0 : World} {D : Nat → Prop} {J : (Nat → Prop) → World → Prop} {ι : Type} (I : ι → Prop) (dd : ι → List Deferred) (JJ : ι → (Nat → Prop) → World → Prop) (E : ι → List (Nat × Value)) (M : ι → List (Nat × Obj)) (μ : ι → Nat) (i0 : ι) (h0 : I i0) (hd : dd i0 = ds) (hJ : JJ i0 = J)
    (hE : EnvSub env (E i0)) (hM : MSub mem (M i0))
    (round : ∀ i, I i → RunC P N ⟨F, n, dd i, w0, D, JJ i⟩ body (Exit.then (BackD N F n w0 D I dd JJ E M μ i) Q) (E i) (M i)) : RunC P N ⟨F, n, ds, w0, D, J⟩ (.loop body) Q env mem := .mk fun a W ha hm => by
  classical
  subst hd
  subst hJ
  let p : Act → World → Nat → Prop := fun a W n => ∃ j, I j ∧ μ j = n ∧ SatA N (dd j) (E j) a ∧ SatW w0 D (JJ j) (M j) W
  let ν : Act → World → Nat := fun a W => if h : ∃ n, p a W n then Classical.choose (least h) else 0
  have hν : ∀ a W, (h : ∃ n, p a W n) → p a W (ν a W) ∧ ∀ m, p a W m → ν a W ≤ m := fun a W h => by
    show p a W (if h : ∃ n, p a W n then Classical.choose (least h) else 0) ∧ ∀ m, p a W m → (if h : ∃ n, p a W n then Classical.choose (least h) else 0) ≤ m
    rw [dif_pos h]; exact Classical.choose_spec (least h)
  refine wpIn_loop (fun a W => ∃ n, p a W n) ν ⟨_, i0, h0, rfl, hE.sat ha, hm.mono hM.sub⟩ ?_
  intro a W hp
  obtain ⟨⟨j, h1, h2, h3, h4⟩, _⟩ := hν a W hp
  refine wpIn_mono ((round j h1).run a W h3 h4) ?_
  rintro e a' W' hq
  cases e with
  | normal =>
    obtain ⟨j', k1, k2, k3, k4⟩ := hq.ex
    have hp' : ∃ n, p a' W' n := ⟨_, j', k1, rfl, k3, k4⟩
    exact ⟨hp', by have := (hν a' W' hp').2 _ ⟨j', k1, rfl, k3, k4⟩; omega⟩
  | _ => exact hq

theorem x_backD {F : Fence} {n : Nat} {ds : List Deferred} {w0 : World} {D : Nat → Prop} {J : (Nat → Prop) → World → Prop} {ι : Type} {I : ι → Prop} {dd : ι → List Deferred} {JJ : ι → (Nat → Prop) → World → Prop} {E : ι → List (Nat × Value)} {M : ι → List (Nat × Obj)} {μ : ι → Nat} {i : ι} {Q' : Exit → Act → World → Prop} (j : ι) (hI : I j) (hμ : μ j < μ i)
    (hd : dd j = ds) (hJ : JJ j = J) (hE : EnvSub env (E j)) (hM : MSub mem (M j)) :
    RunX N ⟨F, n, ds, w0, D, J⟩ (Exit.then (BackD N F n w0 D I dd JJ E M μ i) Q') .normal env mem := .mk fun a W ha hm => ⟨j, hI, hμ, by rw [hd]; exact hE.sat ha, by rw [hJ]; exact hm.mono hM.sub⟩

/-! ## A call of yield -/
theorem p_yield {x : Operand} {args : List Operand} {ats : Array TypeId} {a : Act} {W : World} {l : Nat} {dd : Option Tmp} {ty : TypeId} {pos : String} {af : Array Edge} {g : Option (Nat × Bool)} (hx : a.eval x = .func (.yield l) ⟨[]⟩ ⟨[]⟩) :
    (execOp a.eval ⟨dd, .call ⟨.value x, ⟨args⟩, ats⟩, ty, pos, af, g⟩).run P W = (Instr.yield l ⟨args.map a.eval⟩).run P W := by
  simp only [execOp, resolve, hx, Deferred.ofValue, Sem.run_bind]
  show (((invoke (.fn (.yield l) #[]) (⟨[]⟩ ++ (⟨args⟩ : Array Operand).map a.eval)).run P W)) = _
  simp only [invoke]
  congr 1
  simp

/-- the rounds' word, before the round and behind it -/
theorem l_yield {F : Fence} {lp : Nat} {ds : List Deferred} {w0 : World} {D : Nat → Prop} {J J1 Jx : (Nat → Prop) → World → Prop} [Wide F] {L l : List Oper} {d : Nat} {x : Operand} {args : List Operand} {ats : Array TypeId} {ty : TypeId} {pos : String} {af : Array Edge} {g : Option (Nat × Bool)} {vs : List Value}
    (hF : F = Fence.wide) (hw : wantB L env g = some true) (hd : Nat.blt d N = true) (hx : evOp env x = some (.func (.yield lp) ⟨[]⟩ ⟨[]⟩)) (ha : evOps env args some = some vs)
    (c1 : Closed J1) (cx : Closed Jx)
    (hy : ∀ (S : Nat → Prop) (A : World), J S A → (∀ b, S b → b < A.heap.size) → YieldAt Fence.wide 0 P lp ⟨vs⟩ A fun e B => (e = .returned (.bool true) ∧ J1 S B ∧ Same (fun b => S b ∨ D b) A B) ∨ (e = .returned (.bool false) ∧ Jx S B))
    (k1 : RunL P N ⟨F, 0, ds, w0, D, J1⟩ L l Q ((d, .bool true) :: env) mem)
    (k2 : ∀ W0, RunL P N ⟨F, 0, ds, W0, fun _ => False, Jx⟩ L l Q ((d, .bool false) :: env) []) :
    RunL P N ⟨F, 0, ds, w0, D, J⟩ L (⟨some d, .call ⟨.value x, ⟨args⟩, ats⟩, ty, pos, af, g⟩ :: l) Q env mem :=
  l_run (c := ⟨F, 0, ds, w0, D, J⟩) hw fun a W hA hm => by
    subst hF
    have h1 := hA.evals ha
    simp only [Option.some.injEq] at h1
    obtain ⟨fn, tmps, assign, body, hr, hround⟩ := hy (keys mem) W hm.word (fun b hb => by
      obtain ⟨p, hp, e⟩ := List.mem_map.1 hb
      have := hm.lt hp; omega)
    rw [semAt_plain _ rfl, p_yield (hA.eval hx), h1, hr]
    refine ⟨Wide.depth Fence.wide 0, hround.mono ?_⟩
    rintro e B (⟨rfl, hj, hs⟩ | ⟨rfl, hj⟩)
    · refine k1.run _ _ (hA.put hd _) ⟨hm.same.trans (hs.mono fun b hb => .inr hb), hm.dom, hm.nodup, fun p hp => ⟨(hm.own p hp).1, hs.obj (hm.own p hp).2 (.inl (List.mem_map.2 ⟨p, hp, rfl⟩))⟩, c1, hj⟩
    · refine (k2 B).run _ _ (hA.put hd _) ⟨Same.refl _ _, fun _ h => h.elim, List.nodup_nil, fun p hp => (by cases hp), cx, cx _ _ _ _ hj (Same.refl _ _) fun b hb => (by cases hb)⟩

end
end Kin
end Go

set_option linter.unusedSectionVars false
set_option linter.unusedVariables false
set_option linter.unusedSimpArgs false
namespace Go
open Go.RowKit
namespace Kin

theorem fold_set (off : Nat) : ∀ (vs : List Value) (k : Nat) (cells : Array Value), off + k + vs.length ≤ cells.size →
    (vs.zipIdx k).foldl (fun cs (p : Value × Nat) => cs.setIfInBounds (off + p.2) p.1) cells = ⟨cells.toList.take (off + k) ++ vs ++ cells.toList.drop (off + k + vs.length)⟩
  | [], k, cells, _ => by simp
  | v :: vs, k, cells, h => by
    simp only [List.length_cons] at h
    have ih := fold_set off vs (k + 1) (cells.setIfInBounds (off + k) v) (by simp; omega)
    simp only [List.zipIdx_cons, List.foldl_cons]
    rw [ih]
    congr 1
    rw [Array.toList_setIfInBounds]
    have h1 := list_seg_step cells.toList (off + k) v vs (by simp; omega)
    rw [show off + (k + 1) = off + k + 1 by omega, show off + k + (v :: vs).length = off + k + (vs.length + 1) by simp]
    exact h1

theorem fill_one (off : Nat) (v : Value) (cs : List Value) (h1 : off + (cellsL v).length ≤ cs.length) :
    (v.cells.zipIdx.foldl (fun cs (x : Value × Nat) => cs.setIfInBounds (off + x.2) x.1) (⟨cs⟩ : Array Value)) = ⟨cs.take off ++ cellsL v ++ cs.drop (off + (cellsL v).length)⟩ := by
  rw [cellsL_eq, ← Array.foldl_toList, Array.toList_zipIdx]
  have := fold_set off (cellsL v) 0 ⟨cs⟩ (by simpa using h1)
  simpa using this

def placeF (f : Field) : Sem (Nat × Nat) := do pure (f.offset, ← sizeOf f.type)

theorem run_places {P : Program} {W : World} : ∀ (fs : List Field), (∀ f ∈ fs, ∃ i, P.info? f.type = some i) →
    (fs.mapM placeF).run P W = .ok (fs.map fun f => (f.offset, P.cellsOf f.type)) W
  | [], _ => rfl
  | f :: fs, h => by
    obtain ⟨i, hi⟩ := h f List.mem_cons_self
    have ih := run_places (P := P) (W := W) fs fun g hg => h g (List.mem_cons_of_mem _ hg)
    have h1 : (placeF f).run P W = .ok (f.offset, P.cellsOf f.type) W := by
      simp only [placeF, Sem.run_bind, run_size hi, Result.andThen_ok, Program.cellsOf, hi, Option.map_some, Option.getD_some]; rfl
    rw [List.mapM_cons]
    simp only [Sem.run_bind, h1, ih, Result.andThen_ok, List.map_cons]; rfl

/-- A struct's literal. -/
def buildK (tt : List (TypeId × TI)) (env : List (Nat × Value)) (fs : List (TypeId × Nat)) : List (Nat × Operand) → List Value → Option Value
  | [], cells => some (.agg ⟨cells⟩)
  | (i, x) :: ps, cells => match nth fs i with
    | some (ft, off) => match look tt ft with
      | some ⟨_, sz, _, _⟩ => match evOp env x with
        | some v => bif Nat.beq (cellsL v).length sz then putK cells off (cellsL v) fun cells' => buildK tt env fs ps cells' else none
        | none => none
      | none => none
    | none => none

def allIn (tt : List (TypeId × TI)) : List (TypeId × Nat) → Bool
  | [] => true
  | (t, _) :: fs => match look tt t with
    | some _ => allIn tt fs
    | none => false

section
variable {P : Program} {N : Nat} {c : Cx} {Q : Exit → Act → World → Prop} {env : List (Nat × Value)} {mem : List (Nat × Obj)} {L l : List Oper} [Wide c.F]
  {tt : List (TypeId × TI)} {d : Nat} {ty : TypeId} {pos : String} {af : Array Edge} {g : Option (Nat × Bool)} {dd : Option Tmp}

theorem allIn_info [T : TT P tt] {fs : List (TypeId × Nat)} (h : allIn tt fs = true) : ∀ p ∈ fs, ∃ i, P.info? p.1 = some i := by
  induction fs with
  | nil => intro p hp; cases hp
  | cons q fs ih =>
    obtain ⟨t, o⟩ := q
    simp only [allIn] at h
    cases hl : look tt t with
    | none => rw [hl] at h; cases h
    | some ti =>
      rw [hl] at h
      intro p hp
      rcases List.mem_cons.1 hp with rfl | hp
      · obtain ⟨_, i, hi, _⟩ := TT.look (P := P) hl; exact ⟨i, hi⟩
      · exact ih h p hp

theorem fill_ok [T : TT P tt] {ds : List Deferred} {a : Act} (ha : SatA N ds env a) {fs : List Field} : ∀ (ps : List (Nat × Operand)) (cells : List Value) (v : Value),
    buildK tt env (fs.map fun f => (f.type, f.offset)) ps cells = some v →
    ∃ cs, v = .agg cs ∧ Instr.fill (fun i => (fs.map fun f => (f.offset, P.cellsOf f.type))[i]?) ⟨cells⟩ (ps.map fun p => (p.1, a.eval p.2)) = some cs
  | [], cells, v, h => by
    simp only [buildK, Option.some.injEq] at h
    exact ⟨_, h.symm, rfl⟩
  | (i, x) :: ps, cells, v, h => by
    simp only [buildK] at h
    split at h
    · rename_i ft off h1
      split at h
      · rename_i sz _ _ h2
        split at h
        · rename_i u h3
          cases hb : Nat.beq (cellsL u).length sz with
          | false => rw [hb] at h; cases h
          | true =>
            rw [hb] at h
            simp only [cond_true] at h
            have hlen := Nat.eq_of_beq_eq_true hb
            obtain ⟨h4, h5⟩ := putK_eq h
            obtain ⟨cs, h6, h7⟩ := fill_ok ha ps _ v h5
            refine ⟨cs, h6, ?_⟩
            rw [nth_eq, List.getElem?_map] at h1
            cases hf : fs[i]? with
            | none => rw [hf] at h1; cases h1
            | some f =>
              rw [hf] at h1
              simp only [Option.map_some, Option.some.injEq, Prod.mk.injEq] at h1
              obtain ⟨rfl, rfl⟩ := h1
              obtain ⟨inf, hi, hs⟩ := (TT.look (P := P) h2).size
              have hsz : P.cellsOf f.type = sz := by simp [Program.cellsOf, hi, hs]
              have hpl : (fs.map fun f => (f.offset, P.cellsOf f.type))[i]? = some (f.offset, sz) := by rw [List.getElem?_map, hf]; simp [hsz]
              simp only [List.map_cons, Instr.fill, hpl, ha.eval h3]
              have hcz : u.cells.size = sz := by rw [cellsL_eq]; exact hlen
              rw [if_neg (by simp only [hcz, ne_eq, not_true_eq_false, decide_false, Bool.false_or, decide_eq_true_eq, List.size_toArray]; omega)]
              rw [fill_one f.offset u cells h4]
              exact h7
        · cases h
      · cases h
    · cases h

theorem v_build [T : TT P tt] {t sz bt : Nat} {fs : List (TypeId × Nat)} {z v : Value} {ps : List (Nat × Operand)} (ht : look tt t = some ⟨.struct fs, sz, bt, z⟩) (hi : allIn tt fs = true) (hv : buildK tt env fs ps (cellsL z) = some v) :
    OpVal P N c env mem ⟨dd, .build t ⟨ps⟩, ty, pos, af, g⟩ v := ⟨rfl, fun a W ha _ => by
  obtain ⟨⟨fields, hu, hf⟩, inf, hinf, _, _, hz⟩ := TT.look (P := P) ht
  subst hf
  have hz2 : (zeroValue t).run P W = .ok z W := by
    simp only [zeroValue, Sem.run_bind, run_info hinf, Result.andThen_ok, hz]; rfl
  obtain ⟨cs, rfl, h2⟩ := fill_ok (P := P) ha ps _ v hv
  have hpl := run_places (P := P) (W := W) fields.toList fun f hf => allIn_info hi (f.type, f.offset) (List.mem_map.2 ⟨f, hf, rfl⟩)
  have hpl2 : (fields.mapM placeF).run P W = .ok (fields.map fun f => (f.offset, P.cellsOf f.type)) W := by
    rw [Array.mapM_eq_mapM_toList, Sem.run_map, hpl]
    simp only [Result.andThen_ok]
    congr 1
    apply Array.ext'; simp
  have e1 : (fields.toList.map fun f => (f.offset, P.cellsOf f.type)) = (fields.map fun f => (f.offset, P.cellsOf f.type)).toList := by simp
  rw [e1] at h2
  simp only [execOp, Instr.build, Sem.run_bind, hz2, run_und hu, Result.andThen_ok]
  show ((((fields.mapM placeF).run P W).andThen _).andThen _) = _
  rw [hpl2]
  simp only [Result.andThen_ok]
  have e2 : (fun (i : Nat) => (fields.map fun f => (f.offset, P.cellsOf f.type)).toList[i]?) = fun (i : Nat) => (fields.map fun f => (f.offset, P.cellsOf f.type))[i]? := by funext i; simp
  rw [e2] at h2
  have e3 : ((⟨ps⟩ : Array (Nat × Operand)).map fun (x : Nat × Operand) => (x.1, a.eval x.2)).toList = ps.map fun p => (p.1, a.eval p.2) := by simp
  rw [e3, cellsL_eq, h2]; rfl⟩


/-! ## Slices by literals, and make -/
/-- the cells of a slice's literal all of whose elements are given, in order -/
def rowsK {β : Type} (env : List (Nat × Value)) (sz : Nat) : List (Nat × Operand) → Nat → (List Value → Option β) → Option β
  | [], _, k => k []
  | (i, x) :: ps, j, k => bif Nat.beq i j then match evOp env x with
      | some v => bif Nat.beq (cellsL v).length sz then rowsK env sz ps (j + 1) fun r => k (cellsL v ++ r) else none
      | none => none
    else none

theorem rowsK_ok {β : Type} {ds : List Deferred} {a : Act} (ha : SatA N ds env a) {sz : Nat} : ∀ (ps : List (Nat × Operand)) (j : Nat) (k : List Value → Option β) (r : β), rowsK env sz ps j k = some r →
    ∃ cs, k cs = some r ∧ cs.length = ps.length * sz ∧ ∀ pre post : List Value, pre.length = j * sz → post.length = ps.length * sz →
      Instr.fill (fun i => some (i * sz, sz)) ⟨pre ++ post⟩ (ps.map fun p => (p.1, a.eval p.2)) = some ⟨pre ++ cs⟩
  | [], j, k, r, h => ⟨[], h, by simp, fun pre post _ h2 => by
      have : post = [] := List.eq_nil_of_length_eq_zero (by simpa using h2)
      subst this; rfl⟩
  | (i, x) :: ps, j, k, r, h => by
    simp only [rowsK] at h
    cases hb : Nat.beq i j with
    | false => rw [hb] at h; cases h
    | true =>
      have hij := Nat.eq_of_beq_eq_true hb
      subst hij
      rw [hb] at h
      simp only [cond_true] at h
      split at h
      · rename_i v hx
        cases hb2 : Nat.beq (cellsL v).length sz with
        | false => rw [hb2] at h; cases h
        | true =>
          have hlen := Nat.eq_of_beq_eq_true hb2
          rw [hb2] at h
          simp only [cond_true] at h
          obtain ⟨cs, h1, h2, h3⟩ := rowsK_ok ha ps (i + 1) _ r h
          refine ⟨cellsL v ++ cs, h1, by rw [List.length_append, h2, hlen, List.length_cons, Nat.add_mul, Nat.one_mul, Nat.add_comm], fun pre post hp hq => ?_⟩
          have hcz : v.cells.size = sz := by rw [cellsL_eq]; exact hlen
          have hq2 : sz ≤ post.length := by rw [hq, List.length_cons, Nat.add_mul, Nat.one_mul]; omega
          simp only [List.map_cons, Instr.fill, ha.eval hx]
          rw [if_neg (by simp only [hcz, ne_eq, not_true_eq_false, decide_false, Bool.false_or, decide_eq_true_eq, List.size_toArray, List.length_append]; omega)]
          rw [fill_one (i * sz) v (pre ++ post) (by simp only [List.length_append]; omega)]
          have e1 : (pre ++ post).take (i * sz) = pre := by rw [← hp, List.take_left]
          have e2 : (pre ++ post).drop (i * sz + (cellsL v).length) = post.drop sz := by
            rw [hlen, ← hp, ← List.drop_drop, List.drop_left]
          rw [e1, e2]
          have := h3 (pre ++ cellsL v) (post.drop sz) (by rw [List.length_append, hp, hlen, Nat.add_mul, Nat.one_mul]) (by rw [List.length_drop, hq, List.length_cons, Nat.add_mul, Nat.one_mul]; omega)
          rw [this, List.append_assoc]
      · cases h

theorem r_buildSlice [T : TT P tt] {t e n sz bt sz' bt' : Nat} {ke : TK} {z z' : Value} {ps : List (Nat × Operand)} {cs : List Value} (hw : wantB L env g = some true) (hd : Nat.blt d N = true)
    (ht : look tt t = some ⟨.slice e, sz', bt', z'⟩) (hte : look tt e = some ⟨ke, sz, bt, z⟩) (hn : Nat.beq ps.length n = true) (hb : Nat.ble (n * sz) 16777216 = true) (hv : rowsK env sz ps 0 some = some cs)
    (k : ∀ b, RunL P N c L l Q ((d, .slice (some ⟨b, 0, none⟩) n n) :: env) ((b, .cells ⟨cs⟩ e (0, 0)) :: mem)) :
    RunL P N c L (⟨some d, .buildSlice t n ⟨ps⟩, ty, pos, af, g⟩ :: l) Q env mem := by
  have hn := Nat.eq_of_beq_eq_true hn
  subst hn
  have hu : P.underlying t = some (.slice e) := (TT.look (P := P) ht).1
  obtain ⟨_, inf, hi, hs, _, hz⟩ := TT.look (P := P) hte
  simp only at hs hz
  refine l_eff (ι := Nat) (v := fun b => .slice (some ⟨b, 0, none⟩) ps.length ps.length) (mem' := fun b => (b, .cells ⟨cs⟩ e (0, 0)) :: mem) hw hd ⟨rfl, fun a W ha hm => ?_⟩ k
  refine ⟨W.heap.size, _, ?_, hm.alloc _⟩
  obtain ⟨cs', h1, h2, h3⟩ := rowsK_ok ha ps 0 _ _ hv
  simp only [Option.some.injEq] at h1
  subst h1
  have hz2 : (zeroValue e).run P W = .ok z W := by
    simp only [zeroValue, Sem.run_bind, run_info hi, Result.andThen_ok, hz]; rfl
  have hb2 : ¬ ps.length * sz > 2 ^ 24 := by have := Nat.le_of_ble_eq_true hb; omega
  have hfill : ∀ zz : Array Value, Instr.fill (fun i => some (i * sz, sz)) ((Array.range (ps.length * sz)).map (zz[· % zz.size]!)) (ps.map fun p => (p.1, a.eval p.2)) = some ⟨cs'⟩ := fun zz => by
    have := h3 [] ((Array.range (ps.length * sz)).map (zz[· % zz.size]!)).toList (by simp) (by simp)
    rwa [List.nil_append, show (⟨((Array.range (ps.length * sz)).map (zz[· % zz.size]!)).toList⟩ : Array Value) = (Array.range (ps.length * sz)).map (zz[· % zz.size]!) from rfl, List.nil_append] at this
  simp only [execOp, Instr.buildSlice, Sem.run_bind, run_und hu, run_size hi, Result.andThen_ok, hs]
  rw [if_neg hb2]
  have e3 : ((⟨ps⟩ : Array (Nat × Operand)).map fun (x : Nat × Operand) => (x.1, a.eval x.2)).toList = ps.map fun p => (p.1, a.eval p.2) := by simp
  rw [e3]
  by_cases h0 : ps.length * sz = 0
  · rw [if_pos h0]
    simp only [pure_bind]
    rw [hfill #[]]; rfl
  · rw [if_neg h0]
    simp only [Sem.run_bind, hz2, Result.andThen_ok]
    rw [show (Sem.run P (pure z.cells : Sem (Array Value)) W) = .ok z.cells W from rfl, Result.andThen_ok, hfill z.cells]; rfl

end
end Kin
end Go

set_option linter.unusedSectionVars false
set_option linter.unusedVariables false
set_option linter.unusedSimpArgs false
namespace Go
open Go.RowKit
namespace Kin
section
variable {P : Program} {N : Nat} {c : Cx} {Q : Exit → Act → World → Prop} {env : List (Nat × Value)} {mem : List (Nat × Obj)} {L l : List Oper} [Wide c.F]
  {tt : List (TypeId × TI)} {d : Nat} {ty : TypeId} {pos : String} {af : Array Edge} {g : Option (Nat × Bool)} {dd : Option Tmp}

theorem wrap_nat {n : Nat} (h : n ≤ 281474976710656) : IntKind.i64.wrap (n : Int) = n := wrap_i64 (by omega) (by omega)

theorem zeros_eq (z : Array Value) (n : Nat) (hz : z.size ≠ 0) : ((Array.range (n * z.size)).map (fun i => z[i % z.size]!)) = ⟨flat n fun _ => z.toList⟩ := by
  apply Array.ext'
  simp only [Array.toList_map, Array.toList_range]
  unfold flat
  induction n with
  | zero => simp
  | succ n ih =>
    rw [Nat.add_mul, Nat.one_mul, List.range_add, List.map_append, ih, List.range_succ, List.flatMap_append]
    congr 1
    simp only [List.map_map, List.flatMap_cons, List.flatMap_nil, List.append_nil]
    apply List.ext_getElem?
    intro j
    by_cases hj : j < z.size
    · have h1 : (n * z.size + j) % z.size = j := by rw [Nat.add_comm, Nat.add_mul_mod_self_right, Nat.mod_eq_of_lt hj]
      simp [hj, h1]
    · simp [hj]

theorem flat_one {n : Nat} {z : Value} : (flat n fun _ => [z]) = vec n fun _ => z := by
  unfold flat vec
  induction n with
  | zero => rfl
  | succ n ih => rw [List.range_succ, List.flatMap_append, ih, List.map_append]; rfl

theorem r_make [T : TT P tt] {t e n sz bt sz' bt' : Nat} {ke : TK} {z z' : Value} {x y : Operand} {m : Int} {cs : List Value} {kd : IntKind} (hw : wantB L env g = some true) (hd : Nat.blt d N = true)
    (ht : look tt t = some ⟨.slice e, sz', bt', z'⟩) (hte : look tt e = some ⟨ke, sz, bt, z⟩) (hx : evOp env x = some (.int kd m)) (hy : evOp env y = some (.int kd m)) (hm : m = (n : Int)) (hn : n * bt ≤ 140737488355328) (hn2 : n ≤ 281474976710656)
    (hs0 : Nat.beq sz 0 = false) (hzl : Nat.beq (cellsL z).length sz = true) (hcs : (flat n fun _ => cellsL z) = cs)
    (k : ∀ b, RunL P N c L l Q ((d, .slice (some ⟨b, 0, none⟩) n n) :: env) ((b, .cells ⟨cs⟩ e (0, 0)) :: mem)) :
    RunL P N c L (⟨some d, .makeSlice t x y, ty, pos, af, g⟩ :: l) Q env mem := by
  subst hm
  subst hcs
  have hu : P.underlying t = some (.slice e) := (TT.look (P := P) ht).1
  obtain ⟨_, inf, hi, hs, hb, hz⟩ := TT.look (P := P) hte
  simp only at hs hz hb
  have hs0 := Nat.ne_of_beq_eq_false hs0
  have hzl := Nat.eq_of_beq_eq_true hzl
  refine l_eff (ι := Nat) (v := fun b => .slice (some ⟨b, 0, none⟩) n n) (mem' := fun b => (b, .cells ⟨flat n fun _ => cellsL z⟩ e (0, 0)) :: mem) hw hd ⟨rfl, fun a W ha hm => ?_⟩ k
  refine ⟨W.heap.size, _, ?_, hm.alloc _⟩
  have hzsz : z.cells.size = sz := by rw [cellsL_eq]; exact hzl
  have hzero : madeCells z.cells ((n : Int).toNat * inf.size) = ⟨flat n fun _ => cellsL z⟩ := by
    have := zeros_eq z.cells n (by rw [hzsz]; exact hs0)
    rw [hzsz, cellsL_eq] at this
    rw [Int.toNat_natCast, hs, madeCells, cellsL_eq]
    simpa [hzl] using this
  have hbb : (inf.bytes : Int) * (n : Int) ≤ 281474976710656 := by
    have h : ((inf.bytes * n : Nat) : Int) ≤ 281474976710656 := by rw [hb, Nat.mul_comm]; omega
    rwa [Int.natCast_mul] at h
  have hr := run_make (P := P) W t e inf z hu hi hz kd kd n n (by omega) (Int.le_refl _) hbb (by omega)
  rw [hzero, Int.toNat_natCast] at hr
  simp only [execOp, ha.eval hx, ha.eval hy, Sem.run_bind, hr, Result.andThen_ok]; rfl

/-- A row that grows: `n` elements in `xs`, and behind them the rest of the array. -/
structure Grow (sz n : Nat) (xs : List Value) (cap : Nat) (rest : List Value) : Prop where
  len : xs.length = n * sz
  all : (xs ++ rest).length = cap * sz
  le : n ≤ cap
  max : cap ≤ maxLen

inductive Rem : List (Nat × Obj) → Nat → Obj → List (Nat × Obj) → Prop
  | head {b : Nat} {o : Obj} {m : List (Nat × Obj)} : Rem ((b, o) :: m) b o m
  | tail {b : Nat} {o : Obj} {x : Nat × Obj} {m m' : List (Nat × Obj)} (h : Rem m b o m') : Rem (x :: m) b o (x :: m')

theorem Rem.sub {m m' : List (Nat × Obj)} {b : Nat} {o : Obj} (h : Rem m b o m') : List.Sublist m' m := by
  induction h with
  | head => exact List.sublist_cons_self _ _
  | tail _ ih => exact ih.cons_cons _
theorem Rem.isIn {m m' : List (Nat × Obj)} {b : Nat} {o : Obj} (h : Rem m b o m') : (b, o) ∈ m := by
  induction h with
  | head => exact List.mem_cons_self
  | tail _ ih => exact List.mem_cons_of_mem _ ih
theorem Rem.not {m m' : List (Nat × Obj)} {b : Nat} {o : Obj} (h : Rem m b o m') (hn : (m.map (·.1)).Nodup) : b ∉ m'.map (·.1) := by
  induction h with
  | head => simp only [List.map_cons, List.nodup_cons] at hn; exact hn.1
  | tail hr ih =>
    simp only [List.map_cons, List.nodup_cons] at hn
    simp only [List.map_cons, List.mem_cons, not_or]
    exact ⟨fun e => hn.1 (e ▸ List.mem_map.2 ⟨_, hr.isIn, rfl⟩), ih hn.2⟩

/-- The cells that are appended. -/
structure News (c : Cx) (mem : List (Nat × Obj)) (b o : Nat) (ys : List Value) : Prop where
  ok : ∀ W, SatW c.w0 c.D c.J mem W → ∀ j v, ys[j]? = some v → W.cell? ⟨b, o + j, none⟩ = some v
theorem news_own {b : Nat} {ys : List Value} {T' : TypeId} {fr : Nat × Nat} (hm : (b, Obj.cells ⟨ys⟩ T' fr) ∈ mem) : News c mem b 0 ys :=
  ⟨fun W hW j v hj => by rw [hW.cellAt hm, Nat.zero_add]; exact hj⟩
theorem news_ext {b o : Nat} {ys : List Value} (he : Ext c.w0 c.D b o ys) : News c mem b o ys :=
  ⟨fun W hW j v hj => hW.same.cell (he.cell j v hj) he.dom⟩

theorem p_append {t : TypeId} {x y : Operand} {a : Act} {W W' : World} {s u v : Value} (hx : a.eval x = s) (hy : a.eval y = u) (h : (Builtin.append_ #[t, t] ty #[s, u]).run P W = .ok v W') :
    (execOp a.eval ⟨dd, .call ⟨.builtin .append, ⟨[x, y]⟩, ⟨[t, t]⟩⟩, ty, pos, af, g⟩).run P W = .ok (.value v) W' := by
  simp only [execOp, resolve, List.map_toArray, List.map_cons, List.map_nil, hx, hy, Sem.run_bind]
  simp only [Sem.run, pure, Result.andThen_ok, invoke, builtin, Sem.run_bind, bind, Sem.run_bind']
  rw [show (Builtin.append_ ⟨[t, t]⟩ ty ⟨[s, u]⟩).run P W = .ok v W' from h]; rfl

theorem zeroCells_len (z : Array Value) (n : Nat) : (Builtin.zeroCells z n).toList.length = n * z.size := by simp [Builtin.zeroCells]

theorem drew_alloc (W : World) (o : Obj) : Below W.heap.size W (W.drew.alloc o) := ((Below.refl _ W).drew).alloc (by show W.heap.size ≤ W.drew.heap.size; exact Nat.le_refl _) o

theorem SatW.newest {w0 : World} {D : Nat → Prop} {J : (Nat → Prop) → World → Prop} {W : World} (h : SatW w0 D J mem W) (o : Obj) : SatW w0 D J ((W.heap.size, o) :: mem) (W.drew.alloc o) := by
  have := (show SatW w0 D J mem W.drew from h.drew).alloc o
  exact this

theorem r_append_nil [T : TT P tt] {t e m cx bx ox sz bt sz' bt' : Nat} {ke : TK} {z z' : Value} {x y : Operand} {ys : List Value} (hw : wantB L env g = some true) (hd : Nat.blt d N = true)
    (hx : evOp env x = some (.slice none 0 0)) (hy : evOp env y = some (.slice (some ⟨bx, ox, none⟩) m cx)) (ht : look tt t = some ⟨.slice e, sz', bt', z'⟩) (hte : look tt e = some ⟨ke, sz, bt, z⟩) (hnews : News c mem bx ox ys)
    (hl : ys.length = m * sz) (hzl : Nat.beq (cellsL z).length sz = true) (h0 : 0 < m) (hb : m * bt ≤ 140737488355328) (hm : m ≤ maxLen)
    (k : ∀ b cap rest, Grow sz m ys cap rest → RunL P N c L l Q ((d, .slice (some ⟨b, 0, none⟩) m cap) :: env) ((b, .cells ⟨ys ++ rest⟩ e (0, 0)) :: mem)) :
    RunL P N c L (⟨some d, .call ⟨.builtin .append, ⟨[x, y]⟩, ⟨[t, t]⟩⟩, ty, pos, af, g⟩ :: l) Q env mem := by
  have hu : P.underlying t = some (.slice e) := (TT.look (P := P) ht).1
  obtain ⟨_, inf, hi, hs, hbt, hz⟩ := TT.look (P := P) hte
  simp only at hs hz hbt
  have hzl := Nat.eq_of_beq_eq_true hzl
  refine l_eff (ι := { p : Nat × Nat × List Value // Grow sz m ys p.2.1 p.2.2 }) (v := fun p => .slice (some ⟨p.1.1, 0, none⟩) m p.1.2.1) (mem' := fun p => (p.1.1, .cells ⟨ys ++ p.1.2.2⟩ e (0, 0)) :: mem) hw hd ⟨rfl, fun a W ha hmm => ?_⟩ (fun p => k _ _ _ p.2)
  have hr := run_append_nil (P := P) W t ty e inf z hu hi hz ⟨bx, ox, none⟩ m cx ys (by rw [hs]; exact hl) (fun j v hj => by rw [addr_add]; exact hnews.ok W hmm j v hj) h0 (by simp only [maxLen] at hm; omega) (by rw [hbt]; omega)
  have hge := grownCap_ge W m 0 e
  refine ⟨⟨(W.heap.size, grownCap W m 0 e, (Builtin.zeroCells z.cells (grownCap W m 0 e - m)).toList), ⟨hl, ?_, hge, grownCap_le_maxLen W m 0 e hm⟩⟩, _, p_append (ha.eval hx) (ha.eval hy) hr, ?_⟩
  · rw [List.length_append, hl, zeroCells_len, cellsL_eq]
    show m * sz + (grownCap W m 0 e - m) * (cellsL z).length = _
    rw [hzl, ← Nat.add_mul]
    simp only
    congr 1; omega
  · have := hmm.newest (.cells (ys.toArray ++ Builtin.zeroCells z.cells (grownCap W m 0 e - m)) e)
    rw [show (ys.toArray ++ Builtin.zeroCells z.cells (grownCap W m 0 e - m)) = ⟨ys ++ (Builtin.zeroCells z.cells (grownCap W m 0 e - m)).toList⟩ by apply Array.ext'; simp] at this ⊢
    exact this

theorem r_append [T : TT P tt] {t e n cap b m cx bx ox sz bt sz' bt' : Nat} {ke : TK} {z z' : Value} {x y : Operand} {xs rest ys : List Value} {mem' : List (Nat × Obj)} (hw : wantB L env g = some true) (hd : Nat.blt d N = true)
    (hx : evOp env x = some (.slice (some ⟨b, 0, none⟩) n cap)) (hy : evOp env y = some (.slice (some ⟨bx, ox, none⟩) m cx)) (ht : look tt t = some ⟨.slice e, sz', bt', z'⟩) (hte : look tt e = some ⟨ke, sz, bt, z⟩) (hnews : News c mem bx ox ys)
    (hr : Rem mem b (.cells ⟨xs ++ rest⟩ e (0, 0)) mem') (hg : Grow sz n xs cap rest)
    (hl : ys.length = m * sz) (hone : allOne ys = true) (hzl : Nat.beq (cellsL z).length sz = true) (hb : (n + m) * bt ≤ 140737488355328) (hm : n + m ≤ maxLen)
    (k : ∀ b cap rest, Grow sz (n + m) (xs ++ ys) cap rest → RunL P N c L l Q ((d, .slice (some ⟨b, 0, none⟩) (n + m) cap) :: env) ((b, .cells ⟨xs ++ ys ++ rest⟩ e (0, 0)) :: mem')) :
    RunL P N c L (⟨some d, .call ⟨.builtin .append, ⟨[x, y]⟩, ⟨[t, t]⟩⟩, ty, pos, af, g⟩ :: l) Q env mem := by
  have hu : P.underlying t = some (.slice e) := (TT.look (P := P) ht).1
  obtain ⟨_, inf, hi, hs, hbt, hz⟩ := TT.look (P := P) hte
  simp only at hs hz hbt
  have hzl := Nat.eq_of_beq_eq_true hzl
  refine l_eff (ι := { p : Nat × Nat × List Value // Grow sz (n + m) (xs ++ ys) p.2.1 p.2.2 }) (v := fun p => .slice (some ⟨p.1.1, 0, none⟩) (n + m) p.1.2.1) (mem' := fun p => (p.1.1, .cells ⟨xs ++ ys ++ p.1.2.2⟩ e (0, 0)) :: mem') hw hd ⟨rfl, fun a W ha hmm => ?_⟩ (fun p => k _ _ _ p.2)
  have hbW := (hmm.own _ hr.isIn).2
  simp only at hbW
  have hlen2 : (xs ++ ys).length = (n + m) * sz := by rw [List.length_append, hg.len, hl, Nat.add_mul]
  by_cases hroom : n + m ≤ cap
  · have hfit : n * inf.size + ys.length ≤ (xs ++ rest).length := by rw [hg.all, hs, hl, ← Nat.add_mul]; exact Nat.mul_le_mul_right _ hroom
    have hap := run_append_room (P := P) W t ty e inf hu hi b n cap ⟨xs ++ rest⟩ hbW ⟨bx, ox, none⟩ m cx ys (by rw [hs]; exact hl) (fun j v hj => by rw [addr_add]; exact hnews.ok W hmm j v hj) (allOne_mem hone) hroom hfit
    have e1 : (xs ++ rest).take (n * inf.size) = xs := by rw [hs, ← hg.len, List.take_left]
    have e2 : (xs ++ rest).drop (n * inf.size + ys.length) = rest.drop ys.length := by rw [hs, ← hg.len, ← List.drop_drop, List.drop_left]
    simp only [e1, e2] at hap
    have hl3 : (xs ++ ys ++ rest.drop ys.length).length = cap * sz := by
      have := hg.all
      simp only [List.length_append, List.length_drop] at this ⊢ hfit
      rw [hs, ← hg.len] at hfit
      omega
    refine ⟨⟨(b, cap, rest.drop ys.length), ⟨hlen2, hl3, hroom, hg.max⟩⟩, _, p_append (ha.eval hx) (ha.eval hy) hap, ?_⟩
    have hsub := hmm.mono hr.sub
    have hnot := hr.not hmm.nodup
    refine ⟨hmm.same.trans ((setRow_same _ _ _).mono fun k hk e => (hmm.own _ hr.isIn).1 (e ▸ hk)), hmm.dom, ?_, ?_, hmm.closed, ?_⟩
    · simp only [List.map_cons, List.nodup_cons]; exact ⟨hnot, hsub.nodup⟩
    · intro p hp
      rcases List.mem_cons.1 hp with rfl | hp
      · exact ⟨(hmm.own _ hr.isIn).1, setRow_heap W b ⟨xs ++ rest⟩ _ e _ hbW⟩
      · exact ⟨(hsub.own p hp).1, ((setRow_same W b _).block _ (hsub.lt hp) (fun e => hnot (List.mem_map.2 ⟨p, hp, e⟩))).trans (hsub.own p hp).2⟩
    · refine hmm.closed _ _ _ _ hmm.word ((setRow_same W b _).mono fun k hk e => hk (List.mem_map.2 ⟨_, hr.isIn, e.symm⟩)) fun k hk => .inl ?_
      simp only [keys, List.map_cons, List.mem_cons] at hk
      rcases hk with rfl | hk
      · exact List.mem_map.2 ⟨_, hr.isIn, rfl⟩
      · obtain ⟨p, hp, e⟩ := List.mem_map.1 hk
        exact List.mem_map.2 ⟨p, hr.sub.mem hp, e⟩
  · have hap := run_append_grow (P := P) W t ty e inf z hu hi hz ⟨b, 0, none⟩ n cap xs (by rw [hs]; exact hg.len) (fun j v hj => by
        rw [addr_add, Nat.zero_add, hmm.cellAt hr.isIn, List.getElem?_append_left (List.getElem?_eq_some_iff.1 hj).1]; exact hj)
      ⟨bx, ox, none⟩ m cx ys (by rw [hs]; exact hl) (fun j v hj => by rw [addr_add]; exact hnews.ok W hmm j v hj) (by omega) (by simp only [maxLen] at hm; omega) (growslice_fits (by omega) (by rw [hbt]; exact hb))
    have hge := grownCap_ge W (n + m) cap e
    refine ⟨⟨(W.heap.size, grownCap W (n + m) cap e, (Builtin.zeroCells z.cells (grownCap W (n + m) cap e - (n + m))).toList), ⟨hlen2, ?_, hge, grownCap_le_maxLen W (n + m) cap e hm⟩⟩, _, p_append (ha.eval hx) (ha.eval hy) hap, ?_⟩
    · rw [List.length_append, hlen2, zeroCells_len, cellsL_eq]
      show (n + m) * sz + (grownCap W (n + m) cap e - (n + m)) * (cellsL z).length = _
      rw [hzl, ← Nat.add_mul]
      simp only
      congr 1; omega
    · have := (hmm.mono hr.sub).newest (.cells (xs.toArray ++ ys.toArray ++ Builtin.zeroCells z.cells (grownCap W (n + m) cap e - (n + m))) e)
      rw [show (xs.toArray ++ ys.toArray ++ Builtin.zeroCells z.cells (grownCap W (n + m) cap e - (n + m))) = ⟨xs ++ ys ++ (Builtin.zeroCells z.cells (grownCap W (n + m) cap e - (n + m))).toList⟩ by apply Array.ext'; simp] at this ⊢
      exact this

end
end Kin
end Go

set_option linter.unusedSectionVars false
set_option linter.unusedVariables false
set_option linter.unusedSimpArgs false
namespace Go
open Go.RowKit
namespace Kin

def tailArr (size n : Nat) : Array Bool := ⟨(List.range size).map (fun i => decide (i < n))⟩
theorem tailArr_size (size n : Nat) : (tailArr size n).size = size := by simp [tailArr]
theorem tailArr_getD (size n i : Nat) (d : Bool) : (tailArr size n).getD i d = if i < size then decide (i < n) else d := by
  simp only [tailArr, Array.getD_eq_getD_getElem?, List.getElem?_toArray, List.getElem?_map]
  by_cases h : i < size
  · simp [h]
  · simp [h]
theorem tailArr_zero (size : Nat) : tailArr size 0 = Array.replicate size false := by
  apply Array.ext'
  simp only [tailArr, Array.toList_replicate]
  apply List.ext_getElem?
  intro i
  by_cases h : i < size
  · simp [h]
  · simp [h]
theorem tailArr_succ (size n : Nat) : (tailArr size n).setIfInBounds n true = tailArr size (n + 1) := by
  apply Array.ext'
  simp only [tailArr, Array.toList_setIfInBounds]
  apply List.ext_getElem?
  intro i
  simp only [List.getElem?_set, List.getElem?_map, List.length_map, List.length_range]
  by_cases h : i < size
  · by_cases h2 : n = i
    · subst h2; simp [h]
    · have : (i < n) = (i < n + 1) := by apply propext; omega
      simp [h2, h, this]
  · by_cases h2 : n = i
    · subst h2; simp [h]
    · simp [h2, h]

def headB (ops : Array Oper) (n : Nat) : Bool :=
  Region.noSelect ops && Nat.ble n ops.size &&
  (List.range n).all (fun k => (Region.ready .any ops (tailArr ops.size k)).contains k && Region.free .any ops (tailArr ops.size k) k) &&
  (List.range ops.size).all (fun j => decide (j < n) || (List.range n).all (fun i => Region.waitsFor .any ops j i))

section
variable {P : Program} {ops : Array Oper} {C : World → Prop}

/-- Whatever order the head is picked in. -/
def wpAnyH (P : Program) (ops : Array Oper) (C : World → Prop) (n : Nat) (Lq : Act → Prop) : Nat → Array Bool → Act → Prop
  | 0, listed, a => listed = tailArr ops.size n ∧ Lq a
  | f + 1, listed, a => Region.ready .any ops listed ≠ [] ∧ ∀ i ∈ Region.ready .any ops listed, qOp P ops C i (wpAnyH P ops C n Lq f (listed.setIfInBounds i true)) a

theorem wpAnyIn_of_head {F : Fence} [Wide F] {m n g : Nat} {Q : Exit → Act → World → Prop} {Lq : Act → Prop} (hL : ∀ a W, C W → Lq a → wpAnyIn F m P .any ops Q g (tailArr ops.size n) a W) :
    ∀ (f : Nat) (listed : Array Bool) (a : Act) (W : World), C W → wpAnyH P ops C n Lq f listed a → wpAnyIn F m P .any ops Q (f + g) listed a W
  | 0, listed, a, W, hC, h => by rw [Nat.zero_add, h.1]; exact hL _ _ hC h.2
  | f + 1, listed, a, W, hC, h => by
    rw [show f + 1 + g = (f + g) + 1 by omega]
    exact ⟨fun h0 => absurd h0 h.1, fun i hi => wpOpIn_of_qOp hC (fun a' w' hw' h' => wpAnyIn_of_head hL f _ a' w' hw' h') (h.2 i hi)⟩

theorem wpAnyH_first {n i : Nat} {oi : Oper} {v : Value} {Lq : Act → Prop} (hi : ops[i]? = some oi) (hsel : ∀ (j : Nat) (o : Oper) cs b, ops[j]? = some o → o.op ≠ .select cs b) (hin : i < n) (hn : n ≤ ops.size)
    (htail : ∀ j, n ≤ j → j < ops.size → ∀ i, i < n → Region.waitsFor .any ops j i = true) :
    ∀ (f : Nat) (listed : Array Bool) (a : Act),
      (∀ j oj, ops[j]? = some oj → j ≠ i → listed.getD j true = false → (∀ e ∈ oj.after, Region.binds .any e = true → e.on ≠ i) → oi.apart ops oj = true) →
      i ∈ Region.ready .any ops listed → YieldsIn P ops C oi v a →
      wpAnyH P ops C n Lq f (listed.setIfInBounds i true) (a.put oi.dst v) → wpAnyH P ops C n Lq (f + 1) listed a := by
  intro f
  induction f with
  | zero =>
    intro listed a _ hr hy H
    refine ⟨fun h => (by rw [h] at hr; cases hr), fun j hj => ?_⟩
    by_cases hji : j = i
    · subst hji; exact hy.qOp hi H
    · exfalso
      have h1 := (mem_ready.1 (ready_mono hj hji)).1
      rw [H.1, tailArr_getD] at h1
      obtain ⟨_, oj, hoj, hall⟩ := mem_ready.1 hj
      have hjs : j < ops.size := by
        rcases Nat.lt_or_ge j ops.size with h | h
        · exact h
        · rw [Array.getElem?_eq_none h] at hoj; cases hoj
      rw [if_pos hjs] at h1
      have hjn : n ≤ j := by simpa using h1
      obtain ⟨oj', hoj', e, he, hb, hon⟩ := Region.waitsFor_spec (htail j hjn hjs i hin)
      rw [hoj] at hoj'; cases hoj'
      have h2 := hall e he hb
      rw [hon] at h2
      have h3 := (mem_ready.1 hr).1
      rcases Nat.lt_or_ge i listed.size with h' | h'
      · simp [h'] at h2 h3; rw [h2] at h3; cases h3
      · simp [Array.getElem?_eq_none h'] at h2
  | succ f ih =>
    intro listed a hfree hr hy H
    refine ⟨fun h => (by rw [h] at hr; cases hr), fun j hj => ?_⟩
    by_cases hji : j = i
    · subst hji; exact hy.qOp hi H
    · have h1 := H.2 j (ready_mono hj hji)
      obtain ⟨hjun, oj, hoj, hall⟩ := mem_ready.1 hj
      have hnot : ∀ e ∈ oj.after, Region.binds .any e = true → e.on ≠ i := fun e he hb heq => by
        have h1 := hall e he hb
        have h0 := (mem_ready.1 hr).1
        rw [heq] at h1
        rcases Nat.lt_or_ge i listed.size with h' | h'
        · simp [h'] at h0 h1; rw [h0] at h1; cases h1
        · simp [Array.getElem?_eq_none h'] at h1
      have h2 := qOp_put hoj (hfree j oj hoj hji hjun hnot) (fun cs b => hsel i oi cs b hi) (fun cs b => hsel j oj cs b hoj) hy h1
      have hfree' : ∀ k ok, ops[k]? = some ok → k ≠ i → (listed.setIfInBounds j true).getD k true = false →
          (∀ e ∈ ok.after, Region.binds .any e = true → e.on ≠ i) → oi.apart ops ok = true := fun k ok hk hki hun hno => by
        refine hfree k ok hk hki ?_ hno
        by_cases hjk : j = k
        · subst hjk; exact hjun
        · rw [getD_set_ne true hjk] at hun; exact hun
      refine qOp_mono (fun a' h3 => ih (listed.setIfInBounds j true) a' hfree' (ready_mono hr (Ne.symm hji)) h3.1 ?_) h2
      rw [Array.setIfInBounds_comm _ _ hji]
      exact h3.2

theorem wpAnyH_lex {n : Nat} {Lq : Act → Prop} (hB : headB ops n = true) : ∀ (l : List Oper) (k : Nat) (a : Act), (∀ j, j < l.length → l[j]? = ops[k + j]?) → k + l.length = n →
    wpQuiet P ops C Lq l a → wpAnyH P ops C n Lq l.length (tailArr ops.size k) a
  | [], k, a, _, hk, h => ⟨by rw [show k = n by simpa using hk], h⟩
  | o :: l, k, a, hl, hk, h => by
    have hB' := hB
    simp only [headB, Bool.and_eq_true] at hB'
    obtain ⟨⟨⟨hsel, hn⟩, hlex⟩, htl⟩ := hB'
    simp only [List.length_cons] at hk
    have hkn : k < n := by omega
    have h0 : ops[k]? = some o := by simpa using (hl 0 (by simp)).symm
    have hk2 := List.all_eq_true.1 hlex k (List.mem_range.2 hkn)
    simp only [Bool.and_eq_true] at hk2
    have htail : ∀ j, n ≤ j → j < ops.size → ∀ i, i < n → Region.waitsFor .any ops j i = true := fun j hj hjs i hin => by
      have h1 := List.all_eq_true.1 htl j (List.mem_range.2 hjs)
      simp only [Bool.or_eq_true, decide_eq_true_eq] at h1
      rcases h1 with h1 | h1
      · omega
      · exact List.all_eq_true.1 h1 i (List.mem_range.2 hin)
    have hst : qOp P ops C k (wpQuiet P ops C Lq l) a := by unfold qOp; simp only [h0]; exact h
    obtain ⟨v, hy, hK⟩ := yieldsIn_of_qOp h0 hst
    refine wpAnyH_first h0 (Region.noSelect_spec hsel) hkn (Nat.le_of_ble_eq_true hn) htail l.length (tailArr ops.size k) a (Region.free_spec h0 hk2.2) (by simpa using hk2.1) hy ?_
    rw [tailArr_succ]
    exact wpAnyH_lex hB l (k + 1) _ (fun j hj => by have := hl (j + 1) (by simp; omega); simpa [Nat.add_assoc, Nat.add_comm 1 j] using this) (by omega) hK
end

section
variable {P : Program} {N : Nat} {c : Cx} {Q : Exit → Act → World → Prop} {env : List (Nat × Value)} {mem : List (Nat × Obj)} {L l : List Oper} [Wide c.F]
  {tt : List (TypeId × TI)} {d : Nat} {ty : TypeId} {pos : String} {af : Array Edge} {g : Option (Nat × Bool)} {dd : Option Tmp}

/-- The rest of a region, in whatever order. -/
structure RunA (P : Program) (N : Nat) (c : Cx) (L : List Oper) (Q : Exit → Act → World → Prop) (f : Nat) (listed : Array Bool) (env : List (Nat × Value)) (mem : List (Nat × Obj)) : Prop where
  run : ∀ a W, SatA N c.ds env a → SatW c.w0 c.D c.J mem W → wpAnyIn c.F c.n P .any L.toArray Q f listed a W

/-- The head of a region, and then the rest. -/
structure RunH (P : Program) (N : Nat) (c : Cx) (L : List Oper) (n : Nat) (l : List Oper) (Q : Exit → Act → World → Prop) (env : List (Nat × Value)) (mem : List (Nat × Obj)) : Prop where
  run : ∀ a, SatA N c.ds env a → wpQuiet P L.toArray (SatW c.w0 c.D c.J mem) (fun a' => ∀ W, SatW c.w0 c.D c.J mem W → wpAnyIn c.F c.n P .any L.toArray Q (L.length - n) (tailArr L.length n) a' W) l a

theorem c_head [M : Mixed P] {id : Nat} (n : Nat) {hd : List Oper} (hB : headB l.toArray n = true) (hh : l.take n = hd) (k : RunH P N c l n hd Q env mem) : RunC P N c (.region id l.toArray true) Q env mem := .mk fun a W ha hm => by
  subst hh
  have hB' := hB
  simp only [headB, Bool.and_eq_true] at hB'
  have hn := Nat.le_of_ble_eq_true hB'.1.1.2
  simp only [List.size_toArray] at hn
  have hlt : (l.take n).length = n := by rw [List.length_take]; omega
  refine wpIn_region_any M.ok ?_
  have H := wpAnyH_lex (P := P) (C := SatW c.w0 c.D c.J mem) (Lq := fun a' => ∀ W, SatW c.w0 c.D c.J mem W → wpAnyIn c.F c.n P .any l.toArray Q (l.length - n) (tailArr l.length n) a' W) hB (l.take n) 0 a
    (fun j hj => by rw [hlt] at hj; simp [hj]) (by omega) (k.run a ha)
  have H2 := wpAnyIn_of_head (F := c.F) (m := c.n) (n := n) (g := l.length - n) (Q := Q) (fun a' W' hC hq => by simpa using hq W' hC) _ _ _ _ hm.drew H
  rw [hlt, show n + (l.length - n) = l.toArray.size by simp; omega, tailArr_zero] at H2
  exact H2

theorem h_val {n : Nat} {op : Op} {v : Value} (hw : wantB L env g = some true) (hd : Nat.blt d N = true)
    (hv : OpVal P N c env mem ⟨some d, op, ty, pos, af, g⟩ v) (k : RunH P N c L n l Q ((d, v) :: env) mem) : RunH P N c L n (⟨some d, op, ty, pos, af, g⟩ :: l) Q env mem := .mk fun a ha => by
  show if _ then _ else _
  rw [if_pos (wanted_of (o := ⟨some d, op, ty, pos, af, g⟩) hw ha)]
  refine ⟨v, fun W hm => ?_, k.run _ (ha.put hd v)⟩
  unfold Oper.quietAt
  rw [hv.2 a W ha hm]
  exact ⟨rfl, rfl⟩

theorem h_skip {n : Nat} {op : Op} (hw : wantB L env g = some false) (hd : Nat.blt d N = true) (k : RunH P N c L n l Q ((d, undef) :: env) mem) : RunH P N c L n (⟨some d, op, ty, pos, af, g⟩ :: l) Q env mem := .mk fun a ha => by
  show if _ then _ else _
  rw [if_neg (by rw [wanted_of (o := ⟨some d, op, ty, pos, af, g⟩) hw ha]; exact Bool.false_ne_true)]
  exact k.run _ (ha.put hd undef)

theorem h_call {n : Nat} {f : FuncId} [Ent P f] {args : List Operand} {ats : Array TypeId} {vs : List Value} {v : Value} (hw : wantB L env g = some true) (hd : Nat.blt d N = true) (ha : evOps env args some = some vs)
    (hc : ∀ W, SatW c.w0 c.D c.J mem W → Calls P f ⟨vs⟩ W fun e W' => e = .returned v ∧ Below W.heap.size W W')
    (k : RunH P N c L n l Q ((d, v) :: env) mem) : RunH P N c L n (⟨some d, .call ⟨.value (.func f), ⟨args⟩, ats⟩, ty, pos, af, g⟩ :: l) Q env mem := .mk fun a hA => by
  show if _ then _ else _
  rw [if_pos (wanted_of (o := ⟨some d, .call ⟨.value (.func f), ⟨args⟩, ats⟩, ty, pos, af, g⟩) hw hA)]
  refine ⟨v, fun W hm => ?_, k.run _ (hA.put hd v)⟩
  have h1 := hA.evals ha
  simp only [Option.some.injEq] at h1
  unfold Oper.quietAt
  rw [p_call, h1]
  exact ⟨rfl, (hc W hm).mono fun _ W' ⟨h2, h3⟩ => ⟨h2, hm.later h3⟩⟩

theorem h_nil {n : Nat} (k : RunA P N c L Q (L.length - n) (tailArr L.length n) env mem) : RunH P N c L n [] Q env mem := .mk fun a ha => wpQuiet_nil fun W hm => k.run a W ha hm

theorem a_done {f : Nat} {listed : Array Bool} (hr : Region.ready .any L.toArray listed = []) (k : RunX N c Q .normal env mem) : RunA P N c L Q f listed env mem := .mk fun a W ha hm => wpAnyIn_done hr (k.run a W ha hm) f

theorem a_step {f i : Nat} {listed : Array Bool} {rs : List Nat} (hr : Region.ready .any L.toArray listed = rs) (hne : rs ≠ []) (k : ∀ i ∈ rs, ∀ a W, SatA N c.ds env a → SatW c.w0 c.D c.J mem W → wpOpIn c.F c.n P L.toArray Q i (wpAnyIn c.F c.n P .any L.toArray Q f (listed.setIfInBounds i true)) a W) :
    RunA P N c L Q (f + 1) listed env mem := .mk fun a W ha hm => wpAnyIn_all hr hne fun i hi => k i hi a W ha hm

theorem op_do {f i : Nat} {listed listed' : Array Bool} {op : Op} {mem' : List (Nat × Obj)} (hi : nth L i = some ⟨none, op, ty, pos, af, g⟩) (hw : wantB L env g = some true) (hl : listed.setIfInBounds i true = listed')
    (hv : OpDo P N c env mem ⟨none, op, ty, pos, af, g⟩ mem') (k : RunA P N c L Q f listed' env mem') : ∀ a W, SatA N c.ds env a → SatW c.w0 c.D c.J mem W → wpOpIn c.F c.n P L.toArray Q i (wpAnyIn c.F c.n P .any L.toArray Q f (listed.setIfInBounds i true)) a W := fun a W ha hm => by
  subst hl
  unfold wpOpIn
  rw [nth_eq] at hi
  simp only [List.getElem?_toArray, hi, wanted_of (o := ⟨none, op, ty, pos, af, g⟩) hw ha, if_true]
  obtain ⟨W', h1, h2⟩ := hv.2 a W ha hm
  refine ⟨fun f _ => Wide.fn c.F f, ?_⟩
  rw [semAt_plain _ hv.1, h1]
  exact k.run _ _ ha h2

theorem op_val {f i : Nat} {listed listed' : Array Bool} {op : Op} {v : Value} (hi : nth L i = some ⟨some d, op, ty, pos, af, g⟩) (hw : wantB L env g = some true) (hl : listed.setIfInBounds i true = listed') (hd : Nat.blt d N = true)
    (hv : OpVal P N c env mem ⟨some d, op, ty, pos, af, g⟩ v) (k : RunA P N c L Q f listed' ((d, v) :: env) mem) : ∀ a W, SatA N c.ds env a → SatW c.w0 c.D c.J mem W → wpOpIn c.F c.n P L.toArray Q i (wpAnyIn c.F c.n P .any L.toArray Q f (listed.setIfInBounds i true)) a W := fun a W ha hm => by
  subst hl
  unfold wpOpIn
  rw [nth_eq] at hi
  simp only [List.getElem?_toArray, hi, wanted_of (o := ⟨some d, op, ty, pos, af, g⟩) hw ha, if_true]
  refine ⟨fun f _ => Wide.fn c.F f, ?_⟩
  rw [semAt_plain _ hv.1, hv.2 a W ha hm]
  exact k.run _ _ (ha.put hd v) hm

theorem a_one {f i : Nat} {listed : Array Bool} (hr : Region.ready .any L.toArray listed = [i]) (k : ∀ a W, SatA N c.ds env a → SatW c.w0 c.D c.J mem W → wpOpIn c.F c.n P L.toArray Q i (wpAnyIn c.F c.n P .any L.toArray Q f (listed.setIfInBounds i true)) a W) :
    RunA P N c L Q (f + 1) listed env mem := a_step (i := i) hr (by simp) fun j hj => by rw [List.mem_singleton.1 hj]; exact k

theorem a_two {f i j : Nat} {listed : Array Bool} (hr : Region.ready .any L.toArray listed = [i, j]) (k1 : ∀ a W, SatA N c.ds env a → SatW c.w0 c.D c.J mem W → wpOpIn c.F c.n P L.toArray Q i (wpAnyIn c.F c.n P .any L.toArray Q f (listed.setIfInBounds i true)) a W)
    (k2 : ∀ a W, SatA N c.ds env a → SatW c.w0 c.D c.J mem W → wpOpIn c.F c.n P L.toArray Q j (wpAnyIn c.F c.n P .any L.toArray Q f (listed.setIfInBounds j true)) a W) :
    RunA P N c L Q (f + 1) listed env mem := a_step (i := i) hr (by simp) fun m hm => by
  rcases List.mem_cons.1 hm with rfl | hm
  · exact k1
  · rw [List.mem_singleton.1 hm]; exact k2


/-- all orders -/
theorem c_any [M : Mixed P] {id f : Nat} (hf : l.length = f) (k : RunA P N c l Q f (tailArr l.length 0) env mem) : RunC P N c (.region id l.toArray true) Q env mem := .mk fun a W ha hm => by
  subst hf
  refine wpIn_region_any M.ok ?_
  have := k.run a _ ha hm.drew
  rw [tailArr_zero] at this
  simpa using this

/-- the shape of a region: `n` operations that only read, `f` more. -/
def readOp : Op → Bool
  | .store .. => false
  | .alloc _ => false
  | .box .. => false
  | .buildSlice .. => false
  | .makeSlice .. => false
  | .makeMap .. => false
  | .mapUpdate .. => false
  | .insert .. => false
  | .call ⟨.builtin .append, _, _⟩ => false
  | .call ⟨.builtin .copy, _, _⟩ => false
  | _ => true
def reads : List Oper → Nat → Bool
  | _, 0 => true
  | o :: l, n + 1 => bif readOp o.op then reads l n else false
  | [], _ + 1 => false
def allRead : List Oper → Bool
  | [] => true
  | o :: l => bif readOp o.op then allRead l else false

theorem c_reads [M : Mixed P] {id : Nat} (_ : allRead l = true) (hB : Region.lexB .any l.toArray = true) (k : RunQ P N c l l Q env mem) : RunC P N c (.region id l.toArray true) Q env mem := c_quiet hB k

def splitK {β : Type} : List Oper → Nat → (Nat → List Oper → Option β) → Option β
  | o :: l, j, k => bif readOp o.op then splitK l (j + 1) fun n r => k n (o :: r) else k j []
  | [], _, _ => none

theorem splitK_eq {β : Type} {l : List Oper} {j : Nat} {k : Nat → List Oper → Option β} {r : β} (h : splitK l j k = some r) : ∃ m, m ≤ l.length ∧ k (j + m) (l.take m) = some r := by
  induction l generalizing j k with
  | nil => cases h
  | cons o l ih =>
    simp only [splitK] at h
    cases hb : readOp o.op with
    | false => rw [hb] at h; exact ⟨0, by simp, h⟩
    | true =>
      rw [hb] at h
      obtain ⟨m, h1, h2⟩ := ih h
      exact ⟨m + 1, by simpa using h1, by rw [show j + (m + 1) = j + 1 + m by omega]; exact h2⟩

theorem c_cut [M : Mixed P] {id n : Nat} {hd : List Oper} (hs : splitK l 0 (fun n r => some (n, r)) = some (n, hd)) (hB : headB l.toArray n = true) (k : RunH P N c l n hd Q env mem) : RunC P N c (.region id l.toArray true) Q env mem := by
  obtain ⟨m, _, h2⟩ := splitK_eq hs
  simp only [Nat.zero_add, Option.some.injEq, Prod.mk.injEq] at h2
  obtain ⟨rfl, h3⟩ := h2
  exact c_head m hB h3 k

theorem h_do1 {n : Nat} {op : Op} {mem' : List (Nat × Obj)} (hlen : L.length = n + 1) (hr : Region.ready .any L.toArray (tailArr (n + 1) n) = [n]) (hr2 : Region.ready .any L.toArray (tailArr (n + 1) (n + 1)) = [])
    (hi : nth L n = some ⟨none, op, ty, pos, af, g⟩) (hw : wantB L env g = some true) (hv : OpDo P N c env mem ⟨none, op, ty, pos, af, g⟩ mem') (k : RunX N c Q .normal env mem') : RunH P N c L n [] Q env mem :=
  h_nil (by
    rw [hlen, show n + 1 - n = 0 + 1 by omega]
    exact a_one hr (op_do hi hw (tailArr_succ (n + 1) n) hv (a_done hr2 k)))

theorem h_do2 {n : Nat} {op op' : Op} {ty' : TypeId} {pos' : String} {af' : Array Edge} {g' : Option (Nat × Bool)} {mem1 mem2 mem1' : List (Nat × Obj)} (hlen : L.length = n + 2) (hr : Region.ready .any L.toArray (tailArr (n + 2) n) = [n, n + 1])
    (hra : Region.ready .any L.toArray ((tailArr (n + 2) n).setIfInBounds n true) = [n + 1]) (hrb : Region.ready .any L.toArray ((tailArr (n + 2) n).setIfInBounds (n + 1) true) = [n])
    (hr1 : Region.ready .any L.toArray (((tailArr (n + 2) n).setIfInBounds n true).setIfInBounds (n + 1) true) = []) (hr2 : Region.ready .any L.toArray (((tailArr (n + 2) n).setIfInBounds (n + 1) true).setIfInBounds n true) = [])
    (hi : nth L n = some ⟨none, op, ty, pos, af, g⟩) (hj : nth L (n + 1) = some ⟨none, op', ty', pos', af', g'⟩) (hw : wantB L env g = some true) (hw' : wantB L env g' = some true)
    (v1 : OpDo P N c env mem ⟨none, op, ty, pos, af, g⟩ mem1) (v2 : OpDo P N c env mem1 ⟨none, op', ty', pos', af', g'⟩ mem2)
    (u1 : OpDo P N c env mem ⟨none, op', ty', pos', af', g'⟩ mem1') (u2 : OpDo P N c env mem1' ⟨none, op, ty, pos, af, g⟩ mem2) (k : RunX N c Q .normal env mem2) : RunH P N c L n [] Q env mem :=
  h_nil (by
    rw [hlen, show n + 2 - n = 0 + 1 + 1 by omega]
    exact a_two hr (op_do hi hw rfl v1 (a_one hra (op_do hj hw' rfl v2 (a_done hr1 k)))) (op_do hj hw' rfl u1 (a_one hrb (op_do hi hw rfl u2 (a_done hr2 k)))))

/-- two, in the order of the text -/
theorem h_do12 {n : Nat} {op op' : Op} {ty' : TypeId} {pos' : String} {af' : Array Edge} {g' : Option (Nat × Bool)} {mem1 mem2 : List (Nat × Obj)} (hlen : L.length = n + 2) (hr : Region.ready .any L.toArray (tailArr (n + 2) n) = [n])
    (hra : Region.ready .any L.toArray ((tailArr (n + 2) n).setIfInBounds n true) = [n + 1])
    (hr1 : Region.ready .any L.toArray (((tailArr (n + 2) n).setIfInBounds n true).setIfInBounds (n + 1) true) = [])
    (hi : nth L n = some ⟨none, op, ty, pos, af, g⟩) (hj : nth L (n + 1) = some ⟨none, op', ty', pos', af', g'⟩) (hw : wantB L env g = some true) (hw' : wantB L env g' = some true)
    (v1 : OpDo P N c env mem ⟨none, op, ty, pos, af, g⟩ mem1) (v2 : OpDo P N c env mem1 ⟨none, op', ty', pos', af', g'⟩ mem2) (k : RunX N c Q .normal env mem2) : RunH P N c L n [] Q env mem :=
  h_nil (by
    rw [hlen, show n + 2 - n = 0 + 1 + 1 by omega]
    exact a_one hr (op_do hi hw rfl v1 (a_one hra (op_do hj hw' rfl v2 (a_done hr1 k)))))


/-- a call that writes one block of the caller's -/
theorem r_callu {f : FuncId} [Ent P f] {args : List Operand} {ats : Array TypeId} {vs : List Value} {ι : Type} {v : ι → Value} {b : Nat} {o : Obj} {o' : ι → Obj} {mem' : ι → List (Nat × Obj)} (hw : wantB L env g = some true) (hd : Nat.blt d N = true) (ha : evOps env args some = some vs)
    (hin : (b, o) ∈ mem) (hu : ∀ i, Upd mem b o (o' i) (mem' i))
    (hc : ∀ W, SatW c.w0 c.D c.J mem W → W.heap[b]? = some o → Calls P f ⟨vs⟩ W fun e W' => ∃ i, e = .returned (v i) ∧ Same (fun k => k ≠ b) W W' ∧ W'.heap[b]? = some (o' i))
    (k : ∀ i, RunL P N c L l Q ((d, v i) :: env) (mem' i)) : RunL P N c L (⟨some d, .call ⟨.value (.func f), ⟨args⟩, ats⟩, ty, pos, af, g⟩ :: l) Q env mem :=
  l_call (v := v) (mem' := mem') hw hd ha (fun W hm => (hc W hm (hm.own _ hin).2).mono fun _ W' ⟨i, h1, h2, h3⟩ => ⟨i, h1, hm.upd (hu i) h2 h3⟩) k

/-! ## Where ways meet -/
structure Mid (N : Nat) (c : Cx) (env : List (Nat × Value)) (mem : List (Nat × Obj)) (a : Act) (W : World) : Prop where
  a : SatA N c.ds env a
  w : SatW c.w0 c.D c.J mem W

theorem c_join {x y : Code} (env' : List (Nat × Value)) (mem' : List (Nat × Obj)) (k1 : RunC P N c x (Exit.then (Mid N c env' mem') Q) env mem) (k2 : RunC P N c y Q env' mem') : RunC P N c (.seq x y) Q env mem :=
  .mk fun a W ha hm => wpIn_seq (wpIn_mono (k1.run a W ha hm) fun e a' W' h => by
    cases e with
    | normal => exact k2.run a' W' h.a h.w
    | _ => exact h)
theorem x_mid {env' : List (Nat × Value)} {mem' : List (Nat × Obj)} {Q' : Exit → Act → World → Prop} (hE : EnvSub env env') (hM : MSub mem mem') : RunX N c (Exit.then (Mid N c env' mem') Q') .normal env mem :=
  .mk fun _ _ ha hm => ⟨hE.sat ha, hm.mono hM.sub⟩
theorem c_probe {id : Nat} {ops : Array Oper} {dr : Bool} {y z : Code} (k : RunC P N c (.seq (.seq (.region id ops dr) y) z) Q env mem) : RunC P N c (.seq (.seq (.region id ops dr) y) z) Q env mem := k
theorem c_probe1 {id : Nat} {ops : Array Oper} {dr : Bool} {y : Code} (k : RunC P N c (.seq (.region id ops dr) y) Q env mem) : RunC P N c (.seq (.region id ops dr) y) Q env mem := k

/-! ## Arrays of numbers -/
def ivec (n : Nat) (f : Nat → Int) : List Value := vec n fun i => .int .i64 (f i)
def bvec (n : Nat) (f : Nat → Bool) : List Value := vec n fun i => .bool (f i)
def iset {α : Type} (f : Nat → α) (i : Nat) (v : α) : Nat → α := fun x => if x = i then v else f x
theorem ivec_length (n : Nat) (f : Nat → Int) : (ivec n f).length = n := vec_length _ _
theorem bvec_length (n : Nat) (f : Nat → Bool) : (bvec n f).length = n := vec_length _ _
theorem ivec_get {n : Nat} {f : Nat → Int} {i : Nat} (h : i < n) : (ivec n f)[i]? = some (.int .i64 (f i)) := vec_get h
theorem bvec_get {n : Nat} {f : Nat → Bool} {i : Nat} (h : i < n) : (bvec n f)[i]? = some (.bool (f i)) := vec_get h
theorem ivec_set {n : Nat} {f : Nat → Int} {i : Nat} {v : Int} : (ivec n f).set i (.int .i64 v) = ivec n (iset f i v) := by
  unfold ivec; rw [vec_set]; congr 1; funext j; simp only [iset]; split <;> rfl
theorem bvec_set {n : Nat} {f : Nat → Bool} {i : Nat} {v : Bool} : (bvec n f).set i (.bool v) = bvec n (iset f i v) := by
  unfold bvec; rw [vec_set]; congr 1; funext j; simp only [iset]; split <;> rfl
theorem flat_int {n : Nat} {v : Int} : (flat n fun _ => [Value.int .i64 v]) = ivec n fun _ => v := flat_one
theorem flat_bool {n : Nat} {v : Bool} : (flat n fun _ => [Value.bool v]) = bvec n fun _ => v := flat_one

end
end Kin
end Go

set_option linter.unusedSectionVars false
set_option linter.unusedVariables false
set_option linter.unusedSimpArgs false
namespace Go
open Go.RowKit
namespace Kin
theorem bvec_getE {n : Nat} {f : Nat → Bool} {i : Nat} {v : Bool} (h : i < n) (e : f i = v) : (bvec n f)[i]? = some (.bool v) := by rw [bvec_get h, e]
theorem aggL {l : List Value} : cellsL (.agg ⟨l⟩) = l := rfl
theorem MSub.refl : ∀ m : List (Nat × Obj), MSub m m
  | [] => .nil
  | (_, _) :: m => .keep rfl (MSub.refl m)

/-- a slice that came in, at a later world, and with another list of blocks that may be read -/
theorem At.satD {w W : World} {D : Nat → Prop} {mem : List (Nat × Obj)} {J : (Nat → Prop) → World → Prop} {A : Option Addr} {sz : Nat} {rows : List (List Value)} (h : At w A sz rows) (hD : ∀ a, A = some a → rows ≠ [] → D a.block)
    (hm : SatW w D J mem W) : At W A sz rows := fun i cs hi => by
  obtain ⟨b, o, hA, hc⟩ := h i cs hi
  exact ⟨b, o, hA, fun j v hj => hm.same.cell (hc j v hj) (hD ⟨b, o, none⟩ hA (fun e => by subst e; cases hi))⟩

section
variable {P : Program} {b : Frame} {k : List Item} {cs : List Frame} {a : Act} {w : World}
theorem stepR_scope {c : Code} : step P (lone (b.atR a (.code (.scope c) :: k)) cs w) = .next (lone (b.atR a (.code c :: .inScope c :: k)) cs w) :=
  step_lone_go (by simp [stepG, stepG.exec, Frame.atR])
theorem stepR_inScope {c : Code} : step P (lone (b.atR a (.inScope c :: k)) cs w) = .next (lone (b.atR a k) cs w) :=
  step_lone_go (by simp [stepG, stepG.exec, Frame.atR])
end

/-- a scope through which the run goes without a goto -/
theorem wpIn_scope {F : Fence} {n : Nat} {P : Program} {Q : Exit → Act → World → Prop} {a : Act} {w : World} {c : Code} (h : c.wpIn F n P (Exit.noGoto Q) a w) : (Code.scope c).wpIn F n P Q a w := by
  intro b k cs hro hb hr
  have h0 : (lone (b.atR a (.code (.scope c) :: k)) cs w).fenced P F := fenced_calm hb hr rfl
  obtain ⟨e, a₁, w₁, hq, harr⟩ := h b (.inScope c :: k) cs hro hb hr
  cases e with
  | normal => exact ⟨.normal, a₁, w₁, hq, .head h0 stepR_scope (StepsIn.trans harr (.one (fenced_calm hb hr rfl) stepR_inScope))⟩
  | exit id =>
    have hx : exitTo id (.inScope c :: k) = exitTo id k := by simp [exitTo]
    exact ⟨.exit id, a₁, w₁, hq, fun k' hk => .head h0 stepR_scope (harr.1 k' (by rw [hx]; exact hk)),
      fun hr' hk => let ⟨k₁, h1, h2⟩ := harr.2 hr' (by rw [hx]; exact hk); ⟨k₁, h1, .head h0 stepR_scope h2⟩⟩
  | goto l => exact hq.elim
  | ret => exact ⟨_, a₁, w₁, hq, .of_steps (.one h0 stepR_scope) harr⟩
  | panic ch => exact ⟨_, a₁, w₁, hq, .of_steps (.one h0 stepR_scope) harr⟩
  | outgrown => exact ⟨_, a₁, w₁, hq, .of_steps (.one h0 stepR_scope) harr⟩

section
variable {P : Program} {N : Nat} {c : Cx} {Q : Exit → Act → World → Prop} {env : List (Nat × Value)} {mem : List (Nat × Obj)}
theorem c_scope {x : Code} (k : RunC P N c x (Exit.noGoto Q) env mem) : RunC P N c (.scope x) Q env mem := .mk fun a W ha hw => wpIn_scope (k.run a W ha hw)
theorem x_scope (k : RunX N c Q .normal env mem) : RunX N c (Exit.noGoto Q) .normal env mem := .mk fun a W ha hw => k.run a W ha hw
theorem x_scope_ret (k : RunX N c Q .ret env mem) : RunX N c (Exit.noGoto Q) .ret env mem := .mk fun a W ha hw => k.run a W ha hw
theorem x_scope_exit {id : Nat} (k : RunX N c Q (.exit id) env mem) : RunX N c (Exit.noGoto Q) (.exit id) env mem := .mk fun a W ha hw => k.run a W ha hw

theorem SatW.perm {w0 : World} {D : Nat → Prop} {J : (Nat → Prop) → World → Prop} {mem mem' : List (Nat × Obj)} {W : World} (h : SatW w0 D J mem W) (hp : mem.Perm mem') : SatW w0 D J mem' W := by
  refine ⟨h.same, h.dom, (hp.map _).nodup_iff.1 h.nodup, fun p hm => h.own p (hp.mem_iff.2 hm), h.closed, ?_⟩
  have hk : keys mem' = keys mem := by
    funext b
    unfold keys
    exact propext ((hp.map _).mem_iff).symm
  rw [hk]; exact h.word
theorem x_perm {e : Exit} {mem' : List (Nat × Obj)} (hp : mem.Perm mem') (k : RunX N c Q e env mem') : RunX N c Q e env mem := .mk fun a W ha hm => k.run a W ha (hm.perm hp)
theorem x_sink4 {e : Exit} {x y1 y2 y3 y4 : Nat × Obj} {m : List (Nat × Obj)} (k : RunX N c Q e env (y1 :: y2 :: y3 :: y4 :: x :: m)) : RunX N c Q e env (x :: y1 :: y2 :: y3 :: y4 :: m) :=
  x_perm (List.perm_middle (l₁ := [y1, y2, y3, y4])).symm k
end
end Kin
end Go

set_option linter.unusedSectionVars false
set_option linter.unusedVariables false
set_option linter.unusedSimpArgs false
namespace Go
open Go.RowKit
namespace Kin

/-! ## Rows of cells, written in part -/
def splice (cs : List Value) (f : Nat) (vs : List Value) : List Value := cs.take f ++ vs ++ cs.drop (f + vs.length)
theorem splice_len {cs vs : List Value} {f : Nat} (h : f + vs.length ≤ cs.length) : (splice cs f vs).length = cs.length := by
  simp only [splice, List.length_append, List.length_take, List.length_drop]; omega
theorem splice_get {cs vs : List Value} {f : Nat} (h : f + vs.length ≤ cs.length) (i : Nat) : (splice cs f vs)[i]? = if f ≤ i ∧ i < f + vs.length then vs[i - f]? else cs[i]? := by
  unfold splice
  rw [List.append_assoc, List.getElem?_append]
  have h1 : (cs.take f).length = f := by rw [List.length_take]; omega
  rw [h1]
  by_cases h2 : i < f
  · rw [if_pos h2, if_neg (by omega), List.getElem?_take, if_pos h2]
  · rw [if_neg h2, List.getElem?_append]
    by_cases h3 : i - f < vs.length
    · rw [if_pos h3, if_pos (by omega)]
    · rw [if_neg h3, if_neg (by omega), List.getElem?_drop]
      congr 1; omega
theorem splice_comm {cs vs us : List Value} {f g : Nat} (h1 : f + vs.length ≤ cs.length) (h2 : g + us.length ≤ cs.length) (hd : f + vs.length ≤ g ∨ g + us.length ≤ f) : splice (splice cs f vs) g us = splice (splice cs g us) f vs := by
  apply List.ext_getElem?
  intro i
  rw [splice_get (by rw [splice_len h1]; exact h2), splice_get h1, splice_get (by rw [splice_len h2]; exact h1), splice_get h2]
  by_cases a : g ≤ i ∧ i < g + us.length
  · rw [if_pos a, if_neg (by omega), if_pos a]
  · rw [if_neg a, if_neg a]

/-! ## Blocks that are left out -/
def keepM {α : Type} (f : Nat → Bool) : Nat → List α → List α
  | _, [] => []
  | k, x :: m => bif f k then keepM f (k + 1) m else x :: keepM f (k + 1) m
theorem keepM_sub {α : Type} (f : Nat → Bool) (k : Nat) (m : List α) : List.Sublist (keepM f k m) m := by
  induction m generalizing k with
  | nil => exact List.nil_sublist _
  | cons x m ih =>
    simp only [keepM]
    cases f k with
    | true => exact (ih _).cons _
    | false => exact (ih _).cons_cons _
theorem keepM_set {α : Type} (f : Nat → Bool) (k p : Nat) (m : List α) (x : α) (h : f (k + p) = true) : keepM f k (m.set p x) = keepM f k m := by
  induction m generalizing k p with
  | nil => rfl
  | cons y m ih =>
    cases p with
    | zero => rw [Nat.add_zero] at h; simp only [List.set_cons_zero, keepM, h, cond_true]
    | succ p => simp only [List.set_cons_succ, keepM]; rw [ih (k + 1) p (by rw [← h]; congr 1; omega)]

theorem upd_set {m : List (Nat × Obj)} {p b : Nat} {o o' : Obj} (h : m[p]? = some (b, o)) : Upd m b o o' (m.set p (b, o')) := by
  induction m generalizing p with
  | nil => cases h
  | cons x m ih =>
    cases p with
    | zero => simp only [List.getElem?_cons_zero, Option.some.injEq] at h; subst h; exact Upd.head
    | succ p => exact Upd.tail (ih (by simpa using h))

/-! ## What each operation waits for -/
def ancF (md : Region.Mode) (acc : List Nat) (o : Oper) : Nat := o.after.toList.foldl (fun m e => bif Region.binds md e then m ||| (2 ^ e.on) ||| acc.getD e.on 0 else m) 0
def ancL (md : Region.Mode) : List Oper → List Nat → List Nat
  | [], acc => acc
  | o :: l, acc => ancL md l (acc ++ [ancF md acc o])
def ancs (md : Region.Mode) (ops : Array Oper) : List Nat := ancL md ops.toList []

/-- what is listed waits for nothing that is not -/
def ClosedL (md : Region.Mode) (ops : Array Oper) (listed : Array Bool) : Prop :=
  ∀ j oj, ops[j]? = some oj → listed.getD j false = true → ∀ e ∈ oj.after, Region.binds md e = true → listed.getD e.on false = true

def AncOk (md : Region.Mode) (ops : Array Oper) (acc : List Nat) : Prop :=
  ∀ (k m : Nat), acc[k]? = some m → ∀ listed, ClosedL md ops listed → (∀ o : Oper, ops[k]? = some o → ∀ e ∈ o.after, Region.binds md e = true → listed.getD e.on false = true) → ∀ i, m.testBit i = true → listed.getD i false = true

theorem ancF_ok {md : Region.Mode} {ops : Array Oper} {acc : List Nat} (h : AncOk md ops acc) {o : Oper} {listed : Array Bool} (hc : ClosedL md ops listed)
    (hd : ∀ e ∈ o.after, Region.binds md e = true → listed.getD e.on false = true) {i : Nat} (hi : (ancF md acc o).testBit i = true) : listed.getD i false = true := by
  have : ∀ (es : List Edge) (m : Nat), (∀ e ∈ es, e ∈ o.after) → (m.testBit i = true → listed.getD i false = true) →
      (es.foldl (fun m e => bif Region.binds md e then m ||| (2 ^ e.on) ||| acc.getD e.on 0 else m) m).testBit i = true → listed.getD i false = true := by
    intro es
    induction es with
    | nil => intro m _ h1 h2; exact h1 h2
    | cons e es ih =>
      intro m hin h1 h2
      refine ih _ (fun e he => hin e (List.mem_cons_of_mem _ he)) ?_ h2
      intro h3
      replace h3 : (bif Region.binds md e then m ||| (2 ^ e.on) ||| acc.getD e.on 0 else m).testBit i = true := h3
      cases hb : Region.binds md e with
      | false => rw [hb] at h3; exact h1 h3
      | true =>
        rw [hb] at h3
        have hon := hd e (hin e List.mem_cons_self) hb
        simp only [cond_true, Nat.testBit_or, Bool.or_eq_true] at h3
        rcases h3 with (h3 | h3) | h3
        · exact h1 h3
        · rw [Nat.testBit_two_pow] at h3
          have : e.on = i := by simpa using h3
          rw [← this]; exact hon
        · rw [List.getD_eq_getElem?_getD] at h3
          cases hk : acc[e.on]? with
          | none => rw [hk] at h3; simp at h3
          | some mk =>
            rw [hk] at h3
            exact h e.on mk hk listed hc (fun o' ho' e' he' hb' => hc e.on o' ho' hon e' he' hb') i h3
  exact this o.after.toList 0 (fun e he => by simpa using he) (fun h => by simp at h) hi

theorem ancL_ok {md : Region.Mode} {ops : Array Oper} : ∀ (l : List Oper) (acc : List Nat), (∀ j, l[j]? = ops[acc.length + j]?) → AncOk md ops acc → AncOk md ops (ancL md l acc)
  | [], _, _, h => h
  | o :: l, acc, hl, h => by
    refine ancL_ok l (acc ++ [ancF md acc o]) (fun j => by have := hl (j + 1); simpa [Nat.add_assoc, Nat.add_comm 1 j] using this) ?_
    intro k m hk listed hc hd i hi
    by_cases hlt : k < acc.length
    · rw [List.getElem?_append_left hlt] at hk
      exact h k m hk listed hc hd i hi
    · rw [List.getElem?_append_right (by omega)] at hk
      have hka : k = acc.length := by
        have := (List.getElem?_eq_some_iff.1 hk).1
        simp only [List.length_singleton] at this; omega
      subst hka
      simp only [Nat.sub_self, List.getElem?_cons_zero, Option.some.injEq] at hk
      subst hk
      have h0 := hl 0
      simp only [List.getElem?_cons_zero, Nat.add_zero] at h0
      exact ancF_ok h hc (hd o h0.symm) hi

theorem ancs_ok {md : Region.Mode} {ops : Array Oper} : AncOk md ops (ancs md ops) := ancL_ok ops.toList [] (by simp) (fun k m hk => by cases hk)

def waitsB (an : List Nat) (j i : Nat) : Bool := (an.getD j 0).testBit i

/-- Of two that are both ready, neither waits for the other. -/
theorem ready_free {md : Region.Mode} {ops : Array Oper} {listed : Array Bool} (hc : ClosedL md ops listed) {i j : Nat} (hi : i ∈ Region.ready md ops listed) (hj : j ∈ Region.ready md ops listed) : waitsB (ancs md ops) j i = false := by
  obtain ⟨hiu, _⟩ := mem_ready.1 hi
  obtain ⟨_, oj, hoj, hall⟩ := mem_ready.1 hj
  cases hw : waitsB (ancs md ops) j i with
  | false => rfl
  | true =>
    unfold waitsB at hw
    rw [List.getD_eq_getElem?_getD] at hw
    cases hk : (ancs md ops)[j]? with
    | none => rw [hk] at hw; simp at hw
    | some m =>
      rw [hk] at hw
      have h1 := ancs_ok j m hk listed hc (fun o ho e he hb => by rw [hoj] at ho; cases ho; exact hall e he hb) i hw
      rw [getD_both hiu] at h1
      cases h1

theorem ClosedL.set {md : Region.Mode} {ops : Array Oper} {listed : Array Bool} (h : ClosedL md ops listed) {i : Nat} (hi : i ∈ Region.ready md ops listed) : ClosedL md ops (listed.setIfInBounds i true) := by
  obtain ⟨_, oi, hoi, hall⟩ := mem_ready.1 hi
  intro j oj hj hl e he hb
  by_cases hij : i = j
  · subst hij
    have : oj = oi := Option.some.inj (hj.symm.trans hoi)
    subst this
    exact getD_set_true (hall e he hb)
  · rw [getD_set_ne false hij] at hl
    exact getD_set_true (h j oj hj hl e he hb)

/-! ## The walk of operations on a list of blocks -/
abbrev Mem := List (Nat × Obj)
/-- the stores: number, place in the list of blocks, first cell, how many -/
abbrev Sts := List (Nat × Nat × Nat × Nat)
def posOf (st : Sts) (i : Nat) : Option (Nat × Nat × Nat) := (st.find? (fun s => s.1 == i)).map (·.2)
def wrB (an : List Nat) (st : Sts) (i p : Nat) : Bool := st.any fun s => s.2.1 == p && s.1 != i && !waitsB an s.1 i && !waitsB an i s.1
/-- the stores write different cells -/
def Apart (st : Sts) : Prop := ∀ s ∈ st, ∀ t ∈ st, s.1 ≠ t.1 → s.2.1 ≠ t.2.1 ∨ s.2.2.1 + s.2.2.2 ≤ t.2.2.1 ∨ t.2.2.1 + t.2.2.2 ≤ s.2.2.1

theorem posOf_mem {st : Sts} {i : Nat} {r : Nat × Nat × Nat} (h : posOf st i = some r) : (i, r) ∈ st := by
  unfold posOf at h
  cases hf : st.find? (fun s => s.1 == i) with
  | none => rw [hf] at h; cases h
  | some s =>
    rw [hf] at h
    simp only [Option.map_some, Option.some.injEq] at h
    have h1 := List.mem_of_find?_eq_some hf
    have h2 := List.find?_some hf
    simp only [beq_iff_eq] at h2
    subst h; subst h2
    exact h1

section
variable {P : Program} {ops : Array Oper} {C : Mem → World → Prop} {st : Sts} {wr : Nat → Nat → Bool} {Lq : Act → Mem → Prop}

inductive Eff (P : Program) (ops : Array Oper) (C : Mem → World → Prop) (st : Sts) (wr : Nat → Nat → Bool) (o : Oper) (i : Nat) (a : Act) (m : Mem) : Value → Mem → Prop
  | val {v : Value} (hw : Region.wanted o (yielded ops a.tmps) = true) (hp : plainOp o.op = true) (h : ∀ W, C (keepM (wr i) 0 m) W → (execOp a.eval o).run P W = .ok (.value v) W) : Eff P ops C st wr o i a m v m
  | sto {p f b : Nat} {cs vs : List Value} {T : TypeId} (hw : Region.wanted o (yielded ops a.tmps) = true) (hp : plainOp o.op = true) (h1 : posOf st i = some (p, f, vs.length)) (h2 : m[p]? = some (b, .cells ⟨cs⟩ T (0, 0))) (h3 : f + vs.length ≤ cs.length)
      (h : ∀ (W : World) (cs' : List Value), cs'.length = cs.length → W.heap[b]? = some (.cells ⟨cs'⟩ T (0, 0)) → (execOp a.eval o).run P W = .ok .skip (W.setRow b (splice cs' f vs).toArray)) :
      Eff P ops C st wr o i a m undef (m.set p (b, .cells ⟨splice cs f vs⟩ T (0, 0)))
  | skip (hw : Region.wanted o (yielded ops a.tmps) = false) : Eff P ops C st wr o i a m undef m

theorem Eff.of_same {o : Oper} {i : Nat} {a a' : Act} {m m' : Mem} {v : Value} (h : Eff P ops C st wr o i a m v m') (he : execOp a'.eval o = execOp a.eval o) (hw : Region.wanted o (yielded ops a'.tmps) = Region.wanted o (yielded ops a.tmps)) : Eff P ops C st wr o i a' m v m' := by
  cases h with
  | val h1 h2 h3 => exact .val (hw.trans h1) h2 (by rw [he]; exact h3)
  | sto h1 h2 h3 h4 h5 h6 => exact .sto (hw.trans h1) h2 h3 h4 h5 (by rw [he]; exact h6)
  | skip h1 => exact .skip (hw.trans h1)

/-- Two that do not wait for each other. -/
theorem Eff.swap {oi oj : Oper} {i j : Nat} {a : Act} {m m1 m2 : Mem} {v u : Value} (hij : i ≠ j) (hap : oi.apart ops oj = true) (hsi : ∀ cs b, oi.op ≠ .select cs b) (hsj : ∀ cs b, oj.op ≠ .select cs b)
    (s1 : ∀ r, posOf st j = some r → wr i r.1 = true) (s2 : ∀ r, posOf st i = some r → wr j r.1 = true) (s3 : Apart st)
    (hi : Eff P ops C st wr oi i a m v m1) (hj : Eff P ops C st wr oj j (a.put oi.dst v) m1 u m2) : ∃ m1', Eff P ops C st wr oj j a m u m1' ∧ Eff P ops C st wr oi i (a.put oj.dst u) m1' v m2 := by
  obtain ⟨h1, h2, h3⟩ := Oper.apart_spec hap
  have hk := hj.of_same (execOp_put oj hsj a oi.dst v h1).symm (wanted_put oj a oi.dst v h1).symm
  clear hj
  suffices ∃ m1', Eff P ops C st wr oj j a m u m1' ∧ Eff P ops C st wr oi i a m1' v m2 by
    obtain ⟨m1', g1, g2⟩ := this
    exact ⟨m1', g1, g2.of_same (execOp_put oi hsi a oj.dst u h3) (wanted_put oi a oj.dst u h3)⟩
  cases hi with
  | val e1 e2 e3 =>
    refine ⟨m2, hk, ?_⟩
    refine .val e1 e2 ?_
    cases hk with
    | val => exact e3
    | skip => exact e3
    | sto g1 g2 g3 g4 g5 g6 => rw [keepM_set _ _ _ _ _ (by rw [Nat.zero_add]; exact s1 _ g3)]; exact e3
  | skip e1 => exact ⟨m2, hk, .skip e1⟩
  | sto e1 e2 e3 e4 e5 e6 =>
    cases hk with
    | val g1 g2 g3 =>
      refine ⟨m, .val g1 g2 ?_, .sto e1 e2 e3 e4 e5 e6⟩
      rw [keepM_set _ _ _ _ _ (by rw [Nat.zero_add]; exact s2 _ e3)] at g3
      exact g3
    | skip g1 => exact ⟨m, .skip g1, .sto e1 e2 e3 e4 e5 e6⟩
    | sto g1 g2 g3 g4 g5 g6 =>
      rename_i p f b cs vs T q g b' cs' us T'
      have hd := s3 _ (posOf_mem e3) _ (posOf_mem g3) hij
      simp only at hd
      by_cases hpq : p = q
      · subst hpq
        have hlt := (List.getElem?_eq_some_iff.1 e4).1
        rw [List.getElem?_set_self hlt] at g4
        simp only [Option.some.injEq, Prod.mk.injEq, Obj.cells.injEq, Array.mk.injEq] at g4
        obtain ⟨rfl, rfl, rfl, _⟩ := g4
        have hl : (splice cs f vs).length = cs.length := splice_len e5
        rw [hl] at g5 g6
        refine ⟨_, .sto g1 g2 g3 e4 g5 g6, ?_⟩
        have := Eff.sto (P := P) (ops := ops) (C := C) (st := st) (wr := wr) (o := oi) (i := i) (a := a) (m := m.set p (b, .cells ⟨splice cs g us⟩ T (0, 0))) (cs := splice cs g us) e1 e2 e3 (List.getElem?_set_self hlt) (by rw [splice_len g5]; exact e5) (by rw [splice_len g5]; exact e6)
        rw [List.set_set] at this ⊢
        rw [splice_comm e5 g5 (by omega)]
        exact this
      · rw [List.getElem?_set_ne hpq] at g4
        refine ⟨_, .sto g1 g2 g3 g4 g5 g6, ?_⟩
        have := Eff.sto (P := P) (ops := ops) (C := C) (st := st) (wr := wr) (o := oi) (i := i) (a := a) (m := m.set q (b', .cells ⟨splice cs' g us⟩ T' (0, 0))) (cs := cs) e1 e2 e3 (by rw [List.getElem?_set_ne (Ne.symm hpq)]; exact e4) e5 e6
        rw [List.set_comm _ _ hpq]
        exact this

/-- whatever order -/
def gAny (P : Program) (ops : Array Oper) (C : Mem → World → Prop) (st : Sts) (wr : Nat → Nat → Bool) (Lq : Act → Mem → Prop) : Nat → Array Bool → Act → Mem → Prop
  | 0, listed, a, m => Region.ready .any ops listed = [] ∧ Lq a m
  | f + 1, listed, a, m => Region.ready .any ops listed ≠ [] ∧ ∀ i ∈ Region.ready .any ops listed, ∀ o, ops[i]? = some o → ∃ v m', Eff P ops C st wr o i a m v m' ∧ gAny P ops C st wr Lq f (listed.setIfInBounds i true) (a.put o.dst v) m'

/-- in the order of the text -/
def gSeq (P : Program) (ops : Array Oper) (C : Mem → World → Prop) (st : Sts) (wr : Nat → Nat → Bool) (Lq : Act → Mem → Prop) : List Oper → Nat → Act → Mem → Prop
  | [], _, a, m => Lq a m
  | o :: l, k, a, m => ∃ v m', Eff P ops C st wr o k a m v m' ∧ gSeq P ops C st wr Lq l (k + 1) (a.put o.dst v) m'

theorem gAny_first {i : Nat} {oi : Oper} (hi : ops[i]? = some oi) (hsel : ∀ (j : Nat) (o : Oper) cs b, ops[j]? = some o → o.op ≠ .select cs b) (s3 : Apart st) :
    ∀ (f : Nat) (listed : Array Bool) (a : Act) (m m1 : Mem) (v : Value), ClosedL .any ops listed →
      (∀ j oj, ops[j]? = some oj → j ≠ i → listed.getD j true = false → (∀ e ∈ oj.after, Region.binds .any e = true → e.on ≠ i) → oi.apart ops oj = true) →
      i ∈ Region.ready .any ops listed → Eff P ops C st (wrB (ancs .any ops) st) oi i a m v m1 →
      gAny P ops C st (wrB (ancs .any ops) st) Lq f (listed.setIfInBounds i true) (a.put oi.dst v) m1 → gAny P ops C st (wrB (ancs .any ops) st) Lq (f + 1) listed a m := by
  intro f
  induction f with
  | zero =>
    intro listed a m m1 v _ _ hr hy H
    refine ⟨fun h => (by rw [h] at hr; cases hr), fun j hj o ho => ?_⟩
    by_cases hji : j = i
    · subst hji
      rw [hi] at ho; cases ho
      exact ⟨v, m1, hy, H⟩
    · have := ready_mono hj hji
      rw [H.1] at this
      cases this
  | succ f ih =>
    intro listed a m m1 v hcl hfree hr hy H
    refine ⟨fun h => (by rw [h] at hr; cases hr), fun j hj oj hoj => ?_⟩
    by_cases hji : j = i
    · subst hji
      rw [hi] at hoj; cases hoj
      exact ⟨v, m1, hy, H⟩
    · obtain ⟨u, m2, h1, h2⟩ := H.2 j (ready_mono hj hji) oj hoj
      obtain ⟨hjun, oj', hoj', hall⟩ := mem_ready.1 hj
      rw [hoj] at hoj'; cases hoj'
      have hnot : ∀ e ∈ oj.after, Region.binds .any e = true → e.on ≠ i := fun e he hb heq => by
        have h1 := hall e he hb
        have h0 := (mem_ready.1 hr).1
        rw [heq] at h1
        rcases Nat.lt_or_ge i listed.size with h' | h'
        · simp [h'] at h0 h1; rw [h0] at h1; cases h1
        · simp [Array.getElem?_eq_none h'] at h1
      have hap := hfree j oj hoj hji hjun hnot
      have f1 := ready_free hcl hr hj
      have f2 := ready_free hcl hj hr
      have s1 : ∀ r, posOf st j = some r → wrB (ancs .any ops) st i r.1 = true := fun r hrr => by
        unfold wrB
        refine List.any_eq_true.2 ⟨_, posOf_mem hrr, ?_⟩
        simp [hji, f1, f2]
      have s2 : ∀ r, posOf st i = some r → wrB (ancs .any ops) st j r.1 = true := fun r hrr => by
        unfold wrB
        refine List.any_eq_true.2 ⟨_, posOf_mem hrr, ?_⟩
        simp [Ne.symm hji, f1, f2]
      obtain ⟨m1', g1, g2⟩ := Eff.swap (Ne.symm hji) hap (fun cs b => hsel i oi cs b hi) (fun cs b => hsel j oj cs b hoj) s1 s2 s3 hy h1
      have hfree' : ∀ k ok, ops[k]? = some ok → k ≠ i → (listed.setIfInBounds j true).getD k true = false →
          (∀ e ∈ ok.after, Region.binds .any e = true → e.on ≠ i) → oi.apart ops ok = true := fun k ok hk hki hun hno => by
        refine hfree k ok hk hki ?_ hno
        by_cases hjk : j = k
        · subst hjk; exact hjun
        · rw [getD_set_ne true hjk] at hun; exact hun
      refine ⟨u, m1', g1, ih (listed.setIfInBounds j true) _ _ m2 v (hcl.set hj) hfree' (ready_mono hr (Ne.symm hji)) g2 ?_⟩
      rw [Array.setIfInBounds_comm _ _ hji, ← Act.put_comm a v u (Oper.apart_spec hap).2.1]
      exact h2

theorem gAny_lex (hs : Region.noSelect ops = true) (s3 : Apart st) : ∀ (l : List Oper) (k : Nat) (listed : Array Bool) (a : Act) (m : Mem), ClosedL .any ops listed → (∀ j, l[j]? = ops[k + j]?) →
    Region.lexFrom .any ops l.length k listed = true → gSeq P ops C st (wrB (ancs .any ops) st) Lq l k a m → gAny P ops C st (wrB (ancs .any ops) st) Lq l.length listed a m
  | [], _, _, _, _, _, _, hB, h => ⟨by simpa [Region.lexFrom] using hB, h⟩
  | o :: l, k, listed, a, m, hcl, hl, hB, h => by
    have h0 : ops[k]? = some o := by simpa using (hl 0).symm
    simp only [List.length_cons, Region.lexFrom, Bool.and_eq_true] at hB
    obtain ⟨⟨hr, hf⟩, hB'⟩ := hB
    obtain ⟨v, m', h1, h2⟩ := h
    have hr' : k ∈ Region.ready .any ops listed := by simpa using hr
    exact gAny_first h0 (Region.noSelect_spec hs) s3 l.length listed a m m' v hcl (Region.free_spec h0 hf) hr' h1
      (gAny_lex hs s3 l (k + 1) _ _ _ (hcl.set hr') (fun j => by have := hl (j + 1); simpa [Nat.add_assoc, Nat.add_comm 1 j] using this) hB' h2)
end

section
variable {P : Program} {N : Nat} {c : Cx} {Q : Exit → Act → World → Prop} {env : List (Nat × Value)} {mem : List (Nat × Obj)} {L l : List Oper} [Wide c.F]
  {tt : List (TypeId × TI)} {d : Nat} {ty : TypeId} {pos : String} {af : Array Edge} {g : Option (Nat × Bool)} {st : Sts} {wr : Nat → Nat → Bool}

abbrev Cx.C (c : Cx) : Mem → World → Prop := fun m W => SatW c.w0 c.D c.J m W

theorem wpAnyIn_of_gAny {ops : Array Oper} {Lq : Act → Mem → Prop} (hL : ∀ a m W, Lq a m → SatW c.w0 c.D c.J m W → Q .normal a W) : ∀ (f : Nat) (listed : Array Bool) (a : Act) (m : Mem) (W : World), SatW c.w0 c.D c.J m W →
    gAny P ops c.C st wr Lq f listed a m → wpAnyIn c.F c.n P .any ops Q f listed a W
  | 0, _, _, _, _, hm, h => ⟨h.1, hL _ _ _ h.2 hm⟩
  | f + 1, listed, a, m, W, hm, h => by
    refine ⟨fun h0 => absurd h0 h.1, fun i hi => ?_⟩
    obtain ⟨_, o, ho, _⟩ := mem_ready.1 hi
    obtain ⟨v, m', h1, h2⟩ := h.2 i hi o ho
    unfold wpOpIn
    simp only [ho]
    cases h1 with
    | val e1 e2 e3 =>
      rw [if_pos e1]
      refine ⟨fun f _ => Wide.fn c.F f, ?_⟩
      rw [semAt_plain _ e2, e3 W (hm.mono (keepM_sub _ _ _))]
      exact wpAnyIn_of_gAny hL f _ _ _ _ hm h2
    | sto e1 e2 e3 e4 e5 e6 =>
      rw [if_pos e1]
      refine ⟨fun f _ => Wide.fn c.F f, ?_⟩
      rename_i p' f' b' cs' vs' T'
      have hu := upd_set (o' := .cells ⟨splice cs' f' vs'⟩ T' (0, 0)) e4
      rw [semAt_plain _ e2, e6 W _ rfl (hm.own _ hu.isIn).2]
      exact wpAnyIn_of_gAny hL f _ _ _ _ (hm.put hu) h2
    | skip e1 =>
      rw [if_neg (by rw [e1]; exact Bool.false_ne_true)]
      exact ⟨fun f _ => Wide.fn c.F f, wpAnyIn_of_gAny hL f _ _ _ _ hm h2⟩

/-- the places that an operation may not read: those that are written, but for those that are named -/
def rowB (st : Sts) (rd : List (Nat × Nat)) (i p : Nat) : Bool := st.any (fun s => s.2.1 == p) && !(rd.any fun r => r.1 == i && r.2 == p)

theorem rowB_ok {an : List Nat} {st : Sts} {rd : List (Nat × Nat)} (h : (rd.all fun r => !wrB an st r.1 r.2) = true) {i p : Nat} (hr : rowB st rd i p = false) : wrB an st i p = false := by
  unfold rowB at hr
  rw [Bool.and_eq_false_iff] at hr
  rcases hr with hr | hr
  · cases hw : wrB an st i p with
    | false => rfl
    | true =>
      unfold wrB at hw
      obtain ⟨s, hs, h2⟩ := List.any_eq_true.1 hw
      simp only [Bool.and_eq_true] at h2
      have : st.any (fun s => s.2.1 == p) = true := List.any_eq_true.2 ⟨s, hs, h2.1.1.1⟩
      rw [hr] at this; cases this
  · have : (rd.any fun r => r.1 == i && r.2 == p) = true := by simpa using hr
    obtain ⟨r, hm, h2⟩ := List.any_eq_true.1 this
    simp only [Bool.and_eq_true, beq_iff_eq] at h2
    obtain ⟨rfl, rfl⟩ := h2
    have := List.all_eq_true.1 h r hm
    simpa using this

/-- A drawn region that reads and stores, in the order of the text. -/
structure RunG (P : Program) (N : Nat) (c : Cx) (L : List Oper) (st : Sts) (rd : List (Nat × Nat)) (l : List Oper) (k : Nat) (Q : Exit → Act → World → Prop) (env : List (Nat × Value)) (mem : List (Nat × Obj)) : Prop where
  run : ∀ a, SatA N c.ds env a → (rd.all fun r => !wrB (ancs .any L.toArray) st r.1 r.2) = true →
    gSeq P L.toArray c.C st (wrB (ancs .any L.toArray) st) (fun a' m' => ∀ W, SatW c.w0 c.D c.J m' W → Q .normal a' W) l k a mem

def wrB0 (an : List Nat) (st : List (Nat × Nat)) (i p : Nat) : Bool := st.any fun s => s.2 == p && s.1 != i && !waitsB an s.1 i && !waitsB an i s.1
def gB0 (L : List Oper) (st : List (Nat × Nat)) (rd : List (Nat × Nat)) : Bool := Region.lexB .any L.toArray && rd.all fun r => !wrB0 (ancs .any L.toArray) st r.1 r.2
theorem wrB_0 (an : List Nat) (st : Sts) (i p : Nat) : wrB0 an (st.map fun s => (s.1, s.2.1)) i p = wrB an st i p := by
  unfold wrB0 wrB; rw [List.any_map]; rfl

def clear1 (s : Nat × Nat × Nat × Nat) : Sts → Prop
  | [] => True
  | t :: l => (s.2.1 ≠ t.2.1 ∨ s.2.2.1 + s.2.2.2 ≤ t.2.2.1 ∨ t.2.2.1 + t.2.2.2 ≤ s.2.2.1) ∧ clear1 s l
def clears : Sts → Prop
  | [] => True
  | s :: l => clear1 s l ∧ clears l
theorem clear1_mem {s t : Nat × Nat × Nat × Nat} {l : Sts} (h : clear1 s l) (ht : t ∈ l) : s.2.1 ≠ t.2.1 ∨ s.2.2.1 + s.2.2.2 ≤ t.2.2.1 ∨ t.2.2.1 + t.2.2.2 ≤ s.2.2.1 := by
  induction l with
  | nil => cases ht
  | cons x l ih =>
    rcases List.mem_cons.1 ht with rfl | ht
    · exact h.1
    · exact ih h.2 ht
theorem clears_apart {l : Sts} (h : clears l) : Apart l := by
  induction l with
  | nil => intro s hs; cases hs
  | cons x l ih =>
    intro s hs t ht hne
    rcases List.mem_cons.1 hs with es | hs'
    · rcases List.mem_cons.1 ht with et | ht'
      · exact absurd (by rw [es, et]) hne
      · rw [es]; exact clear1_mem h.1 ht'
    · rcases List.mem_cons.1 ht with et | ht'
      · have := clear1_mem h.1 hs'
        rw [et]; omega
      · exact ih h.2 s hs' t ht' hne

theorem c_gen [M : Mixed P] {id : Nat} (st0 : List (Nat × Nat)) (st : Sts) (rd : List (Nat × Nat)) (hst : (st.map fun s => (s.1, s.2.1)) = st0) (hB : gB0 L st0 rd = true) (hA : clears st) (k : RunG P N c L st rd L 0 Q env mem) : RunC P N c (.region id L.toArray true) Q env mem := .mk fun a W ha hm => by
  subst hst
  simp only [gB0, wrB_0, Region.lexB, Bool.and_eq_true] at hB
  obtain ⟨⟨h1, h2⟩, h3⟩ := hB
  refine wpIn_region_any M.ok ?_
  have H := gAny_lex (P := P) (C := c.C) (st := st) (Lq := fun a' m' => ∀ W, SatW c.w0 c.D c.J m' W → Q .normal a' W) h1 (clears_apart hA) L 0 (Array.replicate L.toArray.size false) a mem
    (fun j oj _ hl => by rw [getD_replicate_false] at hl; cases hl) (by simp) (by simpa using h2) (k.run a ha h3)
  have := wpAnyIn_of_gAny (c := c) (Q := Q) (fun a m W h hm => h W hm) _ _ _ _ _ hm.drew H
  simpa using this

/-- the places that may be read -/
def pickK {α β : Type} (f : Nat → Bool) : Nat → Nat → List α → (List α → Option β) → Option β
  | 0, _, m, k => k m
  | _ + 1, _, [], k => k []
  | n + 1, j, x :: m, k => bif f j then pickK f n (j + 1) m k else pickK f n (j + 1) m fun r => k (x :: r)
theorem keepM_all {α : Type} {f : Nat → Bool} {m : List α} {j : Nat} (h : ∀ p, j ≤ p → f p = false) : keepM f j m = m := by
  induction m generalizing j with
  | nil => rfl
  | cons x m ih => simp only [keepM, h j (Nat.le_refl _), cond_false]; rw [ih fun p hp => h p (by omega)]
theorem pickK_eq {α β : Type} {f g : Nat → Bool} {m : List α} {n j : Nat} {k : List α → Option β} {r : β} (hf : ∀ p, g p = false → f p = false) (hn : ∀ p, j + n ≤ p → f p = false) (h : pickK g n j m k = some r) : ∃ m', List.Sublist m' (keepM f j m) ∧ k m' = some r := by
  induction n generalizing m j k with
  | zero => exact ⟨m, by rw [keepM_all (fun p hp => hn p (by omega))]; exact List.Sublist.refl _, h⟩
  | succ n ih =>
    cases m with
    | nil => exact ⟨[], List.nil_sublist _, h⟩
    | cons x m =>
      simp only [pickK] at h
      cases hg : g j with
      | true =>
        rw [hg] at h
        obtain ⟨m', h1, h2⟩ := ih (fun p hp => hn p (by omega)) h
        refine ⟨m', ?_, h2⟩
        simp only [keepM]
        cases f j with
        | true => exact h1
        | false => exact h1.cons _
      | false =>
        rw [hg] at h
        obtain ⟨m', h1, h2⟩ := ih (fun p hp => hn p (by omega)) h
        refine ⟨x :: m', ?_, h2⟩
        simp only [keepM, hf j hg, cond_false]
        exact h1.cons_cons _

def fuelOf : Sts → Nat
  | [] => 0
  | s :: l => max (s.2.1 + 1) (fuelOf l)
theorem fuelOf_le {st : Sts} {s : Nat × Nat × Nat × Nat} (h : s ∈ st) : s.2.1 < fuelOf st := by
  induction st with
  | nil => cases h
  | cons x st ih =>
    simp only [fuelOf]
    rcases List.mem_cons.1 h with rfl | h
    · omega
    · have := ih h; omega
theorem wrB_far {an : List Nat} {st : Sts} {i p : Nat} (h : fuelOf st ≤ p) : wrB an st i p = false := by
  cases hw : wrB an st i p with
  | false => rfl
  | true =>
    unfold wrB at hw
    obtain ⟨s, hs, h2⟩ := List.any_eq_true.1 hw
    simp only [Bool.and_eq_true, beq_iff_eq] at h2
    have := fuelOf_le hs
    omega

variable {rd : List (Nat × Nat)}
theorem g_val {k : Nat} {op : Op} {v : Value} {mem' : List (Nat × Obj)} (hw : wantB L env g = some true) (hd : Nat.blt d N = true) (hm : pickK (rowB st rd k) (fuelOf st) 0 mem some = some mem')
    (hv : OpVal P N c env mem' ⟨some d, op, ty, pos, af, g⟩ v) (kk : RunG P N c L st rd l (k + 1) Q ((d, v) :: env) mem) : RunG P N c L st rd (⟨some d, op, ty, pos, af, g⟩ :: l) k Q env mem := .mk fun a ha hr => by
  refine ⟨v, mem, .val (wanted_of (o := ⟨some d, op, ty, pos, af, g⟩) hw ha) hv.1 (fun W hW => ?_), kk.run _ (ha.put hd v) hr⟩
  obtain ⟨m', h1, h2⟩ := pickK_eq (f := wrB (ancs .any L.toArray) st k) (fun p hp => rowB_ok hr hp) (fun p hp => wrB_far (by omega)) hm
  simp only [Option.some.injEq] at h2
  subst h2
  exact hv.2 a W ha (hW.mono h1)

theorem g_skip {k : Nat} {op : Op} (hw : wantB L env g = some false) (hd : Nat.blt d N = true) (kk : RunG P N c L st rd l (k + 1) Q ((d, undef) :: env) mem) :
    RunG P N c L st rd (⟨some d, op, ty, pos, af, g⟩ :: l) k Q env mem := .mk fun a ha hr =>
  ⟨undef, mem, .skip (wanted_of (o := ⟨some d, op, ty, pos, af, g⟩) hw ha), kk.run _ (ha.put hd undef) hr⟩

/-- a store; `p`: the place of the block, `cs2`: its cells behind it -/
theorem g_store [T : TT P tt] {k t b o sz bt p f len : Nat} {x y : Operand} {kd : TK} {z v : Value} {cs cs2 vs : List Value} {T' : TypeId} {mem' : List (Nat × Obj)} (hw : wantB L env g = some true)
    (hx : evOp env x = some (.pointer (some ⟨b, o, none⟩))) (hy : evOp env y = some v) (hvs : cellsL v = vs) (ht : look tt t = some ⟨kd, sz, bt, z⟩) (hs : Nat.beq vs.length sz = true) (h1 : allOne vs = true)
    (hp : posOf st k = some (p, f, len)) (ho : o = f) (hl : Nat.beq vs.length len = true) (hmem : mem[p]? = some (b, .cells ⟨cs⟩ T' (0, 0))) (hle : o + len ≤ cs.length) (hc : splice cs o vs = cs2) (hm : mem.set p (b, .cells ⟨cs2⟩ T' (0, 0)) = mem')
    (kk : RunG P N c L st rd l (k + 1) Q env mem') : RunG P N c L st rd (⟨none, .store t x y, ty, pos, af, g⟩ :: l) k Q env mem := .mk fun a ha hr => by
  subst hvs; subst hc; subst hm; subst ho
  have hl := Nat.eq_of_beq_eq_true hl
  subst hl
  obtain ⟨i, hi, hsz⟩ := (TT.look (P := P) ht).size
  refine ⟨undef, _, .sto (wanted_of (o := ⟨none, .store t x y, ty, pos, af, g⟩) hw ha) rfl hp hmem hle (fun W cs' hlen hb => ?_), kk.run _ ha hr⟩
  exact p_store (ha.eval hx) (ha.eval hy) hi (by rw [hsz]; exact Nat.eq_of_beq_eq_true hs) (allOne_mem h1) hb (by rw [hlen]; exact hle)

theorem g_nil {k : Nat} (kk : RunX N c Q .normal env mem) : RunG P N c L st rd [] k Q env mem := .mk fun a ha _ W hm => kk.run a W ha hm

theorem splice_one {cs : List Value} {o : Nat} {v : Value} {cs2 : List Value} (h : o < cs.length) (e : cs.set o v = cs2) : splice cs o [v] = cs2 := by
  rw [← e]; exact set_eq_splice h
theorem splice_lit {cs vs cs2 : List Value} {o : Nat} (h : putK cs o vs some = some cs2) : splice cs o vs = cs2 := by
  have := (putK_eq h).2
  simpa [splice] using this
end
end Kin
end Go

set_option linter.unusedSectionVars false
set_option linter.unusedVariables false
set_option linter.unusedSimpArgs false
namespace Go
open Go.RowKit
namespace Kin

theorem cutK_of {β : Type} {l : List Value} {o n : Nat} {k : List Value → Option β} (h : o + n ≤ l.length) : cutK l o n k = k ((l.drop o).take n) := by
  induction l generalizing o n k with
  | nil =>
    simp only [List.length_nil] at h
    obtain rfl : o = 0 := by omega
    obtain rfl : n = 0 := by omega
    rfl
  | cons x l ih =>
    cases o with
    | zero =>
      cases n with
      | zero => rfl
      | succ n =>
        simp only [cutK]
        rw [ih (by simp only [List.length_cons] at h; omega)]
        rfl
    | succ o =>
      simp only [cutK]
      rw [ih (by simp only [List.length_cons] at h; omega)]
      rfl

/-- `cs` has the row `r` at `o`. -/
structure RowAt (cs : List Value) (o : Nat) (r : List Value) : Prop where
  fits : o + r.length ≤ cs.length
  eq : (cs.drop o).take r.length = r

theorem RowAt.agg {cs : List Value} {o sz : Nat} {r : List Value} (h : RowAt cs o r) (hs : r.length = sz) : aggV true sz cs o = some (.agg ⟨r⟩) := by
  subst hs
  show cutK cs o r.length (fun r => some (Value.agg ⟨r⟩)) = _
  rw [cutK_of h.fits, h.eq]
theorem RowAt.get {cs : List Value} {o f : Nat} {r : List Value} {v : Value} (h : RowAt cs o r) (hv : r[f]? = some v) : cs[o + f]? = some v := by
  have hf := (List.getElem?_eq_some_iff.1 hv).1
  have h1 : ((cs.drop o).take r.length)[f]? = some v := by rw [h.eq]; exact hv
  rw [List.getElem?_take, if_pos hf, List.getElem?_drop] at h1
  exact h1

theorem flatten_len {α : Type} {rs : List (List α)} {sz : Nat} (h : ∀ r ∈ rs, r.length = sz) : rs.flatten.length = rs.length * sz := by
  induction rs with
  | nil => simp
  | cons r rs ih =>
    rw [List.flatten_cons, List.length_append, h r List.mem_cons_self, ih (fun r hr => h r (List.mem_cons_of_mem _ hr)), List.length_cons, Nat.succ_mul]; omega

theorem rowAt_flatten {rs : List (List Value)} {rest : List Value} {sz i : Nat} {r : List Value} (h : ∀ r ∈ rs, r.length = sz) (hi : rs[i]? = some r) : RowAt (rs.flatten ++ rest) (i * sz) r := by
  induction rs generalizing i with
  | nil => cases hi
  | cons x rs ih =>
    have hx := h x List.mem_cons_self
    cases i with
    | zero =>
      cases hi
      refine ⟨?_, ?_⟩
      · simp only [List.flatten_cons, List.length_append]; omega
      · simp only [Nat.zero_mul, List.drop_zero, List.flatten_cons, List.append_assoc, List.take_left']
    | succ i =>
      have ih := ih (fun r hr => h r (List.mem_cons_of_mem _ hr)) hi
      rw [List.flatten_cons, List.append_assoc, Nat.succ_mul, Nat.add_comm (i * sz) sz, ← hx]
      rw [hx]
      refine ⟨?_, ?_⟩
      · have := ih.fits; rw [List.length_append, hx]; omega
      · rw [← hx, ← List.drop_drop, List.drop_left, hx]; exact ih.eq

theorem splice_flatten {rs : List (List Value)} {rest : List Value} {sz i : Nat} {r : List Value} (h : ∀ r ∈ rs, r.length = sz) (hi : i < rs.length) (hr : r.length = sz) : splice (rs.flatten ++ rest) (i * sz) r = (rs.set i r).flatten ++ rest := by
  induction rs generalizing i with
  | nil => cases hi
  | cons x rs ih =>
    have hx := h x List.mem_cons_self
    cases i with
    | zero =>
      simp only [splice, Nat.zero_mul, List.take_zero, List.nil_append, Nat.zero_add, List.set_cons_zero, List.flatten_cons, List.append_assoc]
      rw [hr, ← hx, List.drop_left]
    | succ i =>
      have ih := ih (fun r hr => h r (List.mem_cons_of_mem _ hr)) (by simpa using hi)
      simp only [splice] at ih ⊢
      rw [List.flatten_cons, Nat.succ_mul, Nat.add_comm (i * sz) sz, List.set_cons_succ, List.flatten_cons, List.append_assoc x (rs.set i r).flatten, ← ih, List.append_assoc x rs.flatten]
      have e1 : (x ++ (rs.flatten ++ rest)).take (sz + i * sz) = x ++ (rs.flatten ++ rest).take (i * sz) := by rw [← hx, List.take_length_add_append]
      have e2 : (x ++ (rs.flatten ++ rest)).drop (sz + i * sz + r.length) = (rs.flatten ++ rest).drop (i * sz + r.length) := by
        rw [Nat.add_assoc, ← hx, List.drop_length_add_append]
      rw [e1, e2]
      simp only [List.append_assoc]

theorem flat_flatten {n : Nat} {f : Nat → List Value} : flat n f = ((List.range n).map f).flatten := by
  unfold flat; rw [List.flatMap_def]
theorem rowAt_flat {n sz i : Nat} {f : Nat → List Value} (h : ∀ i, (f i).length = sz) (hi : i < n) : RowAt (flat n f) (i * sz) (f i) := by
  have := rowAt_flatten (rs := (List.range n).map f) (rest := []) (sz := sz) (i := i) (r := f i) (fun r hr => by obtain ⟨j, _, rfl⟩ := List.mem_map.1 hr; exact h j) (by simp [hi])
  rwa [List.append_nil, ← flat_flatten] at this
theorem splice_flat {n sz i : Nat} {f : Nat → List Value} {r : List Value} (h : ∀ i, (f i).length = sz) (hi : i < n) (hr : r.length = sz) : splice (flat n f) (i * sz) r = flat n (iset f i r) := by
  have := splice_flatten (rs := (List.range n).map f) (rest := []) (sz := sz) (i := i) (r := r) (fun r hr => by obtain ⟨j, _, rfl⟩ := List.mem_map.1 hr; exact h j) (by simpa using hi) hr
  rw [List.append_nil, List.append_nil, ← flat_flatten] at this
  rw [this, flat_flatten]
  congr 1
  apply List.ext_getElem?
  intro j
  simp only [List.getElem?_set, List.getElem?_map, List.length_map, List.length_range, iset]
  by_cases h1 : j < n
  · by_cases h2 : i = j
    · subst h2; simp [h1, iset]
    · simp [h1, h2, iset, Ne.symm h2]
  · by_cases h2 : i = j
    · subst h2; simp [h1]
    · simp [h1, h2]

theorem rowAt_flatR {n sz i : Nat} {f : Nat → List Value} {rest : List Value} (h : ∀ i, (f i).length = sz) (hi : i < n) : RowAt (flat n f ++ rest) (i * sz) (f i) := by
  have := rowAt_flatten (rs := (List.range n).map f) (rest := rest) (sz := sz) (i := i) (r := f i) (fun r hr => by obtain ⟨j, _, rfl⟩ := List.mem_map.1 hr; exact h j) (by simp [hi])
  rwa [← flat_flatten] at this
theorem flat_len {n sz : Nat} {f : Nat → List Value} (h : ∀ i, (f i).length = sz) : (flat n f).length = n * sz := by
  rw [flat_flatten, flatten_len (sz := sz) (fun r hr => by obtain ⟨j, _, rfl⟩ := List.mem_map.1 hr; exact h j)]; simp
theorem splice_app {cs rest vs : List Value} {o : Nat} (h : o + vs.length ≤ cs.length) : splice (cs ++ rest) o vs = splice cs o vs ++ rest := by
  unfold splice
  rw [List.take_append_of_le_length (by omega), List.drop_append_of_le_length h, List.append_assoc, List.append_assoc, List.append_assoc]
theorem flat_fits {n sz i : Nat} {f : Nat → List Value} (h : ∀ i, (f i).length = sz) (hi : i < n) : i * sz + sz ≤ (flat n f).length := by
  rw [flat_len h, ← Nat.succ_mul]; exact Nat.mul_le_mul_right _ hi
theorem flat_fitsR {n sz i : Nat} {f : Nat → List Value} {rest : List Value} (h : ∀ i, (f i).length = sz) (hi : i < n) : i * sz + sz ≤ (flat n f ++ rest).length := by
  have := flat_fits h hi
  rw [List.length_append]; omega
theorem splice_flatR {n sz i : Nat} {f : Nat → List Value} {r rest : List Value} (h : ∀ i, (f i).length = sz) (hi : i < n) (hr : r.length = sz) : splice (flat n f ++ rest) (i * sz) r = flat n (iset f i r) ++ rest := by
  rw [splice_app (by rw [hr]; exact flat_fits h hi), splice_flat h hi hr]
theorem flat_succ {n : Nat} {f : Nat → List Value} : flat (n + 1) f = flat n f ++ f n := by
  unfold flat; rw [List.range_succ, List.flatMap_append]; simp
theorem flat_congr {n : Nat} {f g : Nat → List Value} (h : ∀ i, i < n → f i = g i) : flat n f = flat n g := by
  rw [flat_flatten, flat_flatten]
  congr 1
  exact List.map_congr_left fun i hi => h i (List.mem_range.1 hi)

section
variable {P : Program} {N : Nat} {c : Cx} {env : List (Nat × Value)} {mem : List (Nat × Obj)} {tt : List (TypeId × TI)} {ty : TypeId} {pos : String} {af : Array Edge} {g : Option (Nat × Bool)} {dd : Option Tmp} [Wide c.F]
/-- a record out of a row of them -/
theorem v_load_row [T : TT P tt] {t b o sz bt : Nat} {x : Operand} {kd : TK} {z : Value} {cs r : List Value} {T' : TypeId} {fr : Nat × Nat}
    (hx : evOp env x = some (.pointer (some ⟨b, o, none⟩))) (hm : (b, Obj.cells ⟨cs⟩ T' fr) ∈ mem) (ht : look tt t = some ⟨kd, sz, bt, z⟩) (hk : kd.isAgg = true) (hr : RowAt cs o r) (hs : Nat.beq r.length sz = true) :
    OpVal P N c env mem ⟨dd, .load t x, ty, pos, af, g⟩ (.agg ⟨r⟩) :=
  v_load hx hm ht (by rw [hk]; exact hr.agg (Nat.eq_of_beq_eq_true hs))
end

/-! ## Where ways meet, in one of many states -/
structure MidI (N : Nat) (c : Cx) {ι : Type} (I : ι → Prop) (E : ι → List (Nat × Value)) (M : ι → List (Nat × Obj)) (a : Act) (W : World) : Prop where
  ex : ∃ i, I i ∧ SatA N c.ds (E i) a ∧ SatW c.w0 c.D c.J (M i) W
section
variable {P : Program} {N : Nat} {c : Cx} {Q : Exit → Act → World → Prop} {env : List (Nat × Value)} {mem : List (Nat × Obj)} {ι : Type}
theorem c_joinI {x y : Code} (I : ι → Prop) (E : ι → List (Nat × Value)) (M : ι → List (Nat × Obj)) (k1 : RunC P N c x (Exit.then (MidI N c I E M) Q) env mem) (k2 : ∀ i, I i → RunC P N c y Q (E i) (M i)) : RunC P N c (.seq x y) Q env mem :=
  .mk fun a W ha hm => wpIn_seq (wpIn_mono (k1.run a W ha hm) fun e a' W' h => by
    cases e with
    | normal =>
      obtain ⟨i, h1, h2, h3⟩ := h.ex
      exact (k2 i h1).run a' W' h2 h3
    | _ => exact h)
theorem x_midI {I : ι → Prop} {E : ι → List (Nat × Value)} {M : ι → List (Nat × Obj)} {Q' : Exit → Act → World → Prop} (i : ι) (hI : I i) (hE : EnvSub env (E i)) (hM : MSub mem (M i)) : RunX N c (Exit.then (MidI N c I E M) Q') .normal env mem :=
  .mk fun _ _ ha hm => ⟨i, hI, hE.sat ha, hm.mono hM.sub⟩
end
end Kin
end Go

set_option linter.unusedSectionVars false
set_option linter.unusedVariables false
set_option linter.unusedSimpArgs false
namespace Go
open Go.RowKit
namespace Kin

theorem iset_len {f : Nat → List Value} {i sz : Nat} {r : List Value} (h : ∀ x, (f x).length = sz) (hr : r.length = sz) : ∀ x, (iset f i r x).length = sz := fun x => by
  unfold iset
  split
  · exact hr
  · exact h x

/-- a slice in a block that is known -/
theorem SatW.rows {w0 W : World} {D : Nat → Prop} {J : (Nat → Prop) → World → Prop} {mem : List (Nat × Obj)} (hW : SatW w0 D J mem W) {b : Nat} {cs : List Value} {T : TypeId} {fr : Nat × Nat} (hm : (b, Obj.cells ⟨cs⟩ T fr) ∈ mem)
    {rows : List (List Value)} {sz : Nat} {rest : List Value} (he : cs = rows.flatten ++ rest) (hl : ∀ r ∈ rows, r.length = sz) : At W (some ⟨b, 0, none⟩) sz rows := fun i r hi => by
  refine ⟨b, 0, rfl, fun j v hj => ?_⟩
  rw [Nat.zero_add, hW.cellAt hm, he]
  exact (rowAt_flatten hl hi).get hj
theorem at_nil (w : World) (sz : Nat) : At w none sz [] := fun i r hi => by simp at hi

/-! ## Records compared -/
/-- '==' on the type goes field by field -/
structure EqS (P : Program) (t : TypeId) : Prop where
  nb : (P.fieldsOf t).toList.all (fun f => f.name != "_") = true
  st : P.stoodInHeld t = false
  eg : P.eqGuardType P.depth t = false

class EqAll (P : Program) (es : outParam (List TypeId)) : Prop where
  ok : ∀ t ∈ es, EqS P t

theorem eqs_nil {P : Program} : ∀ t ∈ ([] : List TypeId), EqS P t := fun t h => by cases h
theorem eqs_cons {P : Program} {t : TypeId} {es : List TypeId} (h : EqS P t) (k : ∀ t ∈ es, EqS P t) : ∀ x ∈ t :: es, EqS P x := fun x hx => by
  rcases List.mem_cons.1 hx with rfl | hx
  · exact h
  · exact k x hx

def eqFs (tt : List (TypeId × TI)) (E : TypeId → Value → Value → Option Bool) (xs ys : List Value) : List (TypeId × Nat) → Option Bool
  | [] => some true
  | (ft, off) :: fs => match look tt ft with
    | some ⟨kd, sz, _, _⟩ => match aggV kd.isAgg sz xs off with
      | some x => match aggV kd.isAgg sz ys off with
        | some y => match E ft x y with
          | some b => match fs with
            | [] => some b
            | _ :: _ => match eqFs tt E xs ys fs with
              | some r => some (b && r)
              | none => none
          | none => none
        | none => none
      | none => none
    | none => none

def eqV (tt : List (TypeId × TI)) (es : List TypeId) : Nat → TypeId → Value → Value → Option Bool
  | 0, _, _, _ => none
  | n + 1, t, x, y => match look tt t with
    | some ⟨.int _, _, _, _⟩ => match x with
      | .int k a => match y with
        | .int k' b => if k = k' then some (decide (a = b)) else none
        | _ => none
      | _ => none
    | some ⟨.bool, _, _, _⟩ => match x with
      | .bool a => match y with
        | .bool b => some (decide (a = b))
        | _ => none
      | _ => none
    | some ⟨.str, _, _, _⟩ => match x with
      | .string a => match y with
        | .string b => some (a.toList == b.toList)
        | _ => none
      | _ => none
    | some ⟨.struct fs, _, _, _⟩ => match x with
      | .agg ⟨xs⟩ => match y with
        | .agg ⟨ys⟩ => match es.any (Nat.beq t) with
          | true => eqFs tt (eqV tt es n) xs ys fs
          | false => none
        | _ => none
      | _ => none
    | _ => none

section
variable {P : Program} {tt : List (TypeId × TI)} {es : List TypeId} {W : World}

theorem eqFs_run [T : TT P tt] {E : TypeId → Value → Value → Option Bool} {d : Nat} (hE : ∀ t x y b, E t x y = some b → (Op.equalIn d t x y).run P W = .ok b W) {xs ys : List Value} :
    ∀ (l : List Field), l.all (fun f => f.name != "_") = true → ∀ b, eqFs tt E xs ys (l.map fun f => (f.type, f.offset)) = some b → (Op.eqFields d ⟨xs⟩ ⟨ys⟩ l).run P W = .ok b W
  | [], _, b, h => by
    simp only [List.map_nil, eqFs, Option.some.injEq] at h
    subst h; rfl
  | f :: l, hn, b, h => by
    simp only [List.all_cons, Bool.and_eq_true, bne_iff_ne, ne_eq] at hn
    obtain ⟨h1, h2⟩ := hn
    simp only [List.map_cons, eqFs] at h
    split at h
    · rename_i kd sz _ _ ht
      split at h
      · rename_i x hx
        split at h
        · rename_i y hy
          split at h
          · rename_i b1 hb1
            have p1 := run_part (P := P) (W := W) (TT.look ht).size (TT.look ht).1 hx
            have p2 := run_part (P := P) (W := W) (TT.look ht).size (TT.look ht).1 hy
            simp only [Op.eqFields, if_pos h1, Sem.run_bind, p1, p2, Result.andThen_ok, hE _ _ _ _ hb1]
            split at h
            · rename_i hl
              cases h
              have : l = [] := by cases l with
                | nil => rfl
                | cons _ _ => cases hl
              subst this
              cases b <;> rfl
            · rename_i hl
              split at h
              · rename_i r hr
                cases h
                have ih := eqFs_run (xs := xs) (ys := ys) hE l h2 r hr
                cases b1
                · rfl
                · simp only [Bool.not_true, Bool.false_eq_true, if_false, Bool.true_and]; exact ih
              · cases h
          · cases h
        · cases h
      · cases h
    · cases h

theorem eqV_run [T : TT P tt] [Ee : EqAll P es] : ∀ (n d : Nat) (t : TypeId) (x y : Value) (b : Bool), eqV tt es n t x y = some b → (Op.equalIn (d + n) t x y).run P W = .ok b W
  | 0, _, _, _, _, _, h => by cases h
  | n + 1, d, t, x, y, b, h => by
    show (Op.equalIn (d + n + 1) t x y).run P W = _
    simp only [eqV] at h
    split at h
    · rename_i ht
      split at h
      · split at h
        · split at h
          · rename_i hk; subst hk; cases h
            rw [run_equalIn_int W (d + n) t _ _ _ _ (TT.look (P := P) ht).1]; rfl
          · cases h
        · cases h
      · cases h
    · rename_i ht
      split at h
      · split at h
        · cases h
          rw [run_equalIn_bool' W (d + n) t _ _ (TT.look (P := P) ht).1]; rfl
        · cases h
      · cases h
    · rename_i ht
      split at h
      · split at h
        · cases h
          exact run_equalIn_string W (d + n) t _ _ (TT.look (P := P) ht).1
        · cases h
      · cases h
    · rename_i fs _ _ _ ht
      split at h
      · split at h
        · split at h
          · rename_i hm
            obtain ⟨u, hu, he⟩ := List.any_eq_true.1 hm
            have := Nat.eq_of_beq_eq_true he
            subst this
            obtain ⟨fields, hf, hmap⟩ := (TT.look (P := P) ht).1
            have S := Ee.ok _ hu
            have hfo : P.fieldsOf t = fields := by simp [Program.fieldsOf, hf]
            rw [run_equalIn_struct W (d + n) t _ _ (by rw [hfo]; exact hf) S.st]
            have hnb := S.nb
            rw [hfo] at hnb ⊢
            exact eqFs_run (fun t x y b hb => eqV_run n d t x y b hb) fields.toList hnb b (by rw [hmap]; exact h)
          · cases h
        · cases h
      · cases h
    · cases h

theorem eq_run [T : TT P tt] [Ee : EqAll P es] {t : TypeId} {x y : Value} {b : Bool} (h : eqV tt es 8 t x y = some b) : (Op.equal t x y).run P W = .ok b W := eqV_run 8 9992 t x y b h
end

section
variable {P : Program} {N : Nat} {c : Cx} {Q : Exit → Act → World → Prop} {env : List (Nat × Value)} {mem : List (Nat × Obj)} {L l : List Oper} [Wide c.F]
  {tt : List (TypeId × TI)} {es : List TypeId} {d : Nat} {ty : TypeId} {pos : String} {af : Array Edge} {g : Option (Nat × Bool)} {dd : Option Tmp}

theorem v_eqS [T : TT P tt] [Ee : EqAll P es] {t t' : TypeId} {x y : Operand} {xs ys : List Value} {b : Bool} (hx : evOp env x = some (.agg ⟨xs⟩)) (hy : evOp env y = some (.agg ⟨ys⟩)) (hm : es.any (Nat.beq t) = true)
    (h : eqV tt es 8 t (.agg ⟨xs⟩) (.agg ⟨ys⟩) = some b) : OpVal P N c env mem ⟨dd, .binOp .eql t x y t', ty, pos, af, g⟩ (.bool b) :=
  ⟨rfl, fun a W ha _ => by
    obtain ⟨u, hu, he⟩ := List.any_eq_true.1 hm
    have := Nat.eq_of_beq_eq_true he
    subst this
    simp only [execOp, ha.eval hx, ha.eval hy, Sem.run_bind, run_eqGuard_agg W .eql t x y _ _ (Ee.ok _ hu).eg, Result.andThen_ok, binOp, eq_run h]
    rfl⟩
theorem v_neS [T : TT P tt] [Ee : EqAll P es] {t t' : TypeId} {x y : Operand} {xs ys : List Value} {b : Bool} (hx : evOp env x = some (.agg ⟨xs⟩)) (hy : evOp env y = some (.agg ⟨ys⟩)) (hm : es.any (Nat.beq t) = true)
    (h : eqV tt es 8 t (.agg ⟨xs⟩) (.agg ⟨ys⟩) = some b) : OpVal P N c env mem ⟨dd, .binOp .neq t x y t', ty, pos, af, g⟩ (.bool (!b)) :=
  ⟨rfl, fun a W ha _ => by
    obtain ⟨u, hu, he⟩ := List.any_eq_true.1 hm
    have := Nat.eq_of_beq_eq_true he
    subst this
    simp only [execOp, ha.eval hx, ha.eval hy, Sem.run_bind, run_eqGuard_agg W .neq t x y _ _ (Ee.ok _ hu).eg, Result.andThen_ok, binOp, eq_run h]
    rfl⟩

/-- a test that a reckoning decides -/
theorem c_bt {t : Operand} {x y : Code} {b : Bool} (h : evOp env t = some (.bool b)) (e : b = true) (k : RunC P N c x Q env mem) : RunC P N c (.cond t x y) Q env mem := c_true (by rw [h, e]) k
theorem c_bf {t : Operand} {x y : Code} {b : Bool} (h : evOp env t = some (.bool b)) (e : b = false) (k : RunC P N c y Q env mem) : RunC P N c (.cond t x y) Q env mem := c_false (by rw [h, e]) k
theorem l_lit {d : Nat} {b b' : Bool} (hb : look env d = some (.bool b)) (e : b = b') (k : RunL P N c L l Q ((d, .bool b') :: env) mem) : RunL P N c L l Q env mem := .mk fun a W ha hm =>
  k.run a W ⟨ha.size, ha.defers, fun s v hs => by
    rw [look_cons] at hs
    split at hs
    · rename_i e2; subst e2; cases hs; subst e; exact ha.env _ _ hb
    · exact ha.env _ _ hs⟩ hm
theorem l_bool {o : Oper} {j d : Nat} {w : Bool} {o' : Oper} {b b' : Bool} (_hg : o.guard = some (j, w)) (_hj : nth L j = some o') (_hd : o'.dst = some d) (hb : look env d = some (.bool b)) (e : b = b')
    (k : RunL P N c L (o :: l) Q ((d, .bool b') :: env) mem) : RunL P N c L (o :: l) Q env mem := l_lit hb e k
theorem q_bool {o : Oper} {j d : Nat} {w : Bool} {o' : Oper} {b b' : Bool} (_hg : o.guard = some (j, w)) (_hj : nth L j = some o') (_hd : o'.dst = some d) (hb : look env d = some (.bool b)) (e : b = b')
    (k : RunQ P N c L (o :: l) Q ((d, .bool b') :: env) mem) : RunQ P N c L (o :: l) Q env mem := .mk fun a ha =>
  k.run a ⟨ha.size, ha.defers, fun s v hs => by
    rw [look_cons] at hs
    split at hs
    · rename_i e2; subst e2; cases hs; subst e; exact ha.env _ _ hb
    · exact ha.env _ _ hs⟩

/-! ## Maps -/
def findB (f : Value → Bool) : List MapEntry → Nat → Option (Nat × Value)
  | [], _ => none
  | e :: es, i => match f e.key with
    | true => some (i, e.val)
    | false => findB f es (i + 1)

theorem run_findAsking {kt : TypeId} {k : Value} {f : Value → Bool} {W : World} : ∀ (es : List MapEntry) (i : Nat), (∀ e ∈ es, (Op.equal kt k e.key).run P W = .ok (f e.key) W) → (Instr.findAsking kt k es i).run P W = .ok (findB f es i) W
  | [], i, _ => rfl
  | e :: es, i, h => by
    simp only [Instr.findAsking, Sem.run_bind, h e List.mem_cons_self, Result.andThen_ok, findB]
    cases f e.key
    · simp only [Bool.false_eq_true, if_false]; exact run_findAsking es (i + 1) fun e he => h e (List.mem_cons_of_mem _ he)
    · simp only [if_true]; rfl

/-- what keys are looked up by '==' on the type -/
def asks : TypeDesc → Bool
  | .struct _ => true
  | .array _ _ => true
  | _ => false

theorem run_findKey {kt : TypeId} {k : Value} {f : Value → Bool} {W : World} {dk : TypeDesc} (hu : P.underlying kt = some dk) (hk : asks dk = true) (es : List MapEntry) (h : ∀ e ∈ es, (Op.equal kt k e.key).run P W = .ok (f e.key) W) :
    (Instr.findKey kt k es).run P W = .ok (findB f es 0) W := by
  simp only [Instr.findKey, Sem.run_bind, run_und hu, Result.andThen_ok]
  cases es with
  | nil => rfl
  | cons e es =>
    have : Instr.findNow dk k (e :: es) 0 = none := by
      cases dk <;> first | (cases hk; done) | rfl
    rw [this]
    exact run_findAsking _ 0 h

/-- keys that are records of plain cells -/
def keyF (tt : List (TypeId × TI)) (xs : List Value) : List (TypeId × Nat) → Bool
  | [] => true
  | (ft, off) :: fs => match look tt ft with
    | some ⟨.int _, _, _, _⟩ => match nth xs off with
      | some _ => keyF tt xs fs
      | none => false
    | some ⟨.bool, _, _, _⟩ => match nth xs off with
      | some _ => keyF tt xs fs
      | none => false
    | _ => false

theorem run_checkPlain {em : Bool} {n : Nat} {t : TypeId} {v : Value} {W : World} {dk : TypeDesc} (hu : P.underlying t = some dk) (hk : (match dk with | .int _ | .bool => true | _ => false) = true) : (Instr.checkKey em (n + 1) t v).run P W = .ok () W := by
  simp only [Instr.checkKey, Sem.run_bind, run_und hu, Result.andThen_ok]
  cases dk <;> first | (cases hk; done) | rfl

theorem run_checkS [T : TT P tt] {em : Bool} {n : Nat} {t : TypeId} {xs : List Value} {W : World} {fs : List (TypeId × Nat)} {sz bt : Nat} {z : Value} (ht : look tt t = some ⟨.struct fs, sz, bt, z⟩) (h : keyF tt xs fs = true) :
    (Instr.checkKey em (n + 2) t (.agg ⟨xs⟩)).run P W = .ok () W := by
  obtain ⟨fields, hf, hmap⟩ := (TT.look (P := P) ht).1
  have key : ∀ l : List Field, keyF tt xs (l.map fun f => (f.type, f.offset)) = true →
      (forIn l PUnit.unit (fun f _ => if f.name ≠ "_" then do
          let r ← part f.type ⟨xs⟩ f.offset
          Instr.checkKey em (n + 1) f.type r
          pure (ForInStep.yield PUnit.unit)
        else pure (ForInStep.yield PUnit.unit)) : Sem PUnit).run P W = .ok () W := by
    intro l
    induction l with
    | nil => intro _; rfl
    | cons f l ih =>
      intro h
      simp only [List.map_cons, keyF] at h
      have step : ∃ v, (part f.type ⟨xs⟩ f.offset).run P W = .ok v W ∧ (Instr.checkKey em (n + 1) f.type v).run P W = .ok () W ∧ keyF tt xs (l.map fun f => (f.type, f.offset)) = true := by
        split at h
        · rename_i ht
          split at h
          · rename_i v hv
            exact ⟨v, run_part (TT.look ht).size (TT.look ht).1 hv, run_checkPlain (TT.look (P := P) ht).1 rfl, h⟩
          · cases h
        · rename_i ht
          split at h
          · rename_i v hv
            exact ⟨v, run_part (TT.look ht).size (TT.look ht).1 hv, run_checkPlain (TT.look (P := P) ht).1 rfl, h⟩
          · cases h
        · cases h
      obtain ⟨v, h1, h2, h3⟩ := step
      simp only [List.forIn_cons, Sem.run_bind]
      by_cases hn : f.name = "_"
      · simp only [hn, ne_eq, not_true_eq_false, if_false, Sem.run_pure, Result.andThen_ok]; exact ih h3
      · simp only [ne_eq, hn, not_false_eq_true, if_true, Sem.run_bind, h1, h2, Result.andThen_ok, Sem.run_pure]; exact ih h3
  have := key fields.toList (by rw [hmap]; exact h)
  rw [Array.forIn_toList] at this
  rw [Instr.checkKey]
  simp only [Sem.run_bind, run_und hf, Result.andThen_ok]
  rw [this]; rfl

theorem r_makeMap {t : TypeId} (hw : wantB L env g = some true) (hd : Nat.blt d N = true) (k : ∀ b, RunL P N c L l Q ((d, .map (some b)) :: env) ((b, .map ⟨[]⟩ 0) :: mem)) :
    RunL P N c L (⟨some d, .makeMap t none, ty, pos, af, g⟩ :: l) Q env mem := by
  refine l_eff (ι := Nat) (v := fun b => .map (some b)) (mem' := fun b => (b, .map ⟨[]⟩ 0) :: mem) hw hd ⟨rfl, fun a W ha hm => ?_⟩ k
  exact ⟨W.heap.size, _, rfl, hm.alloc _⟩

/-- a new key; `f`: the test of '==' on the entries that are there -/
theorem d_mapNew [T : TT P tt] {t kt et b : Nat} {m kx vx : Operand} {xs : List Value} {v : Value} {fs : List (TypeId × Nat)} {sz bt sz' bt' : Nat} {z z' : Value} {ents : List MapEntry} {clock : Nat} {mem' : List (Nat × Obj)} (f : Value → Bool)
    (hm0 : evOp env m = some (.map (some b))) (hk : evOp env kx = some (.agg ⟨xs⟩)) (hv : evOp env vx = some v) (ht : look tt t = some ⟨.map kt et, sz, bt, z⟩) (hkt : look tt kt = some ⟨.struct fs, sz', bt', z'⟩) (hkf : keyF tt xs fs = true)
    (hf : ∀ e ∈ ents, ∀ W : World, (Op.equal kt (.agg ⟨xs⟩) e.key).run P W = .ok (f e.key) W) (hnew : findB f ents 0 = none) (hu : Upd mem b (.map ⟨ents⟩ clock) (.map ⟨ents ++ [⟨.agg ⟨xs⟩, v, clock⟩]⟩ (clock + 1)) mem') :
    OpDo P N c env mem ⟨none, .mapUpdate t m kx vx, ty, pos, af, g⟩ mem' :=
  ⟨rfl, fun a W ha hm => by
    have hb := (hm.own _ hu.isIn).2
    obtain ⟨fields, hff, _⟩ := (TT.look (P := P) hkt).1
    have hmu : P.underlying t = some (.map kt et) := (TT.look (P := P) ht).1
    refine ⟨W.putObj b (.map ⟨ents ++ [⟨.agg ⟨xs⟩, v, clock⟩]⟩ (clock + 1)), ?_, hm.upd hu (Same.putObj _ _ _ fun h => h rfl) (World.putObj_heap_same (lt_of_heap hb))⟩
    simp only [execOp, ha.eval hm0, ha.eval hk, ha.eval hv, Instr.mapUpdate, Sem.run_bind, run_und hmu, Result.andThen_ok, MapKept.run_getObj_map hb, run_checkS hkt hkf,
      run_findKey hff rfl ents (fun e he => hf e he W), hnew]
    rw [MapKept.run_setObj_map _ hb]
    simp [World.putObj]⟩

theorem v_mapGet [T : TT P tt] {t kt et b : Nat} {m kx : Operand} {xs : List Value} {fs : List (TypeId × Nat)} {sz bt sz' bt' : Nat} {z z' : Value} {ents : List MapEntry} {clock : Nat} {ok : Bool} {r : Option (Nat × Value)} {kd : TK} {sz2 bt2 : Nat} {z2 out : Value} (f : Value → Bool)
    (hm0 : evOp env m = some (.map (some b))) (hk : evOp env kx = some (.agg ⟨xs⟩)) (ht : look tt t = some ⟨.map kt et, sz, bt, z⟩) (hkt : look tt kt = some ⟨.struct fs, sz', bt', z'⟩) (het : look tt et = some ⟨kd, sz2, bt2, z2⟩) (hkf : keyF tt xs fs = true)
    (hin : (b, Obj.map ⟨ents⟩ clock) ∈ mem)
    (hf : ∀ e ∈ ents, ∀ W : World, (Op.equal kt (.agg ⟨xs⟩) e.key).run P W = .ok (f e.key) W)
    (ho : (match r with | some (_, v) => (match ok with | true => Value.tuple ⟨[v, .bool true]⟩ | false => v) | none => (match ok with | true => Value.tuple ⟨[z2, .bool false]⟩ | false => z2)) = out) (hfind : findB f ents 0 = r) :
    OpVal P N c env mem ⟨dd, .lookup t m kx ok, ty, pos, af, g⟩ out :=
  ⟨rfl, fun a W ha hm => by
    have hb := (hm.own _ hin).2
    obtain ⟨fields, hff, _⟩ := (TT.look (P := P) hkt).1
    have hmu : P.underlying t = some (.map kt et) := (TT.look (P := P) ht).1
    obtain ⟨_, i, hi, _, _, hz⟩ := TT.look (P := P) het
    have hz2 : (zeroValue et).run P W = .ok z2 W := by
      simp only [zeroValue, Sem.run_bind, run_info hi, Result.andThen_ok, hz]; rfl
    have e1 := run_findKey hff rfl (⟨ents⟩ : Array MapEntry).toList (fun e he => hf e he W)
    rw [show (⟨ents⟩ : Array MapEntry).toList = ents from rfl, hfind] at e1
    simp only [execOp, ha.eval hm0, ha.eval hk, Instr.lookup, Sem.run_bind, run_und hmu, Result.andThen_ok, MapKept.run_getObj_map hb, Sem.run_pure, run_checkS hkt hkf, e1]
    subst ho
    cases r with
    | none => simp only [Sem.run_bind, hz2, Result.andThen_ok, Sem.run_pure]; cases ok <;> rfl
    | some p => obtain ⟨j, v⟩ := p; cases ok <;> rfl⟩

end
end Kin
end Go

/- An engine for walks: what is known of a frame is a list of slots with their values, what is known of memory a list of blocks; each operation is one rule. Generic: no program is named here. -/
import Derived.Test.YtajnkdgbpffinaaGreatGenCell
import Derived.TacticsIn
import Derived.Deep.Quiet
import Derived.OrdersIn
set_option linter.unusedSectionVars false
set_option linter.unusedVariables false
set_option linter.unusedSimpArgs false
namespace Go
open Go.RowKit
namespace Kin

/-! ## Types -/
inductive TK where
 | int (k : IntKind)
 | bool
 | str
 | slice (e : TypeId)
 | array (n : Nat) (e : TypeId)
 | struct (fs : List (TypeId × Nat))
 | map (k e : TypeId)
 | other

def TK.isAgg : TK -> Bool
 | .array .. => true
 | .struct .. => true
 | _ => false

structure TI where
 kind : TK
 size : Nat
 bytes : Nat
 zero : Value

def TKOk (P : Program) (t : TypeId) : TK -> Prop
 | .int k => P.underlying t = some (.int k)
 | .bool => P.underlying t = some .bool
 | .str => P.underlying t = some .string
 | .slice e => P.underlying t = some (.slice e)
 | .array n e => P.underlying t = some (.array n e)
 | .struct fs => ∃ fields, P.underlying t = some (.struct fields) /\ fields.toList.map (fun f => (f.type, f.offset)) = fs
 | .map k e => P.underlying t = some (.map k e)
 | .other => ∃ d, P.underlying t = some d /\ (match d with | .struct _ | .array .. => False | _ => True)

def TIOk (P : Program) (t : TypeId) (ti : TI) : Prop :=
 TKOk P t ti.kind /\ ∃ i, P.info? t = some i /\ i.size = ti.size /\ i.bytes = ti.bytes /\ i.zero = some ti.zero

def look {α : Type} : List (Nat × α) -> Nat -> Option α
 | [], _ => none
 | (k, v) :: l, s => bif Nat.beq k s then some v else look l s

theorem look_mem {α : Type} {l : List (Nat × α)} {s : Nat} {v : α} (h : look l s = some v) : (s, v) ∈ l := by
 induction l with
 | nil => cases h
 | cons p l ih =>
  obtain ⟨k, u⟩ := p
  simp only [look] at h
  cases hb : Nat.beq k s with
  | true =>
   rw [hb] at h
   simp only [cond_true, Option.some.injEq] at h
   have := Nat.eq_of_beq_eq_true hb
   subst this; subst h; exact List.mem_cons_self
  | false => rw [hb] at h; exact List.mem_cons_of_mem _ (ih h)

class TT (P : Program) (tt : outParam (List (TypeId × TI))) : Prop where
 ok : ∀ p ∈ tt, TIOk P p.1 p.2

theorem TT.look {P : Program} {tt : List (TypeId × TI)} [T : TT P tt] {t : TypeId} {ti : TI} (h : look tt t = some ti) : TIOk P t ti := T.ok _ (look_mem h)

/-- The function can be entered. -/
class Ent (P : Program) (f : FuncId) : Prop where
 ok : ∀ args w, (callFunc f args).run P w = .ok (.enter f args) w

class Wide (F : Fence) : Prop where
 w : F = Fence.wide ∨ ∃ l, F = Fence.wide.inRound l

instance : Wide Fence.wide := ⟨.inl rfl⟩
instance (l : Nat) : Wide (Fence.wide.inRound l) := ⟨.inr ⟨l, rfl⟩⟩

theorem Wide.fn (F : Fence) [W : Wide F] (f : FuncId) : F.fn f := by rcases W.w with rfl | ⟨l, rfl⟩ <;> trivial
theorem Wide.depth (F : Fence) [W : Wide F] (n : Nat) : F.depth.isSome = true -> 1 <= n := by rcases W.w with rfl | ⟨l, rfl⟩ <;> exact fun h => by cases h
theorem Wide.calls {F : Fence} [W : Wide F] {n : Nat} {P : Program} {f : FuncId} {args : Array Value} {w : World} {R : Ending -> World -> Prop} (h : Calls P f args w R) : CallsIn F n P f args w R := by
 rcases W.w with rfl | ⟨l, rfl⟩
 ·exact callsIn_wide.2 h
 ·exact CallsIn.inRound l (callsIn_wide.2 h)

/-! ## What is known of a frame, and of memory -/
structure SatA (N : Nat) (ds : List Deferred) (env : List (Nat × Value)) (a : Act) : Prop where
 size : a.tmps.size = N
 defers : a.defers = ds
 env : ∀ s v, look env s = some v -> a.tmps[s]? = some v

theorem look_cons {α : Type} {k s : Nat} {u : α} {l : List (Nat × α)} : look ((k, u) :: l) s = if k = s then some u else look l s := by
 simp only [look]
 cases hb : Nat.beq k s with
 | true => rw [if_pos (Nat.eq_of_beq_eq_true hb)]; rfl
 | false => rw [if_neg (Nat.ne_of_beq_eq_false hb)]; rfl

theorem SatA.put {N : Nat} {ds : List Deferred} {env : List (Nat × Value)} {a : Act} (h : SatA N ds env a) {d : Nat} (hd : Nat.blt d N = true) (v : Value) : SatA N ds ((d, v) :: env) (a.put (some d) v) := by
 have hlt : d < a.tmps.size := by rw [h.size]; exact Nat.le_of_ble_eq_true hd
 refine ⟨by simp [Act.put, h.size], h.defers, fun s u hs => ?_⟩
 rw [look_cons] at hs
 simp only [Act.put]
 split at hs
 ·rename_i e; subst e; cases hs; simp [hlt]
 ·rename_i e
  rw [Array.getElem?_setIfInBounds_ne e]; exact h.env s u hs

def evOp (env : List (Nat × Value)) : Operand -> Option Value
 | .tmp t => look env t
 | .const v => some v
 | .global g => some (.pointer (some ⟨g, 0, none⟩))
 | .func f => some (.func (.func f) #[] #[])

theorem SatA.eval {N : Nat} {ds : List Deferred} {env : List (Nat × Value)} {a : Act} (h : SatA N ds env a) {x : Operand} {v : Value} (hx : evOp env x = some v) : a.eval x = v := by
 cases x with
 | tmp t => have := h.env t v hx; simp [Act.eval, this]
 | const u => exact Option.some.inj hx
 | global g => exact Option.some.inj hx
 | func f => exact Option.some.inj hx

def evOps {β : Type} (env : List (Nat × Value)) : List Operand -> (List Value -> Option β) -> Option β
 | [], k => k []
 | x :: xs, k => match evOp env x with
   | some v => evOps env xs fun vs => k (v :: vs)
   | none => none

theorem SatA.evals {β : Type} {N : Nat} {ds : List Deferred} {env : List (Nat × Value)} {a : Act} (h : SatA N ds env a) {xs : List Operand} {k : List Value -> Option β} {r : β}
  (hx : evOps env xs k = some r) : k (xs.map a.eval) = some r := by
 induction xs generalizing k with
 | nil => exact hx
 | cons x xs ih =>
  simp only [evOps] at hx
  cases he : evOp env x with
  | none => rw [he] at hx; cases hx
  | some v =>
   rw [he] at hx
   have := ih hx
   simpa only [List.map_cons, h.eval he] using this

/-- Nothing further is known of the world. -/
def noJ : (Nat -> Prop) -> World -> Prop := fun _ _ => True

/-- What a word on the world must bear: the blocks of the list may be written, and new ones laid. -/
def Closed (J : (Nat -> Prop) -> World -> Prop) : Prop :=
 ∀ (S S' : Nat -> Prop) (A B : World), J S A -> Same (fun b => ¬ S b) A B -> (∀ b, S' b -> S b ∨ A.heap.size <= b) -> J S' B
theorem closed_noJ : Closed noJ := fun _ _ _ _ _ _ _ => trivial

def keys (mem : List (Nat × Obj)) : Nat -> Prop := fun b => b ∈ mem.map (·.1)

/-- `w0`, `D`: the world of before and what of it has not been touched; `mem`: the blocks that are known and may be written; `J`: a further word on the world. -/
structure SatW (w0 : World) (D : Nat -> Prop) (J : (Nat -> Prop) -> World -> Prop) (mem : List (Nat × Obj)) (W : World) : Prop where
 same : Same D w0 W
 dom : ∀ k, D k -> k < w0.heap.size
 nodup : (mem.map (·.1)).Nodup
 own : ∀ p ∈ mem, ¬ D p.1 /\ W.heap[p.1]? = some p.2
 closed : Closed J
 word : J (keys mem) W

section
variable {w0 : World} {D : Nat -> Prop} {J : (Nat -> Prop) -> World -> Prop} {mem : List (Nat × Obj)} {W : World}

theorem SatW.lt (h : SatW w0 D J mem W) {p : Nat × Obj} (hp : p ∈ mem) : p.1 < W.heap.size := lt_of_heap (h.own p hp).2

theorem SatW.alloc (h : SatW w0 D J mem W) (o : Obj) : SatW w0 D J ((W.heap.size, o) :: mem) (W.alloc o) := by
 refine ⟨h.same.trans (Same.alloc D W o), h.dom, ?_, ?_, h.closed, h.closed _ _ _ _ h.word (Same.alloc _ W o) fun b hb => ?_⟩
 ·simp only [List.map_cons, List.nodup_cons]
  refine ⟨fun hm => ?_, h.nodup⟩
  obtain ⟨p, hp, e⟩ := List.mem_map.1 hm
  have := h.lt hp
  omega
 ·intro p hp
  rcases List.mem_cons.1 hp with rfl | hp
  ·exact ⟨fun hd => by have := h.dom _ hd; have := h.same.size; omega, World.alloc_heap_new W o⟩
  ·exact ⟨(h.own p hp).1, (Below.heap_alloc W o p.1 (h.lt hp)).trans (h.own p hp).2⟩
 ·simp only [keys, List.map_cons, List.mem_cons] at hb
  rcases hb with rfl | hb
  ·exact .inr (Nat.le_refl _)
  ·exact .inl hb

theorem SatW.later (h : SatW w0 D J mem W) {W' : World} (hb : Under W.heap.size W W') : SatW w0 D J mem W' :=
 ⟨h.same.trans (Same.of_below_all hb), h.dom, h.nodup, fun p hp => ⟨(h.own p hp).1, (hb.block _ (h.lt hp)).trans (h.own p hp).2⟩, h.closed,
  h.closed _ _ _ _ h.word (Same.of_below_all hb) fun _ hb => .inl hb⟩

theorem SatW.drew (h : SatW w0 D J mem W) : SatW w0 D J mem { W with drawn := W.drawn + 1 } :=
 ⟨h.same.trans (Same.drew D W), h.dom, h.nodup, h.own, h.closed, h.closed _ _ _ _ h.word (Same.drew _ W) fun _ hb => .inl hb⟩

/-- One block of the list is written. -/
inductive Upd : List (Nat × Obj) -> Nat -> Obj -> Obj -> List (Nat × Obj) -> Prop
 | head {b : Nat} {o o' : Obj} {m : List (Nat × Obj)} : Upd ((b, o) :: m) b o o' ((b, o') :: m)
 | tail {b : Nat} {o o' : Obj} {x : Nat × Obj} {m m' : List (Nat × Obj)} (h : Upd m b o o' m') : Upd (x :: m) b o o' (x :: m')

theorem Upd.isIn {m m' : List (Nat × Obj)} {b : Nat} {o o' : Obj} (h : Upd m b o o' m') : (b, o) ∈ m := by
 induction h with
 | head => exact List.mem_cons_self
 | tail _ ih => exact List.mem_cons_of_mem _ ih
theorem Upd.keys {m m' : List (Nat × Obj)} {b : Nat} {o o' : Obj} (h : Upd m b o o' m') : m'.map (·.1) = m.map (·.1) := by
 induction h with
 | head => rfl
 | tail _ ih => simp [ih]
theorem Upd.of {m m' : List (Nat × Obj)} {b : Nat} {o o' : Obj} (h : Upd m b o o' m') (hn : (m.map (·.1)).Nodup) {p : Nat × Obj} (hp : p ∈ m') : p = (b, o') ∨ (p ∈ m /\ p.1 ≠ b) := by
 induction h with
 | head =>
  rename_i b o o' m
  simp only [List.map_cons, List.nodup_cons] at hn
  rcases List.mem_cons.1 hp with rfl | hp
  ·exact .inl rfl
  ·exact .inr ⟨List.mem_cons_of_mem _ hp, fun e => hn.1 (List.mem_map.2 ⟨p, hp, e⟩)⟩
 | tail hu ih =>
  rename_i b o o' x m m'
  simp only [List.map_cons, List.nodup_cons] at hn
  rcases List.mem_cons.1 hp with rfl | hp
  ·exact .inr ⟨List.mem_cons_self, fun e => hn.1 (List.mem_map.2 ⟨_, hu.isIn, e.symm⟩)⟩
  ·rcases ih hn.2 hp with h | ⟨h, h'⟩
   ·exact .inl h
   ·exact .inr ⟨List.mem_cons_of_mem _ h, h'⟩

/-- a world that differs in one block of the list alone -/
theorem SatW.upd (h : SatW w0 D J mem W) {mem' : List (Nat × Obj)} {b : Nat} {o o' : Obj} (hu : Upd mem b o o' mem') {W' : World}
  (hs : Same (fun k => k ≠ b) W W') (hb : W'.heap[b]? = some o') : SatW w0 D J mem' W' := by
 have hwd : J (keys mem') W' := h.closed _ _ _ _ h.word (hs.mono fun k hk e => hk (List.mem_map.2 ⟨_, hu.isIn, e.symm⟩)) fun b hb => .inl (by unfold keys at hb ⊢; rwa [hu.keys] at hb)
 refine ⟨h.same.trans (hs.mono fun k hk e => (h.own _ hu.isIn).1 (show D b from e ▸ hk)), h.dom, by rw [hu.keys]; exact h.nodup, fun p hp => ?_, h.closed, hwd⟩
 rcases hu.of h.nodup hp with rfl | ⟨hp, hne⟩
 ·exact ⟨(h.own _ hu.isIn).1, hb⟩
 ·exact ⟨(h.own p hp).1, (hs.block _ (h.lt hp) hne).trans (h.own p hp).2⟩

theorem SatW.mono (h : SatW w0 D J mem W) {mem' : List (Nat × Obj)} (hs : List.Sublist mem' mem) : SatW w0 D J mem' W :=
 ⟨h.same, h.dom, h.nodup.sublist (hs.map _), fun p hp => h.own p (hs.mem hp), h.closed,
  h.closed _ _ _ _ h.word (Same.refl _ _) fun b hb => .inl (by
   obtain ⟨p, hp, e⟩ := List.mem_map.1 hb
   exact List.mem_map.2 ⟨p, hs.mem hp, e⟩)⟩
end

/-! ## Judgements -/
structure Cx where
 F : Fence
 n : Nat
 ds : List Deferred
 w0 : World
 D : Nat -> Prop
 J : (Nat -> Prop) -> World -> Prop := noJ

structure RunC (P : Program) (N : Nat) (c : Cx) (code : Code) (Q : Exit -> Act -> World -> Prop) (env : List (Nat × Value)) (mem : List (Nat × Obj)) : Prop where
 run : ∀ a W, SatA N c.ds env a -> SatW c.w0 c.D c.J mem W -> code.wpIn c.F c.n P Q a W
structure RunL (P : Program) (N : Nat) (c : Cx) (L l : List Oper) (Q : Exit -> Act -> World -> Prop) (env : List (Nat × Value)) (mem : List (Nat × Obj)) : Prop where
 run : ∀ a W, SatA N c.ds env a -> SatW c.w0 c.D c.J mem W -> wpListIn c.F c.n P L.toArray Q l a W
structure RunX (N : Nat) (c : Cx) (Q : Exit -> Act -> World -> Prop) (e : Exit) (env : List (Nat × Value)) (mem : List (Nat × Obj)) : Prop where
 run : ∀ a W, SatA N c.ds env a -> SatW c.w0 c.D c.J mem W -> Q e a W

section
variable {P : Program} {N : Nat} {c : Cx} {Q : Exit -> Act -> World -> Prop} {env : List (Nat × Value)} {mem : List (Nat × Obj)}

theorem cSk (k : RunX N c Q .normal env mem) : RunC P N c .skip Q env mem := .mk fun a W ha hw => wpIn_skip (k.run a W ha hw)
theorem c_label {l : Nat} (k : RunX N c Q .normal env mem) : RunC P N c (.label l) Q env mem := .mk fun a W ha hw => wpIn_label (k.run a W ha hw)
theorem c_exit {id : Nat} (k : RunX N c Q (.exit id) env mem) : RunC P N c (.exit id) Q env mem := .mk fun a W ha hw => wpIn_exit (k.run a W ha hw)
theorem c_ret (k : RunX N c Q .ret env mem) : RunC P N c .ret Q env mem := .mk fun a W ha hw => wpIn_ret (k.run a W ha hw)
theorem cSq {x y : Code} (k : RunC P N c x (Exit.then (y.wpIn c.F c.n P Q) Q) env mem) : RunC P N c (.seq x y) Q env mem := .mk fun a W ha hw => wpIn_seq (k.run a W ha hw)
theorem cBl {id : Nat} {x : Code} (k : RunC P N c x (Exit.inBlock id Q) env mem) : RunC P N c (.block id x) Q env mem := .mk fun a W ha hw => wpIn_block (k.run a W ha hw)
theorem cRg {id : Nat} {l : List Oper} (k : RunL P N c l l Q env mem) : RunC P N c (.region id l.toArray false) Q env mem := .mk fun a W ha hw => wpIn_region_lit (k.run a W ha hw)
theorem c_true {t : Operand} {x y : Code} (h : evOp env t = some (.bool true)) (k : RunC P N c x Q env mem) : RunC P N c (.cond t x y) Q env mem :=
 .mk fun a W ha hw => wpIn_cond_true (ha.eval h) (k.run a W ha hw)
theorem c_false {t : Operand} {x y : Code} (h : evOp env t = some (.bool false)) (k : RunC P N c y Q env mem) : RunC P N c (.cond t x y) Q env mem :=
 .mk fun a W ha hw => wpIn_cond_false (ha.eval h) (k.run a W ha hw)
theorem c_dec_t {t : Operand} {x y : Code} {p : Prop} [Decidable p] (h : evOp env t = some (.bool (decide p))) (hp : p) (k : RunC P N c x Q env mem) : RunC P N c (.cond t x y) Q env mem :=
 c_true (h.trans (by rw [decide_eq_true hp])) k
theorem c_dec_f {t : Operand} {x y : Code} {p : Prop} [Decidable p] (h : evOp env t = some (.bool (decide p))) (hp : ¬ p) (k : RunC P N c y Q env mem) : RunC P N c (.cond t x y) Q env mem :=
 c_false (h.trans (by rw [decide_eq_false hp])) k
theorem xTh {y : Code} {Q' : Exit -> Act -> World -> Prop} (k : RunC P N c y Q env mem) : RunX N c (Exit.then (y.wpIn c.F c.n P Q) Q') .normal env mem := .mk fun a W ha hw => k.run a W ha hw
theorem xTe {id : Nat} {next : Act -> World -> Prop} (k : RunX N c Q (.exit id) env mem) : RunX N c (Exit.then next Q) (.exit id) env mem := .mk fun a W ha hw => k.run a W ha hw
theorem xTr {next : Act -> World -> Prop} (k : RunX N c Q .ret env mem) : RunX N c (Exit.then next Q) .ret env mem := .mk fun a W ha hw => k.run a W ha hw
theorem x_block {id : Nat} (k : RunX N c Q .normal env mem) : RunX N c (Exit.inBlock id Q) .normal env mem := .mk fun a W ha hw => k.run a W ha hw
theorem xBr {id : Nat} (k : RunX N c Q .ret env mem) : RunX N c (Exit.inBlock id Q) .ret env mem := .mk fun a W ha hw => k.run a W ha hw
theorem xBs {id : Nat} (k : RunX N c Q .normal env mem) : RunX N c (Exit.inBlock id Q) (.exit id) env mem := .mk fun a W ha hw => by
 show (if id = id then Q .normal a W else Q (.exit id) a W); rw [if_pos rfl]; exact k.run a W ha hw
theorem x_block_other {id id' : Nat} (hne : Nat.beq id' id = false) (k : RunX N c Q (.exit id') env mem) : RunX N c (Exit.inBlock id Q) (.exit id') env mem := .mk fun a W ha hw => by
 show (if id' = id then Q .normal a W else Q (.exit id') a W); rw [if_neg (Nat.ne_of_beq_eq_false hne)]; exact k.run a W ha hw
theorem lNi {L : List Oper} (k : RunX N c Q .normal env mem) : RunL P N c L [] Q env mem := .mk fun a W ha hw => wpListIn_nil (k.run a W ha hw)

/-! ## Operations -/
def nth {α : Type} : List α -> Nat -> Option α
 | [], _ => none
 | x :: _, 0 => some x
 | _ :: l, n + 1 => nth l n
theorem nth_eq {α : Type} (l : List α) (n : Nat) : nth l n = l[n]? := by
 induction l generalizing n with
 | nil => simp [nth]
 | cons x l ih => cases n with
   | zero => simp [nth]
   | succ n => simp [nth, ih]

/-- Whether an operation is carried out. -/
def wantB (L : List Oper) (env : List (Nat × Value)) : Option (Nat × Bool) -> Option Bool
 | none => some true
 | some (j, w) => match nth L j with
   | some o => match o.dst with
     | some d => match look env d with
       | some (.bool b) => some (b == w)
       | some (.tuple ⟨[]⟩) => some false
       | _ => none
     | none => none
   | none => none

theorem wanted_of {L : List Oper} {env : List (Nat × Value)} {o : Oper} {b : Bool} (h : wantB L env o.guard = some b) {a : Act} {ds : List Deferred} (ha : SatA N ds env a) :
  Region.wanted o (yielded L.toArray a.tmps) = b := by
 unfold Region.wanted
 cases hg : o.guard with
 | none => rw [hg] at h; simpa [wantB] using h
 | some p =>
  obtain ⟨j, w⟩ := p
  rw [hg] at h
  simp only [wantB, nth_eq] at h
  simp only [yielded, List.getElem?_toArray]
  cases h1 : L[j]? with
  | none => rw [h1] at h; cases h
  | some o' =>
   rw [h1] at h
   cases h2 : o'.dst with
   | none => simp only [h2] at h; cases h
   | some d =>
    simp only [h2] at h
    cases h3 : look env d with
    | none => rw [h3] at h; cases h
    | some v =>
     rw [h3] at h
     cases v with
     | bool b' =>
      simp only [Option.some.injEq] at h
      simp only [Option.bind_some, h2, ha.env d _ h3, <- h]
      rcases b' <;> rcases w <;> rfl
     | tuple u =>
      obtain ⟨u⟩ := u
      cases u with
      | nil =>
       simp only [Option.some.injEq] at h
       simp only [Option.bind_some, h2, ha.env d _ h3, <- h]
       rcases w <;> rfl
      | cons x u => cases h
     | _ => cases h

def plainOp : Op -> Bool
 | .defer _ => false
 | _ => true

theorem semAt_plain {o : Oper} {ρ : Operand -> Value} (ro : Option Nat) (h : plainOp o.op = true) : o.semAt ro ρ = execOp ρ o :=
 Oper.semAt_eq ro ρ o fun cl e => by rw [e] at h; cases h

/-- The operation yields `v` and leaves the world alone. -/
structure OpVal (P : Program) (N : Nat) (c : Cx) (env : List (Nat × Value)) (mem : List (Nat × Obj)) (o : Oper) (v : Value) : Prop where
 plain : plainOp o.op = true
 run : ∀ a W, SatA N c.ds env a -> SatW c.w0 c.D c.J mem W -> (execOp a.eval o).run P W = .ok (.value v) W

/-- The operation yields one of the values `v i`, and memory is then `mem' i`. -/
structure OpEff (P : Program) (N : Nat) (c : Cx) (env : List (Nat × Value)) (mem : List (Nat × Obj)) (o : Oper) {ι : Type} (v : ι -> Value) (mem' : ι -> List (Nat × Obj)) : Prop where
 plain : plainOp o.op = true
 run : ∀ a W, SatA N c.ds env a -> SatW c.w0 c.D c.J mem W -> ∃ i W', (execOp a.eval o).run P W = .ok (.value (v i)) W' /\ SatW c.w0 c.D c.J (mem' i) W'

/-- The operation yields nothing, and memory is then `mem'`. -/
structure OpDo (P : Program) (N : Nat) (c : Cx) (env : List (Nat × Value)) (mem : List (Nat × Obj)) (o : Oper) (mem' : List (Nat × Obj)) : Prop where
 plain : plainOp o.op = true
 run : ∀ a W, SatA N c.ds env a -> SatW c.w0 c.D c.J mem W -> ∃ W', (execOp a.eval o).run P W = .ok .skip W' /\ SatW c.w0 c.D c.J mem' W'

variable {L l : List Oper} [Wide c.F]

theorem l_run {o : Oper} (hw : wantB L env o.guard = some true)
  (h : ∀ a W, SatA N c.ds env a -> SatW c.w0 c.D c.J mem W -> o.uponIn c.F c.n P a (wpListIn c.F c.n P L.toArray Q l) Q ((o.semAt c.F.round a.eval).run P W)) : RunL P N c L (o :: l) Q env mem := .mk fun a W ha hm => by
 show if _ then _ else _
 rw [if_pos (wanted_of hw ha)]
 exact ⟨fun f _ => Wide.fn c.F f, h a W ha hm⟩

theorem l_skip {op : Op} {d : Nat} {ty : TypeId} {pos : String} {af : Array Edge} {g : Option (Nat × Bool)} (hw : wantB L env g = some false) (hd : Nat.blt d N = true)
  (k : RunL P N c L l Q ((d, undef) :: env) mem) : RunL P N c L (⟨some d, op, ty, pos, af, g⟩ :: l) Q env mem := .mk fun a W ha hm => by
 show if _ then _ else _
 rw [if_neg (by rw [wanted_of (o := ⟨some d, op, ty, pos, af, g⟩) hw ha]; exact Bool.false_ne_true)]
 exact ⟨fun f _ => Wide.fn c.F f, k.run _ _ (ha.put hd undef) hm⟩

/-- A guard whose test is still open: both ways. -/
theorem l_guard {o : Oper} {j d : Nat} {w b : Bool} {o' : Oper} (hg : o.guard = some (j, w)) (hj : nth L j = some o') (hd : o'.dst = some d) (hb : look env d = some (.bool b)) (hN : Nat.blt d N = true)
  (k1 : b = true -> RunL P N c L (o :: l) Q ((d, .bool true) :: env) mem) (k2 : b = false -> RunL P N c L (o :: l) Q ((d, .bool false) :: env) mem) : RunL P N c L (o :: l) Q env mem := .mk fun a W ha hm => by
 have same : ∀ b', b = b' -> SatA N c.ds ((d, .bool b') :: env) a := fun b' e => by
  refine ⟨ha.size, ha.defers, fun s v hs => ?_⟩
  rw [look_cons] at hs
  split at hs
  ·rename_i e2; subst e2; cases hs; subst e; exact ha.env _ _ hb
  ·exact ha.env _ _ hs
 cases hbb : b with
 | true => exact (k1 hbb).run a W (same _ hbb) hm
 | false => exact (k2 hbb).run a W (same _ hbb) hm

theorem lVa {op : Op} {d : Nat} {ty : TypeId} {pos : String} {af : Array Edge} {g : Option (Nat × Bool)} {v : Value} (hw : wantB L env g = some true) (hd : Nat.blt d N = true)
  (hv : OpVal P N c env mem ⟨some d, op, ty, pos, af, g⟩ v) (k : RunL P N c L l Q ((d, v) :: env) mem) : RunL P N c L (⟨some d, op, ty, pos, af, g⟩ :: l) Q env mem :=
 l_run hw fun a W ha hm => by
  rw [semAt_plain _ hv.1, hv.2 a W ha hm]
  exact k.run _ _ (ha.put hd v) hm

theorem l_eff {op : Op} {d : Nat} {ty : TypeId} {pos : String} {af : Array Edge} {g : Option (Nat × Bool)} {ι : Type} {v : ι -> Value} {mem' : ι -> List (Nat × Obj)} (hw : wantB L env g = some true) (hd : Nat.blt d N = true)
  (hv : OpEff P N c env mem ⟨some d, op, ty, pos, af, g⟩ v mem') (k : ∀ i, RunL P N c L l Q ((d, v i) :: env) (mem' i)) : RunL P N c L (⟨some d, op, ty, pos, af, g⟩ :: l) Q env mem :=
 l_run hw fun a W ha hm => by
  obtain ⟨i, W', h1, h2⟩ := hv.2 a W ha hm
  rw [semAt_plain _ hv.1, h1]
  exact (k i).run _ _ (ha.put hd _) h2

theorem l_do {op : Op} {ty : TypeId} {pos : String} {af : Array Edge} {g : Option (Nat × Bool)} {mem' : List (Nat × Obj)} (hw : wantB L env g = some true)
  (hv : OpDo P N c env mem ⟨none, op, ty, pos, af, g⟩ mem') (k : RunL P N c L l Q env mem') : RunL P N c L (⟨none, op, ty, pos, af, g⟩ :: l) Q env mem :=
 l_run hw fun a W ha hm => by
  obtain ⟨W', h1, h2⟩ := hv.2 a W ha hm
  rw [semAt_plain _ hv.1, h1]
  exact k.run _ _ ha h2

/-! ## Pure operations, by computation -/
def intBin (op : BinOp) (k k' : IntKind) (a b : Int) : Option Value :=
 if k = k' then
  match op with
  | .add => some (.int k (k.wrap (a + b)))
  | .sub => some (.int k (k.wrap (a - b)))
  | .mul => some (.int k (k.wrap (a * b)))
  | .lss => some (.bool (decide (a < b)))
  | .leq => some (.bool (decide (a <= b)))
  | .gtr => some (.bool (decide (b < a)))
  | .geq => some (.bool (decide (b <= a)))
  | .eql => some (.bool (decide (a = b)))
  | .neq => some (.bool (decide (a ≠ b)))
  | _ => none
 else none

def boolBin (op : BinOp) (a b : Bool) : Option Value :=
 match op with
 | .eql => some (.bool (decide (a = b)))
 | .neq => some (.bool (decide (a ≠ b)))
 | _ => none

/-- cells `off .. off + n - 1`, handed on as a list. -/
def cutK {β : Type} : List Value -> Nat -> Nat -> (List Value -> Option β) -> Option β
 | _, 0, 0, k => k []
 | x :: l, 0, n + 1, k => cutK l 0 n fun r => k (x :: r)
 | [], 0, _ + 1, _ => none
 | _ :: l, o + 1, n, k => cutK l o n k
 | [], _ + 1, _, _ => none

theorem cutK_eq {β : Type} {l : List Value} {o n : Nat} {k : List Value -> Option β} {r : β} (h : cutK l o n k = some r) : o + n <= l.length /\ k ((l.drop o).take n) = some r := by
 induction l generalizing o n k with
 | nil => cases o <;> cases n <;> simp_all [cutK]
 | cons x l ih =>
  cases o with
  | zero =>
   cases n with
   | zero => simpa [cutK] using h
   | succ n =>
    simp only [cutK] at h
    have := ih h
    simp only [Nat.zero_add, List.drop_zero, List.length_cons, List.take_succ_cons] at this ⊢
    exact ⟨by omega, this.2⟩
  | succ o =>
   simp only [cutK] at h
   have := ih h
   simp only [List.length_cons, List.drop_succ_cons]
   exact ⟨by omega, this.2⟩

def aggV (agg : Bool) (size : Nat) (l : List Value) (off : Nat) : Option Value :=
 match agg with
 | true => cutK l off size fun r => some (.agg ⟨r⟩)
 | false => nth l off

def callEval (tt : List (TypeId × TI)) (env : List (Nat × Value)) (cl : Call) : Option Value :=
 match cl with
 | ⟨.builtin .len, ⟨[x]⟩, ⟨[t]⟩⟩ => match look tt t with
   | some ⟨.slice _, _, _, _⟩ => match evOp env x with
     | some (.slice _ n _) => some (.int .i64 n)
     | _ => none
   | some ⟨.str, _, _, _⟩ => match evOp env x with
     | some (.string s) => some (.int .i64 s.size)
     | _ => none
   | some ⟨.array n _, _, _, _⟩ => match evOp env x with
     | some _ => some (.int .i64 n)
     | _ => none
   | _ => none
 | ⟨.builtin .min, ⟨[x, y]⟩, _⟩ => match evOp env x with
   | some (.int k a) => match evOp env y with
     | some (.int _ b) => some (.int k (min a b))
     | _ => none
   | _ => none
 | ⟨.builtin .max, ⟨[x, y]⟩, _⟩ => match evOp env x with
   | some (.int k a) => match evOp env y with
     | some (.int _ b) => some (.int k (max a b))
     | _ => none
   | _ => none
 | _ => none

def pureEval (tt : List (TypeId × TI)) (env : List (Nat × Value)) : Op -> Option Value
 | .move x => evOp env x
 | .assign x => evOp env x
 | .pick c a b => match evOp env c with
   | some (.bool true) => evOp env a
   | some (.bool false) => evOp env b
   | _ => none
 | .binOp op t x y _ => match evOp env x with
   | some (.int k a) => match evOp env y with
     | some (.int k' b) => intBin op k k' a b
     | _ => none
   | some (.bool a) => match evOp env y with
     | some (.bool b) => match look tt t with
       | some ⟨.bool, _, _, _⟩ => boolBin op a b
       | _ => none
     | _ => none
   | _ => none
 | .unOp op _ x => match op with
   | .not => match evOp env x with
     | some (.bool b) => some (.bool (!b))
     | _ => none
   | .neg => match evOp env x with
     | some (.int k n) => some (.int k (k.wrap (0 - n)))
     | _ => none
   | _ => none
 | .fieldAddr s x f => match look tt s with
   | some ⟨.struct fs, _, _, _⟩ => match nth fs f with
     | some (ft, off) => match look tt ft with
       | some ⟨_, sz, _, _⟩ => match evOp env x with
         | some (.pointer (some ⟨b, o, none⟩)) => bif Nat.beq sz 0 then none else bif Nat.beq off 0 then some (.pointer (some ⟨b, o, none⟩)) else some (.pointer (some ⟨b, o + off, none⟩))
         | _ => none
       | none => none
     | none => none
   | _ => none
 | .field s x f => match look tt s with
   | some ⟨.struct fs, _, _, _⟩ => match nth fs f with
     | some (ft, off) => match look tt ft with
       | some ⟨kd, sz, _, _⟩ => match evOp env x with
         | some (.agg ⟨l⟩) => aggV kd.isAgg sz l off
         | _ => none
       | none => none
     | none => none
   | _ => none
 | .extract x i => match evOp env x with
   | some (.tuple ⟨l⟩) => nth l i
   | _ => none
 | .convert src dst x => match look tt src with
   | some _ => match look tt dst with
     | some ⟨.int k, _, _, _⟩ => match evOp env x with
       | some (.int _ n) => some (.int k (k.wrap n))
       | _ => none
     | _ => none
   | none => none
 | .makeFunc fn ⟨first⟩ ⟨cap⟩ => evOps env first fun fs => evOps env cap fun cs => some (.func fn ⟨fs⟩ ⟨cs⟩)
 | .nilCheck x => match evOp env x with
   | some (.pointer (some a)) => some (.pointer (some a))
   | _ => none
 | .call cl => callEval tt env cl
 | _ => none

theorem run_und {P : Program} {t : TypeId} {d : TypeDesc} (h : P.underlying t = some d) (W : World) : (underlying t).run P W = .ok d W := by
 simp [underlying, program, Sem.run, h, pure, bind, Sem.bind]
theorem run_info {P : Program} {t : TypeId} {i : TypeInfo} (h : P.info? t = some i) (W : World) : (typeInfo t).run P W = .ok i W := by
 simp [typeInfo, program, Sem.run, h, pure, bind, Sem.bind]
theorem run_size {P : Program} {t : TypeId} {i : TypeInfo} (h : P.info? t = some i) (W : World) : (sizeOf t).run P W = .ok i.size W := by
 simp only [sizeOf, Sem.run_bind, run_info h, Result.andThen_ok]; rfl
theorem TKOk.und {P : Program} {t : TypeId} {k : TK} (h : TKOk P t k) : ∃ d, P.underlying t = some d := by
 cases k with
 | struct fs => obtain ⟨f, h, _⟩ := h; exact ⟨_, h⟩
 | other => obtain ⟨d, h, _⟩ := h; exact ⟨_, h⟩
 | _ => exact ⟨_, h⟩
theorem run_isAgg {P : Program} {t : TypeId} {k : TK} (h : TKOk P t k) (W : World) : (isAgg t).run P W = .ok k.isAgg W := by
 cases k with
 | struct fs => obtain ⟨f, h, _⟩ := h; simp only [isAgg, Sem.run_bind, run_und h, Result.andThen_ok]; rfl
 | other =>
  obtain ⟨d, h, h2⟩ := h
  simp only [isAgg, Sem.run_bind, run_und h, Result.andThen_ok]
  cases d <;> first|rfl|exact h2.elim
 | _ => simp only [isAgg, Sem.run_bind, run_und h, Result.andThen_ok]; rfl

section pure
variable {tt : List (TypeId × TI)} {d : Option Tmp} {ty : TypeId} {pos : String} {af : Array Edge} {g : Option (Nat × Bool)} {a : Act} {W : World} {ds : List Deferred}

theorem p_binInt {op : BinOp} {t t' : TypeId} {x y : Operand} {k k' : IntKind} {m n : Int} {v : Value} (hx : a.eval x = .int k m) (hy : a.eval y = .int k' n) (h : intBin op k k' m n = some v) :
  (execOp a.eval ⟨d, .binOp op t x y t', ty, pos, af, g⟩).run P W = .ok (.value v) W := by
 unfold intBin at h
 split at h
 ·rename_i hk
  subst hk
  cases op <;> simp only [Option.some.injEq, reduceCtorEq] at h <;> subst h <;>
   simp [execOp, hx, hy, eqGuard, binOp, Op.intArith, Op.intCmp, Sem.run, pure, bind, Sem.bind] <;> rfl
 ·cases h

theorem run_equal_bool {t : TypeId} (ht : P.underlying t = some .bool) (m n : Bool) : (Op.equal t (.bool m) (.bool n)).run P W = .ok (m == n) W := by
 show (Op.equalIn (9999 + 1) t (.bool m) (.bool n)).run P W = _
 rw [Op.equalIn]
 simp only [Sem.run_bind, run_und ht, Result.andThen_ok]; rfl

theorem p_binBool {op : BinOp} {t t' : TypeId} {x y : Operand} {m n : Bool} {v : Value} (ht : P.underlying t = some .bool) (hx : a.eval x = .bool m) (hy : a.eval y = .bool n) (h : boolBin op m n = some v) :
  (execOp a.eval ⟨d, .binOp op t x y t', ty, pos, af, g⟩).run P W = .ok (.value v) W := by
 unfold boolBin at h
 cases op <;> simp only [Option.some.injEq, reduceCtorEq] at h <;> subst h
 ·simp only [execOp, hx, hy, eqGuard, binOp, Sem.run_bind, run_equal_bool ht, Result.andThen_ok]
  show Result.ok _ W = _
  cases m <;> cases n <;> rfl
 ·simp only [execOp, hx, hy, eqGuard, binOp, Sem.run_bind, run_equal_bool ht, Result.andThen_ok]
  show Result.ok _ W = _
  cases m <;> cases n <;> rfl

theorem extract_list (l : List Value) (o n : Nat) : (⟨l⟩ : Array Value).extract o (o + n) = ⟨(l.drop o).take n⟩ := by
 simp [List.extract_eq_take_drop]

theorem run_part {ft off sz : Nat} {l : List Value} {kd : TK} {v : Value} (h3 : ∃ i, P.info? ft = some i /\ i.size = sz) (h4 : TKOk P ft kd) (h : aggV kd.isAgg sz l off = some v) :
  (part ft ⟨l⟩ off).run P W = .ok v W := by
 obtain ⟨i, hi, rfl⟩ := h3
 simp only [part, Sem.run_bind, run_isAgg h4, Result.andThen_ok]
 unfold aggV at h
 cases hk : kd.isAgg with
 | true =>
  rw [hk] at h
  obtain ⟨h5, h6⟩ := cutK_eq h
  simp only [Option.some.injEq] at h6
  subst h6
  simp only [if_true, Sem.run_bind, run_size hi, Result.andThen_ok, extract_list]
  rfl
 | false =>
  rw [hk] at h
  rw [nth_eq] at h
  simp [h]

theorem p_field {s : TypeId} {x : Operand} {f ft off sz : Nat} {fs : List (TypeId × Nat)} {l : List Value} {kd : TK} {v : Value} (h1 : TKOk P s (.struct fs)) (h2 : nth fs f = some (ft, off))
  (h3 : ∃ i, P.info? ft = some i /\ i.size = sz) (h4 : TKOk P ft kd) (hx : a.eval x = .agg ⟨l⟩) (h : aggV kd.isAgg sz l off = some v) :
  (execOp a.eval ⟨d, .field s x f, ty, pos, af, g⟩).run P W = .ok (.value v) W := by
 obtain ⟨fields, hu, hf⟩ := h1
 subst hf
 rw [nth_eq, List.getElem?_map] at h2
 cases hff : fields.toList[f]? with
 | none => rw [hff] at h2; cases h2
 | some fl =>
  rw [hff] at h2
  simp only [Option.map_some, Option.some.injEq, Prod.mk.injEq] at h2
  obtain ⟨rfl, rfl⟩ := h2
  have hf2 : fields[f]? = some fl := by rw [<- hff]; simp
  simp only [execOp, hx, Instr.field, Sem.run_bind, run_und hu, Result.andThen_ok, hf2]
  simp only [asAgg, Sem.run_bind]
  show (((part fl.type ⟨l⟩ fl.offset).run P W).andThen _) = _
  rw [run_part h3 h4 h]; rfl

theorem p_fieldAddr {s : TypeId} {x : Operand} {f ft off sz b o : Nat} {fs : List (TypeId × Nat)} {v : Value} (h1 : TKOk P s (.struct fs)) (h2 : nth fs f = some (ft, off))
  (h3 : ∃ i, P.info? ft = some i /\ i.size = sz) (hx : a.eval x = .pointer (some ⟨b, o, none⟩))
  (h : (bif Nat.beq sz 0 then none else bif Nat.beq off 0 then some (.pointer (some ⟨b, o, none⟩)) else some (.pointer (some ⟨b, o + off, none⟩))) = some v) :
  (execOp a.eval ⟨d, .fieldAddr s x f, ty, pos, af, g⟩).run P W = .ok (.value v) W := by
 obtain ⟨fields, hu, hf⟩ := h1
 subst hf
 rw [nth_eq, List.getElem?_map] at h2
 cases hff : fields.toList[f]? with
 | none => rw [hff] at h2; cases h2
 | some fl =>
  rw [hff] at h2
  simp only [Option.map_some, Option.some.injEq, Prod.mk.injEq] at h2
  obtain ⟨rfl, rfl⟩ := h2
  have hf2 : fields[f]? = some fl := by rw [<- hff]; simp
  obtain ⟨i, hi, rfl⟩ := h3
  cases hb : Nat.beq i.size 0 with
  | true => rw [hb] at h; cases h
  | false =>
   have hz : i.size ≠ 0 := Nat.ne_of_beq_eq_false hb
   rw [hb] at h
   simp only [execOp, hx, Instr.fieldAt, Sem.run_bind, run_und hu, Result.andThen_ok, hf2, Instr.sureAddr, fieldPlace]
   show (((((sizeOf fl.type).run P W).andThen _).andThen _).andThen _) = _
   rw [run_size hi]
   simp only [Result.andThen_ok, hz, if_false]
   cases hb2 : Nat.beq fl.offset 0 with
   | true =>
    rw [hb2] at h
    have := Nat.eq_of_beq_eq_true hb2
    simp only [cond_true, cond_false, Option.some.injEq] at h
    subst h
    simp [Sem.run, pure, Addr.add, this]
   | false =>
    rw [hb2] at h
    have := Nat.ne_of_beq_eq_false hb2
    simp only [cond_false, Option.some.injEq] at h
    subst h
    simp [Sem.run, pure, Addr.add, this]

theorem TIOk.size {t : TypeId} {kd : TK} {sz by' : Nat} {z : Value} (h : TIOk P t ⟨kd, sz, by', z⟩) : ∃ i, P.info? t = some i /\ i.size = sz := by
 obtain ⟨_, i, h1, h2, _⟩ := h; exact ⟨i, h1, h2⟩

theorem pEv [T : TT P tt] {op : Op} {v : Value} {env : List (Nat × Value)} (h : pureEval tt env op = some v) : OpVal P N c env mem ⟨d, op, ty, pos, af, g⟩ v := by
 refine ⟨by cases op <;> first|rfl|(simp [pureEval] at h; done), fun a W ha _ => ?_⟩
 cases op with
 | move x => show Result.ok (Next.value (a.eval x)) W = _; rw [ha.eval h]
 | assign x => show Result.ok (Next.value (a.eval x)) W = _; rw [ha.eval h]
 | pick cc x y =>
  simp only [pureEval] at h
  split at h
  ·rename_i hc; simp only [execOp, ha.eval hc, asBool, Sem.run_bind]; show Result.ok _ W = _; simp [ha.eval h]
  ·rename_i hc; simp only [execOp, ha.eval hc, asBool, Sem.run_bind]; show Result.ok _ W = _; simp [ha.eval h]
  ·cases h
 | binOp op t x y t' =>
  simp only [pureEval] at h
  split at h
  ·rename_i k m hx
   split at h
   ·rename_i k' n hy; exact p_binInt (ha.eval hx) (ha.eval hy) h
   ·cases h
  ·rename_i m hx
   split at h
   ·rename_i n hy
    split at h
    ·rename_i ht; exact p_binBool (TT.look ht).1 (ha.eval hx) (ha.eval hy) h
    ·cases h
   ·cases h
  ·cases h
 | unOp op t x =>
  simp only [pureEval] at h
  split at h
  ·split at h
   ·rename_i b hx; cases h; simp only [execOp, ha.eval hx]; rfl
   ·cases h
  ·split at h
   ·rename_i k n hx; cases h; simp only [execOp, ha.eval hx]; rfl
   ·cases h
  ·cases h
 | fieldAddr s x f =>
  simp only [pureEval] at h
  split at h
  ·rename_i h1
   split at h
   ·rename_i h2
    split at h
    ·rename_i h3
     split at h
     ·rename_i hx; exact p_fieldAddr (TT.look h1).1 h2 (TT.look h3).size (ha.eval hx) h
     ·cases h
    ·cases h
   ·cases h
  ·cases h
 | field s x f =>
  simp only [pureEval] at h
  split at h
  ·rename_i h1
   split at h
   ·rename_i h2
    split at h
    ·rename_i h3
     split at h
     ·rename_i hx; exact p_field (TT.look h1).1 h2 (TT.look h3).size (TT.look h3).1 (ha.eval hx) h
     ·cases h
    ·cases h
   ·cases h
  ·cases h
 | extract x i =>
  simp only [pureEval] at h
  split at h
  ·rename_i l hx; rw [nth_eq] at h; simp [execOp, ha.eval hx, Instr.extract, h]
  ·cases h
 | convert src dst x =>
  simp only [pureEval] at h
  split at h
  ·rename_i h0
   obtain ⟨ds, hs⟩ := (TT.look (P := P) h0).1.und
   split at h
   ·rename_i h1
    split at h
    ·rename_i k n hx
     cases h
     have h1' : P.underlying dst = some (.int _) := (TT.look (P := P) h1).1
     simp only [execOp, ha.eval hx, convert, Sem.run_bind, run_und hs, run_und h1', Result.andThen_ok]
     cases ds <;> rfl
    ·cases h
   ·cases h
  ·cases h
 | makeFunc fn first cap =>
  obtain ⟨first⟩ := first
  obtain ⟨cap⟩ := cap
  simp only [pureEval] at h
  have h2 := ha.evals (ha.evals h)
  simp only [Option.some.injEq] at h2
  subst h2
  simp [execOp, Instr.makeFunc, Sem.run, pure]
 | nilCheck x =>
  simp only [pureEval] at h
  split at h
  ·rename_i b hx; cases h; simp only [execOp, ha.eval hx]; rfl
  ·cases h
 | call cl =>
  simp only [pureEval] at h
  unfold callEval at h
  split at h
  ·rename_i x t
   split at h
   ·rename_i h1
    have hu : P.underlying t = some (.slice _) := (TT.look (P := P) h1).1
    split at h
    ·rename_i hx
     cases h
     simp only [execOp, resolve, List.map_toArray, List.map_cons, List.map_nil, ha.eval hx, Sem.run_bind]
     simp [invoke, builtin, Builtin.len_, run_und hu, Sem.run, pure, goInt]
    ·cases h
   ·rename_i h1
    have hu : P.underlying t = some .string := (TT.look (P := P) h1).1
    split at h
    ·rename_i hx
     cases h
     simp only [execOp, resolve, List.map_toArray, List.map_cons, List.map_nil, ha.eval hx, Sem.run_bind]
     simp [invoke, builtin, Builtin.len_, run_und hu, Sem.run, pure, goInt]
    ·cases h
   ·rename_i h1
    have hu : P.underlying t = some (.array _ _) := (TT.look (P := P) h1).1
    split at h
    ·rename_i hx
     cases h
     simp only [execOp, resolve, List.map_toArray, List.map_cons, List.map_nil, ha.eval hx, Sem.run_bind]
     simp [invoke, builtin, Builtin.len_, run_und hu, Sem.run, pure, goInt]
    ·cases h
   ·cases h
  ·split at h
   ·rename_i hx
    split at h
    ·rename_i hy
     cases h
     simp only [execOp, resolve, List.map_toArray, List.map_cons, List.map_nil, ha.eval hx, ha.eval hy, Sem.run_bind]
     simp [invoke, builtin, Builtin.min_, Builtin.min2, Sem.run, pure]
     show (if _ then _ else _) = _
     split <;> omega
    ·cases h
   ·cases h
  ·split at h
   ·rename_i hx
    split at h
    ·rename_i hy
     cases h
     simp only [execOp, resolve, List.map_toArray, List.map_cons, List.map_nil, ha.eval hx, ha.eval hy, Sem.run_bind]
     simp [invoke, builtin, Builtin.max_, Builtin.max2, Sem.run, pure]
     show (if _ then _ else _) = _
     split <;> omega
    ·cases h
   ·cases h
  ·cases h
 | _ => simp [pureEval] at h

end pure

end
end Kin
end Go

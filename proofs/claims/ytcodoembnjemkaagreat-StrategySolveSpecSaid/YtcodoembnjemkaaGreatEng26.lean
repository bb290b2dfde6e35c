/- The engine: elements of arrays by value, slices of slices. Generic: no program is named here. -/
import Derived.Test.YtcodoembnjemkaaGreatEng13
import Derived.Laws.Bits64b
import Derived.RecoverIn
import Derived.Laws.BitsLemmas
set_option linter.unusedSectionVars false
set_option linter.unusedVariables false
set_option linter.unusedSimpArgs false
namespace Go
open Go.RowKit
namespace Kin
section
variable {P : Program} {N : Nat} {c : Cx} {env : List (Nat × Value)} {mem : List (Nat × Obj)} {tt : List (TypeId × TI)} {ty : TypeId} {pos : String} {af : Array Edge} {g : Option (Nat × Bool)} {dd : Option Tmp}

/-- a call that hands back memory of its own: two blocks -/
theorem r_call2 [Wide c.F] {Q : Exit -> Act -> World -> Prop} {L l : List Oper} {d : Nat} {f : FuncId} [Ent P f] {args : List Operand} {ats : Array TypeId} {vs : List Value} {ι : Type} {v : ι -> Value} {bk bk2 : ι -> Nat} {o o2 : ι -> Obj} (hw : wantB L env g = some true) (hd : Nat.blt d N = true) (ha : evOps env args some = some vs)
  (hc : ∀ W, SatW c.w0 c.D c.J mem W -> Calls P f ⟨vs⟩ W fun e W' => ∃ i, e = .returned (v i) /\ Below W.heap.size W W' /\ W.heap.size <= bk i /\ W'.heap[bk i]? = some (o i) /\ W.heap.size <= bk2 i /\ W'.heap[bk2 i]? = some (o2 i) /\ bk2 i ≠ bk i)
  (k : ∀ i, RunL P N c L l Q ((d, v i) :: env) ((bk2 i, o2 i) :: (bk i, o i) :: mem)) : RunL P N c L (⟨some d, .call ⟨.value (.func f), ⟨args⟩, ats⟩, ty, pos, af, g⟩ :: l) Q env mem :=
 l_call (ι := ι) (v := v) (mem' := fun i => (bk2 i, o2 i) :: (bk i, o i) :: mem) hw hd ha (fun W hm => (hc W hm).mono fun _ W' ⟨i, h1, h2, h3, h4, h5, h6, h7⟩ => ⟨i, h1, by
  have hm2 := hm.later h2
  have hfar : ∀ b, W.heap.size <= b -> b ∉ mem.map (·.1) /\ ¬ c.D b := fun b hb => ⟨fun hmm => by
   obtain ⟨p, hp, e⟩ := List.mem_map.1 hmm
   have := hm.lt hp
   omega, fun hdd => by have := hm.dom _ hdd; have := hm.same.size; omega⟩
  refine ⟨hm2.same, hm2.dom, ?_, ?_, hm.closed, hm.closed _ _ _ _ hm.word (Same.of_below_all h2) fun b hb => ?_⟩
  ·simp only [List.map_cons, List.nodup_cons, List.mem_cons, not_or]
   exact ⟨⟨h7, (hfar _ h5).1⟩, (hfar _ h3).1, hm2.nodup⟩
  ·intro p hp
   rcases List.mem_cons.1 hp with rfl | hp
   ·exact ⟨(hfar _ h5).2, h6⟩
   ·rcases List.mem_cons.1 hp with rfl | hp
    ·exact ⟨(hfar _ h3).2, h4⟩
    ·exact hm2.own p hp
  ·simp only [keys, List.map_cons, List.mem_cons] at hb
   rcases hb with rfl | rfl | hb
   ·exact .inr h5
   ·exact .inr h3
   ·exact .inl hb⟩) k

/-- the end of a slice, from a number on -/
theorem v_sliceL [T : TT P tt] {t e n cap b o l sz bt sz' bt' : Nat} {x lo : Operand} {ke : TK} {z z' : Value} {k : IntKind} {i : Int} (hx : evOp env x = some (.slice (some ⟨b, o, none⟩) n cap)) (hl : evOp env lo = some (.int k i)) (ht : look tt t = some ⟨.slice e, sz', bt', z'⟩)
  (hte : look tt e = some ⟨ke, sz, bt, z⟩) (hil : i = l) (h1 : l <= n) (h2 : cap ≠ l) :
  OpVal P N c env mem ⟨dd, .slice t x (some lo) none none, ty, pos, af, g⟩ (.slice (some ⟨b, o + l * sz, none⟩) (n - l) (cap - l)) :=
 ⟨rfl, fun a W ha _ => by
  subst hil
  have hu : P.underlying t = some (.slice e) := (TT.look (P := P) ht).1
  obtain ⟨i', hi', hs'⟩ := (TT.look (P := P) hte).size
  have e1 : (⟨b, o, none⟩ : Addr).add (l * sz) = ⟨b, o + l * sz, none⟩ := by
   unfold Addr.add
   split
   ·rename_i h; simp [h]
   ·rfl
  simp only [execOp, ha.eval hx, Option.map_some, Option.map_none, ha.eval hl, Instr.sliceAt, Instr.slice, Instr.sliceBounds, Instr.sliceBound, asIntOf, Sem.run_bind, Sem.run_pure, Result.andThen_ok, run_und hu]
  rw [if_pos (⟨by omega, by omega⟩ : 0 <= ((l : Nat) : Int) /\ ((l : Nat) : Int) <= n)]
  simp only [Sem.run_bind, Sem.run_pure, Result.andThen_ok, run_size hi', hs', Int.toNat_natCast, if_neg h2, Option.map_some, e1]⟩

end
end Kin
end Go

namespace Go
open Go.RowKit
namespace Kin
section
variable {P : Program} {N : Nat} {c : Cx} {env : List (Nat × Value)} {mem : List (Nat × Obj)} {tt : List (TypeId × TI)} {ty : TypeId} {pos : String} {af : Array Edge} {g : Option (Nat × Bool)} {dd : Option Tmp} {t t' : TypeId} {x y : Operand} {m n : Nat}
theorem v_ushl {k' : IntKind} (hx : evOp env x = some (.int .u64 m)) (hy : evOp env y = some (.int k' n)) (h : n <= 64) : OpVal P N c env mem ⟨dd, .binOp .shl t x y t', ty, pos, af, g⟩ (.int .u64 ((m * 2 ^ n % 18446744073709551616 : Nat) : Int)) :=
 ⟨rfl, fun a W ha _ => by
  have hmin : min n IntKind.u64.bits = n := by show min n 64 = n; omega
  have : (execOp a.eval ⟨dd, .binOp .shl t x y t', ty, pos, af, g⟩).run P W = .ok (.value (.int .u64 (IntKind.u64.wrap ((m : Int) * 2 ^ n)))) W := by
   simp [execOp, ha.eval hx, ha.eval hy, eqGuard, binOp, Op.shift, hmin, Sem.run, pure, bind, Sem.bind]
  rw [this, IntKind.wrap_u64]
  congr 3⟩
theorem v_uor (hx : evOp env x = some (.int .u64 m)) (hy : evOp env y = some (.int .u64 n)) (h1 : m < 18446744073709551616) (h2 : n < 18446744073709551616) : OpVal P N c env mem ⟨dd, .binOp .or t x y t', ty, pos, af, g⟩ (.int .u64 ((m ||| n : Nat) : Int)) :=
 ⟨rfl, fun a W ha _ => by
  have : (execOp a.eval ⟨dd, .binOp .or t x y t', ty, pos, af, g⟩).run P W = .ok (.value (.int .u64 (bits .or .u64 (m : Int) (n : Int)))) W := by
   simp only [execOp, ha.eval hx, ha.eval hy, eqGuard, binOp]; rfl
  rw [this, bits_or_u64_nat m n h1 h2]⟩
end
end Kin
end Go

namespace Go
open Go.RowKit
namespace Kin
section
variable {P : Program} {N : Nat} {c : Cx} {env : List (Nat × Value)} {mem : List (Nat × Obj)} {tt : List (TypeId × TI)} {ty : TypeId} {pos : String} {af : Array Edge} {g : Option (Nat × Bool)} {dd : Option Tmp} {t t' : TypeId} {x y : Operand}
end
end Kin
end Go

namespace Go
open Go.RowKit
namespace Kin
section
variable {P : Program} {N : Nat} {c : Cx} {Q : Exit -> Act -> World -> Prop} {env : List (Nat × Value)} {mem : List (Nat × Obj)} {L l : List Oper} {o o' : Oper} {j d : Nat} {w : Bool} {p q : Prop} [Decidable p] [Decidable q] [Wide c.F] {t : Operand} {x y : Code}
end
section
variable {P : Program} {N : Nat} {c : Cx} {Q : Exit -> Act -> World -> Prop} {env env' : List (Nat × Value)} {mem mem' : List (Nat × Obj)} {x : Code}
end
end Kin
end Go

namespace Go
open Go.RowKit
namespace Kin
section
variable {P : Program} {N : Nat} {c : Cx} {Q : Exit -> Act -> World -> Prop} {env : List (Nat × Value)} {mem : List (Nat × Obj)} {L l : List Oper} {ch : List PanicEntry}
 {ty : TypeId} {pos : String} {af : Array Edge} {g : Option (Nat × Bool)} {dd : Option Tmp}

/-! ## Panics -/
section
variable [Wide c.F]
end
end

/-! ## The door: one deferred call is made -/
section
variable {P : Program} {N : Nat} {c : Cx} {env : List (Nat × Value)} {mem : List (Nat × Obj)} {tt : List (TypeId × TI)}
end
/-! ## Sums by a fact -/
section
variable {P : Program} {N : Nat} {c : Cx} [Wide c.F] {env : List (Nat × Value)} {mem : List (Nat × Obj)} {ty : TypeId} {pos : String} {af : Array Edge} {g : Option (Nat × Bool)} {dd : Option Tmp}
end
end Kin
end Go

namespace Go
open Go.RowKit
namespace Kin
section
variable {P : Program} {N : Nat} {c : Cx} {Q : Exit -> Act -> World -> Prop} {env : List (Nat × Value)} {mem : List (Nat × Obj)} {L l : List Oper} {tt : List (TypeId × TI)} [Wide c.F]
 {ty : TypeId} {pos : String} {af : Array Edge} {g : Option (Nat × Bool)} {dd : Option Tmp}

/-! ## Interfaces -/
end

/-! ## Tests that are opposites, split -/
section
variable {P : Program} {N : Nat} {c : Cx} {Q : Exit -> Act -> World -> Prop} {env : List (Nat × Value)} {mem : List (Nat × Obj)} {L l : List Oper} [Wide c.F] {p : Prop} [Decidable p]
end

/-! ## A deferred call that recovers -/
/-- what recover finds, and what it leaves -/
inductive Recov : FrameMode -> Value -> FrameMode -> Prop
 | none : Recov .returning .nilIface .returning
 | some (v : Value) (older : List PanicEntry) : Recov (.panicking ({ v, recovered := false } :: older)) v (.panicking ({ v, recovered := true } :: older))
section
variable {P : Program} {N : Nat} {env : List (Nat × Value)} {mem : List (Nat × Obj)} {tt : List (TypeId × TI)}
end
end Kin
end Go

namespace Go
open Go.RowKit
namespace Kin
section
variable {P : Program} {N : Nat} {c : Cx} {Q : Exit -> Act -> World -> Prop} {env : List (Nat × Value)} {L l : List Oper} {tl : List (Nat × Obj)} {fr : OM} {kt : Kt} {rd : List (Nat × Nat)} {d : Tmp} {dd : Option Tmp}
 {ty : TypeId} {pos : String} {af : Array Edge} {g : Option (Nat × Bool)} {tt : List (TypeId × TI)} {mem : List (Nat × Obj)}
/-- The operation appends to nil: what comes out are the elements `xs`, in a new block. -/
structure OpApp0 (P : Program) (N : Nat) (c : Cx) (env : List (Nat × Value)) (mem : List (Nat × Obj)) (o : Oper) (sz n : Nat) (xs : List Value) (e : TypeId) : Prop where
 plain : plainOp o.op = true
 run : ∀ a W, SatA N c.ds env a -> SatW c.w0 c.D c.J mem W -> ∃ cap rest, (execOp a.eval o).run P W = .ok (.value (.slice (some ⟨W.heap.size, 0, none⟩) n cap)) (W.drew.alloc (.cells ⟨xs ++ rest⟩ e (0, 0))) /\ Grow sz n xs cap rest
theorem e_app0 {k p sz n : Nat} {op : Op} {xs : List Value} {e : TypeId} {mem' : List (Nat × Obj)} (hw : wantB L env g = some true) (hd : Nat.blt d N = true) (hk : kdOf kt k = some (.app p none sz)) (hp : fr[p]? = some none) (h0 : 0 < sz)
  (hx : xs.length = n * sz) (hn : n <= maxLen) (hm : pickO (rowS (shOf kt) rd k) 0 fr tl some = some mem') (hv : OpApp0 P N c env mem' ⟨some d, op, ty, pos, af, g⟩ sz n xs e)
  (kk : ∀ b cap rest, Grow sz n xs cap rest -> RunE P N c L kt rd tl l (k + 1) Q ((d, .slice (some ⟨b, 0, none⟩) n cap) :: env) (fr.set p (some (b, .cells ⟨xs ++ rest⟩ e (0, 0))))) : RunE P N c L kt rd tl (⟨some d, op, ty, pos, af, g⟩ :: l) k Q env fr := .mk fun β a ha hr => by
 refine ⟨_, _, .app hk (wanted_of (o := ⟨some d, op, ty, pos, af, g⟩) hw ha) hv.1 hp h0 hx hn (fun q' h => by cases h) (e := e) (fun W hW => ?_), (kk (β k).b _ _ (growF_mk hx hn (β k).rest)).run β _ (ha.put hd _) hr⟩
 obtain ⟨m', h1, h2⟩ := pickO_eq (f := wrS (ancs .any L.toArray) (shOf kt) k) (fun p hp => rowS_ok hr hp) hm
 simp only [Option.some.injEq] at h2
 subst h2
 obtain ⟨cap, rest, g1, g2⟩ := hv.2 a W ha (hW.mono h1)
 exact ⟨_, cap, rest, _, g1, g2, World.alloc_heap_new W.drew _, .inr ⟨rfl, rfl⟩⟩
theorem a_append_nil [T : TT P tt] {t e m cx bx ox sz bt sz' bt' : Nat} {ke : TK} {z z' : Value} {x y : Operand} {ys : List Value}
  (hx : evOp env x = some (.slice none 0 0)) (hy : evOp env y = some (.slice (some ⟨bx, ox, none⟩) m cx)) (ht : look tt t = some ⟨.slice e, sz', bt', z'⟩) (hte : look tt e = some ⟨ke, sz, bt, z⟩) (hnews : News c mem bx ox ys)
  (hl : ys.length = m * sz) (hzl : Nat.beq (cellsL z).length sz = true) (h0 : 0 < m) (hb : m * bt <= 140737488355328) (hm : m <= maxLen) :
  OpApp0 P N c env mem ⟨dd, .call ⟨.builtin .append, ⟨[x, y]⟩, ⟨[t, t]⟩⟩, ty, pos, af, g⟩ sz m ys e := by
 have hu : P.underlying t = some (.slice e) := (TT.look (P := P) ht).1
 obtain ⟨_, inf, hi, hs, hbt, hz⟩ := TT.look (P := P) hte
 simp only at hs hz hbt
 have hzl := Nat.eq_of_beq_eq_true hzl
 refine ⟨rfl, fun a W ha hmm => ?_⟩
 have hr := run_append_nil (P := P) W t ty e inf z hu hi hz ⟨bx, ox, none⟩ m cx ys (by rw [hs]; exact hl) (fun j v hj => by rw [addr_add]; exact hnews.ok W hmm j v hj) h0 (by simp only [maxLen] at hm; omega) (by rw [hbt]; omega)
 have hge := grownCap_ge W m 0 e
 rw [show (ys.toArray ++ Builtin.zeroCells z.cells (grownCap W m 0 e - m)) = ⟨ys ++ (Builtin.zeroCells z.cells (grownCap W m 0 e - m)).toList⟩ by apply Array.ext'; simp] at hr
 refine ⟨grownCap W m 0 e, (Builtin.zeroCells z.cells (grownCap W m 0 e - m)).toList, p_append (ha.eval hx) (ha.eval hy) hr, hl, ?_, hge, grownCap_le_maxLen W m 0 e hm⟩
 rw [List.length_append, hl, zeroCells_len, cellsL_eq]
 show m * sz + (grownCap W m 0 e - m) * (cellsL z).length = _
 rw [hzl, <- Nat.add_mul]
 congr 1; omega
end
end Kin
end Go

namespace Go
open Go.RowKit
namespace Kin
section
variable {P : Program} {N : Nat} {c : Cx} {Q : Exit -> Act -> World -> Prop} {env : List (Nat × Value)} {mem mem' : List (Nat × Obj)} {x : Code}
/-- the blocks of a world but for some -/
def allBut (W : World) (ks : List Nat) : Nat -> Prop := fun b => b < W.heap.size /\ b ∉ ks
theorem satW_fresh {W : World} {m : List (Nat × Obj)} (hn : (m.map (·.1)).Nodup) (h : ∀ p ∈ m, W.heap[p.1]? = some p.2) : SatW W (allBut W (m.map (·.1))) noJ m W :=
 ⟨Same.refl _ _, fun _ hb => hb.1, hn, fun p hp => ⟨fun hb => hb.2 (List.mem_map.2 ⟨p, hp, rfl⟩), h p hp⟩, closed_noJ, trivial⟩
/-- the end of a round -/
structure BackW {ι : Type} (N : Nat) (I : ι -> Prop) (dd : ι -> List Deferred) (ws : ι -> World) (Ds : ι -> Nat -> Prop) (JJ : ι -> (Nat -> Prop) -> World -> Prop) (E : ι -> List (Nat × Value)) (M : ι -> List (Nat × Obj)) (μ : ι -> Nat) (i : ι) (a : Act) (W : World) : Prop where
 ex : ∃ j, I j /\ μ j < μ i /\ SatA N (dd j) (E j) a /\ SatW (ws j) (Ds j) (JJ j) (M j) W
theorem c_loopW {body : Code} {F : Fence} {n : Nat} {ds : List Deferred} {w0 : World} {D : Nat -> Prop} {J : (Nat -> Prop) -> World -> Prop} {ι : Type} (I : ι -> Prop) (dd : ι -> List Deferred) (ws : ι -> World) (Ds : ι -> Nat -> Prop) (JJ : ι -> (Nat -> Prop) -> World -> Prop) (E : ι -> List (Nat × Value)) (M : ι -> List (Nat × Obj)) (μ : ι -> Nat)
  (start : ∀ a W, SatA N ds env a -> SatW w0 D J mem W -> ∃ j, I j /\ SatA N (dd j) (E j) a /\ SatW (ws j) (Ds j) (JJ j) (M j) W)
  (round : ∀ i, I i -> RunC P N ⟨F, n, dd i, ws i, Ds i, JJ i⟩ body (Exit.then (BackW N I dd ws Ds JJ E M μ i) Q) (E i) (M i)) : RunC P N ⟨F, n, ds, w0, D, J⟩ (.loop body) Q env mem := .mk fun a W ha hm => by
 classical
 let p : Act -> World -> Nat -> Prop := fun a W n => ∃ j, I j /\ μ j = n /\ SatA N (dd j) (E j) a /\ SatW (ws j) (Ds j) (JJ j) (M j) W
 let ν : Act -> World -> Nat := fun a W => if h : ∃ n, p a W n then Classical.choose (least h) else 0
 have hν : ∀ a W, (h : ∃ n, p a W n) -> p a W (ν a W) /\ ∀ m, p a W m -> ν a W <= m := fun a W h => by
  show p a W (if h : ∃ n, p a W n then Classical.choose (least h) else 0) /\ ∀ m, p a W m -> (if h : ∃ n, p a W n then Classical.choose (least h) else 0) <= m
  rw [dif_pos h]; exact Classical.choose_spec (least h)
 obtain ⟨i0, g1, g2, g3⟩ := start a W ha hm
 refine wpIn_loop (fun a W => ∃ n, p a W n) ν ⟨_, i0, g1, rfl, g2, g3⟩ ?_
 intro a W hp
 obtain ⟨⟨j, h1, h2, h3, h4⟩, _⟩ := hν a W hp
 refine wpIn_mono ((round j h1).run a W h3 h4) ?_
 rintro e a' W' hq
 cases e with
 | normal =>
  obtain ⟨j', k1, k2, k3, k4⟩ := hq.ex
  have hp' : ∃ n, p a' W' n := ⟨_, j', k1, rfl, k3, k4⟩
  exact ⟨hp', by have := (hν a' W' hp').2 _ ⟨j', k1, rfl, k3, k4⟩; omega⟩
 | _ => exact hq
theorem x_backW {ι : Type} {I : ι -> Prop} {dd : ι -> List Deferred} {ws : ι -> World} {Ds : ι -> Nat -> Prop} {JJ : ι -> (Nat -> Prop) -> World -> Prop} {E : ι -> List (Nat × Value)} {M : ι -> List (Nat × Obj)} {μ : ι -> Nat} {i : ι} {Q' : Exit -> Act -> World -> Prop}
  (h : ∀ a W, SatA N c.ds env a -> SatW c.w0 c.D c.J mem W -> ∃ j, I j /\ μ j < μ i /\ SatA N (dd j) (E j) a /\ SatW (ws j) (Ds j) (JJ j) (M j) W) :
  RunX N c (Exit.then (BackW N I dd ws Ds JJ E M μ i) Q') .normal env mem := .mk fun a W ha hm => ⟨h a W ha hm⟩
/-- facts of the old ground hold on the new one -/
theorem Ext.move {w0 W : World} {D D' : Nat -> Prop} {b o : Nat} {cs : List Value} (h : Ext w0 D b o cs) (hS : Same D w0 W) (hD : ∀ k, D k -> D' k) : Ext W D' b o cs :=
 ⟨hD _ h.dom, fun i v hi => hS.cell (h.cell i v hi) h.dom⟩
end
end Kin
end Go

namespace Go
open Go.RowKit
namespace Kin
section
variable {P : Program} {N : Nat} {c : Cx} {Q : Exit -> Act -> World -> Prop} {env : List (Nat × Value)} {mem : List (Nat × Obj)} {L l : List Oper} {tt : List (TypeId × TI)}
 {ty : TypeId} {pos : String} {af : Array Edge} {g : Option (Nat × Bool)} {dd : Option Tmp} {t t' : TypeId} {x y : Operand}
/-! ## Bits -/
theorem v_shlA {k' : IntKind} {m r : Int} {n : Nat} (hx : evOp env x = some (.int .i64 m)) (hy : evOp env y = some (.int k' n)) (h : n <= 64) (hr : IntKind.i64.wrap (m * 2 ^ n) = r) : OpVal P N c env mem ⟨dd, .binOp .shl t x y t', ty, pos, af, g⟩ (.int .i64 r) :=
 ⟨rfl, fun a W ha _ => by
  have hmin : min n IntKind.i64.bits = n := by show min n 64 = n; omega
  have : (execOp a.eval ⟨dd, .binOp .shl t x y t', ty, pos, af, g⟩).run P W = .ok (.value (.int .i64 (IntKind.i64.wrap (m * 2 ^ n)))) W := by
   simp [execOp, ha.eval hx, ha.eval hy, eqGuard, binOp, Op.shift, hmin, Sem.run, pure, bind, Sem.bind]
  rw [this, hr]⟩
theorem v_shrA {k' : IntKind} {m r : Int} {n : Nat} (hx : evOp env x = some (.int .i64 m)) (hy : evOp env y = some (.int k' n)) (h : n <= 64) (hr : m / 2 ^ n = r) : OpVal P N c env mem ⟨dd, .binOp .shr t x y t', ty, pos, af, g⟩ (.int .i64 r) :=
 ⟨rfl, fun a W ha _ => by
  have hs : Op.shift .shr .i64 m k' n = pure (.int .i64 (m / 2 ^ n)) := by
   have := shift_shr .i64 k' m n (Int.natCast_nonneg n) (by show (n : Int) <= ((64 : Nat) : Int); omega)
   rwa [Int.toNat_natCast] at this
  have : (execOp a.eval ⟨dd, .binOp .shr t x y t', ty, pos, af, g⟩).run P W = .ok (.value (.int .i64 (m / 2 ^ n))) W := by
   simp [execOp, ha.eval hx, ha.eval hy, eqGuard, binOp, hs, Sem.run, pure, bind, Sem.bind]
  rw [this, hr]⟩
theorem v_andA {m n r : Int} (hx : evOp env x = some (.int .i64 m)) (hy : evOp env y = some (.int .i64 n)) (hr : bits .and .i64 m n = r) : OpVal P N c env mem ⟨dd, .binOp .and t x y t', ty, pos, af, g⟩ (.int .i64 r) :=
 ⟨rfl, fun a W ha _ => by
  have : (execOp a.eval ⟨dd, .binOp .and t x y t', ty, pos, af, g⟩).run P W = .ok (.value (.int .i64 (bits .and .i64 m n))) W := by
   simp only [execOp, ha.eval hx, ha.eval hy, eqGuard, binOp]; rfl
  rw [this, hr]⟩
theorem wraps_i64 (n : Int) (h0 : 0 <= n) (h1 : n < 2 ^ 63) : IntKind.i64.wrap n = n := by rw [IntKind.wrap_i64]; omega
/-- the low bits of any number -/
theorem and_low (n : Int) (i : Nat) (hi : i <= 62) : bits .and .i64 n (2 ^ i - 1) = n % 2 ^ i := by
 have hpos : 0 < 2 ^ i := Nat.two_pow_pos i
 have hc : ((2 : Int) ^ i - 1) = ((2 ^ i - 1 : Nat) : Int) := by rw [Int.natCast_sub hpos]; simp
 have hle : 2 ^ i <= 2 ^ 62 := Nat.pow_le_pow_right (by decide) hi
 have hm : (BitVec.ofInt 64 ((2 : Int) ^ i - 1)).toNat = 2 ^ i - 1 := by
  rw [hc, BitVec.ofInt_natCast, BitVec.toNat_ofNat]
  exact Nat.mod_eq_of_lt (by omega)
 have key : (BitVec.ofInt 64 n &&& BitVec.ofInt 64 ((2 : Int) ^ i - 1)).toNat = (n % ((2 ^ 64 : Nat) : Int)).toNat % 2 ^ i := by
  rw [BitVec.toNat_and, BitVec.toNat_ofInt, hm, Nat.and_two_pow_sub_one_eq_mod]
 show IntKind.i64.wrap ((BitVec.ofInt 64 n &&& BitVec.ofInt 64 ((2 : Int) ^ i - 1)).toNat : Nat) = n % 2 ^ i
 rw [key]
 have h1 : (((n % ((2 ^ 64 : Nat) : Int)).toNat % 2 ^ i : Nat) : Int) = n % 2 ^ i := by
  have hn := Int.emod_nonneg n (show ((2 ^ 64 : Nat) : Int) ≠ 0 by decide)
  rw [Int.natCast_emod, Int.toNat_of_nonneg hn]
  have hd : (((2 ^ i : Nat) : Int)) ∣ ((2 ^ 64 : Nat) : Int) := by
   refine Int.natCast_dvd_natCast.2 ?_
   exact Nat.pow_dvd_pow 2 (by omega)
  rw [Int.emod_emod_of_dvd _ hd]
  simp
 rw [h1]
 have hb : (2 : Int) ^ i <= 2 ^ 62 := by exact_mod_cast hle
 have hp : (0 : Int) < 2 ^ i := by exact_mod_cast hpos
 have h2 := Int.emod_nonneg n (show (2 : Int) ^ i ≠ 0 by omega)
 have h3 := Int.emod_lt_of_pos n hp
 have h4 : (2 : Int) ^ 62 < 2 ^ 63 := by decide
 exact wraps_i64 _ h2 (by omega)
/-! ## Calls that keep a word -/
end
end Kin
end Go

namespace Go
open Go.RowKit
namespace Kin
section
variable {P : Program} {N : Nat} {c : Cx} {Q : Exit -> Act -> World -> Prop} {env : List (Nat × Value)} {mem : List (Nat × Obj)} {L l : List Oper} {tt : List (TypeId × TI)}
 {ty : TypeId} {pos : String} {af : Array Edge} {g : Option (Nat × Bool)} {dd : Option Tmp}
/-! ## A map of pairs, as a word -/
end
end Kin
end Go

namespace Go
open Go.RowKit
namespace Kin
section
variable {P : Program} {N : Nat} {c : Cx} {Q : Exit -> Act -> World -> Prop} {env : List (Nat × Value)} {mem mem' : List (Nat × Obj)} {L l : List Oper} {ty : TypeId} {pos : String} {af : Array Edge} {g : Option (Nat × Bool)}
end
/-- rows in the world: the block of slices, and the blocks of the rows -/
structure Mat (W : World) (D : Nat -> Prop) (bc : Nat) (n m : Nat) (bs : Nat -> Nat) (f : Nat -> Nat -> Int) : Prop where
 top : Ext W D bc 0 (vec n fun j => .slice (some ⟨bs j, 0, none⟩) m m)
 row : ∀ j, j < n -> Ext W D (bs j) 0 (ivec m (f j))
/-- a row's slice, read from the block of slices -/
theorem Ext.at {W : World} {D : Nat -> Prop} {b o : Nat} {cs : List Value} {i : Nat} {v : Value} (h : Ext W D b o cs) (hi : cs[i]? = some v) : Ext W D b (o + i) [v] :=
 ⟨h.dom, fun j u hj => by
  cases j with
  | zero => simp at hj; subst hj; exact h.cell i v hi
  | succ j => simp at hj⟩
end Kin
end Go

namespace Go
open Go.RowKit
namespace Kin
section
variable {P : Program} {N : Nat} {c : Cx} {Q : Exit -> Act -> World -> Prop} {env : List (Nat × Value)} {mem mem' : List (Nat × Obj)} {L l : List Oper} {tt : List (TypeId × TI)} {ty : TypeId} {pos : String} {af : Array Edge} {g : Option (Nat × Bool)} {dd : Option Tmp}
/-- nothing is appended: the slice as it is -/
theorem v_append0 [T : TT P tt] {t e n cap cx sz bt sz' bt' : Nat} {A B : Option Addr} {ke : TK} {z z' : Value} {x y : Operand}
  (hx : evOp env x = some (.slice B n cap)) (hy : evOp env y = some (.slice A 0 cx)) (ht : look tt t = some ⟨.slice e, sz', bt', z'⟩) (hte : look tt e = some ⟨ke, sz, bt, z⟩) (hle : n <= cap) :
  OpVal P N c env mem ⟨dd, .call ⟨.builtin .append, ⟨[x, y]⟩, ⟨[t, t]⟩⟩, ty, pos, af, g⟩ (.slice B n cap) := by
 have hu : P.underlying t = some (.slice e) := (TT.look (P := P) ht).1
 obtain ⟨_, inf, hi, hs, hbt, hz⟩ := TT.look (P := P) hte
 refine ⟨rfl, fun a W ha hmm => p_append (ha.eval hx) (ha.eval hy) ?_⟩
 cases A <;> cases B <;> simp [Builtin.append_, Sem.run_bind, run_und hu, run_size hi, Builtin.lenOf, hle, Builtin.firstCells, storeCells, Sem.run_pure, loadCells, loadCellsFrom]
theorem n_make [T : TT P tt] {t e n sz bt sz' bt' : Nat} {ke : TK} {z z' : Value} {x y : Operand} {m : Int} {cs : List Value} {kd : IntKind}
  (ht : look tt t = some ⟨.slice e, sz', bt', z'⟩) (hte : look tt e = some ⟨ke, sz, bt, z⟩) (hx : evOp env x = some (.int kd m)) (hy : evOp env y = some (.int kd m)) (hm : m = (n : Int)) (hn : n * bt <= 140737488355328) (hn2 : n <= 281474976710656)
  (hs0 : Nat.beq sz 0 = false) (hzl : Nat.beq (cellsL z).length sz = true) (hcs : (flat n fun _ => cellsL z) = cs) :
  OpNew P N c env ⟨dd, .makeSlice t x y, ty, pos, af, g⟩ (fun b => .slice (some ⟨b, 0, none⟩) n n) (.cells ⟨cs⟩ e (0, 0)) := by
 subst hm
 subst hcs
 have hu : P.underlying t = some (.slice e) := (TT.look (P := P) ht).1
 obtain ⟨_, inf, hi, hs, hb, hz⟩ := TT.look (P := P) hte
 simp only at hs hz hb
 have hs0 := Nat.ne_of_beq_eq_false hs0
 have hzl := Nat.eq_of_beq_eq_true hzl
 refine ⟨rfl, fun a W ha => ?_⟩
 have hzsz : z.cells.size = sz := by rw [cellsL_eq]; exact hzl
 have hzero : madeCells z.cells ((n : Int).toNat * inf.size) = ⟨flat n fun _ => cellsL z⟩ := by
  have := zeros_eq z.cells n (by rw [hzsz]; exact hs0)
  rw [hzsz, cellsL_eq] at this
  rw [Int.toNat_natCast, hs, madeCells, cellsL_eq]
  simpa [hzl] using this
 have hbb : (inf.bytes : Int) * (n : Int) <= 281474976710656 := by
  have h : ((inf.bytes * n : Nat) : Int) <= 281474976710656 := by rw [hb, Nat.mul_comm]; omega
  rwa [Int.natCast_mul] at h
 have hr := run_make (P := P) W t e inf z hu hi hz kd kd n n (by omega) (Int.le_refl _) hbb (by omega)
 rw [hzero, Int.toNat_natCast] at hr
 simp only [execOp, ha.eval hx, ha.eval hy, Sem.run_bind, hr, Result.andThen_ok]; rfl
end
/-- an array on the ground -/
def Ar (W : World) (D : Nat -> Prop) (A : Option Addr) (sz : Nat) (rows : List (List Value)) : Prop :=
 ∀ i r, rows[i]? = some r -> ∃ b o, A = some ⟨b, o, none⟩ /\ Ext W D b (o + i * sz) r
theorem Ar.move {W W' : World} {D D' : Nat -> Prop} {A : Option Addr} {sz : Nat} {rows : List (List Value)} (h : Ar W D A sz rows) (hS : Same D W W') (hD : ∀ k, D k -> D' k) : Ar W' D' A sz rows := fun i r hr => by
 obtain ⟨b, o, e, g⟩ := h i r hr
 exact ⟨b, o, e, g.move hS hD⟩
theorem Ar.nil {W : World} {D : Nat -> Prop} {A : Option Addr} {sz : Nat} : Ar W D A sz [] := fun i r h => by simp at h
theorem Ar.at {W W' : World} {D : Nat -> Prop} {J : (Nat -> Prop) -> World -> Prop} {mem : List (Nat × Obj)} {A : Option Addr} {sz : Nat} {rows : List (List Value)} (h : Ar W D A sz rows) (hm : SatW W D J mem W') : At W' A sz rows := fun i r hr => by
 obtain ⟨b, o, e, g⟩ := h i r hr
 have g2 := g.move hm.same (fun _ hk => hk)
 exact ⟨b, o, e, fun j v hv => g2.cell j v hv⟩
theorem Ar.get {α : Type} {W : World} {D : Nat -> Prop} {A : Option Addr} {sz : Nat} {f : α -> List Value} {l : List α} (h : Ar W D A sz (l.map f)) {i : Nat} {x : α} (hx : l[i]? = some x) : ∃ b o, A = some ⟨b, o, none⟩ /\ Ext W D b (o + i * sz) (f x) :=
 h i (f x) (by rw [List.getElem?_map, hx]; rfl)
/-- memory that came in -/
theorem Ar.of {w W : World} {D : Nat -> Prop} {A : Option Addr} {sz : Nat} {rows : List (List Value)} (h : At w A sz rows) (hne : ∀ r ∈ rows, r ≠ []) (hS : Same (base w) w W) (hD : ∀ k, base w k -> D k) : Ar W D A sz rows := fun i r hr => by
 obtain ⟨b, o, e, hc⟩ := h i r hr
 cases r with
 | nil => exact absurd rfl (hne [] (List.mem_of_getElem? hr))
 | cons x cs => exact ⟨b, o, e, (ext_of hc).move hS hD⟩
theorem Same.base_later {w W : World} (h : Same (base w) w W) : Below w.heap.size w W := h.below (Nat.le_refl _) fun _ hk => hk
section
variable {P : Program} {N : Nat} {c : Cx} {Q : Exit -> Act -> World -> Prop} {env : List (Nat × Value)} {mem mem' : List (Nat × Obj)}
theorem SatW.allBut {w0 : World} {D : Nat -> Prop} {J : (Nat -> Prop) -> World -> Prop} {W : World} (h : SatW w0 D J mem W) (hs : MSub mem mem') : ∀ k, D k -> Kin.allBut W (mem'.map (·.1)) k := fun k hk => by
 refine ⟨Nat.lt_of_lt_of_le (h.dom k hk) h.same.size, fun hm => ?_⟩
 obtain ⟨p, hp, e⟩ := List.mem_map.1 hm
 exact (h.own p (hs.sub.mem hp)).1 (e ▸ hk)
/-- the world of now as the ground -/
theorem SatW.fresh0 {w0 : World} {D : Nat -> Prop} {J : (Nat -> Prop) -> World -> Prop} {W : World} (h : SatW w0 D J mem W) (hs : MSub mem mem') : SatW W (Kin.allBut W (mem'.map (·.1))) noJ mem' W :=
 satW_fresh (h.mono hs.sub).nodup fun p hp => ((h.mono hs.sub).own p hp).2
/-! ## Where ways meet, on a new ground -/
structure MidW {ι : Type} (N : Nat) (I : ι -> Prop) (dd : ι -> List Deferred) (ws : ι -> World) (Ds : ι -> Nat -> Prop) (JJ : ι -> (Nat -> Prop) -> World -> Prop) (E : ι -> List (Nat × Value)) (M : ι -> List (Nat × Obj)) (a : Act) (W : World) : Prop where
 ex : ∃ i, I i /\ SatA N (dd i) (E i) a /\ SatW (ws i) (Ds i) (JJ i) (M i) W
end
end Kin
end Go

namespace Go
open Go.RowKit
namespace Kin
section
variable {P : Program} {N : Nat} {c : Cx} {Q : Exit -> Act -> World -> Prop} {env : List (Nat × Value)} {mem mem' : List (Nat × Obj)} {L l : List Oper} {tt : List (TypeId × TI)} {ty : TypeId} {pos : String} {af : Array Edge} {g : Option (Nat × Bool)} {d : Nat} [Wide c.F]
theorem l_perm (hp : mem.Perm mem') (k : RunL P N c L l Q env mem') : RunL P N c L l Q env mem := .mk fun a W ha hm => k.run a W ha (hm.perm hp)
theorem Rem.perm {b : Nat} {o : Obj} (h : Rem mem b o mem') : mem.Perm ((b, o) :: mem') := by
 induction h with
 | head => exact List.Perm.refl _
 | tail h ih => exact (ih.cons _).trans (List.Perm.swap _ _ _)
/-- an array that came in is what is appended, or nothing is -/
def NewsG (c : Cx) (mem : List (Nat × Obj)) (A : Option Addr) (m : Nat) (ys : List Value) : Prop := (m = 0 /\ ys = []) ∨ ∃ bx ox, A = some ⟨bx, ox, none⟩ /\ News c mem bx ox ys
theorem r_appendG [T : TT P tt] {t e n cap b m cx sz bt sz' bt' : Nat} {A : Option Addr} {ke : TK} {z z' : Value} {x y : Operand} {xs rest ys : List Value} (hw : wantB L env g = some true) (hd : Nat.blt d N = true)
  (hx : evOp env x = some (.slice (some ⟨b, 0, none⟩) n cap)) (hy : evOp env y = some (.slice A m cx)) (ht : look tt t = some ⟨.slice e, sz', bt', z'⟩) (hte : look tt e = some ⟨ke, sz, bt, z⟩) (hnews : NewsG c mem A m ys)
  (hr : Rem mem b (.cells ⟨xs ++ rest⟩ e (0, 0)) mem') (hg : Grow sz n xs cap rest)
  (hl : ys.length = m * sz) (hone : allOne ys = true) (hzl : Nat.beq (cellsL z).length sz = true) (hb : (n + m) * bt <= 140737488355328) (hm : n + m <= maxLen)
  (k : ∀ b cap rest, Grow sz (n + m) (xs ++ ys) cap rest -> RunL P N c L l Q ((d, .slice (some ⟨b, 0, none⟩) (n + m) cap) :: env) ((b, .cells ⟨xs ++ ys ++ rest⟩ e (0, 0)) :: mem')) :
  RunL P N c L (⟨some d, .call ⟨.builtin .append, ⟨[x, y]⟩, ⟨[t, t]⟩⟩, ty, pos, af, g⟩ :: l) Q env mem := by
 rcases hnews with ⟨rfl, rfl⟩ | ⟨bx, ox, rfl, hn⟩
 ·refine lVa hw hd (v_append0 hx hy ht hte hg.le) (l_perm hr.perm ?_)
  have := k b cap rest (by rw [List.append_nil]; exact hg)
  rw [List.append_nil] at this
  exact this
 ·exact r_append hw hd hx hy ht hte hn hr hg hl hone hzl hb hm k
end
end Kin
end Go

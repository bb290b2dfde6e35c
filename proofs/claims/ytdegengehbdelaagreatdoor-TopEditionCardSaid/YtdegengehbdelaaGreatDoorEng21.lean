/- The engine: elements of arrays by value, slices of slices. Generic: no program is named here. -/
import Derived.Test.YtdegengehbdelaaGreatDoorEng13
import Derived.Laws.Bits64b
import Derived.RecoverIn
set_option linter.unusedSectionVars false
set_option linter.unusedVariables false
set_option linter.unusedSimpArgs false
namespace Go
open Go.RowKit
namespace Kin
section
variable {P : Program} {N : Nat} {c : Cx} {env : List (Nat × Value)} {mem : List (Nat × Obj)} {tt : List (TypeId × TI)} {ty : TypeId} {pos : String} {af : Array Edge} {g : Option (Nat × Bool)} {dd : Option Tmp}

/-- an element of an array that is held by value; elements of one cell -/
theorem v_ix [T : TT P tt] {t e n sz bt sz' bt' : Nat} {x ix : Operand} {ke : TK} {z z' v : Value} {cs : List Value} {k : IntKind} {i : Int} (hx : evOp env x = some (.agg ⟨cs⟩)) (hi : evOp env ix = some (.int k i)) (ht : look tt t = some ⟨.array n e, sz', bt', z'⟩)
  (hte : look tt e = some ⟨ke, sz, bt, z⟩) (h0 : 0 <= i) (h1 : i < n) (hv : aggV ke.isAgg sz cs (i.toNat * sz) = some v) : OpVal P N c env mem ⟨dd, .index t x ix, ty, pos, af, g⟩ v :=
 ⟨rfl, fun a W ha _ => by
  have hu : P.underlying t = some (.array n e) := (TT.look (P := P) ht).1
  obtain ⟨i', hi', hs'⟩ := (TT.look (P := P) hte).size
  have hp := run_part (P := P) (W := W) (TT.look (P := P) hte).size (TT.look (P := P) hte).1 hv
  simp only [execOp, ha.eval hx, ha.eval hi, Instr.index, asIntOf, Sem.run_bind, Sem.run_pure, Result.andThen_ok, run_und hu]
  rw [if_pos ⟨h0, h1⟩]
  simp only [Sem.run_bind, run_size hi', Result.andThen_ok, hs', hp]⟩

/-- an array that is built by value, all of whose elements are given, in order -/
theorem v_buildA [T : TT P tt] {t e n sz bt sz' bt' : Nat} {ke : TK} {z z' : Value} {cs : List Value} {ps : List (Nat × Operand)} (ht : look tt t = some ⟨.array n e, sz', bt', z'⟩) (hte : look tt e = some ⟨ke, sz, bt, z⟩)
  (hn : Nat.beq (cellsL z').length (ps.length * sz) = true) (hv : rowsK env sz ps 0 some = some cs) :
  OpVal P N c env mem ⟨dd, .build t ⟨ps⟩, ty, pos, af, g⟩ (.agg ⟨cs⟩) := ⟨rfl, fun a W ha _ => by
 obtain ⟨hu, inf, hinf, _, _, hz⟩ := TT.look (P := P) ht
 have hu : P.underlying t = some (.array n e) := hu
 have hz2 : (zeroValue t).run P W = .ok z' W := by
  simp only [zeroValue, Sem.run_bind, run_info hinf, Result.andThen_ok, hz]; rfl
 obtain ⟨_, i', hi', hs', _, _⟩ := TT.look (P := P) hte
 simp only at hs'
 obtain ⟨cs', h1, h2, h3⟩ := rowsK_ok ha ps 0 _ _ hv
 simp only [Option.some.injEq] at h1
 subst h1
 have h4 := h3 [] (cellsL z') (by simp) (Nat.eq_of_beq_eq_true hn)
 rw [List.nil_append, List.nil_append] at h4
 have e3 : ((⟨ps⟩ : Array (Nat × Operand)).map fun (x : Nat × Operand) => (x.1, a.eval x.2)).toList = ps.map fun p => (p.1, a.eval p.2) := by simp
 simp only [execOp, Instr.build, Sem.run_bind, hz2, run_und hu, run_size hi', Result.andThen_ok, hs']
 rw [e3, cellsL_eq, h4]; rfl⟩

theorem min2_int (k k' : IntKind) (x y : Int) : Builtin.min2 (.int k x) (.int k' y) = pure (.int k (min x y)) := by
 have : (if y < x then y else x) = min x y := by omega
 rw [<- this]; rfl
theorem v_min3 {x y z : Operand} {k k2 k3 : IntKind} {m n o : Int} {ats : Array TypeId} (hx : evOp env x = some (.int k m)) (hy : evOp env y = some (.int k2 n)) (hz : evOp env z = some (.int k3 o)) :
  OpVal P N c env mem ⟨dd, .call ⟨.builtin .min, ⟨[x, y, z]⟩, ats⟩, ty, pos, af, g⟩ (.int k (min (min m n) o)) := ⟨rfl, fun a W ha _ => by
 simp only [execOp, resolve, List.map_toArray, List.map_cons, List.map_nil, ha.eval hx, ha.eval hy, ha.eval hz, Sem.run_bind]
 simp [invoke, builtin, Builtin.min_, min2_int, Sem.run, pure]⟩
/-- the end of a slice, from a number on -/
theorem v_sliceL [T : TT P tt] {t e n cap b o l sz bt sz' bt' : Nat} {x lo : Operand} {ke : TK} {z z' : Value} {k : IntKind} {i : Int} (hx : evOp env x = some (.slice (some ⟨b, o, none⟩) n cap)) (hl : evOp env lo = some (.int k i)) (ht : look tt t = some ⟨.slice e, sz', bt', z'⟩)
  (hte : look tt e = some ⟨ke, sz, bt, z⟩) (hil : i = l) (h1 : l <= n) (h2 : cap ≠ l) :
  OpVal P N c env mem ⟨dd, .slice t x (some lo) none none, ty, pos, af, g⟩ (.slice (some ⟨b, o + l * sz, none⟩) (n - l) (cap - l)) :=
 ⟨rfl, fun a W ha _ => by
  subst hil
  have hu : P.underlying t = some (.slice e) := (TT.look (P := P) ht).1
  obtain ⟨i', hi', hs'⟩ := (TT.look (P := P) hte).size
  have e1 : (⟨b, o, none⟩ : Addr).add (l * sz) = ⟨b, o + l * sz, none⟩ := by
   unfold Addr.add
   split
   ·rename_i h; simp [h]
   ·rfl
  simp only [execOp, ha.eval hx, Option.map_some, Option.map_none, ha.eval hl, Instr.sliceAt, Instr.slice, Instr.sliceBounds, Instr.sliceBound, asIntOf, Sem.run_bind, Sem.run_pure, Result.andThen_ok, run_und hu]
  rw [if_pos (⟨by omega, by omega⟩ : 0 <= ((l : Nat) : Int) /\ ((l : Nat) : Int) <= n)]
  simp only [Sem.run_bind, Sem.run_pure, Result.andThen_ok, run_size hi', hs', Int.toNat_natCast, if_neg h2, Option.map_some, e1]⟩

end
end Kin
end Go

namespace Go
open Go.RowKit
namespace Kin
section
variable {P : Program} {N : Nat} {c : Cx} {env : List (Nat × Value)} {mem : List (Nat × Obj)} {tt : List (TypeId × TI)} {ty : TypeId} {pos : String} {af : Array Edge} {g : Option (Nat × Bool)} {dd : Option Tmp} {t t' : TypeId} {x y : Operand} {m n : Nat}
theorem wrapU {n : Int} (h0 : 0 <= n) (h1 : n < 18446744073709551616) : IntKind.u64.wrap n = n := by rw [IntKind.wrap_u64]; omega
theorem v_umul (hx : evOp env x = some (.int .u64 m)) (hy : evOp env y = some (.int .u64 n)) : OpVal P N c env mem ⟨dd, .binOp .mul t x y t', ty, pos, af, g⟩ (.int .u64 ((m * n % 18446744073709551616 : Nat) : Int)) :=
 ⟨rfl, fun a W ha _ => by
  rw [p_binInt (ha.eval hx) (ha.eval hy) (v := .int .u64 (IntKind.u64.wrap ((m : Int) * n))) rfl, <- Int.natCast_mul, IntKind.wrap_u64]; congr 3⟩
theorem v_ushl {k' : IntKind} (hx : evOp env x = some (.int .u64 m)) (hy : evOp env y = some (.int k' n)) (h : n <= 64) : OpVal P N c env mem ⟨dd, .binOp .shl t x y t', ty, pos, af, g⟩ (.int .u64 ((m * 2 ^ n % 18446744073709551616 : Nat) : Int)) :=
 ⟨rfl, fun a W ha _ => by
  have hmin : min n IntKind.u64.bits = n := by show min n 64 = n; omega
  have : (execOp a.eval ⟨dd, .binOp .shl t x y t', ty, pos, af, g⟩).run P W = .ok (.value (.int .u64 (IntKind.u64.wrap ((m : Int) * 2 ^ n)))) W := by
   simp [execOp, ha.eval hx, ha.eval hy, eqGuard, binOp, Op.shift, hmin, Sem.run, pure, bind, Sem.bind]
  rw [this, IntKind.wrap_u64]
  congr 3⟩
theorem v_ushr {k' : IntKind} (hx : evOp env x = some (.int .u64 m)) (hy : evOp env y = some (.int k' n)) (h : n <= 64) : OpVal P N c env mem ⟨dd, .binOp .shr t x y t', ty, pos, af, g⟩ (.int .u64 ((m / 2 ^ n : Nat) : Int)) :=
 ⟨rfl, fun a W ha _ => by
  have hmin : min n IntKind.u64.bits = n := by show min n 64 = n; omega
  have : (execOp a.eval ⟨dd, .binOp .shr t x y t', ty, pos, af, g⟩).run P W = .ok (.value (.int .u64 ((m : Int) / (2 ^ n)))) W := by
   simp [execOp, ha.eval hx, ha.eval hy, eqGuard, binOp, Op.shift, hmin, Sem.run, pure, bind, Sem.bind]
  rw [this]
  congr 3⟩
theorem v_uand (hx : evOp env x = some (.int .u64 m)) (hy : evOp env y = some (.int .u64 n)) (h1 : m < 18446744073709551616) (h2 : n < 18446744073709551616) : OpVal P N c env mem ⟨dd, .binOp .and t x y t', ty, pos, af, g⟩ (.int .u64 ((m &&& n : Nat) : Int)) :=
 ⟨rfl, fun a W ha _ => by
  have : (execOp a.eval ⟨dd, .binOp .and t x y t', ty, pos, af, g⟩).run P W = .ok (.value (.int .u64 (bits .and .u64 (m : Int) (n : Int)))) W := by
   simp only [execOp, ha.eval hx, ha.eval hy, eqGuard, binOp]; rfl
  rw [this, bits_and_u64_nat m n h1 h2]⟩
theorem v_uconv [Wide c.F] [T : TT P tt] {src dst : TypeId} {ti : TI} {sz bt : Nat} {z : Value} {k : IntKind} (h1 : look tt src = some ti) (h2 : look tt dst = some ⟨.int .u64, sz, bt, z⟩) (hx : evOp env x = some (.int k m)) (hm : m < 18446744073709551616) :
  OpVal P N c env mem ⟨dd, .convert src dst x, ty, pos, af, g⟩ (.int .u64 (m : Int)) := by
 have h : pureEval tt env (.convert src dst x) = some (.int .u64 (IntKind.u64.wrap (m : Int))) := by
  show (match look tt src with | some _ => _ | none => _) = _
  rw [h1]
  show (match look tt dst with | _ => _) = _
  rw [h2]
  show (match evOp env x with | _ => _) = _
  rw [hx]
 rw [wrapU (by omega) (by omega)] at h
 exact pEv h
end
end Kin
end Go

namespace Go
open Go.RowKit
namespace Kin
section
variable {P : Program} {N : Nat} {c : Cx} {env : List (Nat × Value)} {mem : List (Nat × Obj)} {tt : List (TypeId × TI)} {ty : TypeId} {pos : String} {af : Array Edge} {g : Option (Nat × Bool)} {dd : Option Tmp} {t t' : TypeId} {x y : Operand}
theorem v_iconv [Wide c.F] [T : TT P tt] {src dst : TypeId} {ti : TI} {sz bt : Nat} {z : Value} {k : IntKind} {m : Int} (h1 : look tt src = some ti) (h2 : look tt dst = some ⟨.int .i64, sz, bt, z⟩) (hx : evOp env x = some (.int k m)) (l1 : -9223372036854775808 <= m) (l2 : m <= 9223372036854775807) :
  OpVal P N c env mem ⟨dd, .convert src dst x, ty, pos, af, g⟩ (.int .i64 m) := by
 have h : pureEval tt env (.convert src dst x) = some (.int .i64 (IntKind.i64.wrap m)) := by
  show (match look tt src with | some _ => _ | none => _) = _
  rw [h1]
  show (match look tt dst with | _ => _) = _
  rw [h2]
  show (match evOp env x with | _ => _) = _
  rw [hx]
 rw [wrap_i64 l1 l2] at h
 exact pEv h
end
end Kin
end Go

namespace Go
open Go.RowKit
namespace Kin
section
variable {P : Program} {N : Nat} {c : Cx} {Q : Exit -> Act -> World -> Prop} {env : List (Nat × Value)} {mem : List (Nat × Obj)} {L l : List Oper} {o o' : Oper} {j d : Nat} {w : Bool} {p q : Prop} [Decidable p] [Decidable q] [Wide c.F] {t : Operand} {x y : Code}
theorem not_t (h : ¬ p) : (!decide p) = true := by rw [decide_eq_false h]; rfl
theorem not_f (h : p) : (!decide p) = false := by rw [decide_eq_true h]; rfl
theorem l_not_t (hg : o.guard = some (j, w)) (hj : nth L j = some o') (hd : o'.dst = some d) (hb : look env d = some (.bool (!decide p))) (h1 : ¬ p) (k : RunL P N c L (o :: l) Q ((d, .bool true) :: env) mem) : RunL P N c L (o :: l) Q env mem := l_bool hg hj hd hb (not_t h1) k
omit [Decidable q] in
theorem l_not_f (hg : o.guard = some (j, w)) (hj : nth L j = some o') (hd : o'.dst = some d) (hb : look env d = some (.bool (!decide p))) (h1 : p) (k : RunL P N c L (o :: l) Q ((d, .bool false) :: env) mem) : RunL P N c L (o :: l) Q env mem := l_bool hg hj hd hb (not_f h1) k
omit [Decidable q] in
end
section
variable {P : Program} {N : Nat} {c : Cx} {Q : Exit -> Act -> World -> Prop} {env env' : List (Nat × Value)} {mem mem' : List (Nat × Obj)} {x : Code}
/-- only some of what is known of the frame is kept -/
def keepOf (env : List (Nat × Value)) : List Nat -> Option (List (Nat × Value))
 | [] => some []
 | k :: ks => match look env k with
   | some v => match keepOf env ks with
     | some l => some ((k, v) :: l)
     | none => none
   | none => none
theorem keepOf_look : ∀ {ks : List Nat} {env' : List (Nat × Value)}, keepOf env ks = some env' -> ∀ s v, look env' s = some v -> look env s = some v
 | [], env', h, s, v, hs => by cases h; cases hs
 | k :: ks, env', h, s, v, hs => by
  simp only [keepOf] at h
  split at h
  ·rename_i u hu
   split at h
   ·rename_i l hl
    cases h
    rw [look_cons] at hs
    split at hs
    ·rename_i e; subst e; cases hs; exact hu
    ·exact keepOf_look hl s v hs
   ·cases h
  ·cases h
theorem c_keep (ks : List Nat) (h : keepOf env ks = some env') (k : RunC P N c x Q env' mem) : RunC P N c x Q env mem := .mk fun a W ha hm =>
 k.run a W ⟨ha.size, ha.defers, fun s v hs => ha.env _ _ (keepOf_look h s v hs)⟩ hm
end
end Kin
end Go

namespace Go
open Go.RowKit
namespace Kin
section
variable {P : Program} {N : Nat} {c : Cx} {Q : Exit -> Act -> World -> Prop} {env : List (Nat × Value)} {mem : List (Nat × Obj)} {L l : List Oper} {ch : List PanicEntry}
 {ty : TypeId} {pos : String} {af : Array Edge} {g : Option (Nat × Bool)} {dd : Option Tmp}

/-! ## Panics -/
section
variable [Wide c.F]
end
end

/-! ## The door: one deferred call is made -/
section
variable {P : Program} {N : Nat} {c : Cx} {env : List (Nat × Value)} {mem : List (Nat × Obj)} {tt : List (TypeId × TI)}
end
/-! ## Sums by a fact -/
section
variable {P : Program} {N : Nat} {c : Cx} [Wide c.F] {env : List (Nat × Value)} {mem : List (Nat × Obj)} {ty : TypeId} {pos : String} {af : Array Edge} {g : Option (Nat × Bool)} {dd : Option Tmp}
end
end Kin
end Go

namespace Go
open Go.RowKit
namespace Kin
section
variable {P : Program} {N : Nat} {c : Cx} {Q : Exit -> Act -> World -> Prop} {env : List (Nat × Value)} {mem : List (Nat × Obj)} {L l : List Oper} {tt : List (TypeId × TI)} [Wide c.F]
 {ty : TypeId} {pos : String} {af : Array Edge} {g : Option (Nat × Bool)} {dd : Option Tmp}

/-! ## Interfaces -/
end

/-! ## Tests that are opposites, split -/
section
variable {P : Program} {N : Nat} {c : Cx} {Q : Exit -> Act -> World -> Prop} {env : List (Nat × Value)} {mem : List (Nat × Obj)} {L l : List Oper} [Wide c.F] {p : Prop} [Decidable p]
end

/-! ## A deferred call that recovers -/
/-- what recover finds, and what it leaves -/
inductive Recov : FrameMode -> Value -> FrameMode -> Prop
 | none : Recov .returning .nilIface .returning
 | some (v : Value) (older : List PanicEntry) : Recov (.panicking ({ v, recovered := false } :: older)) v (.panicking ({ v, recovered := true } :: older))
section
variable {P : Program} {N : Nat} {env : List (Nat × Value)} {mem : List (Nat × Obj)} {tt : List (TypeId × TI)}
end
end Kin
end Go

namespace Go
open Go.RowKit
namespace Kin
section
variable {P : Program} {N : Nat} {c : Cx} {Q : Exit -> Act -> World -> Prop} {env : List (Nat × Value)} {L l : List Oper} {tl : List (Nat × Obj)} {fr : OM} {kt : Kt} {rd : List (Nat × Nat)} {d : Tmp} {dd : Option Tmp}
 {ty : TypeId} {pos : String} {af : Array Edge} {g : Option (Nat × Bool)} {tt : List (TypeId × TI)} {mem : List (Nat × Obj)}
/-- The operation appends to nil: what comes out are the elements `xs`, in a new block. -/
structure OpApp0 (P : Program) (N : Nat) (c : Cx) (env : List (Nat × Value)) (mem : List (Nat × Obj)) (o : Oper) (sz n : Nat) (xs : List Value) (e : TypeId) : Prop where
 plain : plainOp o.op = true
 run : ∀ a W, SatA N c.ds env a -> SatW c.w0 c.D c.J mem W -> ∃ cap rest, (execOp a.eval o).run P W = .ok (.value (.slice (some ⟨W.heap.size, 0, none⟩) n cap)) (W.drew.alloc (.cells ⟨xs ++ rest⟩ e (0, 0))) /\ Grow sz n xs cap rest
theorem e_app0 {k p sz n : Nat} {op : Op} {xs : List Value} {e : TypeId} {mem' : List (Nat × Obj)} (hw : wantB L env g = some true) (hd : Nat.blt d N = true) (hk : kdOf kt k = some (.app p none sz)) (hp : fr[p]? = some none) (h0 : 0 < sz)
  (hx : xs.length = n * sz) (hn : n <= maxLen) (hm : pickO (rowS (shOf kt) rd k) 0 fr tl some = some mem') (hv : OpApp0 P N c env mem' ⟨some d, op, ty, pos, af, g⟩ sz n xs e)
  (kk : ∀ b cap rest, Grow sz n xs cap rest -> RunE P N c L kt rd tl l (k + 1) Q ((d, .slice (some ⟨b, 0, none⟩) n cap) :: env) (fr.set p (some (b, .cells ⟨xs ++ rest⟩ e (0, 0))))) : RunE P N c L kt rd tl (⟨some d, op, ty, pos, af, g⟩ :: l) k Q env fr := .mk fun β a ha hr => by
 refine ⟨_, _, .app hk (wanted_of (o := ⟨some d, op, ty, pos, af, g⟩) hw ha) hv.1 hp h0 hx hn (fun q' h => by cases h) (e := e) (fun W hW => ?_), (kk (β k).b _ _ (growF_mk hx hn (β k).rest)).run β _ (ha.put hd _) hr⟩
 obtain ⟨m', h1, h2⟩ := pickO_eq (f := wrS (ancs .any L.toArray) (shOf kt) k) (fun p hp => rowS_ok hr hp) hm
 simp only [Option.some.injEq] at h2
 subst h2
 obtain ⟨cap, rest, g1, g2⟩ := hv.2 a W ha (hW.mono h1)
 exact ⟨_, cap, rest, _, g1, g2, World.alloc_heap_new W.drew _, .inr ⟨rfl, rfl⟩⟩
theorem a_append_nil [T : TT P tt] {t e m cx bx ox sz bt sz' bt' : Nat} {ke : TK} {z z' : Value} {x y : Operand} {ys : List Value}
  (hx : evOp env x = some (.slice none 0 0)) (hy : evOp env y = some (.slice (some ⟨bx, ox, none⟩) m cx)) (ht : look tt t = some ⟨.slice e, sz', bt', z'⟩) (hte : look tt e = some ⟨ke, sz, bt, z⟩) (hnews : News c mem bx ox ys)
  (hl : ys.length = m * sz) (hzl : Nat.beq (cellsL z).length sz = true) (h0 : 0 < m) (hb : m * bt <= 140737488355328) (hm : m <= maxLen) :
  OpApp0 P N c env mem ⟨dd, .call ⟨.builtin .append, ⟨[x, y]⟩, ⟨[t, t]⟩⟩, ty, pos, af, g⟩ sz m ys e := by
 have hu : P.underlying t = some (.slice e) := (TT.look (P := P) ht).1
 obtain ⟨_, inf, hi, hs, hbt, hz⟩ := TT.look (P := P) hte
 simp only at hs hz hbt
 have hzl := Nat.eq_of_beq_eq_true hzl
 refine ⟨rfl, fun a W ha hmm => ?_⟩
 have hr := run_append_nil (P := P) W t ty e inf z hu hi hz ⟨bx, ox, none⟩ m cx ys (by rw [hs]; exact hl) (fun j v hj => by rw [addr_add]; exact hnews.ok W hmm j v hj) h0 (by simp only [maxLen] at hm; omega) (by rw [hbt]; omega)
 have hge := grownCap_ge W m 0 e
 rw [show (ys.toArray ++ Builtin.zeroCells z.cells (grownCap W m 0 e - m)) = ⟨ys ++ (Builtin.zeroCells z.cells (grownCap W m 0 e - m)).toList⟩ by apply Array.ext'; simp] at hr
 refine ⟨grownCap W m 0 e, (Builtin.zeroCells z.cells (grownCap W m 0 e - m)).toList, p_append (ha.eval hx) (ha.eval hy) hr, hl, ?_, hge, grownCap_le_maxLen W m 0 e hm⟩
 rw [List.length_append, hl, zeroCells_len, cellsL_eq]
 show m * sz + (grownCap W m 0 e - m) * (cellsL z).length = _
 rw [hzl, <- Nat.add_mul]
 congr 1; omega
end
end Kin
end Go

namespace Go
open Go.RowKit
namespace Kin
section
variable {P : Program} {N : Nat} {c : Cx} {Q : Exit -> Act -> World -> Prop} {env : List (Nat × Value)} {mem mem' : List (Nat × Obj)} {x : Code}
/-- the blocks of a world but for some -/
def allBut (W : World) (ks : List Nat) : Nat -> Prop := fun b => b < W.heap.size /\ b ∉ ks
theorem satW_fresh {W : World} {m : List (Nat × Obj)} (hn : (m.map (·.1)).Nodup) (h : ∀ p ∈ m, W.heap[p.1]? = some p.2) : SatW W (allBut W (m.map (·.1))) noJ m W :=
 ⟨Same.refl _ _, fun _ hb => hb.1, hn, fun p hp => ⟨fun hb => hb.2 (List.mem_map.2 ⟨p, hp, rfl⟩), h p hp⟩, closed_noJ, trivial⟩
/-- from here on only some of the own blocks are written: the rest of the world stays as it is now -/
theorem c_freeze {F : Fence} {n : Nat} {ds : List Deferred} {w0 : World} {D : Nat -> Prop} {J : (Nat -> Prop) -> World -> Prop} (hM : MSub mem mem')
  (k : ∀ W, SatW w0 D J mem W -> RunC P N ⟨F, n, ds, W, allBut W (mem'.map (·.1)), noJ⟩ x Q env mem') : RunC P N ⟨F, n, ds, w0, D, J⟩ x Q env mem := .mk fun a W ha hm => by
 have h2 : SatW w0 D J mem' W := hm.mono hM.sub
 exact (k W hm).run a W ha (satW_fresh h2.nodup fun p hp => (h2.own p hp).2)
/-- the end of a round -/
structure BackW {ι : Type} (N : Nat) (I : ι -> Prop) (dd : ι -> List Deferred) (ws : ι -> World) (Ds : ι -> Nat -> Prop) (JJ : ι -> (Nat -> Prop) -> World -> Prop) (E : ι -> List (Nat × Value)) (M : ι -> List (Nat × Obj)) (μ : ι -> Nat) (i : ι) (a : Act) (W : World) : Prop where
 ex : ∃ j, I j /\ μ j < μ i /\ SatA N (dd j) (E j) a /\ SatW (ws j) (Ds j) (JJ j) (M j) W
theorem c_loopW {body : Code} {F : Fence} {n : Nat} {ds : List Deferred} {w0 : World} {D : Nat -> Prop} {J : (Nat -> Prop) -> World -> Prop} {ι : Type} (I : ι -> Prop) (dd : ι -> List Deferred) (ws : ι -> World) (Ds : ι -> Nat -> Prop) (JJ : ι -> (Nat -> Prop) -> World -> Prop) (E : ι -> List (Nat × Value)) (M : ι -> List (Nat × Obj)) (μ : ι -> Nat)
  (start : ∀ a W, SatA N ds env a -> SatW w0 D J mem W -> ∃ j, I j /\ SatA N (dd j) (E j) a /\ SatW (ws j) (Ds j) (JJ j) (M j) W)
  (round : ∀ i, I i -> RunC P N ⟨F, n, dd i, ws i, Ds i, JJ i⟩ body (Exit.then (BackW N I dd ws Ds JJ E M μ i) Q) (E i) (M i)) : RunC P N ⟨F, n, ds, w0, D, J⟩ (.loop body) Q env mem := .mk fun a W ha hm => by
 classical
 let p : Act -> World -> Nat -> Prop := fun a W n => ∃ j, I j /\ μ j = n /\ SatA N (dd j) (E j) a /\ SatW (ws j) (Ds j) (JJ j) (M j) W
 let ν : Act -> World -> Nat := fun a W => if h : ∃ n, p a W n then Classical.choose (least h) else 0
 have hν : ∀ a W, (h : ∃ n, p a W n) -> p a W (ν a W) /\ ∀ m, p a W m -> ν a W <= m := fun a W h => by
  show p a W (if h : ∃ n, p a W n then Classical.choose (least h) else 0) /\ ∀ m, p a W m -> (if h : ∃ n, p a W n then Classical.choose (least h) else 0) <= m
  rw [dif_pos h]; exact Classical.choose_spec (least h)
 obtain ⟨i0, g1, g2, g3⟩ := start a W ha hm
 refine wpIn_loop (fun a W => ∃ n, p a W n) ν ⟨_, i0, g1, rfl, g2, g3⟩ ?_
 intro a W hp
 obtain ⟨⟨j, h1, h2, h3, h4⟩, _⟩ := hν a W hp
 refine wpIn_mono ((round j h1).run a W h3 h4) ?_
 rintro e a' W' hq
 cases e with
 | normal =>
  obtain ⟨j', k1, k2, k3, k4⟩ := hq.ex
  have hp' : ∃ n, p a' W' n := ⟨_, j', k1, rfl, k3, k4⟩
  exact ⟨hp', by have := (hν a' W' hp').2 _ ⟨j', k1, rfl, k3, k4⟩; omega⟩
 | _ => exact hq
theorem x_backW {ι : Type} {I : ι -> Prop} {dd : ι -> List Deferred} {ws : ι -> World} {Ds : ι -> Nat -> Prop} {JJ : ι -> (Nat -> Prop) -> World -> Prop} {E : ι -> List (Nat × Value)} {M : ι -> List (Nat × Obj)} {μ : ι -> Nat} {i : ι} {Q' : Exit -> Act -> World -> Prop}
  (h : ∀ a W, SatA N c.ds env a -> SatW c.w0 c.D c.J mem W -> ∃ j, I j /\ μ j < μ i /\ SatA N (dd j) (E j) a /\ SatW (ws j) (Ds j) (JJ j) (M j) W) :
  RunX N c (Exit.then (BackW N I dd ws Ds JJ E M μ i) Q') .normal env mem := .mk fun a W ha hm => ⟨h a W ha hm⟩
/-- facts of the old ground hold on the new one -/
theorem Ext.move {w0 W : World} {D D' : Nat -> Prop} {b o : Nat} {cs : List Value} (h : Ext w0 D b o cs) (hS : Same D w0 W) (hD : ∀ k, D k -> D' k) : Ext W D' b o cs :=
 ⟨hD _ h.dom, fun i v hi => hS.cell (h.cell i v hi) h.dom⟩
end
end Kin
end Go

/- The engine: elements of arrays by value, slices of slices. Generic: no program is named here. -/
import Derived.Test.YtajnkdgbpffinaaGreatEng13
import Derived.Laws.Bits64b
import Derived.RecoverIn
import Derived.Laws.BitsLemmas
set_option linter.unusedSectionVars false
set_option linter.unusedVariables false
set_option linter.unusedSimpArgs false
namespace Go
open Go.RowKit
namespace Kin
section
variable {P : Program} {N : Nat} {c : Cx} {env : List (Nat × Value)} {mem : List (Nat × Obj)} {tt : List (TypeId × TI)} {ty : TypeId} {pos : String} {af : Array Edge} {g : Option (Nat × Bool)} {dd : Option Tmp}

/-- an array that is built by value, all of whose elements are given, in order -/
theorem v_buildA [T : TT P tt] {t e n sz bt sz' bt' : Nat} {ke : TK} {z z' : Value} {cs : List Value} {ps : List (Nat × Operand)} (ht : look tt t = some ⟨.array n e, sz', bt', z'⟩) (hte : look tt e = some ⟨ke, sz, bt, z⟩)
  (hn : Nat.beq (cellsL z').length (ps.length * sz) = true) (hv : rowsK env sz ps 0 some = some cs) :
  OpVal P N c env mem ⟨dd, .build t ⟨ps⟩, ty, pos, af, g⟩ (.agg ⟨cs⟩) := ⟨rfl, fun a W ha _ => by
 obtain ⟨hu, inf, hinf, _, _, hz⟩ := TT.look (P := P) ht
 have hu : P.underlying t = some (.array n e) := hu
 have hz2 : (zeroValue t).run P W = .ok z' W := by
  simp only [zeroValue, Sem.run_bind, run_info hinf, Result.andThen_ok, hz]; rfl
 obtain ⟨_, i', hi', hs', _, _⟩ := TT.look (P := P) hte
 simp only at hs'
 obtain ⟨cs', h1, h2, h3⟩ := rowsK_ok ha ps 0 _ _ hv
 simp only [Option.some.injEq] at h1
 subst h1
 have h4 := h3 [] (cellsL z') (by simp) (Nat.eq_of_beq_eq_true hn)
 rw [List.nil_append, List.nil_append] at h4
 have e3 : ((⟨ps⟩ : Array (Nat × Operand)).map fun (x : Nat × Operand) => (x.1, a.eval x.2)).toList = ps.map fun p => (p.1, a.eval p.2) := by simp
 simp only [execOp, Instr.build, Sem.run_bind, hz2, run_und hu, run_size hi', Result.andThen_ok, hs']
 rw [e3, cellsL_eq, h4]; rfl⟩

theorem min2_int (k k' : IntKind) (x y : Int) : Builtin.min2 (.int k x) (.int k' y) = pure (.int k (min x y)) := by
 have : (if y < x then y else x) = min x y := by omega
 rw [<- this]; rfl
theorem v_min3 {x y z : Operand} {k k2 k3 : IntKind} {m n o : Int} {ats : Array TypeId} (hx : evOp env x = some (.int k m)) (hy : evOp env y = some (.int k2 n)) (hz : evOp env z = some (.int k3 o)) :
  OpVal P N c env mem ⟨dd, .call ⟨.builtin .min, ⟨[x, y, z]⟩, ats⟩, ty, pos, af, g⟩ (.int k (min (min m n) o)) := ⟨rfl, fun a W ha _ => by
 simp only [execOp, resolve, List.map_toArray, List.map_cons, List.map_nil, ha.eval hx, ha.eval hy, ha.eval hz, Sem.run_bind]
 simp [invoke, builtin, Builtin.min_, min2_int, Sem.run, pure]⟩
/-- the end of a slice, from a number on -/
theorem v_sliceL [T : TT P tt] {t e n cap b o l sz bt sz' bt' : Nat} {x lo : Operand} {ke : TK} {z z' : Value} {k : IntKind} {i : Int} (hx : evOp env x = some (.slice (some ⟨b, o, none⟩) n cap)) (hl : evOp env lo = some (.int k i)) (ht : look tt t = some ⟨.slice e, sz', bt', z'⟩)
  (hte : look tt e = some ⟨ke, sz, bt, z⟩) (hil : i = l) (h1 : l <= n) (h2 : cap ≠ l) :
  OpVal P N c env mem ⟨dd, .slice t x (some lo) none none, ty, pos, af, g⟩ (.slice (some ⟨b, o + l * sz, none⟩) (n - l) (cap - l)) :=
 ⟨rfl, fun a W ha _ => by
  subst hil
  have hu : P.underlying t = some (.slice e) := (TT.look (P := P) ht).1
  obtain ⟨i', hi', hs'⟩ := (TT.look (P := P) hte).size
  have e1 : (⟨b, o, none⟩ : Addr).add (l * sz) = ⟨b, o + l * sz, none⟩ := by
   unfold Addr.add
   split
   ·rename_i h; simp [h]
   ·rfl
  simp only [execOp, ha.eval hx, Option.map_some, Option.map_none, ha.eval hl, Instr.sliceAt, Instr.slice, Instr.sliceBounds, Instr.sliceBound, asIntOf, Sem.run_bind, Sem.run_pure, Result.andThen_ok, run_und hu]
  rw [if_pos (⟨by omega, by omega⟩ : 0 <= ((l : Nat) : Int) /\ ((l : Nat) : Int) <= n)]
  simp only [Sem.run_bind, Sem.run_pure, Result.andThen_ok, run_size hi', hs', Int.toNat_natCast, if_neg h2, Option.map_some, e1]⟩

end
end Kin
end Go

namespace Go
open Go.RowKit
namespace Kin
section
variable {P : Program} {N : Nat} {c : Cx} {env : List (Nat × Value)} {mem : List (Nat × Obj)} {tt : List (TypeId × TI)} {ty : TypeId} {pos : String} {af : Array Edge} {g : Option (Nat × Bool)} {dd : Option Tmp} {t t' : TypeId} {x y : Operand} {m n : Nat}
theorem wrapU {n : Int} (h0 : 0 <= n) (h1 : n < 18446744073709551616) : IntKind.u64.wrap n = n := by rw [IntKind.wrap_u64]; omega
theorem v_ushl {k' : IntKind} (hx : evOp env x = some (.int .u64 m)) (hy : evOp env y = some (.int k' n)) (h : n <= 64) : OpVal P N c env mem ⟨dd, .binOp .shl t x y t', ty, pos, af, g⟩ (.int .u64 ((m * 2 ^ n % 18446744073709551616 : Nat) : Int)) :=
 ⟨rfl, fun a W ha _ => by
  have hmin : min n IntKind.u64.bits = n := by show min n 64 = n; omega
  have : (execOp a.eval ⟨dd, .binOp .shl t x y t', ty, pos, af, g⟩).run P W = .ok (.value (.int .u64 (IntKind.u64.wrap ((m : Int) * 2 ^ n)))) W := by
   simp [execOp, ha.eval hx, ha.eval hy, eqGuard, binOp, Op.shift, hmin, Sem.run, pure, bind, Sem.bind]
  rw [this, IntKind.wrap_u64]
  congr 3⟩
theorem v_ushr {k' : IntKind} (hx : evOp env x = some (.int .u64 m)) (hy : evOp env y = some (.int k' n)) (h : n <= 64) : OpVal P N c env mem ⟨dd, .binOp .shr t x y t', ty, pos, af, g⟩ (.int .u64 ((m / 2 ^ n : Nat) : Int)) :=
 ⟨rfl, fun a W ha _ => by
  have hmin : min n IntKind.u64.bits = n := by show min n 64 = n; omega
  have : (execOp a.eval ⟨dd, .binOp .shr t x y t', ty, pos, af, g⟩).run P W = .ok (.value (.int .u64 ((m : Int) / (2 ^ n)))) W := by
   simp [execOp, ha.eval hx, ha.eval hy, eqGuard, binOp, Op.shift, hmin, Sem.run, pure, bind, Sem.bind]
  rw [this]
  congr 3⟩
theorem v_uconv [Wide c.F] [T : TT P tt] {src dst : TypeId} {ti : TI} {sz bt : Nat} {z : Value} {k : IntKind} (h1 : look tt src = some ti) (h2 : look tt dst = some ⟨.int .u64, sz, bt, z⟩) (hx : evOp env x = some (.int k m)) (hm : m < 18446744073709551616) :
  OpVal P N c env mem ⟨dd, .convert src dst x, ty, pos, af, g⟩ (.int .u64 (m : Int)) := by
 have h : pureEval tt env (.convert src dst x) = some (.int .u64 (IntKind.u64.wrap (m : Int))) := by
  show (match look tt src with | some _ => _ | none => _) = _
  rw [h1]
  show (match look tt dst with | _ => _) = _
  rw [h2]
  show (match evOp env x with | _ => _) = _
  rw [hx]
 rw [wrapU (by omega) (by omega)] at h
 exact pEv h
end
end Kin
end Go

namespace Go
open Go.RowKit
namespace Kin
section
variable {P : Program} {N : Nat} {c : Cx} {env : List (Nat × Value)} {mem : List (Nat × Obj)} {tt : List (TypeId × TI)} {ty : TypeId} {pos : String} {af : Array Edge} {g : Option (Nat × Bool)} {dd : Option Tmp} {t t' : TypeId} {x y : Operand}
theorem v_iconv [Wide c.F] [T : TT P tt] {src dst : TypeId} {ti : TI} {sz bt : Nat} {z : Value} {k : IntKind} {m : Int} (h1 : look tt src = some ti) (h2 : look tt dst = some ⟨.int .i64, sz, bt, z⟩) (hx : evOp env x = some (.int k m)) (l1 : -9223372036854775808 <= m) (l2 : m <= 9223372036854775807) :
  OpVal P N c env mem ⟨dd, .convert src dst x, ty, pos, af, g⟩ (.int .i64 m) := by
 have h : pureEval tt env (.convert src dst x) = some (.int .i64 (IntKind.i64.wrap m)) := by
  show (match look tt src with | some _ => _ | none => _) = _
  rw [h1]
  show (match look tt dst with | _ => _) = _
  rw [h2]
  show (match evOp env x with | _ => _) = _
  rw [hx]
 rw [wrap_i64 l1 l2] at h
 exact pEv h
end
end Kin
end Go

namespace Go
open Go.RowKit
namespace Kin
section
variable {P : Program} {N : Nat} {c : Cx} {Q : Exit -> Act -> World -> Prop} {env : List (Nat × Value)} {mem : List (Nat × Obj)} {L l : List Oper} {o o' : Oper} {j d : Nat} {w : Bool} {p q : Prop} [Decidable p] [Decidable q] [Wide c.F] {t : Operand} {x y : Code}
end
section
variable {P : Program} {N : Nat} {c : Cx} {Q : Exit -> Act -> World -> Prop} {env env' : List (Nat × Value)} {mem mem' : List (Nat × Obj)} {x : Code}
/-- only some of what is known of the frame is kept -/
def keepOf (env : List (Nat × Value)) : List Nat -> Option (List (Nat × Value))
 | [] => some []
 | k :: ks => match look env k with
   | some v => match keepOf env ks with
     | some l => some ((k, v) :: l)
     | none => none
   | none => none
theorem keepOf_look : ∀ {ks : List Nat} {env' : List (Nat × Value)}, keepOf env ks = some env' -> ∀ s v, look env' s = some v -> look env s = some v
 | [], env', h, s, v, hs => by cases h; cases hs
 | k :: ks, env', h, s, v, hs => by
  simp only [keepOf] at h
  split at h
  ·rename_i u hu
   split at h
   ·rename_i l hl
    cases h
    rw [look_cons] at hs
    split at hs
    ·rename_i e; subst e; cases hs; exact hu
    ·exact keepOf_look hl s v hs
   ·cases h
  ·cases h
theorem c_keep (ks : List Nat) (h : keepOf env ks = some env') (k : RunC P N c x Q env' mem) : RunC P N c x Q env mem := .mk fun a W ha hm =>
 k.run a W ⟨ha.size, ha.defers, fun s v hs => ha.env _ _ (keepOf_look h s v hs)⟩ hm
theorem c_drop (h : MSub mem mem') (k : RunC P N c x Q env mem') : RunC P N c x Q env mem := .mk fun a W ha hm => k.run a W ha (hm.mono h.sub)
end
end Kin
end Go

namespace Go
open Go.RowKit
namespace Kin
section
variable {P : Program} {N : Nat} {c : Cx} {Q : Exit -> Act -> World -> Prop} {env : List (Nat × Value)} {mem : List (Nat × Obj)} {L l : List Oper} {ch : List PanicEntry}
 {ty : TypeId} {pos : String} {af : Array Edge} {g : Option (Nat × Bool)} {dd : Option Tmp}

/-! ## Panics -/
section
variable [Wide c.F]
end
end

/-! ## The door: one deferred call is made -/
section
variable {P : Program} {N : Nat} {c : Cx} {env : List (Nat × Value)} {mem : List (Nat × Obj)} {tt : List (TypeId × TI)}
end
/-! ## Sums by a fact -/
section
variable {P : Program} {N : Nat} {c : Cx} [Wide c.F] {env : List (Nat × Value)} {mem : List (Nat × Obj)} {ty : TypeId} {pos : String} {af : Array Edge} {g : Option (Nat × Bool)} {dd : Option Tmp}
theorem v_subQ {t t' : TypeId} {x y : Operand} {m n q : Int} (hx : evOp env x = some (.int .i64 m)) (hy : evOp env y = some (.int .i64 n)) (hq : m - n = q) (h1 : -9223372036854775808 <= q) (h2 : q <= 9223372036854775807) :
  OpVal P N c env mem ⟨dd, .binOp .sub t x y t', ty, pos, af, g⟩ (.int .i64 q) := by subst hq; exact v_sub hx hy h1 h2
end
end Kin
end Go

namespace Go
open Go.RowKit
namespace Kin
section
variable {P : Program} {N : Nat} {c : Cx} {Q : Exit -> Act -> World -> Prop} {env : List (Nat × Value)} {mem : List (Nat × Obj)} {L l : List Oper} {tt : List (TypeId × TI)} [Wide c.F]
 {ty : TypeId} {pos : String} {af : Array Edge} {g : Option (Nat × Bool)} {dd : Option Tmp}

/-! ## Interfaces -/
end

/-! ## Tests that are opposites, split -/
section
variable {P : Program} {N : Nat} {c : Cx} {Q : Exit -> Act -> World -> Prop} {env : List (Nat × Value)} {mem : List (Nat × Obj)} {L l : List Oper} [Wide c.F] {p : Prop} [Decidable p]
end

/-! ## A deferred call that recovers -/
/-- what recover finds, and what it leaves -/
inductive Recov : FrameMode -> Value -> FrameMode -> Prop
 | none : Recov .returning .nilIface .returning
 | some (v : Value) (older : List PanicEntry) : Recov (.panicking ({ v, recovered := false } :: older)) v (.panicking ({ v, recovered := true } :: older))
section
variable {P : Program} {N : Nat} {env : List (Nat × Value)} {mem : List (Nat × Obj)} {tt : List (TypeId × TI)}
end
end Kin
end Go

namespace Go
open Go.RowKit
namespace Kin
section
variable {P : Program} {N : Nat} {c : Cx} {Q : Exit -> Act -> World -> Prop} {env : List (Nat × Value)} {L l : List Oper} {tl : List (Nat × Obj)} {fr : OM} {kt : Kt} {rd : List (Nat × Nat)} {d : Tmp} {dd : Option Tmp}
 {ty : TypeId} {pos : String} {af : Array Edge} {g : Option (Nat × Bool)} {tt : List (TypeId × TI)} {mem : List (Nat × Obj)}
end
end Kin
end Go

namespace Go
open Go.RowKit
namespace Kin
section
variable {P : Program} {N : Nat} {c : Cx} {Q : Exit -> Act -> World -> Prop} {env : List (Nat × Value)} {mem mem' : List (Nat × Obj)} {x : Code}
/-- the blocks of a world but for some -/
def allBut (W : World) (ks : List Nat) : Nat -> Prop := fun b => b < W.heap.size /\ b ∉ ks
theorem satW_fresh {W : World} {m : List (Nat × Obj)} (hn : (m.map (·.1)).Nodup) (h : ∀ p ∈ m, W.heap[p.1]? = some p.2) : SatW W (allBut W (m.map (·.1))) noJ m W :=
 ⟨Same.refl _ _, fun _ hb => hb.1, hn, fun p hp => ⟨fun hb => hb.2 (List.mem_map.2 ⟨p, hp, rfl⟩), h p hp⟩, closed_noJ, trivial⟩
/-- from here on only some of the own blocks are written: the rest of the world stays as it is now -/
theorem c_freeze {F : Fence} {n : Nat} {ds : List Deferred} {w0 : World} {D : Nat -> Prop} {J : (Nat -> Prop) -> World -> Prop} (hM : MSub mem mem')
  (k : ∀ W, SatW w0 D J mem W -> RunC P N ⟨F, n, ds, W, allBut W (mem'.map (·.1)), noJ⟩ x Q env mem') : RunC P N ⟨F, n, ds, w0, D, J⟩ x Q env mem := .mk fun a W ha hm => by
 have h2 : SatW w0 D J mem' W := hm.mono hM.sub
 exact (k W hm).run a W ha (satW_fresh h2.nodup fun p hp => (h2.own p hp).2)
/-- facts of the old ground hold on the new one -/
theorem Ext.move {w0 W : World} {D D' : Nat -> Prop} {b o : Nat} {cs : List Value} (h : Ext w0 D b o cs) (hS : Same D w0 W) (hD : ∀ k, D k -> D' k) : Ext W D' b o cs :=
 ⟨hD _ h.dom, fun i v hi => hS.cell (h.cell i v hi) h.dom⟩
end
end Kin
end Go

namespace Go
open Go.RowKit
namespace Kin
section
variable {P : Program} {N : Nat} {c : Cx} {Q : Exit -> Act -> World -> Prop} {env : List (Nat × Value)} {mem : List (Nat × Obj)} {L l : List Oper} {tt : List (TypeId × TI)}
 {ty : TypeId} {pos : String} {af : Array Edge} {g : Option (Nat × Bool)} {dd : Option Tmp} {t t' : TypeId} {x y : Operand}
/-! ## Bits -/
theorem v_shlA {k' : IntKind} {m r : Int} {n : Nat} (hx : evOp env x = some (.int .i64 m)) (hy : evOp env y = some (.int k' n)) (h : n <= 64) (hr : IntKind.i64.wrap (m * 2 ^ n) = r) : OpVal P N c env mem ⟨dd, .binOp .shl t x y t', ty, pos, af, g⟩ (.int .i64 r) :=
 ⟨rfl, fun a W ha _ => by
  have hmin : min n IntKind.i64.bits = n := by show min n 64 = n; omega
  have : (execOp a.eval ⟨dd, .binOp .shl t x y t', ty, pos, af, g⟩).run P W = .ok (.value (.int .i64 (IntKind.i64.wrap (m * 2 ^ n)))) W := by
   simp [execOp, ha.eval hx, ha.eval hy, eqGuard, binOp, Op.shift, hmin, Sem.run, pure, bind, Sem.bind]
  rw [this, hr]⟩
theorem v_shrA {k' : IntKind} {m r : Int} {n : Nat} (hx : evOp env x = some (.int .i64 m)) (hy : evOp env y = some (.int k' n)) (h : n <= 64) (hr : m / 2 ^ n = r) : OpVal P N c env mem ⟨dd, .binOp .shr t x y t', ty, pos, af, g⟩ (.int .i64 r) :=
 ⟨rfl, fun a W ha _ => by
  have hs : Op.shift .shr .i64 m k' n = pure (.int .i64 (m / 2 ^ n)) := by
   have := shift_shr .i64 k' m n (Int.natCast_nonneg n) (by show (n : Int) <= ((64 : Nat) : Int); omega)
   rwa [Int.toNat_natCast] at this
  have : (execOp a.eval ⟨dd, .binOp .shr t x y t', ty, pos, af, g⟩).run P W = .ok (.value (.int .i64 (m / 2 ^ n))) W := by
   simp [execOp, ha.eval hx, ha.eval hy, eqGuard, binOp, hs, Sem.run, pure, bind, Sem.bind]
  rw [this, hr]⟩
theorem v_andA {m n r : Int} (hx : evOp env x = some (.int .i64 m)) (hy : evOp env y = some (.int .i64 n)) (hr : bits .and .i64 m n = r) : OpVal P N c env mem ⟨dd, .binOp .and t x y t', ty, pos, af, g⟩ (.int .i64 r) :=
 ⟨rfl, fun a W ha _ => by
  have : (execOp a.eval ⟨dd, .binOp .and t x y t', ty, pos, af, g⟩).run P W = .ok (.value (.int .i64 (bits .and .i64 m n))) W := by
   simp only [execOp, ha.eval hx, ha.eval hy, eqGuard, binOp]; rfl
  rw [this, hr]⟩
theorem v_orA {m n r : Int} (hx : evOp env x = some (.int .i64 m)) (hy : evOp env y = some (.int .i64 n)) (hr : bits .or .i64 m n = r) : OpVal P N c env mem ⟨dd, .binOp .or t x y t', ty, pos, af, g⟩ (.int .i64 r) :=
 ⟨rfl, fun a W ha _ => by
  have : (execOp a.eval ⟨dd, .binOp .or t x y t', ty, pos, af, g⟩).run P W = .ok (.value (.int .i64 (bits .or .i64 m n))) W := by
   simp only [execOp, ha.eval hx, ha.eval hy, eqGuard, binOp]; rfl
  rw [this, hr]⟩
theorem wraps_i64 (n : Int) (h0 : 0 <= n) (h1 : n < 2 ^ 63) : IntKind.i64.wrap n = n := by rw [IntKind.wrap_i64]; omega
/-- the low bits of any number -/
theorem and_low (n : Int) (i : Nat) (hi : i <= 62) : bits .and .i64 n (2 ^ i - 1) = n % 2 ^ i := by
 have hpos : 0 < 2 ^ i := Nat.two_pow_pos i
 have hc : ((2 : Int) ^ i - 1) = ((2 ^ i - 1 : Nat) : Int) := by rw [Int.natCast_sub hpos]; simp
 have hle : 2 ^ i <= 2 ^ 62 := Nat.pow_le_pow_right (by decide) hi
 have hm : (BitVec.ofInt 64 ((2 : Int) ^ i - 1)).toNat = 2 ^ i - 1 := by
  rw [hc, BitVec.ofInt_natCast, BitVec.toNat_ofNat]
  exact Nat.mod_eq_of_lt (by omega)
 have key : (BitVec.ofInt 64 n &&& BitVec.ofInt 64 ((2 : Int) ^ i - 1)).toNat = (n % ((2 ^ 64 : Nat) : Int)).toNat % 2 ^ i := by
  rw [BitVec.toNat_and, BitVec.toNat_ofInt, hm, Nat.and_two_pow_sub_one_eq_mod]
 show IntKind.i64.wrap ((BitVec.ofInt 64 n &&& BitVec.ofInt 64 ((2 : Int) ^ i - 1)).toNat : Nat) = n % 2 ^ i
 rw [key]
 have h1 : (((n % ((2 ^ 64 : Nat) : Int)).toNat % 2 ^ i : Nat) : Int) = n % 2 ^ i := by
  have hn := Int.emod_nonneg n (show ((2 ^ 64 : Nat) : Int) ≠ 0 by decide)
  rw [Int.natCast_emod, Int.toNat_of_nonneg hn]
  have hd : (((2 ^ i : Nat) : Int)) ∣ ((2 ^ 64 : Nat) : Int) := by
   refine Int.natCast_dvd_natCast.2 ?_
   exact Nat.pow_dvd_pow 2 (by omega)
  rw [Int.emod_emod_of_dvd _ hd]
  simp
 rw [h1]
 have hb : (2 : Int) ^ i <= 2 ^ 62 := by exact_mod_cast hle
 have hp : (0 : Int) < 2 ^ i := by exact_mod_cast hpos
 have h2 := Int.emod_nonneg n (show (2 : Int) ^ i ≠ 0 by omega)
 have h3 := Int.emod_lt_of_pos n hp
 have h4 : (2 : Int) ^ 62 < 2 ^ 63 := by decide
 exact wraps_i64 _ h2 (by omega)
/-- a digit behind others -/
theorem or_join (x y : Int) (i : Nat) (hx : 0 <= x) (hy : 0 <= y) (hy1 : y < 2 ^ i) (h : x * 2 ^ i < 2 ^ 63) (h2 : (2 : Int) ^ i <= 2 ^ 62) : bits .or .i64 (x * 2 ^ i) y = x * 2 ^ i + y := by
 have hp : (0 : Int) < 2 ^ i := by
  have : 0 < 2 ^ i := Nat.two_pow_pos i
  exact_mod_cast this
 have h4 : (2 : Int) ^ 62 < 2 ^ 63 := by decide
 exact bits_join .i64 63 (by decide) wraps_i64 i _ y (Int.mul_nonneg hx (by omega)) (Int.mul_emod_left _ _) h hy hy1 (by omega)

/-! ## Calls that keep a word -/
theorem q_callJ [Wide c.F] {f : FuncId} [Ent P f] {d : Nat} {args : List Operand} {ats : Array TypeId} {vs : List Value} {v : Value} (hw : wantB L env g = some true) (hd : Nat.blt d N = true) (ha : evOps env args some = some vs)
  (hc : ∀ W, SatW c.w0 c.D c.J mem W -> Calls P f ⟨vs⟩ W fun e W' => e = .returned v /\ SatW c.w0 c.D c.J mem W')
  (k : RunQ P N c L l Q ((d, v) :: env) mem) : RunQ P N c L (⟨some d, .call ⟨.value (.func f), ⟨args⟩, ats⟩, ty, pos, af, g⟩ :: l) Q env mem :=
 q_run (v := v) hw (fun a hA W hm => by
  have h1 := hA.evals ha
  simp only [Option.some.injEq] at h1
  unfold Oper.quietAt
  rw [p_call, h1]
  exact ⟨rfl, (hc W hm).mono fun _ W' ⟨h2, h3⟩ => ⟨h2, h3⟩⟩) (fun a hA => k.run _ (hA.put hd v))
theorem q_callvJ [Wide c.F] {f : FuncId} [Ent P f] {d : Nat} {args : List Operand} {ats : Array TypeId} {vs fs cs ws : List Value} {v : Value} (hw : wantB L env g = some true) (hd : Nat.blt d N = true)
  (hx : evOp env x = some (.func (.func f) ⟨fs⟩ ⟨cs⟩)) (ha : evOps env args some = some vs) (hws : fs ++ vs ++ cs = ws)
  (hc : ∀ W, SatW c.w0 c.D c.J mem W -> Calls P f ⟨ws⟩ W fun e W' => e = .returned v /\ SatW c.w0 c.D c.J mem W')
  (k : RunQ P N c L l Q ((d, v) :: env) mem) : RunQ P N c L (⟨some d, .call ⟨.value x, ⟨args⟩, ats⟩, ty, pos, af, g⟩ :: l) Q env mem :=
 q_run (v := v) hw (fun a hA W hm => by
  subst hws
  have h1 := hA.evals ha
  simp only [Option.some.injEq] at h1
  unfold Oper.quietAt
  rw [p_callv (hA.eval hx), h1]
  exact ⟨rfl, (hc W hm).mono fun _ W' ⟨h2, h3⟩ => ⟨h2, h3⟩⟩) (fun a hA => k.run _ (hA.put hd v))
/-- a call of a closure that writes one block -/
theorem r_callvu [Wide c.F] {f : FuncId} [Ent P f] {d : Nat} {args : List Operand} {ats : Array TypeId} {vs fs cs ws : List Value} {v : Value} {b : Nat} {o o' : Obj} {mem' : List (Nat × Obj)} (hw : wantB L env g = some true) (hd : Nat.blt d N = true)
  (hx : evOp env x = some (.func (.func f) ⟨fs⟩ ⟨cs⟩)) (ha : evOps env args some = some vs) (hws : fs ++ vs ++ cs = ws) (hu : Upd mem b o o' mem')
  (hc : ∀ W, SatW c.w0 c.D c.J mem W -> W.heap[b]? = some o -> Calls P f ⟨ws⟩ W fun e W' => e = .returned v /\ Same (fun k => k ≠ b) W W' /\ W'.heap[b]? = some o') (hin : (b, o) ∈ mem)
  (k : RunL P N c L l Q ((d, v) :: env) mem') : RunL P N c L (⟨some d, .call ⟨.value x, ⟨args⟩, ats⟩, ty, pos, af, g⟩ :: l) Q env mem :=
 l_callv (ι := Unit) (v := fun _ => v) (mem' := fun _ => mem') hw hd hx ha hws (fun W hm => (hc W hm (hm.own _ hin).2).mono fun _ W' ⟨h1, h2, h3⟩ => ⟨(), h1, hm.upd hu h2 h3⟩) fun _ => k
end
end Kin
end Go

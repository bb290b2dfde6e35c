/- The engine: lists that grow, nil at first; the end of a slice that has no room left. Generic: no program is named here. -/
import Derived.Test.YtajnkdgbpffinaaGreatEng29
import Derived.Sort.Grow
set_option linter.unusedSectionVars false
set_option linter.unusedVariables false
set_option linter.unusedSimpArgs false
namespace Go
open Go.RowKit
namespace Kin
section
variable {P : Program} {N : Nat} {c : Cx} {Q : Exit -> Act -> World -> Prop} {env : List (Nat × Value)} {mem mem' : List (Nat × Obj)} {L l : List Oper} {tt : List (TypeId × TI)} [Wide c.F]
 {ty : TypeId} {pos : String} {af : Array Edge} {g : Option (Nat × Bool)} {dd : Option Tmp} {α : Type}
/-- the end of a slice whose room ends there -/
theorem v_sliceE [T : TT P tt] {t e n cap k0 sz bt sz' bt' : Nat} {A : Option Addr} {x lo : Operand} {ke : TK} {z z' : Value} {k : IntKind} {i : Int} (hx : evOp env x = some (.slice A n cap)) (hl : evOp env lo = some (.int k i)) (ht : look tt t = some ⟨.slice e, sz', bt', z'⟩)
  (hte : look tt e = some ⟨ke, sz, bt, z⟩) (hil : i = k0) (h1 : k0 <= n) (h2 : cap = k0) :
  OpVal P N c env mem ⟨dd, .slice t x (some lo) none none, ty, pos, af, g⟩ (.slice A (n - k0) 0) :=
 ⟨rfl, fun a W ha _ => by
  subst hil
  subst h2
  have hu : P.underlying t = some (.slice e) := (TT.look (P := P) ht).1
  obtain ⟨i', hi', hs'⟩ := (TT.look (P := P) hte).size
  simp only [execOp, ha.eval hx, Option.map_some, Option.map_none, ha.eval hl, Instr.sliceAt, Instr.slice, Instr.sliceBounds, Instr.sliceBound, asIntOf, Sem.run_bind, Sem.run_pure, Result.andThen_ok, run_und hu]
  rw [if_pos (⟨by omega, by omega⟩ : 0 <= ((cap : Nat) : Int) /\ ((cap : Nat) : Int) <= n)]
  simp only [Sem.run_bind, Sem.run_pure, Result.andThen_ok, run_size hi', hs', Int.toNat_natCast, if_pos, Nat.sub_self]⟩
/-- a list as a slice, nil when it is empty -/
def gSl (l : List α) (b cap : Nat) : Value := match l with
 | [] => .slice none 0 0
 | _ :: _ => .slice (some ⟨b, 0, none⟩) l.length cap
/-- its block -/
def gM (f : α -> List Value) (T : TypeId) (l : List α) (b : Nat) (rest : List Value) : List (Nat × Obj) := match l with
 | [] => []
 | _ :: _ => [(b, .cells ⟨(l.map f).flatten ++ rest⟩ T (0, 0))]
def gOK (f : α -> List Value) (sz : Nat) (l : List α) (cap : Nat) (rest : List Value) : Prop := l ≠ [] -> Grow sz l.length ((l.map f).flatten) cap rest
theorem gSl_len {l : List α} {b cap : Nat} : ∃ A c, gSl l b cap = .slice A l.length c := by
 cases l with
 | nil => exact ⟨none, 0, rfl⟩
 | cons x l => exact ⟨_, cap, rfl⟩
/-- appending to it whatever there is -/
theorem r_appendZ [T : TT P tt] {d t e m cx sz bt sz' bt' b cap : Nat} {A : Option Addr} {ke : TK} {z z' : Value} {x y : Operand} {f : α -> List Value} {xs ys : List α} {rest : List Value} {mem0 : List (Nat × Obj)} (hw : wantB L env g = some true) (hd : Nat.blt d N = true)
  (hx : evOp env x = some (gSl xs b cap)) (hy : evOp env y = some (.slice A m cx)) (ht : look tt t = some ⟨.slice e, sz', bt', z'⟩) (hte : look tt e = some ⟨ke, sz, bt, z⟩) (hm0 : m = ys.length) (hnews : NewsG c mem A m ((ys.map f).flatten))
  (hmem : mem.Perm (gM f e xs b rest ++ mem0)) (hg : gOK f sz xs cap rest)
  (hl : ∀ zs : List α, ((zs.map f).flatten).length = zs.length * sz) (hone : allOne ((ys.map f).flatten) = true) (hzl : Nat.beq (cellsL z).length sz = true) (hb : (xs.length + m) * bt <= 140737488355328) (hm : xs.length + m <= maxLen)
  (k : ∀ b cap rest, gOK f sz (xs ++ ys) cap rest -> RunL P N c L l Q ((d, gSl (xs ++ ys) b cap) :: env) (gM f e (xs ++ ys) b rest ++ mem0)) :
  RunL P N c L (⟨some d, .call ⟨.builtin .append, ⟨[x, y]⟩, ⟨[t, t]⟩⟩, ty, pos, af, g⟩ :: l) Q env mem := by
 cases xs with
 | nil =>
  have hp : mem.Perm mem0 := hmem
  cases ys with
  | nil =>
   have hm1 : m = 0 := hm0
   subst hm1
   refine lVa hw hd (v_append0 hx hy ht hte (Nat.le_refl _)) (l_perm hp ?_)
   exact k 0 0 [] (fun h => absurd rfl h)
  | cons y0 ys =>
   rcases hnews with ⟨h, _⟩ | ⟨bx, ox, rfl, hn⟩
   ·rw [h] at hm0; cases hm0
   ·subst hm0
    refine r_append_nil hw hd hx hy ht hte hn (hl _) hzl (by simp) (by simpa using hb) (by simpa using hm) (fun b' c' r' hg' => ?_)
    refine l_perm (hp.cons _) ?_
    exact k b' c' r' (fun _ => hg')
 | cons x0 xs =>
  have hgr := hg (by simp)
  have hr : mem.Perm ((b, .cells ⟨((x0 :: xs).map f).flatten ++ rest⟩ e (0, 0)) :: mem0) := hmem
  refine l_perm hr ?_
  have hn2 : NewsG c ((b, .cells ⟨((x0 :: xs).map f).flatten ++ rest⟩ e (0, 0)) :: mem0) A m ((ys.map f).flatten) := by
   rcases hnews with h | ⟨bx, ox, h, hn⟩
   ·exact .inl h
   ·exact .inr ⟨bx, ox, h, ⟨fun W hW => hn.ok W (hW.perm hr.symm)⟩⟩
  refine r_appendG (xs := ((x0 :: xs).map f).flatten) (rest := rest) (ys := (ys.map f).flatten) hw hd hx hy ht hte hn2 Rem.head hgr (by rw [hl, hm0]) hone hzl hb hm (fun b' c' r' hg' => ?_)
  have he : ((x0 :: xs).map f).flatten ++ (ys.map f).flatten = (((x0 :: xs) ++ ys).map f).flatten := by rw [List.map_append, List.flatten_append]
  rw [he] at hg' ⊢
  have hlen : (x0 :: xs).length + m = ((x0 :: xs) ++ ys).length := by rw [List.length_append, hm0]
  rw [hlen] at hg' ⊢
  exact k b' c' r' (fun _ => hg')
end
end Kin
end Go

namespace Go
open Go.RowKit
namespace Kin
section
variable {P : Program} {N : Nat} {c : Cx} {Q : Exit -> Act -> World -> Prop} {env : List (Nat × Value)} {mem mem' : List (Nat × Obj)} {L l : List Oper} {tt : List (TypeId × TI)} [Wide c.F]
 {ty : TypeId} {pos : String} {af : Array Edge} {g : Option (Nat × Bool)} {dd : Option Tmp} {α : Type}
variable {ι : Type}
end
end Kin
end Go

namespace Go
open Go.RowKit
namespace Kin
section
variable {P : Program} {N : Nat} {c : Cx} {Q : Exit -> Act -> World -> Prop} {env : List (Nat × Value)} {mem mem' : List (Nat × Obj)} {L l : List Oper} {tt : List (TypeId × TI)} [Wide c.F]
 {t ty : TypeId} {pos : String} {af : Array Edge} {g : Option (Nat × Bool)} {dd : Option Tmp} {x y : Operand}
end
end Kin
end Go

namespace Go
open Go.RowKit
namespace Kin
section
variable {P : Program} {N : Nat} {c : Cx} {Q : Exit -> Act -> World -> Prop} {env : List (Nat × Value)} {mem : List (Nat × Obj)}

end
end Kin
end Go

namespace Go
open Go.RowKit
namespace Kin
section
variable {P : Program} {N : Nat} {c : Cx} {Q : Exit -> Act -> World -> Prop} {env : List (Nat × Value)} {mem : List (Nat × Obj)} {L l : List Oper} {tt : List (TypeId × TI)}
 {ty : TypeId} {pos : String} {af : Array Edge} {g : Option (Nat × Bool)} {dd : Option Tmp}
/-! ## A map whose entries are of a kind, as a word -/
/-! ## A map that is known -/
end
end Kin
end Go

namespace Go
open Go.RowKit
namespace Kin
section
variable {P : Program} {N : Nat} {c : Cx} {Q : Exit -> Act -> World -> Prop} {env : List (Nat × Value)} {mem mem' : List (Nat × Obj)} {L l : List Oper} {tt : List (TypeId × TI)}
 {ty : TypeId} {pos : String} {af : Array Edge} {g : Option (Nat × Bool)} {dd : Option Tmp}
/-- the first elements of an array -/
theorem v_sliceArr [T : TT P tt] {t e n b o h sz bt sz' bt' : Nat} {x hi : Operand} {ke : TK} {z z' : Value} {k : IntKind} {i : Int} (hx : evOp env x = some (.pointer (some ⟨b, o, none⟩))) (hl : evOp env hi = some (.int k i)) (ht : look tt t = some ⟨.array n e, sz', bt', z'⟩)
  (hte : look tt e = some ⟨ke, sz, bt, z⟩) (hil : i = h) (h1 : h <= n) :
  OpVal P N c env mem ⟨dd, .slice t x none (some hi) none, ty, pos, af, g⟩ (.slice (some ⟨b, o, none⟩) h n) :=
 ⟨rfl, fun a W ha _ => by
  subst hil
  have hu : P.underlying t = some (.array n e) := (TT.look (P := P) ht).1
  obtain ⟨i', hi', hs'⟩ := (TT.look (P := P) hte).size
  simp only [execOp, ha.eval hx, Option.map_some, Option.map_none, ha.eval hl, Instr.sliceAt, Instr.sureAddr, Instr.sliceBounds, Instr.sliceBound, asIntOf, Sem.run_bind, Sem.run_pure, Result.andThen_ok, run_und hu]
  rw [if_pos (⟨by omega, by omega⟩ : 0 <= ((h : Nat) : Int) /\ ((h : Nat) : Int) <= n)]
  simp only [Sem.run_bind, Sem.run_pure, Result.andThen_ok, run_size hi', hs', Int.toNat_natCast, Nat.zero_mul, addr_add, Nat.add_zero, Nat.sub_zero, ite_self]⟩
/-- the first elements of a slice -/
theorem v_sliceH [T : TT P tt] {t e n cap h sz bt sz' bt' : Nat} {A : Option Addr} {x hi : Operand} {ke : TK} {z z' : Value} {k : IntKind} {i : Int} (hx : evOp env x = some (.slice A n cap)) (hl : evOp env hi = some (.int k i)) (ht : look tt t = some ⟨.slice e, sz', bt', z'⟩)
  (hte : look tt e = some ⟨ke, sz, bt, z⟩) (hil : i = h) (h1 : h <= cap) :
  OpVal P N c env mem ⟨dd, .slice t x none (some hi) none, ty, pos, af, g⟩ (.slice A h cap) :=
 ⟨rfl, fun a W ha _ => by
  subst hil
  have hu : P.underlying t = some (.slice e) := (TT.look (P := P) ht).1
  obtain ⟨i', hi', hs'⟩ := (TT.look (P := P) hte).size
  simp only [execOp, ha.eval hx, Option.map_some, Option.map_none, ha.eval hl, Instr.sliceAt, Instr.slice, Instr.sliceBounds, Instr.sliceBound, asIntOf, Sem.run_bind, Sem.run_pure, Result.andThen_ok, run_und hu]
  rw [if_pos (⟨by omega, by omega⟩ : 0 <= ((h : Nat) : Int) /\ ((h : Nat) : Int) <= cap)]
  have e1 : A.map (fun x : Addr => x.add (0 * i'.size)) = A := by
   cases A with
   | none => rfl
   | some a => simp [Addr.add]
  simp only [Sem.run_bind, Sem.run_pure, Result.andThen_ok, run_size hi', Int.toNat_natCast, Nat.sub_zero, e1, ite_self]⟩
variable [Wide c.F]
/-! ## Maps as words, and back -/
end
end Kin
end Go

namespace Go
open Go.RowKit
namespace Kin
section
variable {P : Program} {N : Nat} {c : Cx} {env : List (Nat × Value)} {mem : List (Nat × Obj)} {tt : List (TypeId × TI)}
 {ty : TypeId} {pos : String} {af : Array Edge} {g : Option (Nat × Bool)} {dd : Option Tmp}
end
end Kin
end Go

namespace Go
open Go.RowKit
namespace Kin
section
variable {P : Program} {N : Nat} {c : Cx} {Q : Exit -> Act -> World -> Prop} {env : List (Nat × Value)} {mem mem' : List (Nat × Obj)} {L l : List Oper} {tt : List (TypeId × TI)}
 {ty : TypeId} {pos : String} {af : Array Edge} {g : Option (Nat × Bool)} {dd : Option Tmp}
/-- what a call has made of the blocks `pre` -/
theorem satW_frame {w0 W W' : World} {D : Nat -> Prop} {pre post : List (Nat × Obj)} (h : SatW w0 D noJ (pre ++ mem) W) (k : SatW W (allBut W (pre.map (·.1))) noJ post W') : SatW w0 D noJ (post ++ mem) W' := by
 have hnd := h.nodup
 rw [List.map_append, List.nodup_append] at hnd
 have hD : ∀ b, D b -> allBut W (pre.map (·.1)) b := fun b hb => ⟨Nat.lt_of_lt_of_le (h.dom b hb) h.same.size, fun hm => by
  obtain ⟨p, hp, e⟩ := List.mem_map.1 hm
  exact (h.own p (List.mem_append_left _ hp)).1 (e ▸ hb)⟩
 have hM : ∀ p ∈ mem, allBut W (pre.map (·.1)) p.1 := fun p hp => ⟨h.lt (List.mem_append_right _ hp), fun hm => hnd.2.2 _ hm _ (List.mem_map.2 ⟨p, hp, rfl⟩) rfl⟩
 refine ⟨h.same.trans (k.same.mono hD), h.dom, ?_, fun p hp => ?_, closed_noJ, trivial⟩
 ·rw [List.map_append, List.nodup_append]
  refine ⟨k.nodup, hnd.2.1, fun a ha b hb e => ?_⟩
  obtain ⟨p, hp, rfl⟩ := List.mem_map.1 ha
  obtain ⟨q, hq, rfl⟩ := List.mem_map.1 hb
  exact (k.own p hp).1 (e ▸ hM q hq)
 ·rcases List.mem_append.1 hp with hp | hp
  ·exact ⟨fun hd => (k.own p hp).1 (hD _ hd), (k.own p hp).2⟩
  ·have ho := h.own p (List.mem_append_right _ hp)
   exact ⟨ho.1, k.same.obj ho.2 (hM p hp)⟩
/-- a call that makes `post` of `pre` -/
def FrQ {ι : Type} (pre : List (Nat × Obj)) (v : ι -> Value) (post : ι -> List (Nat × Obj)) (W : World) (e : Ending) (W' : World) : Prop := ∃ i, e = .returned (v i) /\ SatW W (allBut W (pre.map (·.1))) noJ (post i) W'
theorem frQ_start {W : World} {pre : List (Nat × Obj)} (hn : (pre.map (·.1)).Nodup) (h : ∀ p ∈ pre, W.heap[p.1]? = some p.2) : SatW W (allBut W (pre.map (·.1))) noJ pre W := satW_fresh hn h
theorem SatW.pre {w0 W : World} {D : Nat -> Prop} {J : (Nat -> Prop) -> World -> Prop} {pre mem0 : List (Nat × Obj)} (h : SatW w0 D J mem W) (hp : mem.Perm (pre ++ mem0)) : (pre.map (·.1)).Nodup /\ ∀ p ∈ pre, W.heap[p.1]? = some p.2 := by
 have h1 := h.perm hp
 refine ⟨(h1.mono (List.sublist_append_left _ _)).nodup, fun p hpp => (h1.own p (List.mem_append_left _ hpp)).2⟩
variable [Wide c.F]
theorem r_callF {F : Fence} {n : Nat} {ds : List Deferred} {w0 : World} {D : Nat -> Prop} {d : Nat} {f : FuncId} [Ent P f] {args : List Operand} {ats : Array TypeId} {vs : List Value} {ι : Type} {v : ι -> Value} {pre mem0 : List (Nat × Obj)} {post : ι -> List (Nat × Obj)} [Wide F]
  (hw : wantB L env g = some true) (hd : Nat.blt d N = true) (ha : evOps env args some = some vs) (hp : mem.Perm (pre ++ mem0))
  (hc : ∀ W, SatW w0 D noJ mem W -> (pre.map (·.1)).Nodup -> (∀ p ∈ pre, W.heap[p.1]? = some p.2) -> Calls P f ⟨vs⟩ W (FrQ pre v post W))
  (k : ∀ i, RunL P N ⟨F, n, ds, w0, D, noJ⟩ L l Q ((d, v i) :: env) (post i ++ mem0)) : RunL P N ⟨F, n, ds, w0, D, noJ⟩ L (⟨some d, .call ⟨.value (.func f), ⟨args⟩, ats⟩, ty, pos, af, g⟩ :: l) Q env mem :=
 l_call (c := ⟨F, n, ds, w0, D, noJ⟩) (ι := ι) (v := v) (mem' := fun i => post i ++ mem0) hw hd ha (fun W hm => (hc W hm (hm.pre hp).1 (hm.pre hp).2).mono fun _ _ ⟨i, h1, h2⟩ => ⟨i, h1, satW_frame (hm.perm hp) h2⟩) k
/-! ## Queues -/
end
end Kin
end Go

namespace Go
open Go.RowKit Go.Sort
namespace Kin
section
variable {P : Program} {N : Nat} {Q : Exit -> Act -> World -> Prop} {env : List (Nat × Value)} {L l : List Oper} {W : World}
/-! ## A region that draws its order: what only reads, and then the rest in order -/
end
end Kin
end Go

namespace Go
open Go.RowKit Go.Sort
namespace Kin
section
variable {P : Program} {ops : Array Oper} {C : World -> Prop}
end
section
variable {P : Program} {N : Nat} {Q : Exit -> Act -> World -> Prop} {env : List (Nat × Value)} {L l : List Oper} {W : World}
end
end Kin
end Go

namespace Go
open Go.RowKit Go.Sort
namespace Kin
section
variable {P : Program} {N : Nat} {c : Cx} {Q : Exit -> Act -> World -> Prop} {env : List (Nat × Value)} {mem : List (Nat × Obj)} {L l : List Oper} {tt : List (TypeId × TI)} {ty : TypeId} {pos : String} {af : Array Edge} {g : Option (Nat × Bool)} [Wide c.F]
end
end Kin
end Go

namespace Go
open Go.RowKit Go.Sort
namespace Kin
section
variable {P : Program} {N : Nat} {c : Cx} {Q : Exit -> Act -> World -> Prop} {env : List (Nat × Value)} {mem : List (Nat × Obj)}
end
end Kin
end Go

namespace Go
open Go.RowKit Go.Sort
namespace Kin
section
variable {P : Program} {N : Nat} {c : Cx} {env : List (Nat × Value)} {mem : List (Nat × Obj)} {tt : List (TypeId × TI)}
 {ty : TypeId} {pos : String} {af : Array Edge} {g : Option (Nat × Bool)} {dd : Option Tmp}
end
end Kin
end Go

namespace Go
open Go.RowKit
namespace Kin
section
variable {P : Program} {N : Nat} {c : Cx} {Q : Exit -> Act -> World -> Prop} {env : List (Nat × Value)} {mem : List (Nat × Obj)} {L l : List Oper} {ty : TypeId} {pos : String} {af : Array Edge} {g : Option (Nat × Bool)}
end
end Kin
end Go

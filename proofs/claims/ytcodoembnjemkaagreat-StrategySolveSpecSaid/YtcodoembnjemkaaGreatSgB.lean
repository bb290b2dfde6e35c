/- The engine: calls that hand back several blocks, closures that write a block of which a predicate tells, a map as a word. Generic: no program is named here. -/
import Derived.Test.YtcodoembnjemkaaGreatEng26
import Derived.Test.YtcodoembnjemkaaGreatTy
import Derived.Test.YtcodoembnjemkaaGreatGenCell
set_option linter.unusedSectionVars false
set_option linter.unusedVariables false
set_option linter.unusedSimpArgs false
namespace Go
open Go.RowKit
namespace Kin
section
variable {P : Program} {N : Nat} {c : Cx} {Q : Exit -> Act -> World -> Prop} {env : List (Nat × Value)} {mem : List (Nat × Obj)} {L l : List Oper} {ty : TypeId} {pos : String} {af : Array Edge} {g : Option (Nat × Bool)}
/-- a call that hands back memory of its own: a list of blocks -/
theorem r_callL [Wide c.F] {d : Nat} {f : FuncId} [Ent P f] {args : List Operand} {ats : Array TypeId} {vs : List Value} {ι : Type} {v : ι -> Value} {ms : ι -> List (Nat × Obj)} (hw : wantB L env g = some true) (hd : Nat.blt d N = true) (ha : evOps env args some = some vs)
  (hc : ∀ W, SatW c.w0 c.D c.J mem W -> Calls P f ⟨vs⟩ W fun e W' => ∃ i, e = .returned (v i) /\ Below W.heap.size W W' /\ ((ms i).map (·.1)).Nodup /\ ∀ p ∈ ms i, W.heap.size <= p.1 /\ W'.heap[p.1]? = some p.2)
  (k : ∀ i, RunL P N c L l Q ((d, v i) :: env) (ms i ++ mem)) : RunL P N c L (⟨some d, .call ⟨.value (.func f), ⟨args⟩, ats⟩, ty, pos, af, g⟩ :: l) Q env mem :=
 l_call (ι := ι) (v := v) (mem' := fun i => ms i ++ mem) hw hd ha (fun W hm => (hc W hm).mono fun _ W' ⟨i, h1, h2, h3, h4⟩ => ⟨i, h1, by
  have hm2 := hm.later h2
  have hfar : ∀ b, W.heap.size <= b -> b ∉ mem.map (·.1) /\ ¬ c.D b := fun b hb => ⟨fun hmm => by
   obtain ⟨p, hp, e⟩ := List.mem_map.1 hmm
   have := hm.lt hp
   omega, fun hdd => by have := hm.dom _ hdd; have := hm.same.size; omega⟩
  refine ⟨hm2.same, hm2.dom, ?_, fun p hp => ?_, hm.closed, hm.closed _ _ _ _ hm.word (Same.of_below_all h2) fun b hb => ?_⟩
  ·rw [List.map_append, List.nodup_append]
   refine ⟨h3, hm2.nodup, fun a ha b hb e => ?_⟩
   obtain ⟨p, hp, rfl⟩ := List.mem_map.1 ha
   exact (hfar _ (h4 p hp).1).1 (e ▸ hb)
  ·rcases List.mem_append.1 hp with hp | hp
   ·exact ⟨(hfar _ (h4 p hp).1).2, (h4 p hp).2⟩
   ·exact hm2.own p hp
  ·unfold keys at hb
   rw [List.map_append] at hb
   rcases List.mem_append.1 hb with hb | hb
   ·obtain ⟨p, hp, rfl⟩ := List.mem_map.1 hb
    exact .inr (h4 p hp).1
   ·exact .inl hb⟩) k
/-- a call of a closure that writes one block, of which something is told -/
theorem r_callvuI [Wide c.F] {f : FuncId} [Ent P f] {d : Nat} {x : Operand} {args : List Operand} {ats : Array TypeId} {vs fs cs ws : List Value} {ι : Type} {v : ι -> Value} {b : Nat} {o : Obj} {o' : ι -> Obj} {mem' : ι -> List (Nat × Obj)} (hw : wantB L env g = some true) (hd : Nat.blt d N = true)
  (hx : evOp env x = some (.func (.func f) ⟨fs⟩ ⟨cs⟩)) (ha : evOps env args some = some vs) (hws : fs ++ vs ++ cs = ws) (hin : (b, o) ∈ mem) (hu : ∀ i, Upd mem b o (o' i) (mem' i))
  (hc : ∀ W, SatW c.w0 c.D c.J mem W -> W.heap[b]? = some o -> Calls P f ⟨ws⟩ W fun e W' => ∃ i, e = .returned (v i) /\ Same (fun k => k ≠ b) W W' /\ W'.heap[b]? = some (o' i))
  (k : ∀ i, RunL P N c L l Q ((d, v i) :: env) (mem' i)) : RunL P N c L (⟨some d, .call ⟨.value x, ⟨args⟩, ats⟩, ty, pos, af, g⟩ :: l) Q env mem :=
 l_callv (ι := ι) (v := v) (mem' := mem') hw hd hx ha hws (fun W hm => (hc W hm (hm.own _ hin).2).mono fun _ W' ⟨i, h1, h2, h3⟩ => ⟨i, h1, hm.upd (hu i) h2 h3⟩) k
/-- a block of a map with entries of a kind, as a word -/
def HasJ (b : Nat) (R : MapEntry -> Prop) : (Nat -> Prop) -> World -> Prop := fun S A => b < A.heap.size /\ ¬ S b /\ ∃ ents clock, A.heap[b]? = some (.map ⟨ents⟩ clock) /\ ∀ e ∈ ents, R e
theorem closed_hasJ (b : Nat) (R : MapEntry -> Prop) : Closed (HasJ b R) := fun S S' A B h hS hs => by
 obtain ⟨h1, h2, ents, clock, h3, h4⟩ := h
 have hb := hS.size
 exact ⟨by omega, fun h => (hs b h).elim h2 (fun h => by omega), ents, clock, hS.obj h3 h2, h4⟩
theorem satW_hasJ {w0 : World} {D : Nat -> Prop} {b : Nat} {R : MapEntry -> Prop} {W W' : World} (h : SatW w0 D (HasJ b R) mem W) (hD : ¬ D b) (hS : Same (fun k => k ≠ b) W W') {ents : List MapEntry} {clock : Nat} (hb : W'.heap[b]? = some (.map ⟨ents⟩ clock)) (he : ∀ e ∈ ents, R e) :
  SatW w0 D (HasJ b R) mem W' := by
 have hk : ∀ p ∈ mem, p.1 ≠ b := fun p hp e => h.word.2.1 (List.mem_map.2 ⟨p, hp, e⟩)
 exact ⟨h.same.trans (hS.mono fun k hk e => hD (e ▸ hk)), h.dom, h.nodup, fun p hp => ⟨(h.own p hp).1, hS.obj (h.own p hp).2 (hk p hp)⟩, h.closed, lt_of_heap hb, h.word.2.1, ents, clock, hb, he⟩
/-- a map that lies among the blocks becomes a word -/
theorem c_hasJ {F : Fence} {n : Nat} {ds : List Deferred} {w0 : World} {D : Nat -> Prop} {b : Nat} {R : MapEntry -> Prop} {ents : List MapEntry} {clock : Nat} {x : Code} {mem' : List (Nat × Obj)} (hp : mem.Perm ((b, .map ⟨ents⟩ clock) :: mem')) (he : ∀ e ∈ ents, R e)
  (k : ¬ D b -> RunC P N ⟨F, n, ds, w0, D, HasJ b R⟩ x Q env mem') : RunC P N ⟨F, n, ds, w0, D, noJ⟩ x Q env mem := .mk fun a W ha hm => by
 have h := hm.perm hp
 have hn := h.nodup
 simp only [List.map_cons, List.nodup_cons] at hn
 have hb := (h.own _ List.mem_cons_self).2
 exact (k (h.own _ List.mem_cons_self).1).run a W ha ⟨h.same, h.dom, hn.2, fun p hp => h.own p (List.mem_cons_of_mem _ hp), closed_hasJ b R, lt_of_heap hb, hn.1, ents, clock, hb, he⟩
end
end Kin
end Go

namespace Go
open Go.RowKit
namespace Kin
section
variable {P : Program} {N : Nat} {c : Cx} {Q : Exit -> Act -> World -> Prop} {env : List (Nat × Value)} {mem : List (Nat × Obj)} {L l : List Oper} {ty : TypeId} {pos : String} {af : Array Edge} {g : Option (Nat × Bool)}
theorem r_callI [Wide c.F] {d : Nat} {f : FuncId} [Ent P f] {args : List Operand} {ats : Array TypeId} {vs : List Value} {ι : Type} {v : ι -> Value} (hw : wantB L env g = some true) (hd : Nat.blt d N = true) (ha : evOps env args some = some vs)
  (hc : ∀ W, SatW c.w0 c.D c.J mem W -> Calls P f ⟨vs⟩ W fun e W' => ∃ i, e = .returned (v i) /\ Below W.heap.size W W')
  (k : ∀ i, RunL P N c L l Q ((d, v i) :: env) mem) : RunL P N c L (⟨some d, .call ⟨.value (.func f), ⟨args⟩, ats⟩, ty, pos, af, g⟩ :: l) Q env mem :=
 l_call (ι := ι) (v := v) (mem' := fun _ => mem) hw hd ha (fun W hm => (hc W hm).mono fun _ _ ⟨i, h1, h2⟩ => ⟨i, h1, hm.later h2⟩) k
theorem c_sub {x : Code} (mem' : List (Nat × Obj)) (h : List.Sublist mem' mem) (k : RunC P N c x Q env mem') : RunC P N c x Q env mem := .mk fun a W ha hm => k.run a W ha (hm.mono h)
/-- a rule of blocks that lie in another order -/
theorem c_perm {x : Code} {mem' : List (Nat × Obj)} (hp : mem.Perm mem') (k : RunC P N c x Q env mem') : RunC P N c x Q env mem := .mk fun a W ha hm => k.run a W ha (hm.perm hp)
end
end Kin
end Go

namespace Go
open Go.RowKit
namespace Kin
section
variable {P : Program} {N : Nat} {c : Cx} {Q : Exit -> Act -> World -> Prop} {env : List (Nat × Value)} {mem : List (Nat × Obj)} {L l : List Oper} {tt : List (TypeId × TI)} [Wide c.F]
 {ty : TypeId} {pos : String} {af : Array Edge} {g : Option (Nat × Bool)} {dd : Option Tmp}
end
end Kin
end Go

namespace Go
open Go.RowKit
namespace Kin
section
variable {P : Program} {N : Nat} {c : Cx} {Q : Exit -> Act -> World -> Prop} {env : List (Nat × Value)} {mem mem' : List (Nat × Obj)} {L l : List Oper} {tt : List (TypeId × TI)} [Wide c.F]
 {ty : TypeId} {pos : String} {af : Array Edge} {g : Option (Nat × Bool)} {dd : Option Tmp} {α : Type}
/-- the end of a slice whose room ends there -/
theorem v_sliceE [T : TT P tt] {t e n cap k0 sz bt sz' bt' : Nat} {A : Option Addr} {x lo : Operand} {ke : TK} {z z' : Value} {k : IntKind} {i : Int} (hx : evOp env x = some (.slice A n cap)) (hl : evOp env lo = some (.int k i)) (ht : look tt t = some ⟨.slice e, sz', bt', z'⟩)
  (hte : look tt e = some ⟨ke, sz, bt, z⟩) (hil : i = k0) (h1 : k0 <= n) (h2 : cap = k0) :
  OpVal P N c env mem ⟨dd, .slice t x (some lo) none none, ty, pos, af, g⟩ (.slice A (n - k0) 0) :=
 ⟨rfl, fun a W ha _ => by
  subst hil
  subst h2
  have hu : P.underlying t = some (.slice e) := (TT.look (P := P) ht).1
  obtain ⟨i', hi', hs'⟩ := (TT.look (P := P) hte).size
  simp only [execOp, ha.eval hx, Option.map_some, Option.map_none, ha.eval hl, Instr.sliceAt, Instr.slice, Instr.sliceBounds, Instr.sliceBound, asIntOf, Sem.run_bind, Sem.run_pure, Result.andThen_ok, run_und hu]
  rw [if_pos (⟨by omega, by omega⟩ : 0 <= ((cap : Nat) : Int) /\ ((cap : Nat) : Int) <= n)]
  simp only [Sem.run_bind, Sem.run_pure, Result.andThen_ok, run_size hi', hs', Int.toNat_natCast, if_pos, Nat.sub_self]⟩
/-- a list as a slice, nil when it is empty -/
def gSl (l : List α) (b cap : Nat) : Value := match l with
 | [] => .slice none 0 0
 | _ :: _ => .slice (some ⟨b, 0, none⟩) l.length cap
/-- its block -/
def gM (f : α -> List Value) (T : TypeId) (l : List α) (b : Nat) (rest : List Value) : List (Nat × Obj) := match l with
 | [] => []
 | _ :: _ => [(b, .cells ⟨(l.map f).flatten ++ rest⟩ T (0, 0))]
def gOK (f : α -> List Value) (sz : Nat) (l : List α) (cap : Nat) (rest : List Value) : Prop := l ≠ [] -> Grow sz l.length ((l.map f).flatten) cap rest
theorem gSl_len {l : List α} {b cap : Nat} : ∃ A c, gSl l b cap = .slice A l.length c := by
 cases l with
 | nil => exact ⟨none, 0, rfl⟩
 | cons x l => exact ⟨_, cap, rfl⟩
/-- appending to it whatever there is -/
theorem r_appendZ [T : TT P tt] {d t e m cx sz bt sz' bt' b cap : Nat} {A : Option Addr} {ke : TK} {z z' : Value} {x y : Operand} {f : α -> List Value} {xs ys : List α} {rest : List Value} {mem0 : List (Nat × Obj)} (hw : wantB L env g = some true) (hd : Nat.blt d N = true)
  (hx : evOp env x = some (gSl xs b cap)) (hy : evOp env y = some (.slice A m cx)) (ht : look tt t = some ⟨.slice e, sz', bt', z'⟩) (hte : look tt e = some ⟨ke, sz, bt, z⟩) (hm0 : m = ys.length) (hnews : NewsG c mem A m ((ys.map f).flatten))
  (hmem : mem.Perm (gM f e xs b rest ++ mem0)) (hg : gOK f sz xs cap rest)
  (hl : ∀ zs : List α, ((zs.map f).flatten).length = zs.length * sz) (hone : allOne ((ys.map f).flatten) = true) (hzl : Nat.beq (cellsL z).length sz = true) (hb : (xs.length + m) * bt <= 140737488355328) (hm : xs.length + m <= maxLen)
  (k : ∀ b cap rest, gOK f sz (xs ++ ys) cap rest -> RunL P N c L l Q ((d, gSl (xs ++ ys) b cap) :: env) (gM f e (xs ++ ys) b rest ++ mem0)) :
  RunL P N c L (⟨some d, .call ⟨.builtin .append, ⟨[x, y]⟩, ⟨[t, t]⟩⟩, ty, pos, af, g⟩ :: l) Q env mem := by
 cases xs with
 | nil =>
  have hp : mem.Perm mem0 := hmem
  cases ys with
  | nil =>
   have hm1 : m = 0 := hm0
   subst hm1
   refine lVa hw hd (v_append0 hx hy ht hte (Nat.le_refl _)) (l_perm hp ?_)
   exact k 0 0 [] (fun h => absurd rfl h)
  | cons y0 ys =>
   rcases hnews with ⟨h, _⟩ | ⟨bx, ox, rfl, hn⟩
   ·rw [h] at hm0; cases hm0
   ·subst hm0
    refine r_append_nil hw hd hx hy ht hte hn (hl _) hzl (by simp) (by simpa using hb) (by simpa using hm) (fun b' c' r' hg' => ?_)
    refine l_perm (hp.cons _) ?_
    exact k b' c' r' (fun _ => hg')
 | cons x0 xs =>
  have hgr := hg (by simp)
  have hr : mem.Perm ((b, .cells ⟨((x0 :: xs).map f).flatten ++ rest⟩ e (0, 0)) :: mem0) := hmem
  refine l_perm hr ?_
  have hn2 : NewsG c ((b, .cells ⟨((x0 :: xs).map f).flatten ++ rest⟩ e (0, 0)) :: mem0) A m ((ys.map f).flatten) := by
   rcases hnews with h | ⟨bx, ox, h, hn⟩
   ·exact .inl h
   ·exact .inr ⟨bx, ox, h, ⟨fun W hW => hn.ok W (hW.perm hr.symm)⟩⟩
  refine r_appendG (xs := ((x0 :: xs).map f).flatten) (rest := rest) (ys := (ys.map f).flatten) hw hd hx hy ht hte hn2 Rem.head hgr (by rw [hl, hm0]) hone hzl hb hm (fun b' c' r' hg' => ?_)
  have he : ((x0 :: xs).map f).flatten ++ (ys.map f).flatten = (((x0 :: xs) ++ ys).map f).flatten := by rw [List.map_append, List.flatten_append]
  rw [he] at hg' ⊢
  have hlen : (x0 :: xs).length + m = ((x0 :: xs) ++ ys).length := by rw [List.length_append, hm0]
  rw [hlen] at hg' ⊢
  exact k b' c' r' (fun _ => hg')
end
end Kin
end Go

namespace Go
open Go.RowKit
namespace Kin
section
variable {P : Program} {N : Nat} {c : Cx} {Q : Exit -> Act -> World -> Prop} {env : List (Nat × Value)} {mem mem' : List (Nat × Obj)} {L l : List Oper} {tt : List (TypeId × TI)} [Wide c.F]
 {ty : TypeId} {pos : String} {af : Array Edge} {g : Option (Nat × Bool)} {dd : Option Tmp} {α : Type}
variable {ι : Type}
end
end Kin
end Go

namespace Go
open Go.RowKit
namespace Kin
section
variable {P : Program} {N : Nat} {c : Cx} {Q : Exit -> Act -> World -> Prop} {env : List (Nat × Value)} {mem mem' : List (Nat × Obj)} {L l : List Oper} {tt : List (TypeId × TI)} [Wide c.F]
 {t ty : TypeId} {pos : String} {af : Array Edge} {g : Option (Nat × Bool)} {dd : Option Tmp} {x y : Operand}
theorem v_loadAll [T : TT P tt] {b sz bt : Nat} {kd : TK} {z : Value} {cs : List Value} {T' : TypeId} {fr : Nat × Nat}
  (hx : evOp env x = some (.pointer (some ⟨b, 0, none⟩))) (hm : (b, Obj.cells ⟨cs⟩ T' fr) ∈ mem) (ht : look tt t = some ⟨kd, sz, bt, z⟩) (hk : kd.isAgg = true) (hs : cs.length = sz) :
  OpVal P N c env mem ⟨dd, .load t x, ty, pos, af, g⟩ (.agg ⟨cs⟩) :=
 v_load_row (r := cs) hx hm ht hk ⟨by omega, by simp⟩ (by rw [hs]; exact Nat.beq_refl _)
theorem putAll {β : Type} : ∀ {cs vs : List Value} {k : List Value -> Option β}, cs.length = vs.length -> putK cs 0 vs k = k vs
 | [], [], k, _ => rfl
 | _ :: cs, v :: vs, k, h => putAll (cs := cs) (vs := vs) (k := fun r => k (v :: r)) (by simpa using h)
theorem one_of {l : List Value} (h : ∀ v ∈ l, v.oneCell' = true) : allOne l = true := by
 induction l with
 | nil => rfl
 | cons v l ih =>
  have h1 := h v List.mem_cons_self
  have h2 := ih fun u hu => h u (List.mem_cons_of_mem _ hu)
  cases v <;> first|exact h2|(cases h1)
end
end Kin
end Go

set_option maxRecDepth 100000
set_option maxHeartbeats 400000000
namespace Go.Proofs
open Go.RowKit Go.Kin Go.Kin.St Go.Kin.Ct Go.Kin.Sg
namespace R24
def inE (x : Int) : List Value := [.int .i64 x]
def nE (x : Nat) : List Value := [.int .i64 x]
/-- a position's cells -/
def plC (k : Int) (f : Nat -> Int) : List Value := .int .i64 k :: ivec 6 f
theorem plC_len {k : Int} {f : Nat -> Int} : (plC k f).length = 7 := by unfold plC; rw [List.length_cons, ivec_length]
theorem plC_beq {k : Int} {f : Nat -> Int} : Nat.beq (plC k f).length 7 = true := by rw [plC_len]; rfl
theorem plC_one {k : Int} {f : Nat -> Int} : allOne (plC k f) = true := one_of fun v hv => by
 unfold plC at hv
 rcases List.mem_cons.1 hv with rfl | hv
 ·rfl
 ·obtain ⟨q, _, rfl⟩ := List.mem_map.1 hv
  rfl
theorem plC_0 {k : Int} {f : Nat -> Int} : (plC k f)[0]? = some (.int .i64 k) := rfl
theorem plC_get {k : Int} {f : Nat -> Int} {q : Nat} (h : q < 6) : (plC k f)[1 + q]? = some (.int .i64 (f q)) := by
 unfold plC
 rw [show 1 + q = q + 1 by omega, List.getElem?_cons_succ]
 exact ivec_get h
theorem plC_set {k : Int} {f : Nat -> Int} {q : Nat} {v : Int} : (plC k f).set (1 + q) (.int .i64 v) = plC k (iset f q v) := by
 unfold plC
 rw [show 1 + q = q + 1 by omega, List.set_cons_succ, ivec_set]
theorem plC_set0 {k : Int} {f : Nat -> Int} {v : Int} : (plC k f).set 0 (.int .i64 v) = plC v f := rfl
theorem plC_zero {z : Value} (h : Go.Kin.look tt 54 = some ⟨.struct [(3, 0), (52, 1)], 7, 56, z⟩) : cellsL z = plC 0 (fun _ => 0) := by
 have e : Go.Kin.look tt 54 = some ⟨.struct [(3, 0), (52, 1)], 7, 56, .agg ⟨plC 0 (fun _ => 0)⟩⟩ := rfl
 rw [e] at h
 cases h
 rfl
/-- points occur, on functions -/
def putF (f : Nat -> Int) (S : List Nat) (v : Int) : Nat -> Int := S.foldl (fun f q => iset f q v) f
theorem putF_take {f : Nat -> Int} {S : List Nat} {v : Int} {k q : Nat} (h : S[k]? = some q) : iset (putF f (S.take k) v) q v = putF f (S.take (k + 1)) v := by
 unfold putF
 rw [List.take_add_one, h, List.foldl_append]
 rfl
theorem kn_iset {l : List Int} {q : Nat} {v : Int} (h : q < l.length) : iset (kn l) q v = kn (l.set q v) := by
 funext x
 unfold iset
 by_cases hx : x < l.length
 ·rw [kn_set hx]
 ·rw [if_neg (by omega), kn_over (by omega), kn_over (by rw [List.length_set]; omega)]
theorem putF_kn {v : Int} : ∀ {S : List Nat} {l : List Int}, (∀ q ∈ S, q < l.length) -> putF (kn l) S v = kn (put l S v)
 | [], _, _ => rfl
 | q :: S, l, h => by
  show putF (iset (kn l) q v) S v = kn (put (l.set q v) S v)
  rw [kn_iset (h q List.mem_cons_self), putF_kn fun p hp => by rw [List.length_set]; exact h p (List.mem_cons_of_mem _ hp)]
theorem res_pl {env : List (Nat × Value)} {mem : List (Nat × Obj)} {s b : Nat} {k : Int} {f : Nat -> Int} (hs : Go.Kin.look env s = some (.pointer (some ⟨b, 0, none⟩))) (hm : (b, Obj.cells ⟨plC k f⟩ 54 (0, 0)) ∈ mem) : Res tt env mem [.cell s 54] [.agg ⟨plC k f⟩] :=
 Res.cell (kd := .struct [(3, 0), (52, 1)]) (sz := 7) hs hm rfl (RowAt.agg ⟨by omega, by simp⟩ plC_len) Res.nil
theorem with_calls (k : Int) (f : Nat -> Int) (S : List Nat) (A : Option Addr) (cap : Nat) (w : World) (hk : 0 <= k /\ k <= 1000) (hS : ∀ q ∈ S, q < 6) (hl : S.length <= 1000) (hA : At w A 1 (S.map nE)) :
  Calls Tryz.prog 26 ⟨[.agg ⟨plC k f⟩, .slice A S.length cap]⟩ w fun e w' => e = .returned (.agg ⟨plC k (putF f S (k + 1))⟩) /\ Below w.heap.size w w' := by
 refine fEn Tryz.func26 rfl Tryz.ntmps26 rfl rfl (sWn w) ?_
 repeat (first|refine r_alloc rfl rfl rfl (plC_zero rfl) (fun b2 => ?_)|refine lVa rfl rfl (by first|exact pEv rfl|fail) ?_|refine lNi ?_|refine cRg ?_|refine cSq ?_|refine xTh ?_|refine r_box rfl rfl rfl rfl (fun _ => ?_)|refine cBl ?_|fail)
 rename_i b1
 refine c_loop (ι := Nat) (fun j => j <= S.length) (fun j => [(2, .pointer (some ⟨b1, 0, none⟩)), (4, .pointer (some ⟨b2, 0, none⟩)), (7, .slice A S.length cap), (8, .int .i64 S.length), (9, .int .i64 j)])
  (fun j => [(b2, .cells ⟨plC 0 (fun _ => 0)⟩ 54 (0, 0)), (b1, .cells ⟨plC k (putF f (S.take j) (k + 1))⟩ 54 (0, 0))]) (fun j => S.length - j) 0 (Nat.zero_le _) (by repeat (first|exact .nil|refine .cons rfl (by first|rfl|(congr 1; done)|exact congrArg _ (by omega)|(simp; done)) ?_)) (by repeat (first|exact .nil|refine .keep (by first|rfl|assumption) ?_|refine .drop ?_|exact MSub.refl _)) ?_
 intro j hj
 by_cases hlt : j < S.length
 ·obtain ⟨q, hq⟩ : ∃ q, S[j]? = some q := ⟨_, List.getElem?_eq_getElem hlt⟩
  obtain ⟨b', o, rfl, hc⟩ := hA j (nE q) (by simp [hq])
  have he := ext_of hc
  rw [Nat.mul_one] at he
  have hq6 := hS q (List.mem_of_getElem? hq)
  have h0 := plC_0 (k := k) (f := putF f (S.take j) (k + 1))
  repeat (first|refine lVa rfl rfl (by first|exact v_add rfl rfl (by omega) (by omega)|exact pEv rfl|exact vLd rfl (by repeat constructor) rfl (by rfl)|exact vL0 rfl (by assumption) rfl (by rfl)|exact v_index rfl rfl rfl rfl (by omega) (by omega) (by with_reducible first|exact idx2 _ _|fail)|exact v_indexA rfl rfl rfl rfl (by omega) (by omega) (by with_reducible first|exact idx2 _ _|fail)|fail) ?_|refine lNi ?_|refine cRg ?_|refine cSq ?_|refine xTh ?_|refine c_dec_t rfl (by first|omega|fail) ?_|refine cBl ?_|refine cSk ?_|fail)
  refine r_store_at rfl rfl rfl rfl rfl rfl (by repeat constructor) (by rw [plC_len]; omega) (plC_set.trans (congrArg (plC k) (putF_take hq))) ?_
  repeat (first|refine lVa rfl rfl (by first|exact v_add rfl rfl (by omega) (by omega)|exact pEv rfl|fail) ?_|refine lNi ?_|refine cRg ?_|refine xTh ?_|refine x_block ?_|fail)
  exact x_back (j + 1) hlt (by omega) (by repeat (first|exact .nil|refine .cons rfl (by first|rfl|(congr 1; done)|exact congrArg _ (by omega)|(simp; done)) ?_)) (by repeat (first|exact .nil|refine .keep (by first|rfl|assumption) ?_|refine .drop ?_|exact MSub.refl _))
 have hje : j = S.length := by omega
 subst hje
 rw [List.take_length]
 repeat (first|refine lVa rfl rfl (v_loadAll rfl (by repeat constructor) rfl rfl plC_len) ?_|refine rSt (vs := plC _ _) rfl rfl rfl rfl rfl plC_beq plC_one (by repeat constructor) (putAll (plC_len.trans plC_len.symm)) ?_|refine lVa rfl rfl (by first|exact pEv rfl|fail) ?_|refine lNi ?_|refine cRg ?_|refine cSq ?_|refine xTh ?_|refine c_dec_f rfl (by first|omega|fail) ?_|refine c_ret ?_|refine c_exit ?_|refine xTe ?_|refine xBs ?_|fail)
 exact x_ret rfl rfl (res_pl rfl (by repeat constructor)) rfl (fun W hW => ⟨rfl, hW.below⟩)
/-! ## A game, as it lies -/
/-- 1 plus the number of the called link to a point -/
def iv (C : List Lk) (q : Nat) : Int := match into C (q : Int) with
 | some i => (i : Int) + 1
 | none => 0
/-- a game with its memory: the slices of its links, the block of its map -/
structure GB where
 n : Nat
 T : Nat
 L : List Lk
 C : List Lk
 A : Option Addr
 B : Option Addr
 ca : Nat
 cb : Nat
 m : Nat
@[reducible] def GB.g (b : GB) : Gm := ⟨b.n, b.T, b.L, b.C⟩
def lkE (x : Lk) : List Value := [.int .i64 x.fr, .int .i64 x.to, .int .i64 x.lo, .int .i64 x.hi]
@[reducible] def GB.u (b : GB) : List Value := [.int .i64 b.n, .slice b.A b.L.length b.ca, .slice b.B b.C.length b.cb]
def GB.cells (b : GB) : List Value := b.u ++ .int .i64 b.T :: (ivec 6 (iv b.C) ++ [.map (some b.m)])
/-- it lies in the world, its block is not written any more -/
structure GB.In (b : GB) (a : Nat) (w : World) (D : Nat -> Prop) : Prop where
 own : Ext w D a 0 b.cells
 l : Ar w D b.A 4 (b.L.map lkE)
 c : Ar w D b.B 4 (b.C.map lkE)
end R24
end Go.Proofs

set_option maxRecDepth 100000
set_option maxHeartbeats 400000000
namespace Go.Proofs
open Go.RowKit Go.Kin Go.Kin.St Go.Kin.Ct Go.Kin.Sg
namespace R24
/-- a game lies in the world -/
structure GIn (b : GB) (a : Nat) (w : World) : Prop where
 own : ∀ (j : Nat) (v : Value), b.cells[j]? = some v -> w.cell? ⟨a, j, none⟩ = some v
 l : At w b.A 4 (b.L.map lkE)
 c : At w b.B 4 (b.C.map lkE)
theorem GIn.ext {b : GB} {a : Nat} {w : World} (h : GIn b a w) : Ext w (base w) a 0 b.cells := ext_of fun j v hj => by rw [Nat.zero_add]; exact h.own j v hj
def flt (p : Nat -> Bool) (k : Nat) : List Nat := (List.range k).filter p
theorem flt_succ (p : Nat -> Bool) (k : Nat) : flt p (k + 1) = if p k = true then flt p k ++ [k] else flt p k := by
 unfold flt
 rw [List.range_succ, List.filter_append]
 cases h : p k <;> simp [h]
theorem flt_le (p : Nat -> Bool) (k : Nat) : (flt p k).length <= k := by
 have := List.length_filter_le p (List.range k)
 rw [List.length_range] at this
 exact this
theorem nE_rows (l : List Nat) : (l.map nE).flatten.length = l.length * 1 := by
 induction l with
 | nil => rfl
 | cons x l ih => rw [List.map_cons, List.flatten_cons, List.length_append, ih, List.length_cons]; show 1 + _ = _; omega
/-- a list of points in new memory, nil if it is empty -/
def LsQ (l : List Nat) (w : World) (e : Ending) (w' : World) : Prop :=
 ∃ (b cap : Nat) (rest : List Value), e = .returned (gSl l b cap) /\ gOK nE 1 l cap rest /\ Below w.heap.size w w' /\ (l ≠ [] -> w.heap.size <= b /\ w'.heap[b]? = some (.cells ⟨(l.map nE).flatten ++ rest⟩ 3 (0, 0)))
theorem lsQ_ret {l : List Nat} {w W : World} {mem : List (Nat × Obj)} {b cap : Nat} {rest : List Value} (hW : SatW w (base w) noJ mem W) (hg : gOK nE 1 l cap rest) (h : ∀ p ∈ gM nE 3 l b rest, p ∈ mem) : LsQ l w (.returned (gSl l b cap)) W := by
 refine ⟨b, cap, rest, rfl, hg, hW.below, fun hne => ?_⟩
 cases l with
 | nil => exact absurd rfl hne
 | cons x l =>
  have hm := h _ List.mem_cons_self
  exact ⟨Nat.le_of_not_lt (hW.own _ hm).1, (hW.own _ hm).2⟩
theorem cells_0 {b : GB} : b.cells[0]? = some (.int .i64 b.n) := rfl
theorem cells_iv {b : GB} {q : Nat} (h : q < 6) : b.cells[4 + q]? = some (.int .i64 (iv b.C q)) := by
 unfold GB.cells GB.u
 show ([_, _, _] ++ _ :: (ivec 6 (iv b.C) ++ _))[4 + q]? = _
 rw [List.getElem?_append_right (by simp; omega)]
 rw [show 4 + q - [Value.int .i64 b.n, .slice b.A b.L.length b.ca, .slice b.B b.C.length b.cb].length = q + 1 by simp; omega, List.getElem?_cons_succ, List.getElem?_append_left (by rw [ivec_length]; exact h)]
 exact ivec_get h
structure LS where
 i : Nat
 b : Nat
 c : Nat
 r : List Value
def freeB (C : List Lk) (f : Nat -> Int) (q : Nat) : Bool := decide (iv C q = 0) && decide (f q = 0)
theorem free_calls (b : GB) (a : Nat) (k : Int) (f : Nat -> Int) (w : World) (hn : b.n <= 6) (hg : GIn b a w) :
  Calls Tryz.prog 28 ⟨[.pointer (some ⟨a, 0, none⟩), .agg ⟨plC k f⟩]⟩ w (LsQ (flt (freeB b.C f) b.n) w) := by
 have hown := hg.ext
 refine fEn Tryz.func28 rfl Tryz.ntmps28 rfl rfl (sWn w) ?_
 have h00 : Ext w (base w) a 0 [.int .i64 b.n] := hown.at cells_0
 repeat (first|refine lVa rfl rfl (by first|exact pEv rfl|exact vL0 rfl (by assumption) rfl (by rfl)|fail) ?_|refine lNi ?_|refine cRg ?_|refine cSq ?_|refine xTh ?_|refine r_box rfl rfl rfl rfl (fun _ => ?_)|refine cBl ?_|fail)
 rename_i b1
 refine c_loop (ι := LS) (fun s => s.i <= b.n /\ gOK nE 1 (flt (freeB b.C f) s.i) s.c s.r) (fun s => [(0, .pointer (some ⟨a, 0, none⟩)), (3, .pointer (some ⟨b1, 0, none⟩)), (4, gSl (flt (freeB b.C f) s.i) s.b s.c), (10, .int .i64 b.n), (11, .int .i64 s.i)])
  (fun s => (b1, .cells ⟨plC k f⟩ 54 (0, 0)) :: gM nE 3 (flt (freeB b.C f) s.i) s.b s.r) (fun s => b.n - s.i) ⟨0, 0, 0, []⟩ ⟨Nat.zero_le _, fun h => absurd rfl h⟩ (by repeat (first|exact .nil|refine .cons rfl (by first|rfl|(congr 1; done)|exact congrArg _ (by omega)|(simp; done)) ?_)) (by repeat (first|exact .nil|refine .keep (by first|rfl|assumption) ?_|refine .drop ?_|exact MSub.refl _)) ?_
 rintro ⟨q, bb, cc, r⟩ ⟨hq, hgr⟩
 simp only at hq hgr ⊢
 by_cases hlt : q < b.n
 ·have hiv : Ext w (base w) a (0 + 4 + q) [.int .i64 (iv b.C q)] := by
   have := hown.at (cells_iv (b := b) (show q < 6 by omega))
   rwa [show 0 + (4 + q) = 0 + 4 + q by omega] at this
  have hpl := plC_get (k := k) (f := f) (show q < 6 by omega)
  have hsu := flt_succ (freeB b.C f) q
  have hle := flt_le (freeB b.C f) q
  obtain ⟨A', k', hA'⟩ := gSl_len (l := flt (freeB b.C f) q) (b := bb) (cap := cc)
  have hgr' := fun (_ : Unit) => hgr
  clear hgr
  by_cases h1 : iv b.C q = 0
  rotate_left
  ·have hf : freeB b.C f q = false := by unfold freeB; rw [decide_eq_false h1]; rfl
   rw [hf, if_neg (by decide)] at hsu
   repeat (first|refine lVa rfl rfl (by first|exact v_add rfl rfl (by omega) (by omega)|exact pEv rfl|exact vL0 rfl (by assumption) rfl (by rfl)|exact v_indexA rfl rfl rfl rfl (by omega) (by omega) (by with_reducible first|exact idx2 _ _|fail)|fail) ?_|refine lNi ?_|refine cRg ?_|refine cSq ?_|refine xTh ?_|refine l_skip rfl rfl ?_|refine c_false rfl ?_|refine c_dec_t rfl (by first|omega|fail) ?_|refine cBl ?_|refine cSk ?_|refine x_block ?_|refine l_dec_f rfl rfl rfl rfl rfl (by first|omega|fail) ?_|fail)
   exact x_back ⟨q + 1, bb, cc, r⟩ ⟨hlt, by rw [hsu]; exact hgr' ()⟩ (by simp only; omega) (by simp only [hsu]; exact (by repeat (first|exact .nil|refine .cons rfl (by first|rfl|(congr 1; done)|exact congrArg _ (by omega)|(simp; done)) ?_))) (by simp only [hsu]; exact (by repeat (first|exact .nil|refine .keep (by first|rfl|assumption) ?_|refine .drop ?_|exact MSub.refl _)))
  by_cases h2 : f q = 0
  rotate_left
  ·have hf : freeB b.C f q = false := by unfold freeB; rw [decide_eq_false h2, Bool.and_false]
   rw [hf, if_neg (by decide)] at hsu
   repeat (first|refine lVa rfl rfl (by first|exact v_add rfl rfl (by omega) (by omega)|exact pEv rfl|exact vL0 rfl (by assumption) rfl (by rfl)|exact v_indexA rfl rfl rfl rfl (by omega) (by omega) (by with_reducible first|exact idx2 _ _|fail)|exact v_load_at rfl (by repeat constructor) rfl rfl (by first|assumption|fail)|fail) ?_|refine lNi ?_|refine cRg ?_|refine cSq ?_|refine xTh ?_|refine c_dec_t rfl (by first|omega|fail) ?_|refine c_dec_f rfl (by first|omega|fail) ?_|refine cBl ?_|refine cSk ?_|refine x_block ?_|refine l_dec_t rfl rfl rfl rfl rfl (by first|omega|fail) ?_|fail)
   exact x_back ⟨q + 1, bb, cc, r⟩ ⟨hlt, by rw [hsu]; exact hgr' ()⟩ (by simp only; omega) (by simp only [hsu]; exact (by repeat (first|exact .nil|refine .cons rfl (by first|rfl|(congr 1; done)|exact congrArg _ (by omega)|(simp; done)) ?_))) (by simp only [hsu]; exact (by repeat (first|exact .nil|refine .keep (by first|rfl|assumption) ?_|refine .drop ?_|exact MSub.refl _)))
  have hf : freeB b.C f q = true := by unfold freeB; rw [decide_eq_true h1, decide_eq_true h2]; rfl
  rw [hf, if_pos rfl] at hsu
  rw [hA']
  repeat (first|refine lVa rfl rfl (by first|exact pEv rfl|exact vL0 rfl (by assumption) rfl (by rfl)|exact v_indexA rfl rfl rfl rfl (by omega) (by omega) (by with_reducible first|exact idx2 _ _|fail)|exact v_load_at rfl (by repeat constructor) rfl rfl (by first|assumption|fail)|fail) ?_|refine lNi ?_|refine cRg ?_|refine cSq ?_|refine xTh ?_|refine r_buildSlice rfl rfl rfl rfl rfl rfl (by rfl) (fun _ => ?_)|refine c_dec_t rfl (by first|omega|fail) ?_|refine cBl ?_|refine cSk ?_|refine l_dec_t rfl rfl rfl rfl rfl (by first|omega|fail) ?_|fail)
  refine r_appendZ (f := nE) (e := 3) (sz := 1) (xs := flt (freeB b.C f) q) (ys := [q]) (m := 1) rfl rfl (congrArg some hA'.symm) rfl rfl rfl rfl (.inr ⟨_, 0, rfl, news_own (by repeat constructor)⟩) (List.perm_append_comm (l₁ := [_, _])) (hgr' ()) nE_rows rfl rfl (by omega) (by unfold maxLen; omega) (fun b' c' r' hg' => ?_)
  rw [<- hsu] at hg' ⊢
  refine l_perm List.perm_append_comm ?_
  obtain ⟨A2', k2', hA2'⟩ := gSl_len (l := flt (freeB b.C f) (q + 1)) (b := b') (cap := c')
  rw [hA2']
  simp only [List.cons_append, List.nil_append]
  repeat (first|refine lVa rfl rfl (by first|exact v_add rfl rfl (by omega) (by omega)|exact pEv rfl|fail) ?_|refine lNi ?_|refine cRg ?_|refine xTh ?_|refine x_block ?_|fail)
  rw [<- hA2']
  exact x_back ⟨q + 1, b', c', r'⟩ ⟨hlt, hg'⟩ (by simp only; omega) (by repeat (first|exact .nil|refine .cons rfl (by first|rfl|(congr 1; done)|exact congrArg _ (by omega)|(simp; done)) ?_)) (by repeat (first|exact .nil|refine .keep (by first|rfl|assumption) ?_|refine .drop ?_|exact MSub.refl _))
 ·have hqe : q = b.n := by omega
  subst hqe
  obtain ⟨A', k', hA'⟩ := gSl_len (l := flt (freeB b.C f) b.n) (b := bb) (cap := cc)
  rw [hA']
  repeat (first|refine lVa rfl rfl (by first|exact pEv rfl|fail) ?_|refine lNi ?_|refine cRg ?_|refine cSq ?_|refine xTh ?_|refine c_dec_f rfl (by first|omega|fail) ?_|refine c_ret ?_|refine c_exit ?_|refine xTe ?_|refine xBs ?_|fail)
  exact x_ret rfl rfl (by repeat constructor) rfl (fun W hW => by rw [<- hA']; exact lsQ_ret hW hgr (fun p hp => List.mem_cons_of_mem _ hp))
end R24
end Go.Proofs

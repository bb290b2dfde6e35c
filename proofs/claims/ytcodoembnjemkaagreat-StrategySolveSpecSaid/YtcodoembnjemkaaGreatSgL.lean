/- The engine: calls that write some blocks of one's own and lay others, told by what they leave of these alone; queues: slices in the middle of a block that are appended to. Generic: no program is named here. -/
import Derived.Test.YtcodoembnjemkaaGreatSgK
set_option linter.unusedSectionVars false
set_option linter.unusedVariables false
set_option linter.unusedSimpArgs false
namespace Go
open Go.RowKit
namespace Kin
section
variable {P : Program} {N : Nat} {c : Cx} {Q : Exit -> Act -> World -> Prop} {env : List (Nat × Value)} {mem mem' : List (Nat × Obj)} {L l : List Oper} {tt : List (TypeId × TI)}
 {ty : TypeId} {pos : String} {af : Array Edge} {g : Option (Nat × Bool)} {dd : Option Tmp}
/-- what a call has made of the blocks `pre` -/
theorem satW_frame {w0 W W' : World} {D : Nat -> Prop} {pre post : List (Nat × Obj)} (h : SatW w0 D noJ (pre ++ mem) W) (k : SatW W (allBut W (pre.map (·.1))) noJ post W') : SatW w0 D noJ (post ++ mem) W' := by
 have hnd := h.nodup
 rw [List.map_append, List.nodup_append] at hnd
 have hD : ∀ b, D b -> allBut W (pre.map (·.1)) b := fun b hb => ⟨Nat.lt_of_lt_of_le (h.dom b hb) h.same.size, fun hm => by
  obtain ⟨p, hp, e⟩ := List.mem_map.1 hm
  exact (h.own p (List.mem_append_left _ hp)).1 (e ▸ hb)⟩
 have hM : ∀ p ∈ mem, allBut W (pre.map (·.1)) p.1 := fun p hp => ⟨h.lt (List.mem_append_right _ hp), fun hm => hnd.2.2 _ hm _ (List.mem_map.2 ⟨p, hp, rfl⟩) rfl⟩
 refine ⟨h.same.trans (k.same.mono hD), h.dom, ?_, fun p hp => ?_, closed_noJ, trivial⟩
 ·rw [List.map_append, List.nodup_append]
  refine ⟨k.nodup, hnd.2.1, fun a ha b hb e => ?_⟩
  obtain ⟨p, hp, rfl⟩ := List.mem_map.1 ha
  obtain ⟨q, hq, rfl⟩ := List.mem_map.1 hb
  exact (k.own p hp).1 (e ▸ hM q hq)
 ·rcases List.mem_append.1 hp with hp | hp
  ·exact ⟨fun hd => (k.own p hp).1 (hD _ hd), (k.own p hp).2⟩
  ·have ho := h.own p (List.mem_append_right _ hp)
   exact ⟨ho.1, k.same.obj ho.2 (hM p hp)⟩
/-- a call that makes `post` of `pre` -/
def FrQ {ι : Type} (pre : List (Nat × Obj)) (v : ι -> Value) (post : ι -> List (Nat × Obj)) (W : World) (e : Ending) (W' : World) : Prop := ∃ i, e = .returned (v i) /\ SatW W (allBut W (pre.map (·.1))) noJ (post i) W'
theorem frQ_start {W : World} {pre : List (Nat × Obj)} (hn : (pre.map (·.1)).Nodup) (h : ∀ p ∈ pre, W.heap[p.1]? = some p.2) : SatW W (allBut W (pre.map (·.1))) noJ pre W := satW_fresh hn h
theorem SatW.pre {w0 W : World} {D : Nat -> Prop} {J : (Nat -> Prop) -> World -> Prop} {pre mem0 : List (Nat × Obj)} (h : SatW w0 D J mem W) (hp : mem.Perm (pre ++ mem0)) : (pre.map (·.1)).Nodup /\ ∀ p ∈ pre, W.heap[p.1]? = some p.2 := by
 have h1 := h.perm hp
 refine ⟨(h1.mono (List.sublist_append_left _ _)).nodup, fun p hpp => (h1.own p (List.mem_append_left _ hpp)).2⟩
variable [Wide c.F]
theorem r_callF {F : Fence} {n : Nat} {ds : List Deferred} {w0 : World} {D : Nat -> Prop} {d : Nat} {f : FuncId} [Ent P f] {args : List Operand} {ats : Array TypeId} {vs : List Value} {ι : Type} {v : ι -> Value} {pre mem0 : List (Nat × Obj)} {post : ι -> List (Nat × Obj)} [Wide F]
  (hw : wantB L env g = some true) (hd : Nat.blt d N = true) (ha : evOps env args some = some vs) (hp : mem.Perm (pre ++ mem0))
  (hc : ∀ W, SatW w0 D noJ mem W -> (pre.map (·.1)).Nodup -> (∀ p ∈ pre, W.heap[p.1]? = some p.2) -> Calls P f ⟨vs⟩ W (FrQ pre v post W))
  (k : ∀ i, RunL P N ⟨F, n, ds, w0, D, noJ⟩ L l Q ((d, v i) :: env) (post i ++ mem0)) : RunL P N ⟨F, n, ds, w0, D, noJ⟩ L (⟨some d, .call ⟨.value (.func f), ⟨args⟩, ats⟩, ty, pos, af, g⟩ :: l) Q env mem :=
 l_call (c := ⟨F, n, ds, w0, D, noJ⟩) (ι := ι) (v := v) (mem' := fun i => post i ++ mem0) hw hd ha (fun W hm => (hc W hm (hm.pre hp).1 (hm.pre hp).2).mono fun _ _ ⟨i, h1, h2⟩ => ⟨i, h1, satW_frame (hm.perm hp) h2⟩) k
theorem r_callvF {F : Fence} {n : Nat} {ds : List Deferred} {w0 : World} {D : Nat -> Prop} {d : Nat} {f : FuncId} [Ent P f] {x : Operand} {args : List Operand} {ats : Array TypeId} {vs fs cs ws : List Value} {ι : Type} {v : ι -> Value} {pre mem0 : List (Nat × Obj)} {post : ι -> List (Nat × Obj)} [Wide F]
  (hw : wantB L env g = some true) (hd : Nat.blt d N = true) (hx : evOp env x = some (.func (.func f) ⟨fs⟩ ⟨cs⟩)) (ha : evOps env args some = some vs) (hws : fs ++ vs ++ cs = ws) (hp : mem.Perm (pre ++ mem0))
  (hc : ∀ W, SatW w0 D noJ mem W -> (pre.map (·.1)).Nodup -> (∀ p ∈ pre, W.heap[p.1]? = some p.2) -> Calls P f ⟨ws⟩ W (FrQ pre v post W))
  (k : ∀ i, RunL P N ⟨F, n, ds, w0, D, noJ⟩ L l Q ((d, v i) :: env) (post i ++ mem0)) : RunL P N ⟨F, n, ds, w0, D, noJ⟩ L (⟨some d, .call ⟨.value x, ⟨args⟩, ats⟩, ty, pos, af, g⟩ :: l) Q env mem :=
 l_callv (c := ⟨F, n, ds, w0, D, noJ⟩) (ι := ι) (v := v) (mem' := fun i => post i ++ mem0) hw hd hx ha hws (fun W hm => (hc W hm (hm.pre hp).1 (hm.pre hp).2).mono fun _ _ ⟨i, h1, h2⟩ => ⟨i, h1, satW_frame (hm.perm hp) h2⟩) k
/-! ## Queues -/
/-- a slice in the middle of a block: what lies ahead of it, its elements, its room, what lies behind -/
structure GrowM (sz n o cap : Nat) (pre xs rest : List Value) : Prop where
 pre : pre.length = o
 len : xs.length = n * sz
 rest : rest.length = (cap - n) * sz
 le : n <= cap
 max : cap <= maxLen
/-- where a queue lies -/
structure QP where
 b : Nat
 o : Nat
 cap : Nat
 pre : List Value
 rest : List Value
 post : List Value
def QP.v (q : QP) (n : Nat) : Value := .slice (some ⟨q.b, q.o, none⟩) n q.cap
def QP.m (q : QP) (T : TypeId) (xs : List Value) : Nat × Obj := (q.b, .cells ⟨q.pre ++ xs ++ q.rest ++ q.post⟩ T (0, 0))
def QP.OK (q : QP) (sz n : Nat) (xs : List Value) : Prop := GrowM sz n q.o q.cap q.pre xs q.rest
theorem r_appendM [T : TT P tt] {d t e n m cx sz bt sz' bt' : Nat} {A : Option Addr} {ke : TK} {z z' : Value} {x y : Operand} {q : QP} {xs ys : List Value} {mem0 : List (Nat × Obj)} (hw : wantB L env g = some true) (hd : Nat.blt d N = true)
  (hx : evOp env x = some (q.v n)) (hy : evOp env y = some (.slice A m cx)) (ht : look tt t = some ⟨.slice e, sz', bt', z'⟩) (hte : look tt e = some ⟨ke, sz, bt, z⟩) (hnews : NewsG c mem A m ys)
  (hp : mem.Perm (q.m e xs :: mem0)) (hg : q.OK sz n xs)
  (hl : ys.length = m * sz) (hone : allOne ys = true) (hzl : Nat.beq (cellsL z).length sz = true) (hb : (n + m) * bt <= 140737488355328) (hm : n + m <= maxLen)
  (k : ∀ q' : QP, q'.OK sz (n + m) (xs ++ ys) -> RunL P N c L l Q ((d, q'.v (n + m)) :: env) (q'.m e (xs ++ ys) :: mem0)) :
  RunL P N c L (⟨some d, .call ⟨.builtin .append, ⟨[x, y]⟩, ⟨[t, t]⟩⟩, ty, pos, af, g⟩ :: l) Q env mem := by
 rcases hnews with ⟨rfl, rfl⟩ | ⟨bx, ox, rfl, hn⟩
 ·refine lVa hw hd (v_append0 hx hy ht hte hg.le) (l_perm hp ?_)
  have := k q (by rw [List.append_nil]; exact hg)
  rw [List.append_nil] at this
  exact this
 refine l_perm hp ?_
 have hn' : News c (q.m e xs :: mem0) bx ox ys := ⟨fun W hW => hn.ok W (hW.perm hp.symm)⟩
 have hu : P.underlying t = some (.slice e) := (TT.look (P := P) ht).1
 obtain ⟨_, inf, hi, hs, hbt, hz⟩ := TT.look (P := P) hte
 simp only at hs hz hbt
 have hzl := Nat.eq_of_beq_eq_true hzl
 refine l_eff (ι := { q' : QP // q'.OK sz (n + m) (xs ++ ys) }) (v := fun q' => q'.1.v (n + m)) (mem' := fun q' => q'.1.m e (xs ++ ys) :: mem0) hw hd ⟨rfl, fun a W ha hmm => ?_⟩ (fun q' => k _ q'.2)
 have hbW := (hmm.own _ List.mem_cons_self).2
 have hlen2 : (xs ++ ys).length = (n + m) * sz := by rw [List.length_append, hg.len, hl, Nat.add_mul]
 have hcs : (q.m e xs).2 = .cells ⟨q.pre ++ xs ++ q.rest ++ q.post⟩ e (0, 0) := rfl
 have hb1 : (q.m e xs).1 = q.b := rfl
 rw [hcs, hb1] at hbW
 have hxv : a.eval x = .slice (some ⟨q.b, q.o, none⟩) n q.cap := ha.eval hx
 by_cases hroom : n + m <= q.cap
 ·have hrl := hg.rest
  have hyr : ys.length <= q.rest.length := by
   rw [hl, hrl]
   exact Nat.mul_le_mul_right _ (by omega)
  have hf := run_firstCells_some (P := P) W inf.size m ⟨bx, ox, none⟩ m cx ys (by rw [hs]; exact hl) (fun j v hj => by rw [addr_add]; exact hn'.ok W hmm j v hj)
  have hfit : q.o + n * inf.size + ys.length <= (q.pre ++ xs ++ q.rest ++ q.post).length := by
   rw [hs, List.length_append, List.length_append, List.length_append, hg.pre, hg.len]; omega
  have hst := run_storeCells_at (P := P) q.b (q.o + n * inf.size) e ys 0 ⟨q.pre ++ xs ++ q.rest ++ q.post⟩ W hbW (by simpa using hfit) (allOne_mem hone)
  simp only [Nat.add_zero] at hst
  have e0 : q.o + n * inf.size = (q.pre ++ xs).length := by rw [hs, List.length_append, hg.pre, hg.len]
  have e1 : (q.pre ++ xs ++ q.rest ++ q.post).take (q.o + n * inf.size) = q.pre ++ xs := by rw [e0, List.append_assoc (q.pre ++ xs), List.take_left]
  have e2 : (q.pre ++ xs ++ q.rest ++ q.post).drop (q.o + n * inf.size + ys.length) = q.rest.drop ys.length ++ q.post := by
   rw [e0, List.append_assoc (q.pre ++ xs), <- List.drop_drop, List.drop_left, List.drop_append_of_le_length hyr]
  have hst2 : (storeCells ⟨q.b, q.o + n * inf.size, none⟩ ys).run P W = .ok () (W.setRow q.b (q.pre ++ (xs ++ ys) ++ q.rest.drop ys.length ++ q.post).toArray) := by
   have h3 : (storeCells ⟨q.b, q.o + n * inf.size, none⟩ ys).run P W = .ok () (W.setRow q.b ((q.pre ++ xs ++ q.rest ++ q.post).take (q.o + n * inf.size) ++ ys ++ (q.pre ++ xs ++ q.rest ++ q.post).drop (q.o + n * inf.size + ys.length)).toArray) := hst
   rw [e1, e2] at h3
   rw [h3]
   simp [List.append_assoc]
  have hap : (Builtin.append_ #[t, t] ty #[.slice (some ⟨q.b, q.o, none⟩) n q.cap, .slice (some ⟨bx, ox, none⟩) m cx]).run P W = .ok (.slice (some ⟨q.b, q.o, none⟩) (n + m) q.cap) (W.setRow q.b (q.pre ++ (xs ++ ys) ++ q.rest.drop ys.length ++ q.post).toArray) := by
   simp [Builtin.append_, run_underlying hu, sizeOf, typeInfo, hi, Builtin.lenOf, hroom, hf, Addr.add_lit, hst2]
  refine ⟨⟨⟨q.b, q.o, q.cap, q.pre, q.rest.drop ys.length, q.post⟩, ⟨hg.pre, hlen2, ?_, hroom, hg.max⟩⟩, _, p_append hxv (ha.eval hy) hap, ?_⟩
  ·show (q.rest.drop ys.length).length = (q.cap - (n + m)) * sz
   rw [List.length_drop, hrl, hl, <- Nat.sub_mul, Nat.sub_sub]
  ·exact hmm.put (mem' := QP.m ⟨q.b, q.o, q.cap, q.pre, q.rest.drop ys.length, q.post⟩ e (xs ++ ys) :: mem0) Upd.head
 ·have hap := run_append_grow (P := P) W t ty e inf z hu hi hz ⟨q.b, q.o, none⟩ n q.cap xs (by rw [hs]; exact hg.len) (fun j v hj => by
    rw [addr_add, hmm.cellAt List.mem_cons_self, <- hg.pre, List.append_assoc, List.append_assoc, List.getElem?_append_right (by omega), Nat.add_sub_cancel_left, List.getElem?_append_left (List.getElem?_eq_some_iff.1 hj).1]; exact hj)
   ⟨bx, ox, none⟩ m cx ys (by rw [hs]; exact hl) (fun j v hj => by rw [addr_add]; exact hn'.ok W hmm j v hj) (by omega) (by simp only [maxLen] at hm; omega) (growslice_fits (by omega) (by rw [hbt]; exact hb))
  have hge := grownCap_ge W (n + m) q.cap e
  refine ⟨⟨⟨W.heap.size, 0, grownCap W (n + m) q.cap e, [], (Builtin.zeroCells z.cells (grownCap W (n + m) q.cap e - (n + m))).toList, []⟩, ⟨rfl, hlen2, ?_, hge, grownCap_le_maxLen W (n + m) q.cap e hm⟩⟩, _, p_append hxv (ha.eval hy) hap, ?_⟩
  ·rw [zeroCells_len, cellsL_eq]
   show (grownCap W (n + m) q.cap e - (n + m)) * (cellsL z).length = _
   rw [hzl]
  ·have := (hmm.mono (List.sublist_cons_self _ _)).newest (.cells (xs.toArray ++ ys.toArray ++ Builtin.zeroCells z.cells (grownCap W (n + m) q.cap e - (n + m))) e)
   unfold QP.m
   rw [show (xs.toArray ++ ys.toArray ++ Builtin.zeroCells z.cells (grownCap W (n + m) q.cap e - (n + m))) = ⟨[] ++ (xs ++ ys) ++ (Builtin.zeroCells z.cells (grownCap W (n + m) q.cap e - (n + m))).toList ++ []⟩ by apply Array.ext'; simp] at this ⊢
   exact this
/-- the first element is left -/
theorem v_tailM [T : TT P tt] {t e n sz bt sz' bt' : Nat} {x : Operand} {ke : TK} {z z' : Value} {q : QP} {r xs : List Value} (hx : evOp env x = some (q.v (n + 1))) (ht : look tt t = some ⟨.slice e, sz', bt', z'⟩)
  (hte : look tt e = some ⟨ke, sz, bt, z⟩) (hg : q.OK sz (n + 1) (r ++ xs)) (hr : r.length = sz) :
  ∃ q' : QP, q'.OK sz n xs /\ q'.m e xs = q.m e (r ++ xs) /\ OpVal P N c env mem ⟨dd, .slice t x (some (.const (.int .i64 1))) none none, ty, pos, af, g⟩ (q'.v n) := by
 have hle := hg.le
 have hxl := hg.len
 rw [List.length_append, hr, Nat.add_mul] at hxl
 by_cases hc : q.cap = 1
 ·have hn0 : n = 0 := by omega
  subst hn0
  have hx0 : xs = [] := List.eq_nil_of_length_eq_zero (by omega)
  subst hx0
  refine ⟨⟨q.b, q.o, 0, q.pre, [], r ++ q.rest ++ q.post⟩, ⟨hg.pre, by simp, by simp, Nat.le_refl 0, Nat.zero_le _⟩, ?_, ?_⟩
  ·unfold QP.m; simp
  ·have := v_sliceE (P := P) (N := N) (c := c) (mem := mem) (env := env) (ty := ty) (pos := pos) (af := af) (g := g) (dd := dd) (lo := .const (.int .i64 1)) (k0 := 1) hx rfl ht hte rfl (by omega) hc
   exact this
 ·refine ⟨⟨q.b, q.o + 1 * sz, q.cap - 1, q.pre ++ r, q.rest, q.post⟩, ⟨?_, by omega, ?_, by show n <= q.cap - 1; omega, by have := hg.max; show q.cap - 1 <= maxLen; omega⟩, ?_, ?_⟩
  ·show (q.pre ++ r).length = q.o + 1 * sz
   rw [List.length_append, hg.pre, hr, Nat.one_mul]
  ·show q.rest.length = (q.cap - 1 - n) * sz
   rw [hg.rest]; congr 1; omega
  ·unfold QP.m; simp
  ·have := v_sliceL (P := P) (N := N) (c := c) (mem := mem) (env := env) (ty := ty) (pos := pos) (af := af) (g := g) (dd := dd) (lo := .const (.int .i64 1)) (l := 1) hx rfl ht hte rfl (by omega) hc
   exact this
end
end Kin
end Go

set_option maxRecDepth 100000
set_option maxHeartbeats 400000000
namespace Go.Proofs
open Go.RowKit Go.Kin Go.Kin.St Go.Kin.Ct Go.Kin.Sg
namespace R24
section
variable {P : Program} {N : Nat} {c : Cx} {env : List (Nat × Value)} {mem : List (Nat × Obj)} {tt : List (TypeId × TI)} {ty : TypeId} {pos : String} {af : Array Edge} {g : Option (Nat × Bool)} {dd : Option Tmp}
theorem v_eqNilS [T : TT P tt] {t t' e n m sz bt : Nat} {z : Value} {ad : Addr} {x : Operand} (ht : Go.Kin.look tt t = some ⟨.slice e, sz, bt, z⟩) (hx : evOp env x = some (.slice (some ad) n m)) :
  OpVal P N c env mem ⟨dd, .binOp .eql t x (.const (.slice none 0 0)) t', ty, pos, af, g⟩ (.bool false) := by
 have hu : P.underlying t = some (.slice e) := (TT.look (P := P) ht).1
 refine ⟨rfl, fun a W ha _ => ?_⟩
 have h1 : (eqGuard .eql t x (.const (.slice none 0 0)) (.slice (some ad) n m) (.slice none 0 0)).run P W = .ok () W := by
  unfold eqGuard; simp [Sem.run, pure]
 have h2 : (Op.equal t (.slice (some ad) n m) (.slice none 0 0)).run P W = .ok false W := by
  show (Op.equalIn (9999 + 1) t _ _).run P W = _
  rw [Op.equalIn]
  simp only [Sem.run_bind, run_und hu, Result.andThen_ok]; rfl
 have h3 : a.eval (.const (.slice none 0 0)) = .slice none 0 0 := rfl
 simp only [execOp, ha.eval hx, h3, Sem.run_bind, h1, Result.andThen_ok, binOp, h2]
 rfl
theorem v_eqNilS0 [T : TT P tt] {t t' e sz bt : Nat} {z : Value} {x : Operand} (ht : Go.Kin.look tt t = some ⟨.slice e, sz, bt, z⟩) (hx : evOp env x = some (.slice none 0 0)) :
  OpVal P N c env mem ⟨dd, .binOp .eql t x (.const (.slice none 0 0)) t', ty, pos, af, g⟩ (.bool true) := by
 have hu : P.underlying t = some (.slice e) := (TT.look (P := P) ht).1
 refine ⟨rfl, fun a W ha _ => ?_⟩
 have h1 : (eqGuard .eql t x (.const (.slice none 0 0)) (.slice none 0 0) (.slice none 0 0)).run P W = .ok () W := by
  unfold eqGuard; simp [Sem.run, pure]
 have h2 : (Op.equal t (.slice none 0 0) (.slice none 0 0)).run P W = .ok true W := by
  show (Op.equalIn (9999 + 1) t _ _).run P W = _
  rw [Op.equalIn]
  simp only [Sem.run_bind, run_und hu, Result.andThen_ok]; rfl
 have h3 : a.eval (.const (.slice none 0 0)) = .slice none 0 0 := rfl
 simp only [execOp, ha.eval hx, h3, Sem.run_bind, h1, Result.andThen_ok, binOp, h2]
 rfl
end
def flI (l : List Int) : List Value := (l.map inE).flatten
theorem flI_len {l : List Int} : (flI l).length = l.length * 1 := in_rows l
theorem flI_one : ∀ {l : List Int}, allOne (flI l) = true
 | [] => rfl
 | _ :: l => flI_one (l := l)
theorem news_at {c : Cx} {mem : List (Nat × Obj)} {b o : Nat} {l : List Int} (h : ∀ W, SatW c.w0 c.D c.J mem W -> At W (some ⟨b, o, none⟩) 1 (l.map inE)) : News c mem b o (flI l) := ⟨fun W hW j v hj => by
 obtain ⟨i, hi⟩ : ∃ i, i = j := ⟨_, rfl⟩
 have hlt := (List.getElem?_eq_some_iff.1 hj).1
 rw [flI_len, Nat.mul_one] at hlt
 obtain ⟨b', o', e, hc⟩ := h W hW j (inE l[j]) (by rw [List.getElem?_map, List.getElem?_eq_getElem hlt]; rfl)
 cases e
 have h2 := hc 0 (.int .i64 l[j]) rfl
 rw [Nat.mul_one, Nat.add_zero] at h2
 rw [h2]
 have h3 : (flI l)[j]? = some (.int .i64 l[j]) := by
  have : flI l = l.map fun x => Value.int .i64 x := by
   unfold flI
   clear h hj hlt hc h2
   induction l with
   | nil => rfl
   | cons x l ih => rw [List.map_cons, List.flatten_cons, ih]; rfl
  rw [this, List.getElem?_map, List.getElem?_eq_getElem hlt]; rfl
 rw [<- h3, hj]⟩
theorem clone_calls (b o cap : Nat) (l : List Int) (w : World) (hA : Kin.At w (some ⟨b, o, none⟩) 1 (l.map inE)) (hl : l ≠ []) (hlen : l.length <= 1000) :
  Calls Tryz.prog 43 ⟨[.slice (some ⟨b, o, none⟩) l.length cap]⟩ w fun e w' => ∃ b cap rest, e = .returned (.slice (some ⟨b, 0, none⟩) l.length cap) /\ Grow 1 l.length (flI l) cap rest /\ Below w.heap.size w w' /\ w.heap.size <= b /\ w'.heap[b]? = some (.cells ⟨flI l ++ rest⟩ 3 (0, 0)) := by
 refine fEn Tryz.func43 rfl Tryz.ntmps43 rfl rfl (sWn w) ?_
 repeat (first|refine lVa rfl rfl (by first|exact pEv rfl|fail) ?_|refine lNi ?_|refine cRg ?_|refine cSq ?_|refine xTh ?_|refine r_buildSlice rfl rfl rfl rfl rfl rfl (by rfl) (fun _ => ?_)|refine c_false rfl ?_|refine cSk ?_|refine lVa rfl rfl (v_eqNilS rfl rfl) ?_|fail)
 refine r_append (xs := []) (rest := []) (n := 0) (cap := 0) (ys := flI l) rfl rfl rfl rfl rfl rfl (news_at fun W hW => hA.sat hW) Rem.head ⟨rfl, rfl, Nat.le_refl _, Nat.zero_le _⟩ flI_len flI_one rfl (by omega) (by unfold maxLen; omega) (fun b' c' r' hg => ?_)
 rw [Nat.zero_add] at hg ⊢
 rw [List.nil_append] at hg ⊢
 repeat (first|refine lVa rfl rfl (by first|exact pEv rfl|fail) ?_|refine lNi ?_|refine xTh ?_|refine c_ret ?_|fail)
 refine x_ret rfl rfl (by repeat constructor) rfl (fun W hW => ?_)
 have h := hW.own (b', _) (by repeat constructor)
 exact ⟨b', c', r', rfl, hg, hW.below, Nat.le_of_not_lt h.1, h.2⟩
theorem kn_rows {w : World} {b : Nat} {k : Int} {l : List Int} (h : ∀ i v, (plC k (kn l))[i]? = some v -> w.cell? ⟨b, i, none⟩ = some v) (hl : l.length <= 6) : At w (some ⟨b, 0 + 1, none⟩) 1 (l.map inE) := fun i cs hi => by
 rw [List.getElem?_map] at hi
 cases hq : l[i]? with
 | none => rw [hq] at hi; cases hi
 | some x =>
  rw [hq] at hi
  cases hi
  refine ⟨b, 0 + 1, rfl, fun j v hj => ?_⟩
  have hlt := (List.getElem?_eq_some_iff.1 hq).1
  cases j with
  | succ j => cases hj
  | zero =>
   cases hj
   have := plC_get (k := k) (f := kn l) (show i < 6 by omega)
   rw [kn_get hq] at this
   have h2 := h _ _ this
   rw [show 0 + 1 + i * 1 + 0 = 1 + i by omega]
   exact h2
def decV (k : Int) (l : List Int) (X : Value) (_ : Array Value) (π : Pi) : Value := .agg ⟨[.int .i64 k, .slice (some ⟨π.b, 0, none⟩) l.length (capF 1 l.length π.rest), X]⟩
def decO (l : List Int) (_ : Array Value) (π : Pi) : List (Nat × Obj) := [(π.b, .cells ⟨flI l ++ restF 1 l.length π.rest⟩ 3 (0, 0))]
theorem decision_calls (b : GB) (a : Nat) (k : Int) (l : List Int) (B : Option Addr) (m cd : Nat) (w : World) (hn : b.n <= 6) (hl : l.length = b.n) (hne : l ≠ []) (hg : GIn b a w) :
  Calls Tryz.prog 68 ⟨[.pointer (some ⟨a, 0, none⟩), .agg ⟨plC k (kn l)⟩, .slice B m cd]⟩ w fun e w' => ∃ π, e = .returned (decV k l (.slice B m cd) #[] π) /\ Below w.heap.size w w' /\ ((decO l #[] π).map (·.1)).Nodup /\ ∀ p ∈ decO l #[] π, w.heap.size <= p.1 /\ w'.heap[p.1]? = some p.2 := by
 have hown := hg.ext
 have h00 : Ext w (base w) a 0 [.int .i64 b.n] := hown.at cells_0
 have hpl0 := plC_0 (k := k) (f := kn l)
 refine fEn Tryz.func68 rfl Tryz.ntmps68 rfl rfl (sWn w) ?_
 repeat ((fail_if_success refine c_probe (id := 1) ?_); (fail_if_success refine c_probe1 (id := 1) ?_); first|refine lNi ?_|refine cRg ?_|refine cSq ?_|refine xTh ?_|refine r_box rfl rfl rfl rfl (fun _ => ?_)|refine r_alloc rfl rfl rfl (by first|exact aggL|fail) (fun _ => ?_)|fail)
 refine cSq ?_
 rename_i b4 b6
 refine c_new 1 1 [(9, .calA 1 1 l.length (flI l) 3), (12, .sto 0 0 3)] [(9, [1]), (12, [0])] [] rfl (by decide +kernel) rfl ?_
 repeat (first|refine e_val rfl rfl rfl rfl (v_sliceArr rfl rfl rfl rfl rfl hn) ?_|refine e_val rfl rfl rfl rfl (by first|exact pEv rfl|exact vLd rfl (by repeat constructor) rfl (by rfl)|exact vL0 rfl (by assumption) rfl (by rfl)|fail) ?_|fail)
 rw [<- hl]
 refine e_callA rfl rfl rfl rfl rfl (by decide) flI_len (by unfold maxLen; omega) rfl (fun W hW => ?_) (fun b1 c1 r1 hgr => ?_)
 ·refine clone_calls b4 (0 + 1) 6 l W (kn_rows (k := k) (fun i v hi => ?_) (by omega)) hne (by omega)
  rw [hW.cellAt (b := b4) (by repeat constructor) i]; exact hi
 repeat (first|refine xTh ?_|refine c_ret ?_|refine e_val rfl rfl rfl rfl (by first|exact pEv rfl|exact v_build rfl rfl (by rfl)|fail) ?_|refine e_store rfl rfl rfl rfl rfl rfl rfl rfl (by first|rfl|fail) rfl rfl (by first|(simp; done)|fail) (by first|exact splice_lit (by rfl)|fail) ?_|refine e_nil rfl ?_|fail)
 refine x_ret rfl rfl (by repeat constructor) rfl (fun W hW => ?_)
 have h := hW.own (b1, .cells ⟨flI l ++ r1⟩ 3 (0, 0)) (by repeat constructor)
 obtain ⟨g1, g2⟩ := growF hgr (by omega)
 refine ⟨⟨b1, r1, [], []⟩, ?_, hW.below, by simp [decO], fun p hp => ?_⟩
 ·unfold decV
  simp only
  rw [g1]
 ·unfold decO at hp
  rw [List.mem_singleton.1 hp]
  simp only
  rw [g2]
  exact ⟨Nat.le_of_not_lt h.1, h.2⟩
/-! ## A decision as it lies -/
structure DR where
 k : Nat
 l : List Int
 d : List Nat
 bk : Nat
 ck : Nat
 rk : List Value
 bd : Nat
 cd : Nat
 rd : List Value
def drE (r : DR) : List Value := [.int .i64 r.k, .slice (some ⟨r.bk, 0, none⟩) r.l.length r.ck, .slice (some ⟨r.bd, 0, none⟩) r.d.length r.cd]
theorem dr_rows (l : List DR) : (l.map drE).flatten.length = l.length * 3 := by
 induction l with
 | nil => rfl
 | cons x l ih => rw [List.map_cons, List.flatten_cons, List.length_append, ih, List.length_cons]; show 3 + _ = _; omega
def DR.knM (r : DR) : List (Nat × Obj) := [(r.bk, .cells ⟨flI r.l ++ r.rk⟩ 3 (0, 0))]
def DR.doM (r : DR) : List (Nat × Obj) := [(r.bd, .cells ⟨(r.d.map nE).flatten ++ r.rd⟩ 3 (0, 0))]
def DR.OK (r : DR) : Prop := Grow 1 r.l.length (flI r.l) r.ck r.rk /\ Grow 1 r.d.length ((r.d.map nE).flatten) r.cd r.rd /\ r.d ≠ []
/-- the list of decisions, and where it lies -/
structure SL where
 rows : List DR
 b : Nat
 c : Nat
 r : List Value
def SL.v (s : SL) : Value := gSl s.rows s.b s.c
def SL.m (s : SL) (bs : Nat) : List (Nat × Obj) := (bs, .cells ⟨[s.v]⟩ 25 (0, 0)) :: gM drE 39 s.rows s.b s.r
def SL.OK (s : SL) : Prop := gOK drE 3 s.rows s.c s.r
theorem GB.In.sat {b : GB} {a : Nat} {w W : World} {D : Nat -> Prop} {J : (Nat -> Prop) -> World -> Prop} {mem : List (Nat × Obj)} (h : b.In a w D) (hW : SatW w D J mem W) : GIn b a W :=
 ⟨fun j v hj => by
  have := hW.same.cell (h.own.cell j v hj) h.own.dom
  rwa [Nat.zero_add] at this, h.l.at hW, h.c.at hW⟩
theorem GB.In.move {b : GB} {a : Nat} {w W : World} {D D' : Nat -> Prop} (h : b.In a w D) (hS : Same D w W) (hD : ∀ k, D k -> D' k) : b.In a W D' := ⟨h.own.move hS hD, h.l.move hS hD, h.c.move hS hD⟩
theorem satW_subset {w0 : World} {D : Nat -> Prop} {J : (Nat -> Prop) -> World -> Prop} {mem post : List (Nat × Obj)} {W : World} (h : SatW w0 D J mem W) (hn : (post.map (·.1)).Nodup) (hs : ∀ p ∈ post, p ∈ mem) : SatW w0 D J post W :=
 ⟨h.same, h.dom, hn, fun p hp => h.own p (hs p hp), h.closed, h.closed _ _ _ _ h.word (Same.refl _ _) fun b hb => .inl (by
  obtain ⟨p, hp, e⟩ := List.mem_map.1 hb
  exact List.mem_map.2 ⟨p, hs p hp, e⟩)⟩
structure AddI where
 bk : Nat
 ck : Nat
 rk : List Value
 b : Nat
 c : Nat
 r : List Value
theorem add_calls (b : GB) (a bg bs k : Nat) (l : List Int) (s : SL) (x : Nat) (d : List Nat) (bd cd : Nat) (rd : List Value) (w : World) (hn : b.n <= 6) (hl : l.length = b.n) (hne : l ≠ []) (hg : b.In a w (allBut w ((s.m bs).map (·.1)))) (hbg : Ext w (allBut w ((s.m bs).map (·.1))) bg 0 [.pointer (some ⟨a, 0, none⟩)])
  (hs : s.OK) (hsl : s.rows.length <= 100000000) (hnd : ((s.m bs).map (·.1)).Nodup) (hm : ∀ p ∈ s.m bs, w.heap[p.1]? = some p.2) :
  Calls Tryz.prog 67 ⟨[] ++ [.agg ⟨plC k (kn l)⟩, gSl (x :: d) bd cd] ++ [.pointer (some ⟨bs, 0, none⟩), .pointer (some ⟨bg, 0, none⟩)]⟩ w
   (FrQ (s.m bs) (fun _ => .tuple ⟨[]⟩) (fun i : { i : AddI // Grow 1 l.length (flI l) i.ck i.rk /\ gOK drE 3 (s.rows ++ [⟨k, l, x :: d, i.bk, i.ck, i.rk, bd, cd, rd⟩]) i.c i.r } =>
    SL.m ⟨s.rows ++ [⟨k, l, x :: d, i.1.bk, i.1.ck, i.1.rk, bd, cd, rd⟩], i.1.b, i.1.c, i.1.r⟩ bs ++ [(i.1.bk, .cells ⟨flI l ++ i.1.rk⟩ 3 (0, 0))]) w) := by
 obtain ⟨rows, sb, sc, sr⟩ := s
 have hsat := frQ_start hnd hm
 have h00 : Ext w (allBut w ((SL.m ⟨rows, sb, sc, sr⟩ bs).map (·.1))) a 0 [.int .i64 b.n] := hg.own.at cells_0
 have hpl0 := plC_0 (k := k) (f := kn l)
 simp only at hsl
 cases rows with
 | nil =>
  refine fEn Tryz.func67 rfl Tryz.ntmps67 rfl rfl hsat ?_
  repeat ((fail_if_success refine c_probe (id := 2) ?_); (fail_if_success refine c_probe1 (id := 2) ?_); first|refine lVa rfl rfl (by first|exact pEv rfl|fail) ?_|refine lNi ?_|refine cRg ?_|refine cSq ?_|refine xTh ?_|refine r_box rfl rfl rfl rfl (fun _ => ?_)|fail)
  rename_i b4
  refine c_dec_t rfl (by simp only [List.length_cons]; omega) ?_
  refine c_new 2 3 [(4, .calL [2] (decV k l (.slice (some ⟨bd, 0, none⟩) (x :: d).length cd)) (decO l)), (5, .new 3), (6, .app 4 none 3), (7, .sto 1 0 1)] [(4, [2]), (5, [3]), (6, [4]), (7, [1])] [(0, 1), (6, 3)] rfl (by decide +kernel) rfl ?_
  repeat (first|refine e_val rfl rfl rfl rfl (v_loadAll rfl (by repeat constructor) rfl rfl plC_len) ?_|refine e_val rfl rfl rfl rfl (by first|exact pEv rfl|exact vLd rfl (by repeat constructor) rfl (by rfl)|exact vL0 rfl (by assumption) rfl (by rfl)|fail) ?_|fail)
  refine e_callL rfl rfl rfl rfl rfl (by decide) (fun _ => by simp [decO]) rfl (fun W hW => ?_) (fun π => ?_)
  ·refine (decision_calls b a k l (some ⟨bd, 0, none⟩) (x :: d).length cd W hn hl hne (hg.sat hW)).mono ?_
   rintro e W' ⟨π, h1, h2, h3, h4⟩
   exact ⟨π, h1, fun m hm => satW_L hm h2 h3 h4⟩
  repeat (first|refine e_new rfl rfl rfl rfl (by first|exact n_buildSlice rfl rfl rfl rfl (by rfl)|fail) (fun _ => ?_)|fail)
  refine e_app0 (n := 1) (e := 39) rfl rfl rfl rfl (by decide) rfl (by unfold maxLen; omega) rfl (a_append_nil rfl rfl rfl rfl (news_own (by repeat constructor)) rfl rfl (by decide) (by decide) (by unfold maxLen; omega)) (fun b8 c8 r8 hg8 => ?_)
  repeat (first|refine e_store rfl rfl rfl rfl rfl rfl rfl rfl (by first|rfl|fail) rfl rfl (by first|(simp; done)|fail) (by first|exact splice_lit (by rfl)|fail) ?_|refine e_nil rfl ?_|fail)
  refine x_end rfl rfl (by repeat constructor) rfl (fun W hW => ?_)
  refine ⟨⟨⟨π.b, capF 1 l.length π.rest, restF 1 l.length π.rest, b8, c8, r8⟩, growF_mk flI_len (by unfold maxLen; omega) _, fun _ => hg8⟩, rfl, satW_subset hW ?_ ?_⟩
  ·have := hW.nodup
   simp [SL.m, gM] at this ⊢
   omega
  ·intro p hp
   simp [SL.m, gM] at hp ⊢
   rcases hp with rfl | rfl | rfl
   ·exact .inr (.inl rfl)
   ·exact .inr (.inr (.inr (.inr rfl)))
   ·exact .inr (.inr (.inl rfl))
 | cons r0 rows =>
  refine fEn Tryz.func67 rfl Tryz.ntmps67 rfl rfl hsat ?_
  repeat ((fail_if_success refine c_probe (id := 2) ?_); (fail_if_success refine c_probe1 (id := 2) ?_); first|refine lVa rfl rfl (by first|exact pEv rfl|fail) ?_|refine lNi ?_|refine cRg ?_|refine cSq ?_|refine xTh ?_|refine r_box rfl rfl rfl rfl (fun _ => ?_)|fail)
  rename_i b4
  refine c_dec_t rfl (by simp only [List.length_cons]; omega) ?_
  refine c_new 3 3 [(4, .calL [3] (decV k l (.slice (some ⟨bd, 0, none⟩) (x :: d).length cd)) (decO l)), (5, .new 4), (6, .app 5 (some 2) 3), (7, .sto 1 0 1)] [(4, [3]), (5, [4]), (6, [5, 2]), (7, [1])] [(0, 1), (6, 2), (6, 4)] rfl (by decide +kernel) rfl ?_
  repeat (first|refine e_val rfl rfl rfl rfl (v_loadAll rfl (by repeat constructor) rfl rfl plC_len) ?_|refine e_val rfl rfl rfl rfl (by first|exact pEv rfl|exact vLd rfl (by repeat constructor) rfl (by rfl)|exact vL0 rfl (by assumption) rfl (by rfl)|fail) ?_|fail)
  refine e_callL rfl rfl rfl rfl rfl (by decide) (fun _ => by simp [decO]) rfl (fun W hW => ?_) (fun π => ?_)
  ·refine (decision_calls b a k l (some ⟨bd, 0, none⟩) (x :: d).length cd W hn hl hne (hg.sat hW)).mono ?_
   rintro e W' ⟨π, h1, h2, h3, h4⟩
   exact ⟨π, h1, fun m hm => satW_L hm h2 h3 h4⟩
  repeat (first|refine e_new rfl rfl rfl rfl (by first|exact n_buildSlice rfl rfl rfl rfl (by rfl)|fail) (fun _ => ?_)|fail)
  refine e_app (xs := ((r0 :: rows).map drE).flatten ++ [.int .i64 k, .slice (some ⟨π.b, 0, none⟩) l.length (capF 1 l.length π.rest), .slice (some ⟨bd, 0, none⟩) (x :: d).length cd]) (n := (r0 :: rows).length + 1) (e := 39) rfl rfl rfl rfl rfl (by decide) (by rw [List.length_append, dr_rows]; simp only [List.length_cons, List.length_nil]; omega) (by unfold maxLen; omega) rfl (a_append rfl rfl rfl rfl (news_own (by repeat constructor)) (by repeat constructor) (hs (by simp)) rfl (allOne_mem rfl) rfl rfl (by simp only [List.length_cons] at hsl ⊢; omega) (by unfold maxLen; simp only [List.length_cons] at hsl ⊢; omega)) (fun b8 c8 r8 hg8 => ?_)
  repeat (first|refine e_store rfl rfl rfl rfl rfl rfl rfl rfl (by first|rfl|fail) rfl rfl (by first|(simp; done)|fail) (by first|exact splice_lit (by rfl)|fail) ?_|refine e_nil rfl ?_|fail)
  refine x_end rfl rfl (by repeat constructor) rfl (fun W hW => ?_)
  have e1 : (((r0 :: rows) ++ [(⟨k, l, x :: d, π.b, capF 1 l.length π.rest, restF 1 l.length π.rest, bd, cd, rd⟩ : DR)]).map drE).flatten = ((r0 :: rows).map drE).flatten ++ [.int .i64 k, .slice (some ⟨π.b, 0, none⟩) l.length (capF 1 l.length π.rest), .slice (some ⟨bd, 0, none⟩) (x :: d).length cd] := by
   rw [List.map_append, List.flatten_append]; rfl
  have e2 : ((r0 :: rows) ++ [(⟨k, l, x :: d, π.b, capF 1 l.length π.rest, restF 1 l.length π.rest, bd, cd, rd⟩ : DR)]).length = (r0 :: rows).length + 1 := by rw [List.length_append]; rfl
  refine ⟨⟨⟨π.b, capF 1 l.length π.rest, restF 1 l.length π.rest, b8, c8, r8⟩, growF_mk flI_len (by unfold maxLen; omega) _, fun _ => by rw [e1, e2]; exact hg8⟩, rfl, satW_subset hW ?_ ?_⟩
  ·have := hW.nodup
   simp [SL.m, gM] at this ⊢
   omega
  ·intro p hp
   have hp : p ∈ (bs, Obj.cells ⟨[.slice (some ⟨b8, 0, none⟩) ((r0 :: rows) ++ [(⟨k, l, x :: d, π.b, capF 1 l.length π.rest, restF 1 l.length π.rest, bd, cd, rd⟩ : DR)]).length c8]⟩ 25 (0, 0)) :: (b8, Obj.cells ⟨(((r0 :: rows) ++ [(⟨k, l, x :: d, π.b, capF 1 l.length π.rest, restF 1 l.length π.rest, bd, cd, rd⟩ : DR)]).map drE).flatten ++ r8⟩ 39 (0, 0)) :: [(π.b, Obj.cells ⟨flI l ++ restF 1 l.length π.rest⟩ 3 (0, 0))] := hp
   rw [e1, e2] at hp
   simp only [List.mem_cons, List.not_mem_nil, or_false] at hp
   rcases hp with rfl | rfl | rfl
   ·exact List.mem_cons_of_mem _ (List.mem_cons_self ..)
   ·simp
   ·simp
end R24
end Go.Proofs

/- The engine: calls that write some blocks of one's own and lay others, told by what they leave of these alone; queues: slices in the middle of a block that are appended to. Generic: no program is named here. -/
import Derived.Test.YtcodoembnjemkaaSgK
set_option linter.unusedSectionVars false
set_option linter.unusedVariables false
set_option linter.unusedSimpArgs false
namespace Go
open Go.RowKit
namespace Kin
section
variable {P : Program} {N : Nat} {c : Cx} {Q : Exit → Act → World → Prop} {env : List (Nat × Value)} {mem mem' : List (Nat × Obj)} {L l : List Oper} {tt : List (TypeId × TI)}
  {ty : TypeId} {pos : String} {af : Array Edge} {g : Option (Nat × Bool)} {dd : Option Tmp}
/-- what a call has made of the blocks `pre` -/
theorem satW_frame {w0 W W' : World} {D : Nat → Prop} {pre post : List (Nat × Obj)} (h : SatW w0 D noJ (pre ++ mem) W) (k : SatW W (allBut W (pre.map (·.1))) noJ post W') : SatW w0 D noJ (post ++ mem) W' := by
  have hnd := h.nodup
  rw [List.map_append, List.nodup_append] at hnd
  have hD : ∀ b, D b → allBut W (pre.map (·.1)) b := fun b hb => ⟨Nat.lt_of_lt_of_le (h.dom b hb) h.same.size, fun hm => by
    obtain ⟨p, hp, e⟩ := List.mem_map.1 hm
    exact (h.own p (List.mem_append_left _ hp)).1 (e ▸ hb)⟩
  have hM : ∀ p ∈ mem, allBut W (pre.map (·.1)) p.1 := fun p hp => ⟨h.lt (List.mem_append_right _ hp), fun hm => hnd.2.2 _ hm _ (List.mem_map.2 ⟨p, hp, rfl⟩) rfl⟩
  refine ⟨h.same.trans (k.same.mono hD), h.dom, ?_, fun p hp => ?_, closed_noJ, trivial⟩
  · rw [List.map_append, List.nodup_append]
    refine ⟨k.nodup, hnd.2.1, fun a ha b hb e => ?_⟩
    obtain ⟨p, hp, rfl⟩ := List.mem_map.1 ha
    obtain ⟨q, hq, rfl⟩ := List.mem_map.1 hb
    exact (k.own p hp).1 (e ▸ hM q hq)
  · rcases List.mem_append.1 hp with hp | hp
    · exact ⟨fun hd => (k.own p hp).1 (hD _ hd), (k.own p hp).2⟩
    · have ho := h.own p (List.mem_append_right _ hp)
      exact ⟨ho.1, k.same.obj ho.2 (hM p hp)⟩
/-- a call that makes `post` of `pre` -/
def FrQ {ι : Type} (pre : List (Nat × Obj)) (v : ι → Value) (post : ι → List (Nat × Obj)) (W : World) (e : Ending) (W' : World) : Prop := ∃ i, e = .returned (v i) ∧ SatW W (allBut W (pre.map (·.1))) noJ (post i) W'
theorem frQ_start {W : World} {pre : List (Nat × Obj)} (hn : (pre.map (·.1)).Nodup) (h : ∀ p ∈ pre, W.heap[p.1]? = some p.2) : SatW W (allBut W (pre.map (·.1))) noJ pre W := satW_fresh hn h
theorem SatW.pre {w0 W : World} {D : Nat → Prop} {J : (Nat → Prop) → World → Prop} {pre mem0 : List (Nat × Obj)} (h : SatW w0 D J mem W) (hp : mem.Perm (pre ++ mem0)) : (pre.map (·.1)).Nodup ∧ ∀ p ∈ pre, W.heap[p.1]? = some p.2 := by
  have h1 := h.perm hp
  refine ⟨(h1.mono (List.sublist_append_left _ _)).nodup, fun p hpp => (h1.own p (List.mem_append_left _ hpp)).2⟩
variable [Wide c.F]
theorem r_callF {F : Fence} {n : Nat} {ds : List Deferred} {w0 : World} {D : Nat → Prop} {d : Nat} {f : FuncId} [Ent P f] {args : List Operand} {ats : Array TypeId} {vs : List Value} {ι : Type} {v : ι → Value} {pre mem0 : List (Nat × Obj)} {post : ι → List (Nat × Obj)} [Wide F]
    (hw : wantB L env g = some true) (hd : Nat.blt d N = true) (ha : evOps env args some = some vs) (hp : mem.Perm (pre ++ mem0))
    (hc : ∀ W, SatW w0 D noJ mem W → (pre.map (·.1)).Nodup → (∀ p ∈ pre, W.heap[p.1]? = some p.2) → Calls P f ⟨vs⟩ W (FrQ pre v post W))
    (k : ∀ i, RunL P N ⟨F, n, ds, w0, D, noJ⟩ L l Q ((d, v i) :: env) (post i ++ mem0)) : RunL P N ⟨F, n, ds, w0, D, noJ⟩ L (⟨some d, .call ⟨.value (.func f), ⟨args⟩, ats⟩, ty, pos, af, g⟩ :: l) Q env mem :=
  l_call (c := ⟨F, n, ds, w0, D, noJ⟩) (ι := ι) (v := v) (mem' := fun i => post i ++ mem0) hw hd ha (fun W hm => (hc W hm (hm.pre hp).1 (hm.pre hp).2).mono fun _ _ ⟨i, h1, h2⟩ => ⟨i, h1, satW_frame (hm.perm hp) h2⟩) k
theorem r_callvF {F : Fence} {n : Nat} {ds : List Deferred} {w0 : World} {D : Nat → Prop} {d : Nat} {f : FuncId} [Ent P f] {x : Operand} {args : List Operand} {ats : Array TypeId} {vs fs cs ws : List Value} {ι : Type} {v : ι → Value} {pre mem0 : List (Nat × Obj)} {post : ι → List (Nat × Obj)} [Wide F]
    (hw : wantB L env g = some true) (hd : Nat.blt d N = true) (hx : evOp env x = some (.func (.func f) ⟨fs⟩ ⟨cs⟩)) (ha : evOps env args some = some vs) (hws : fs ++ vs ++ cs = ws) (hp : mem.Perm (pre ++ mem0))
    (hc : ∀ W, SatW w0 D noJ mem W → (pre.map (·.1)).Nodup → (∀ p ∈ pre, W.heap[p.1]? = some p.2) → Calls P f ⟨ws⟩ W (FrQ pre v post W))
    (k : ∀ i, RunL P N ⟨F, n, ds, w0, D, noJ⟩ L l Q ((d, v i) :: env) (post i ++ mem0)) : RunL P N ⟨F, n, ds, w0, D, noJ⟩ L (⟨some d, .call ⟨.value x, ⟨args⟩, ats⟩, ty, pos, af, g⟩ :: l) Q env mem :=
  l_callv (c := ⟨F, n, ds, w0, D, noJ⟩) (ι := ι) (v := v) (mem' := fun i => post i ++ mem0) hw hd hx ha hws (fun W hm => (hc W hm (hm.pre hp).1 (hm.pre hp).2).mono fun _ _ ⟨i, h1, h2⟩ => ⟨i, h1, satW_frame (hm.perm hp) h2⟩) k
/-! ## Queues -/
/-- a slice in the middle of a block: what lies ahead of it, its elements, its room, what lies behind -/
structure GrowM (sz n o cap : Nat) (pre xs rest : List Value) : Prop where
  pre : pre.length = o
  len : xs.length = n * sz
  rest : rest.length = (cap - n) * sz
  le : n ≤ cap
  max : cap ≤ maxLen
/-- where a queue lies -/
structure QP where
  b : Nat
  o : Nat
  cap : Nat
  pre : List Value
  rest : List Value
  post : List Value
def QP.v (q : QP) (n : Nat) : Value := .slice (some ⟨q.b, q.o, none⟩) n q.cap
def QP.m (q : QP) (T : TypeId) (xs : List Value) : Nat × Obj := (q.b, .cells ⟨q.pre ++ xs ++ q.rest ++ q.post⟩ T (0, 0))
def QP.OK (q : QP) (sz n : Nat) (xs : List Value) : Prop := GrowM sz n q.o q.cap q.pre xs q.rest
theorem r_appendM [T : TT P tt] {d t e n m cx sz bt sz' bt' : Nat} {A : Option Addr} {ke : TK} {z z' : Value} {x y : Operand} {q : QP} {xs ys : List Value} {mem0 : List (Nat × Obj)} (hw : wantB L env g = some true) (hd : Nat.blt d N = true)
    (hx : evOp env x = some (q.v n)) (hy : evOp env y = some (.slice A m cx)) (ht : look tt t = some ⟨.slice e, sz', bt', z'⟩) (hte : look tt e = some ⟨ke, sz, bt, z⟩) (hnews : NewsG c mem A m ys)
    (hp : mem.Perm (q.m e xs :: mem0)) (hg : q.OK sz n xs)
    (hl : ys.length = m * sz) (hone : allOne ys = true) (hzl : Nat.beq (cellsL z).length sz = true) (hb : (n + m) * bt ≤ 140737488355328) (hm : n + m ≤ maxLen)
    (k : ∀ q' : QP, q'.OK sz (n + m) (xs ++ ys) → RunL P N c L l Q ((d, q'.v (n + m)) :: env) (q'.m e (xs ++ ys) :: mem0)) :
    RunL P N c L (⟨some d, .call ⟨.builtin .append, ⟨[x, y]⟩, ⟨[t, t]⟩⟩, ty, pos, af, g⟩ :: l) Q env mem := by
  rcases hnews with ⟨rfl, rfl⟩ | ⟨bx, ox, rfl, hn⟩
  · refine l_val hw hd (v_append0 hx hy ht hte hg.le) (l_perm hp ?_)
    have := k q (by rw [List.append_nil]; exact hg)
    rw [List.append_nil] at this
    exact this
  refine l_perm hp ?_
  have hn' : News c (q.m e xs :: mem0) bx ox ys := ⟨fun W hW => hn.ok W (hW.perm hp.symm)⟩
  have hu : P.underlying t = some (.slice e) := (TT.look (P := P) ht).1
  obtain ⟨_, inf, hi, hs, hbt, hz⟩ := TT.look (P := P) hte
  simp only at hs hz hbt
  have hzl := Nat.eq_of_beq_eq_true hzl
  refine l_eff (ι := { q' : QP // q'.OK sz (n + m) (xs ++ ys) }) (v := fun q' => q'.1.v (n + m)) (mem' := fun q' => q'.1.m e (xs ++ ys) :: mem0) hw hd ⟨rfl, fun a W ha hmm => ?_⟩ (fun q' => k _ q'.2)
  have hbW := (hmm.own _ List.mem_cons_self).2
  have hlen2 : (xs ++ ys).length = (n + m) * sz := by rw [List.length_append, hg.len, hl, Nat.add_mul]
  have hcs : (q.m e xs).2 = .cells ⟨q.pre ++ xs ++ q.rest ++ q.post⟩ e (0, 0) := rfl
  have hb1 : (q.m e xs).1 = q.b := rfl
  rw [hcs, hb1] at hbW
  have hxv : a.eval x = .slice (some ⟨q.b, q.o, none⟩) n q.cap := ha.eval hx
  by_cases hroom : n + m ≤ q.cap
  · have hrl := hg.rest
    have hyr : ys.length ≤ q.rest.length := by
      rw [hl, hrl]
      exact Nat.mul_le_mul_right _ (by omega)
    have hf := run_firstCells_some (P := P) W inf.size m ⟨bx, ox, none⟩ m cx ys (by rw [hs]; exact hl) (fun j v hj => by rw [addr_add]; exact hn'.ok W hmm j v hj)
    have hfit : q.o + n * inf.size + ys.length ≤ (q.pre ++ xs ++ q.rest ++ q.post).length := by
      rw [hs, List.length_append, List.length_append, List.length_append, hg.pre, hg.len]; omega
    have hst := run_storeCells_at (P := P) q.b (q.o + n * inf.size) e ys 0 ⟨q.pre ++ xs ++ q.rest ++ q.post⟩ W hbW (by simpa using hfit) (allOne_mem hone)
    simp only [Nat.add_zero] at hst
    have e0 : q.o + n * inf.size = (q.pre ++ xs).length := by rw [hs, List.length_append, hg.pre, hg.len]
    have e1 : (q.pre ++ xs ++ q.rest ++ q.post).take (q.o + n * inf.size) = q.pre ++ xs := by rw [e0, List.append_assoc (q.pre ++ xs), List.take_left]
    have e2 : (q.pre ++ xs ++ q.rest ++ q.post).drop (q.o + n * inf.size + ys.length) = q.rest.drop ys.length ++ q.post := by
      rw [e0, List.append_assoc (q.pre ++ xs), ← List.drop_drop, List.drop_left, List.drop_append_of_le_length hyr]
    have hst2 : (storeCells ⟨q.b, q.o + n * inf.size, none⟩ ys).run P W = .ok () (W.setRow q.b (q.pre ++ (xs ++ ys) ++ q.rest.drop ys.length ++ q.post).toArray) := by
      have h3 : (storeCells ⟨q.b, q.o + n * inf.size, none⟩ ys).run P W = .ok () (W.setRow q.b ((q.pre ++ xs ++ q.rest ++ q.post).take (q.o + n * inf.size) ++ ys ++ (q.pre ++ xs ++ q.rest ++ q.post).drop (q.o + n * inf.size + ys.length)).toArray) := hst
      rw [e1, e2] at h3
      rw [h3]
      simp [List.append_assoc]
    have hap : (Builtin.append_ #[t, t] ty #[.slice (some ⟨q.b, q.o, none⟩) n q.cap, .slice (some ⟨bx, ox, none⟩) m cx]).run P W = .ok (.slice (some ⟨q.b, q.o, none⟩) (n + m) q.cap) (W.setRow q.b (q.pre ++ (xs ++ ys) ++ q.rest.drop ys.length ++ q.post).toArray) := by
      simp [Builtin.append_, run_underlying hu, sizeOf, typeInfo, hi, Builtin.lenOf, hroom, hf, Addr.add_lit, hst2]
    refine ⟨⟨⟨q.b, q.o, q.cap, q.pre, q.rest.drop ys.length, q.post⟩, ⟨hg.pre, hlen2, ?_, hroom, hg.max⟩⟩, _, p_append hxv (ha.eval hy) hap, ?_⟩
    · show (q.rest.drop ys.length).length = (q.cap - (n + m)) * sz
      rw [List.length_drop, hrl, hl, ← Nat.sub_mul, Nat.sub_sub]
    · exact hmm.put (mem' := QP.m ⟨q.b, q.o, q.cap, q.pre, q.rest.drop ys.length, q.post⟩ e (xs ++ ys) :: mem0) Upd.head
  · have hap := run_append_grow (P := P) W t ty e inf z hu hi hz ⟨q.b, q.o, none⟩ n q.cap xs (by rw [hs]; exact hg.len) (fun j v hj => by
        rw [addr_add, hmm.cellAt List.mem_cons_self, ← hg.pre, List.append_assoc, List.append_assoc, List.getElem?_append_right (by omega), Nat.add_sub_cancel_left, List.getElem?_append_left (List.getElem?_eq_some_iff.1 hj).1]; exact hj)
      ⟨bx, ox, none⟩ m cx ys (by rw [hs]; exact hl) (fun j v hj => by rw [addr_add]; exact hn'.ok W hmm j v hj) (by omega) (by simp only [maxLen] at hm; omega) (growslice_fits (by omega) (by rw [hbt]; exact hb))
    have hge := grownCap_ge W (n + m) q.cap e
    refine ⟨⟨⟨W.heap.size, 0, grownCap W (n + m) q.cap e, [], (Builtin.zeroCells z.cells (grownCap W (n + m) q.cap e - (n + m))).toList, []⟩, ⟨rfl, hlen2, ?_, hge, grownCap_le_maxLen W (n + m) q.cap e hm⟩⟩, _, p_append hxv (ha.eval hy) hap, ?_⟩
    · rw [zeroCells_len, cellsL_eq]
      show (grownCap W (n + m) q.cap e - (n + m)) * (cellsL z).length = _
      rw [hzl]
    · have := (hmm.mono (List.sublist_cons_self _ _)).newest (.cells (xs.toArray ++ ys.toArray ++ Builtin.zeroCells z.cells (grownCap W (n + m) q.cap e - (n + m))) e)
      unfold QP.m
      rw [show (xs.toArray ++ ys.toArray ++ Builtin.zeroCells z.cells (grownCap W (n + m) q.cap e - (n + m))) = ⟨[] ++ (xs ++ ys) ++ (Builtin.zeroCells z.cells (grownCap W (n + m) q.cap e - (n + m))).toList ++ []⟩ by apply Array.ext'; simp] at this ⊢
      exact this
/-- the first element is left -/
theorem v_tailM [T : TT P tt] {t e n sz bt sz' bt' : Nat} {x : Operand} {ke : TK} {z z' : Value} {q : QP} {r xs : List Value} (hx : evOp env x = some (q.v (n + 1))) (ht : look tt t = some ⟨.slice e, sz', bt', z'⟩)
    (hte : look tt e = some ⟨ke, sz, bt, z⟩) (hg : q.OK sz (n + 1) (r ++ xs)) (hr : r.length = sz) :
    ∃ q' : QP, q'.OK sz n xs ∧ q'.m e xs = q.m e (r ++ xs) ∧ OpVal P N c env mem ⟨dd, .slice t x (some (.const (.int .i64 1))) none none, ty, pos, af, g⟩ (q'.v n) := by
  have hle := hg.le
  have hxl := hg.len
  rw [List.length_append, hr, Nat.add_mul] at hxl
  by_cases hc : q.cap = 1
  · have hn0 : n = 0 := by omega
    subst hn0
    have hx0 : xs = [] := List.eq_nil_of_length_eq_zero (by omega)
    subst hx0
    refine ⟨⟨q.b, q.o, 0, q.pre, [], r ++ q.rest ++ q.post⟩, ⟨hg.pre, by simp, by simp, Nat.le_refl 0, Nat.zero_le _⟩, ?_, ?_⟩
    · unfold QP.m; simp
    · have := v_sliceE (P := P) (N := N) (c := c) (mem := mem) (env := env) (ty := ty) (pos := pos) (af := af) (g := g) (dd := dd) (lo := .const (.int .i64 1)) (k0 := 1) hx rfl ht hte rfl (by omega) hc
      exact this
  · refine ⟨⟨q.b, q.o + 1 * sz, q.cap - 1, q.pre ++ r, q.rest, q.post⟩, ⟨?_, by omega, ?_, by show n ≤ q.cap - 1; omega, by have := hg.max; show q.cap - 1 ≤ maxLen; omega⟩, ?_, ?_⟩
    · show (q.pre ++ r).length = q.o + 1 * sz
      rw [List.length_append, hg.pre, hr, Nat.one_mul]
    · show q.rest.length = (q.cap - 1 - n) * sz
      rw [hg.rest]; congr 1; omega
    · unfold QP.m; simp
    · have := v_sliceL (P := P) (N := N) (c := c) (mem := mem) (env := env) (ty := ty) (pos := pos) (af := af) (g := g) (dd := dd) (lo := .const (.int .i64 1)) (l := 1) hx rfl ht hte rfl (by omega) hc
      exact this
end
end Kin
end Go

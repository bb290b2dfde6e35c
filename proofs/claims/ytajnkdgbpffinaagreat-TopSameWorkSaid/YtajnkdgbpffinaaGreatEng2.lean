/- The engine's rules: sums, memory, calls, loops, ends. Generic: no program is named here. -/
import Derived.Test.YtajnkdgbpffinaaGreatEng
import Derived.IntWalk
import Derived.Laws.CopyRow
import Derived.Laws.Cells
set_option linter.unusedSectionVars false
set_option linter.unusedVariables false
set_option linter.unusedSimpArgs false
namespace Go
open Go.RowKit
namespace Kin
section
variable {P : Program} {N : Nat} {c : Cx} {Q : Exit -> Act -> World -> Prop} {env : List (Nat × Value)} {mem : List (Nat × Obj)} {L l : List Oper} [Wide c.F]
 {tt : List (TypeId × TI)} {d : Nat} {ty : TypeId} {pos : String} {af : Array Edge} {g : Option (Nat × Bool)} {dd : Option Tmp}

theorem wrap_i64 {n : Int} (h1 : -9223372036854775808 <= n) (h2 : n <= 9223372036854775807) : IntKind.i64.wrap n = n := by
 have e1 : (2 : Int) ^ 64 = 18446744073709551616 := by decide
 have e2 : (2 : Int) ^ (64 - 1) = 9223372036854775808 := by decide
 simp only [IntKind.wrap, IntKind.bits, IntKind.signed, Bool.true_and, e1, e2, decide_eq_true_eq, ge_iff_le]
 split <;> omega

theorem v_add {t t' : TypeId} {x y : Operand} {m n : Int} (hx : evOp env x = some (.int .i64 m)) (hy : evOp env y = some (.int .i64 n))
  (h1 : -9223372036854775808 <= m + n) (h2 : m + n <= 9223372036854775807) :
  OpVal P N c env mem ⟨dd, .binOp .add t x y t', ty, pos, af, g⟩ (.int .i64 (m + n)) :=
 ⟨rfl, fun a W ha _ => p_binInt (ha.eval hx) (ha.eval hy) (by simp [intBin, wrap_i64 h1 h2])⟩
theorem v_sub {t t' : TypeId} {x y : Operand} {m n : Int} (hx : evOp env x = some (.int .i64 m)) (hy : evOp env y = some (.int .i64 n))
  (h1 : -9223372036854775808 <= m - n) (h2 : m - n <= 9223372036854775807) :
  OpVal P N c env mem ⟨dd, .binOp .sub t x y t', ty, pos, af, g⟩ (.int .i64 (m - n)) :=
 ⟨rfl, fun a W ha _ => p_binInt (ha.eval hx) (ha.eval hy) (by simp [intBin, wrap_i64 h1 h2])⟩
theorem v_mul {t t' : TypeId} {x y : Operand} {m n : Int} (hx : evOp env x = some (.int .i64 m)) (hy : evOp env y = some (.int .i64 n))
  (h1 : -9223372036854775808 <= m * n) (h2 : m * n <= 9223372036854775807) :
  OpVal P N c env mem ⟨dd, .binOp .mul t x y t', ty, pos, af, g⟩ (.int .i64 (m * n)) :=
 ⟨rfl, fun a W ha _ => p_binInt (ha.eval hx) (ha.eval hy) (by simp [intBin, wrap_i64 h1 h2])⟩
/-! ## New blocks -/
def cellsL : Value -> List Value
 | .agg ⟨l⟩ => l
 | v => [v]
theorem cellsL_eq (v : Value) : v.cells = ⟨cellsL v⟩ := by cases v <;> rfl

theorem r_box {e : TypeId} {x : Operand} {v : Value} {cs : List Value} (hw : wantB L env g = some true) (hd : Nat.blt d N = true) (hx : evOp env x = some v) (hc : cellsL v = cs)
  (k : ∀ b, RunL P N c L l Q ((d, .pointer (some ⟨b, 0, none⟩)) :: env) ((b, .cells ⟨cs⟩ e (0, 0)) :: mem)) :
  RunL P N c L (⟨some d, .box e x, ty, pos, af, g⟩ :: l) Q env mem := by
 subst hc
 refine l_eff (ι := Nat) (v := fun b => .pointer (some ⟨b, 0, none⟩)) (mem' := fun b => (b, .cells ⟨cellsL v⟩ e (0, 0)) :: mem) hw hd ⟨rfl, fun a W ha hm => ?_⟩ k
 refine ⟨W.heap.size, _, ?_, hm.alloc _⟩
 simp only [execOp, ha.eval hx]
 show Result.ok _ (W.alloc (.cells v.cells e (0, 0))) = _
 rw [cellsL_eq]

theorem r_alloc [T : TT P tt] {e : TypeId} {kd : TK} {sz bt : Nat} {z : Value} {cs : List Value} (hw : wantB L env g = some true) (hd : Nat.blt d N = true) (ht : look tt e = some ⟨kd, sz, bt, z⟩) (hc : cellsL z = cs)
  (k : ∀ b, RunL P N c L l Q ((d, .pointer (some ⟨b, 0, none⟩)) :: env) ((b, .cells ⟨cs⟩ e (0, 0)) :: mem)) :
  RunL P N c L (⟨some d, .alloc e, ty, pos, af, g⟩ :: l) Q env mem := by
 subst hc
 obtain ⟨_, i, hi, _, _, hz⟩ := TT.look (P := P) ht
 refine l_eff (ι := Nat) (v := fun b => .pointer (some ⟨b, 0, none⟩)) (mem' := fun b => (b, .cells ⟨cellsL z⟩ e (0, 0)) :: mem) hw hd ⟨rfl, fun a W ha hm => ?_⟩ k
 refine ⟨W.heap.size, _, ?_, hm.alloc _⟩
 have hz2 : (zeroValue e).run P W = .ok z W := by
  simp only [zeroValue, Sem.run_bind, run_info hi, Result.andThen_ok, hz]; rfl
 simp only [execOp, Instr.alloc, Sem.run_bind, hz2, Result.andThen_ok]
 show Result.ok _ (W.alloc (.cells z.cells e (0, 0))) = _
 rw [cellsL_eq]


/-! ## Loads -/
/-- Cells of memory that came in and that nobody writes. -/
structure Ext (w0 : World) (D : Nat -> Prop) (b o : Nat) (cs : List Value) : Prop where
 dom : D b
 cell : ∀ i v, cs[i]? = some v -> w0.cell? ⟨b, o + i, none⟩ = some v

theorem load_of {t b o f sz bt : Nat} {kd : TK} {z v : Value} {cs : List Value} {W : World} (ht : TIOk P t ⟨kd, sz, bt, z⟩)
  (h : ∀ i v, cs[i]? = some v -> W.cell? ⟨b, o + i, none⟩ = some v) (hv : aggV kd.isAgg sz cs f = some v) : (loadVar t ⟨b, o + f, none⟩).run P W = .ok v W := by
 obtain ⟨h1, i, hi, hs, _⟩ := ht
 simp only [loadVar, Sem.run_bind, run_isAgg h1, Result.andThen_ok]
 unfold aggV at hv
 cases hk : kd.isAgg with
 | true =>
  rw [hk] at hv
  obtain ⟨h5, h6⟩ := cutK_eq hv
  simp only [Option.some.injEq] at h6
  subst h6
  simp only [if_true, Sem.run_bind, run_size hi, Result.andThen_ok]
  have hl : ((cs.drop f).take sz).length = i.size := by rw [hs]; simp only at hs ⊢; simp; omega
  have := run_loadCells_list (P := P) W ⟨b, o + f, none⟩ ((cs.drop f).take sz) (fun j u hj => by
   have hj2 : cs[f + j]? = some u := by
    rw [List.getElem?_take] at hj
    split at hj
    ·rwa [List.getElem?_drop] at hj
    ·cases hj
   have h7 := h _ _ hj2
   rw [show o + (f + j) = o + f + j by omega] at h7
   unfold Addr.add
   split
   ·rename_i e; subst e; exact h7
   ·exact h7)
  rw [hl] at this
  simp only [this, Result.andThen_ok]; rfl
 | false =>
  rw [hk] at hv
  simp only [nth_eq] at hv
  have h7 := h _ _ hv
  simp [load, Sem.run, h7]

theorem p_load {t : TypeId} {x : Operand} {a : Act} {W : World} {ad : Addr} {v : Value} {dd : Option Tmp} (hx : a.eval x = .pointer (some ad)) (h : (loadVar t ad).run P W = .ok v W) :
  (execOp a.eval ⟨dd, .load t x, ty, pos, af, g⟩).run P W = .ok (.value v) W := by
 simp only [execOp, hx, Instr.loadAt, Instr.sureAddr, Sem.run_bind]
 show (((loadVar t ad).run P W).andThen _) = _
 rw [h]; rfl

theorem SatW.cellAt {w0 : World} {D : Nat -> Prop} {J : (Nat -> Prop) -> World -> Prop} {mem : List (Nat × Obj)} {W : World} (h : SatW w0 D J mem W) {b : Nat} {l : List Value} {T : TypeId} {fr : Nat × Nat} (hb : (b, Obj.cells ⟨l⟩ T fr) ∈ mem) (i : Nat) :
  W.cell? ⟨b, i, none⟩ = l[i]? := by
 have := (h.own _ hb).2
 simp only at this
 simp [World.cell?, this]

theorem vLd [T : TT P tt] {t b o sz bt : Nat} {x : Operand} {kd : TK} {z v : Value} {cs : List Value} {T' : TypeId} {fr : Nat × Nat}
  (hx : evOp env x = some (.pointer (some ⟨b, o, none⟩))) (hm : (b, Obj.cells ⟨cs⟩ T' fr) ∈ mem) (ht : look tt t = some ⟨kd, sz, bt, z⟩) (hv : aggV kd.isAgg sz cs o = some v) :
  OpVal P N c env mem ⟨dd, .load t x, ty, pos, af, g⟩ (v) :=
 ⟨rfl, fun a W ha hmw => by
  refine p_load (ha.eval hx) ?_
  have := load_of (P := P) (o := 0) (W := W) (b := b) (TT.look ht) (fun i v hi => by rw [hmw.cellAt hm, Nat.zero_add]; exact hi) hv
  rwa [Nat.zero_add] at this⟩

theorem vL0 [T : TT P tt] {t b o sz bt : Nat} {x : Operand} {kd : TK} {z v : Value} {cs : List Value}
  (hx : evOp env x = some (.pointer (some ⟨b, o, none⟩))) (hm : Ext c.w0 c.D b o cs) (ht : look tt t = some ⟨kd, sz, bt, z⟩) (hv : aggV kd.isAgg sz cs 0 = some v) :
  OpVal P N c env mem ⟨dd, .load t x, ty, pos, af, g⟩ (v) :=
 ⟨rfl, fun a W ha hmw => by
  refine p_load (ha.eval hx) ?_
  exact load_of (P := P) (f := 0) (TT.look ht) (fun i v hi => hmw.same.cell (hm.cell i v hi) hm.dom) hv⟩

theorem vLe [T : TT P tt] {t b o f sz bt : Nat} {x : Operand} {kd : TK} {z v : Value} {cs : List Value}
  (hx : evOp env x = some (.pointer (some ⟨b, o + f, none⟩))) (hm : Ext c.w0 c.D b o cs) (ht : look tt t = some ⟨kd, sz, bt, z⟩) (hv : aggV kd.isAgg sz cs f = some v) :
  OpVal P N c env mem ⟨dd, .load t x, ty, pos, af, g⟩ (v) :=
 ⟨rfl, fun a W ha hmw => by
  refine p_load (ha.eval hx) ?_
  exact load_of (P := P) (f := f) (TT.look ht) (fun i v hi => hmw.same.cell (hm.cell i v hi) hm.dom) hv⟩

/-- one cell of a block of which a list is known -/
theorem v_load_at [T : TT P tt] {t b o sz bt : Nat} {x : Operand} {kd : TK} {z v : Value} {cs : List Value} {T' : TypeId} {fr : Nat × Nat}
  (hx : evOp env x = some (.pointer (some ⟨b, o, none⟩))) (hm : (b, Obj.cells ⟨cs⟩ T' fr) ∈ mem) (ht : look tt t = some ⟨kd, sz, bt, z⟩) (hk : kd.isAgg = false) (hv : cs[o]? = some v) :
  OpVal P N c env mem ⟨dd, .load t x, ty, pos, af, g⟩ (v) :=
 vLd hx hm ht (by rw [hk]; simp only [aggV, nth_eq]; exact hv)

/-! ## Stores -/
def putK {β : Type} : List Value -> Nat -> List Value -> (List Value -> Option β) -> Option β
 | l, 0, [], k => k l
 | _ :: l, 0, v :: vs, k => putK l 0 vs fun r => k (v :: r)
 | x :: l, o + 1, vs, k => putK l o vs fun r => k (x :: r)
 | _, _, _, _ => none

theorem putK_eq {β : Type} {l : List Value} {o : Nat} {vs : List Value} {k : List Value -> Option β} {r : β} (h : putK l o vs k = some r) :
  o + vs.length <= l.length /\ k (l.take o ++ vs ++ l.drop (o + vs.length)) = some r := by
 induction l generalizing o vs k with
 | nil => cases o <;> cases vs <;> simp_all [putK]
 | cons x l ih =>
  cases o with
  | zero =>
   cases vs with
   | nil => simpa [putK] using h
   | cons v vs =>
    simp only [putK] at h
    have := ih h
    simp only [Nat.zero_add, List.take_zero, List.nil_append, List.length_cons, List.cons_append, List.drop_succ_cons] at this ⊢
    exact ⟨by omega, this.2⟩
  | succ o =>
   simp only [putK] at h
   have := ih h
   simp only [List.length_cons, List.take_succ_cons, List.cons_append, show o + 1 + vs.length = o + vs.length + 1 by omega, List.drop_succ_cons]
   exact ⟨by omega, this.2⟩

def one : Value -> Bool
 | .agg _ => false
 | .tuple _ => false
 | _ => true
def allOne : List Value -> Bool
 | [] => true
 | v :: vs => bif one v then allOne vs else false
theorem allOne_mem {l : List Value} (h : allOne l = true) : ∀ v ∈ l, v.oneCell' = true := by
 induction l with
 | nil => intro v hv; cases hv
 | cons x l ih =>
  simp only [allOne] at h
  cases hx : one x with
  | false => rw [hx] at h; cases h
  | true =>
   rw [hx] at h
   intro v hv
   rcases List.mem_cons.1 hv with rfl | hv
   ·cases v <;> first|rfl|cases hx
   ·exact ih h v hv

theorem setRow_same (W : World) (b : Nat) (r : Array Value) : Same (fun k => k ≠ b) W (W.setRow b r) := by
 refine ⟨rfl, rfl, rfl, Nat.le_refl _, by simp [World.setRow], fun k _ hne => ?_⟩
 simp only [World.setRow]
 rw [Array.getElem?_modify, if_neg (Ne.symm hne)]

theorem p_store {t b o : Nat} {T' : TypeId} {x y : Operand} {a : Act} {W : World} {cs : List Value} {v : Value} {dd : Option Tmp} {i : TypeInfo} (hx : a.eval x = .pointer (some ⟨b, o, none⟩)) (hy : a.eval y = v)
  (hi : P.info? t = some i) (hs : (cellsL v).length = i.size) (h1 : ∀ u ∈ cellsL v, u.oneCell' = true) (hb : W.heap[b]? = some (.cells ⟨cs⟩ T' (0, 0))) (hl : o + (cellsL v).length <= cs.length) :
  (execOp a.eval ⟨dd, .store t x y, ty, pos, af, g⟩).run P W = .ok .skip (W.setRow b (cs.take o ++ cellsL v ++ cs.drop (o + (cellsL v).length)).toArray) := by
 simp only [execOp, hx, hy, Instr.storeAt, Instr.sureAddr, Sem.run_bind]
 show ((((storeVar t ⟨b, o, none⟩ v)).run P W).andThen _) = _
 have : (storeVar t ⟨b, o, none⟩ v).run P W = .ok () (W.setRow b (cs.take o ++ cellsL v ++ cs.drop (o + (cellsL v).length)).toArray) := by
  simp only [storeVar, Sem.run_bind, run_size hi, Result.andThen_ok, cellsL_eq]
  have hsz : ¬ (⟨cellsL v⟩ : Array Value).size ≠ i.size := by show ¬ (cellsL v).length ≠ i.size; omega
  rw [if_neg hsz]
  have := run_storeCells_at (P := P) b o T' (cellsL v) 0 ⟨cs⟩ W hb (by simpa using hl) h1
  simpa using this
 rw [this]; rfl

theorem SatW.put {w0 : World} {D : Nat -> Prop} {J : (Nat -> Prop) -> World -> Prop} {mem mem' : List (Nat × Obj)} {W : World} (h : SatW w0 D J mem W) {b : Nat} {cs cs' : List Value} {T' : TypeId}
  (hu : Upd mem b (.cells ⟨cs⟩ T' (0, 0)) (.cells ⟨cs'⟩ T' (0, 0)) mem') : SatW w0 D J mem' (W.setRow b cs'.toArray) := by
 have hb := (h.own _ hu.isIn).2
 refine h.upd hu (setRow_same _ _ _) ?_
 exact setRow_heap W b ⟨cs⟩ cs'.toArray T' _ hb

theorem d_store [T : TT P tt] {t b o sz bt : Nat} {x y : Operand} {kd : TK} {z v : Value} {cs cs' vs : List Value} {T' : TypeId} {mem' : List (Nat × Obj)}
  (hx : evOp env x = some (.pointer (some ⟨b, o, none⟩))) (hy : evOp env y = some v) (hvs : cellsL v = vs) (ht : look tt t = some ⟨kd, sz, bt, z⟩) (hs : Nat.beq vs.length sz = true) (h1 : allOne vs = true)
  (hu : Upd mem b (.cells ⟨cs⟩ T' (0, 0)) (.cells ⟨cs'⟩ T' (0, 0)) mem') (hp : putK cs o vs some = some cs') : OpDo P N c env mem ⟨dd, .store t x y, ty, pos, af, g⟩ mem' := by
 subst hvs
 obtain ⟨i, hi, hsz⟩ := (TT.look (P := P) ht).size
 obtain ⟨h2, h3⟩ := putK_eq hp
 simp only [Option.some.injEq] at h3
 refine ⟨rfl, fun a W ha hm => ⟨_, p_store (ha.eval hx) (ha.eval hy) hi (by rw [hsz]; exact Nat.eq_of_beq_eq_true hs) (allOne_mem h1) (hm.own _ hu.isIn).2 h2, ?_⟩⟩
 rw [h3]
 exact hm.put hu

theorem rSt [T : TT P tt] {t b o sz bt : Nat} {x y : Operand} {kd : TK} {z v : Value} {cs cs' vs : List Value} {T' : TypeId} {mem' : List (Nat × Obj)} (hw : wantB L env g = some true)
  (hx : evOp env x = some (.pointer (some ⟨b, o, none⟩))) (hy : evOp env y = some v) (hvs : cellsL v = vs) (ht : look tt t = some ⟨kd, sz, bt, z⟩) (hs : Nat.beq vs.length sz = true) (h1 : allOne vs = true)
  (hu : Upd mem b (.cells ⟨cs⟩ T' (0, 0)) (.cells ⟨cs'⟩ T' (0, 0)) mem') (hp : putK cs o vs some = some cs') (k : RunL P N c L l Q env mem') : RunL P N c L (⟨none, .store t x y, ty, pos, af, g⟩ :: l) Q env mem :=
 l_do hw (d_store hx hy hvs ht hs h1 hu hp) k

end
end Kin
end Go

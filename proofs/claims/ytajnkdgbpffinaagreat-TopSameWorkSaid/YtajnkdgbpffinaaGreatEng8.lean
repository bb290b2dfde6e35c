/- The engine's rules: make and append. Generic: no program is named here. -/
import Derived.Test.YtajnkdgbpffinaaGreatEng5
import Derived.Laws.AppendOwn
import Derived.Laws.MakeOwn
import Derived.StillTail
import Derived.Scope
set_option linter.unusedSectionVars false
set_option linter.unusedVariables false
set_option linter.unusedSimpArgs false
namespace Go
open Go.RowKit
namespace Kin
section
variable {P : Program} {N : Nat} {c : Cx} {Q : Exit -> Act -> World -> Prop} {env : List (Nat × Value)} {mem : List (Nat × Obj)} {L l : List Oper} [Wide c.F]
 {tt : List (TypeId × TI)} {d : Nat} {ty : TypeId} {pos : String} {af : Array Edge} {g : Option (Nat × Bool)} {dd : Option Tmp}

theorem zeros_eq (z : Array Value) (n : Nat) (hz : z.size ≠ 0) : ((Array.range (n * z.size)).map (fun i => z[i % z.size]!)) = ⟨flat n fun _ => z.toList⟩ := by
 apply Array.ext'
 simp only [Array.toList_map, Array.toList_range]
 unfold flat
 induction n with
 | zero => simp
 | succ n ih =>
  rw [Nat.add_mul, Nat.one_mul, List.range_add, List.map_append, ih, List.range_succ, List.flatMap_append]
  congr 1
  simp only [List.map_map, List.flatMap_cons, List.flatMap_nil, List.append_nil]
  apply List.ext_getElem?
  intro j
  by_cases hj : j < z.size
  ·have h1 : (n * z.size + j) % z.size = j := by rw [Nat.add_comm, Nat.add_mul_mod_self_right, Nat.mod_eq_of_lt hj]
   simp [hj, h1]
  ·simp [hj]

theorem flat_one {n : Nat} {z : Value} : (flat n fun _ => [z]) = vec n fun _ => z := by
 unfold flat vec
 induction n with
 | zero => rfl
 | succ n ih => rw [List.range_succ, List.flatMap_append, ih, List.map_append]; rfl

theorem r_make [T : TT P tt] {t e n sz bt sz' bt' : Nat} {ke : TK} {z z' : Value} {x y : Operand} {m : Int} {cs : List Value} {kd : IntKind} (hw : wantB L env g = some true) (hd : Nat.blt d N = true)
  (ht : look tt t = some ⟨.slice e, sz', bt', z'⟩) (hte : look tt e = some ⟨ke, sz, bt, z⟩) (hx : evOp env x = some (.int kd m)) (hy : evOp env y = some (.int kd m)) (hm : m = (n : Int)) (hn : n * bt <= 140737488355328) (hn2 : n <= 281474976710656)
  (hs0 : Nat.beq sz 0 = false) (hzl : Nat.beq (cellsL z).length sz = true) (hcs : (flat n fun _ => cellsL z) = cs)
  (k : ∀ b, RunL P N c L l Q ((d, .slice (some ⟨b, 0, none⟩) n n) :: env) ((b, .cells ⟨cs⟩ e (0, 0)) :: mem)) :
  RunL P N c L (⟨some d, .makeSlice t x y, ty, pos, af, g⟩ :: l) Q env mem := by
 subst hm
 subst hcs
 have hu : P.underlying t = some (.slice e) := (TT.look (P := P) ht).1
 obtain ⟨_, inf, hi, hs, hb, hz⟩ := TT.look (P := P) hte
 simp only at hs hz hb
 have hs0 := Nat.ne_of_beq_eq_false hs0
 have hzl := Nat.eq_of_beq_eq_true hzl
 refine l_eff (ι := Nat) (v := fun b => .slice (some ⟨b, 0, none⟩) n n) (mem' := fun b => (b, .cells ⟨flat n fun _ => cellsL z⟩ e (0, 0)) :: mem) hw hd ⟨rfl, fun a W ha hm => ?_⟩ k
 refine ⟨W.heap.size, _, ?_, hm.alloc _⟩
 have hzsz : z.cells.size = sz := by rw [cellsL_eq]; exact hzl
 have hzero : madeCells z.cells ((n : Int).toNat * inf.size) = ⟨flat n fun _ => cellsL z⟩ := by
  have := zeros_eq z.cells n (by rw [hzsz]; exact hs0)
  rw [hzsz, cellsL_eq] at this
  rw [Int.toNat_natCast, hs, madeCells, cellsL_eq]
  simpa [hzl] using this
 have hbb : (inf.bytes : Int) * (n : Int) <= 281474976710656 := by
  have h : ((inf.bytes * n : Nat) : Int) <= 281474976710656 := by rw [hb, Nat.mul_comm]; omega
  rwa [Int.natCast_mul] at h
 have hr := run_make (P := P) W t e inf z hu hi hz kd kd n n (by omega) (Int.le_refl _) hbb (by omega)
 rw [hzero, Int.toNat_natCast] at hr
 simp only [execOp, ha.eval hx, ha.eval hy, Sem.run_bind, hr, Result.andThen_ok]; rfl

/-- A row that grows: `n` elements in `xs`, and behind them the rest of the array. -/
structure Grow (sz n : Nat) (xs : List Value) (cap : Nat) (rest : List Value) : Prop where
 len : xs.length = n * sz
 all : (xs ++ rest).length = cap * sz
 le : n <= cap
 max : cap <= maxLen

inductive Rem : List (Nat × Obj) -> Nat -> Obj -> List (Nat × Obj) -> Prop
 | head {b : Nat} {o : Obj} {m : List (Nat × Obj)} : Rem ((b, o) :: m) b o m
 | tail {b : Nat} {o : Obj} {x : Nat × Obj} {m m' : List (Nat × Obj)} (h : Rem m b o m') : Rem (x :: m) b o (x :: m')

theorem Rem.sub {m m' : List (Nat × Obj)} {b : Nat} {o : Obj} (h : Rem m b o m') : List.Sublist m' m := by
 induction h with
 | head => exact List.sublist_cons_self _ _
 | tail _ ih => exact ih.cons_cons _
theorem Rem.isIn {m m' : List (Nat × Obj)} {b : Nat} {o : Obj} (h : Rem m b o m') : (b, o) ∈ m := by
 induction h with
 | head => exact List.mem_cons_self
 | tail _ ih => exact List.mem_cons_of_mem _ ih
theorem Rem.not {m m' : List (Nat × Obj)} {b : Nat} {o : Obj} (h : Rem m b o m') (hn : (m.map (·.1)).Nodup) : b ∉ m'.map (·.1) := by
 induction h with
 | head => simp only [List.map_cons, List.nodup_cons] at hn; exact hn.1
 | tail hr ih =>
  simp only [List.map_cons, List.nodup_cons] at hn
  simp only [List.map_cons, List.mem_cons, not_or]
  exact ⟨fun e => hn.1 (e ▸ List.mem_map.2 ⟨_, hr.isIn, rfl⟩), ih hn.2⟩

/-- The cells that are appended. -/
structure News (c : Cx) (mem : List (Nat × Obj)) (b o : Nat) (ys : List Value) : Prop where
 ok : ∀ W, SatW c.w0 c.D c.J mem W -> ∀ j v, ys[j]? = some v -> W.cell? ⟨b, o + j, none⟩ = some v
theorem news_own {b : Nat} {ys : List Value} {T' : TypeId} {fr : Nat × Nat} (hm : (b, Obj.cells ⟨ys⟩ T' fr) ∈ mem) : News c mem b 0 ys :=
 ⟨fun W hW j v hj => by rw [hW.cellAt hm, Nat.zero_add]; exact hj⟩
theorem news_ext {b o : Nat} {ys : List Value} (he : Ext c.w0 c.D b o ys) : News c mem b o ys :=
 ⟨fun W hW j v hj => hW.same.cell (he.cell j v hj) he.dom⟩

theorem p_append {t : TypeId} {x y : Operand} {a : Act} {W W' : World} {s u v : Value} (hx : a.eval x = s) (hy : a.eval y = u) (h : (Builtin.append_ #[t, t] ty #[s, u]).run P W = .ok v W') :
  (execOp a.eval ⟨dd, .call ⟨.builtin .append, ⟨[x, y]⟩, ⟨[t, t]⟩⟩, ty, pos, af, g⟩).run P W = .ok (.value v) W' := by
 simp only [execOp, resolve, List.map_toArray, List.map_cons, List.map_nil, hx, hy, Sem.run_bind]
 simp only [Sem.run, pure, Result.andThen_ok, invoke, builtin, Sem.run_bind, bind, Sem.run_bind']
 rw [show (Builtin.append_ ⟨[t, t]⟩ ty ⟨[s, u]⟩).run P W = .ok v W' from h]; rfl

theorem zeroCells_len (z : Array Value) (n : Nat) : (Builtin.zeroCells z n).toList.length = n * z.size := by simp [Builtin.zeroCells]

theorem SatW.newest {w0 : World} {D : Nat -> Prop} {J : (Nat -> Prop) -> World -> Prop} {W : World} (h : SatW w0 D J mem W) (o : Obj) : SatW w0 D J ((W.heap.size, o) :: mem) (W.drew.alloc o) := by
 have := (show SatW w0 D J mem W.drew from h.drew).alloc o
 exact this

theorem r_append_nil [T : TT P tt] {t e m cx bx ox sz bt sz' bt' : Nat} {ke : TK} {z z' : Value} {x y : Operand} {ys : List Value} (hw : wantB L env g = some true) (hd : Nat.blt d N = true)
  (hx : evOp env x = some (.slice none 0 0)) (hy : evOp env y = some (.slice (some ⟨bx, ox, none⟩) m cx)) (ht : look tt t = some ⟨.slice e, sz', bt', z'⟩) (hte : look tt e = some ⟨ke, sz, bt, z⟩) (hnews : News c mem bx ox ys)
  (hl : ys.length = m * sz) (hzl : Nat.beq (cellsL z).length sz = true) (h0 : 0 < m) (hb : m * bt <= 140737488355328) (hm : m <= maxLen)
  (k : ∀ b cap rest, Grow sz m ys cap rest -> RunL P N c L l Q ((d, .slice (some ⟨b, 0, none⟩) m cap) :: env) ((b, .cells ⟨ys ++ rest⟩ e (0, 0)) :: mem)) :
  RunL P N c L (⟨some d, .call ⟨.builtin .append, ⟨[x, y]⟩, ⟨[t, t]⟩⟩, ty, pos, af, g⟩ :: l) Q env mem := by
 have hu : P.underlying t = some (.slice e) := (TT.look (P := P) ht).1
 obtain ⟨_, inf, hi, hs, hbt, hz⟩ := TT.look (P := P) hte
 simp only at hs hz hbt
 have hzl := Nat.eq_of_beq_eq_true hzl
 refine l_eff (ι := { p : Nat × Nat × List Value // Grow sz m ys p.2.1 p.2.2 }) (v := fun p => .slice (some ⟨p.1.1, 0, none⟩) m p.1.2.1) (mem' := fun p => (p.1.1, .cells ⟨ys ++ p.1.2.2⟩ e (0, 0)) :: mem) hw hd ⟨rfl, fun a W ha hmm => ?_⟩ (fun p => k _ _ _ p.2)
 have hr := run_append_nil (P := P) W t ty e inf z hu hi hz ⟨bx, ox, none⟩ m cx ys (by rw [hs]; exact hl) (fun j v hj => by rw [addr_add]; exact hnews.ok W hmm j v hj) h0 (by simp only [maxLen] at hm; omega) (by rw [hbt]; omega)
 have hge := grownCap_ge W m 0 e
 refine ⟨⟨(W.heap.size, grownCap W m 0 e, (Builtin.zeroCells z.cells (grownCap W m 0 e - m)).toList), ⟨hl, ?_, hge, grownCap_le_maxLen W m 0 e hm⟩⟩, _, p_append (ha.eval hx) (ha.eval hy) hr, ?_⟩
 ·rw [List.length_append, hl, zeroCells_len, cellsL_eq]
  show m * sz + (grownCap W m 0 e - m) * (cellsL z).length = _
  rw [hzl, <- Nat.add_mul]
  simp only
  congr 1; omega
 ·have := hmm.newest (.cells (ys.toArray ++ Builtin.zeroCells z.cells (grownCap W m 0 e - m)) e)
  rw [show (ys.toArray ++ Builtin.zeroCells z.cells (grownCap W m 0 e - m)) = ⟨ys ++ (Builtin.zeroCells z.cells (grownCap W m 0 e - m)).toList⟩ by apply Array.ext'; simp] at this ⊢
  exact this

theorem r_append [T : TT P tt] {t e n cap b m cx bx ox sz bt sz' bt' : Nat} {ke : TK} {z z' : Value} {x y : Operand} {xs rest ys : List Value} {mem' : List (Nat × Obj)} (hw : wantB L env g = some true) (hd : Nat.blt d N = true)
  (hx : evOp env x = some (.slice (some ⟨b, 0, none⟩) n cap)) (hy : evOp env y = some (.slice (some ⟨bx, ox, none⟩) m cx)) (ht : look tt t = some ⟨.slice e, sz', bt', z'⟩) (hte : look tt e = some ⟨ke, sz, bt, z⟩) (hnews : News c mem bx ox ys)
  (hr : Rem mem b (.cells ⟨xs ++ rest⟩ e (0, 0)) mem') (hg : Grow sz n xs cap rest)
  (hl : ys.length = m * sz) (hone : allOne ys = true) (hzl : Nat.beq (cellsL z).length sz = true) (hb : (n + m) * bt <= 140737488355328) (hm : n + m <= maxLen)
  (k : ∀ b cap rest, Grow sz (n + m) (xs ++ ys) cap rest -> RunL P N c L l Q ((d, .slice (some ⟨b, 0, none⟩) (n + m) cap) :: env) ((b, .cells ⟨xs ++ ys ++ rest⟩ e (0, 0)) :: mem')) :
  RunL P N c L (⟨some d, .call ⟨.builtin .append, ⟨[x, y]⟩, ⟨[t, t]⟩⟩, ty, pos, af, g⟩ :: l) Q env mem := by
 have hu : P.underlying t = some (.slice e) := (TT.look (P := P) ht).1
 obtain ⟨_, inf, hi, hs, hbt, hz⟩ := TT.look (P := P) hte
 simp only at hs hz hbt
 have hzl := Nat.eq_of_beq_eq_true hzl
 refine l_eff (ι := { p : Nat × Nat × List Value // Grow sz (n + m) (xs ++ ys) p.2.1 p.2.2 }) (v := fun p => .slice (some ⟨p.1.1, 0, none⟩) (n + m) p.1.2.1) (mem' := fun p => (p.1.1, .cells ⟨xs ++ ys ++ p.1.2.2⟩ e (0, 0)) :: mem') hw hd ⟨rfl, fun a W ha hmm => ?_⟩ (fun p => k _ _ _ p.2)
 have hbW := (hmm.own _ hr.isIn).2
 simp only at hbW
 have hlen2 : (xs ++ ys).length = (n + m) * sz := by rw [List.length_append, hg.len, hl, Nat.add_mul]
 by_cases hroom : n + m <= cap
 ·have hfit : n * inf.size + ys.length <= (xs ++ rest).length := by rw [hg.all, hs, hl, <- Nat.add_mul]; exact Nat.mul_le_mul_right _ hroom
  have hap := run_append_room (P := P) W t ty e inf hu hi b n cap ⟨xs ++ rest⟩ hbW ⟨bx, ox, none⟩ m cx ys (by rw [hs]; exact hl) (fun j v hj => by rw [addr_add]; exact hnews.ok W hmm j v hj) (allOne_mem hone) hroom hfit
  have e1 : (xs ++ rest).take (n * inf.size) = xs := by rw [hs, <- hg.len, List.take_left]
  have e2 : (xs ++ rest).drop (n * inf.size + ys.length) = rest.drop ys.length := by rw [hs, <- hg.len, <- List.drop_drop, List.drop_left]
  simp only [e1, e2] at hap
  have hl3 : (xs ++ ys ++ rest.drop ys.length).length = cap * sz := by
   have := hg.all
   simp only [List.length_append, List.length_drop] at this ⊢ hfit
   rw [hs, <- hg.len] at hfit
   omega
  refine ⟨⟨(b, cap, rest.drop ys.length), ⟨hlen2, hl3, hroom, hg.max⟩⟩, _, p_append (ha.eval hx) (ha.eval hy) hap, ?_⟩
  have hsub := hmm.mono hr.sub
  have hnot := hr.not hmm.nodup
  refine ⟨hmm.same.trans ((setRow_same _ _ _).mono fun k hk e => (hmm.own _ hr.isIn).1 (e ▸ hk)), hmm.dom, ?_, ?_, hmm.closed, ?_⟩
  ·simp only [List.map_cons, List.nodup_cons]; exact ⟨hnot, hsub.nodup⟩
  ·intro p hp
   rcases List.mem_cons.1 hp with rfl | hp
   ·exact ⟨(hmm.own _ hr.isIn).1, setRow_heap W b ⟨xs ++ rest⟩ _ e _ hbW⟩
   ·exact ⟨(hsub.own p hp).1, ((setRow_same W b _).block _ (hsub.lt hp) (fun e => hnot (List.mem_map.2 ⟨p, hp, e⟩))).trans (hsub.own p hp).2⟩
  ·refine hmm.closed _ _ _ _ hmm.word ((setRow_same W b _).mono fun k hk e => hk (List.mem_map.2 ⟨_, hr.isIn, e.symm⟩)) fun k hk => .inl ?_
   simp only [keys, List.map_cons, List.mem_cons] at hk
   rcases hk with rfl | hk
   ·exact List.mem_map.2 ⟨_, hr.isIn, rfl⟩
   ·obtain ⟨p, hp, e⟩ := List.mem_map.1 hk
    exact List.mem_map.2 ⟨p, hr.sub.mem hp, e⟩
 ·have hap := run_append_grow (P := P) W t ty e inf z hu hi hz ⟨b, 0, none⟩ n cap xs (by rw [hs]; exact hg.len) (fun j v hj => by
    rw [addr_add, Nat.zero_add, hmm.cellAt hr.isIn, List.getElem?_append_left (List.getElem?_eq_some_iff.1 hj).1]; exact hj)
   ⟨bx, ox, none⟩ m cx ys (by rw [hs]; exact hl) (fun j v hj => by rw [addr_add]; exact hnews.ok W hmm j v hj) (by omega) (by simp only [maxLen] at hm; omega) (growslice_fits (by omega) (by rw [hbt]; exact hb))
  have hge := grownCap_ge W (n + m) cap e
  refine ⟨⟨(W.heap.size, grownCap W (n + m) cap e, (Builtin.zeroCells z.cells (grownCap W (n + m) cap e - (n + m))).toList), ⟨hlen2, ?_, hge, grownCap_le_maxLen W (n + m) cap e hm⟩⟩, _, p_append (ha.eval hx) (ha.eval hy) hap, ?_⟩
  ·rw [List.length_append, hlen2, zeroCells_len, cellsL_eq]
   show (n + m) * sz + (grownCap W (n + m) cap e - (n + m)) * (cellsL z).length = _
   rw [hzl, <- Nat.add_mul]
   simp only
   congr 1; omega
  ·have := (hmm.mono hr.sub).newest (.cells (xs.toArray ++ ys.toArray ++ Builtin.zeroCells z.cells (grownCap W (n + m) cap e - (n + m))) e)
   rw [show (xs.toArray ++ ys.toArray ++ Builtin.zeroCells z.cells (grownCap W (n + m) cap e - (n + m))) = ⟨xs ++ ys ++ (Builtin.zeroCells z.cells (grownCap W (n + m) cap e - (n + m))).toList⟩ by apply Array.ext'; simp] at this ⊢
   exact this

end
end Kin
end Go

namespace Go
open Go.RowKit
namespace Kin

section
variable {P : Program} {ops : Array Oper} {C : World -> Prop}

end

section
variable {P : Program} {N : Nat} {c : Cx} {Q : Exit -> Act -> World -> Prop} {env : List (Nat × Value)} {mem : List (Nat × Obj)} {L l : List Oper} [Wide c.F]
 {tt : List (TypeId × TI)} {d : Nat} {ty : TypeId} {pos : String} {af : Array Edge} {g : Option (Nat × Bool)} {dd : Option Tmp}

/-- the shape of a region: `n` operations that only read, `f` more. -/
def readOp : Op -> Bool
 | .store .. => false
 | .alloc _ => false
 | .box .. => false
 | .buildSlice .. => false
 | .makeSlice .. => false
 | .makeMap .. => false
 | .mapUpdate .. => false
 | .insert .. => false
 | .call ⟨.builtin .append, _, _⟩ => false
 | .call ⟨.builtin .copy, _, _⟩ => false
 | _ => true
def reads : List Oper -> Nat -> Bool
 | _, 0 => true
 | o :: l, n + 1 => bif readOp o.op then reads l n else false
 | [], _ + 1 => false
def allRead : List Oper -> Bool
 | [] => true
 | o :: l => bif readOp o.op then allRead l else false

theorem c_reads [M : Mixed P] {id : Nat} (_ : allRead l = true) (hB : Region.lexB .any l.toArray = true) (k : RunQ P N c l l Q env mem) : RunC P N c (.region id l.toArray true) Q env mem := c_quiet hB k

/-! ## Where ways meet -/
theorem c_probe {id : Nat} {ops : Array Oper} {dr : Bool} {y z : Code} (k : RunC P N c (.seq (.seq (.region id ops dr) y) z) Q env mem) : RunC P N c (.seq (.seq (.region id ops dr) y) z) Q env mem := k
theorem c_probe1 {id : Nat} {ops : Array Oper} {dr : Bool} {y : Code} (k : RunC P N c (.seq (.region id ops dr) y) Q env mem) : RunC P N c (.seq (.region id ops dr) y) Q env mem := k

/-! ## Arrays of numbers -/
def bvec (n : Nat) (f : Nat -> Bool) : List Value := vec n fun i => .bool (f i)
theorem flat_bool {n : Nat} {v : Bool} : (flat n fun _ => [Value.bool v]) = bvec n fun _ => v := flat_one

end
end Kin
end Go

namespace Go
open Go.RowKit
namespace Kin
theorem aggL {l : List Value} : cellsL (.agg ⟨l⟩) = l := rfl
theorem MSub.refl : ∀ m : List (Nat × Obj), MSub m m
 | [] => .nil
 | (_, _) :: m => .keep rfl (MSub.refl m)

section
variable {P : Program} {b : Frame} {k : List Item} {cs : List Frame} {a : Act} {w : World}
theorem stepR_scope {c : Code} : step P (lone (b.atR a (.code (.scope c) :: k)) cs w) = .next (lone (b.atR a (.code c :: .inScope c :: k)) cs w) :=
 step_lone_go (by simp [stepG, stepG.exec, Frame.atR])
theorem stepR_inScope {c : Code} : step P (lone (b.atR a (.inScope c :: k)) cs w) = .next (lone (b.atR a k) cs w) :=
 step_lone_go (by simp [stepG, stepG.exec, Frame.atR])
end

/-- a scope through which the run goes without a goto -/
theorem wpIn_scope {F : Fence} {n : Nat} {P : Program} {Q : Exit -> Act -> World -> Prop} {a : Act} {w : World} {c : Code} (h : c.wpIn F n P (Exit.noGoto Q) a w) : (Code.scope c).wpIn F n P Q a w := by
 intro b k cs hro hb hr
 have h0 : (lone (b.atR a (.code (.scope c) :: k)) cs w).fenced P F := fenced_calm hb hr rfl
 obtain ⟨e, a₁, w₁, hq, harr⟩ := h b (.inScope c :: k) cs hro hb hr
 cases e with
 | normal => exact ⟨.normal, a₁, w₁, hq, .head h0 stepR_scope (StepsIn.trans harr (.one (fenced_calm hb hr rfl) stepR_inScope))⟩
 | exit id =>
  have hx : exitTo id (.inScope c :: k) = exitTo id k := by simp [exitTo]
  exact ⟨.exit id, a₁, w₁, hq, fun k' hk => .head h0 stepR_scope (harr.1 k' (by rw [hx]; exact hk)),
   fun hr' hk => let ⟨k₁, h1, h2⟩ := harr.2 hr' (by rw [hx]; exact hk); ⟨k₁, h1, .head h0 stepR_scope h2⟩⟩
 | goto l => exact hq.elim
 | ret => exact ⟨_, a₁, w₁, hq, .of_steps (.one h0 stepR_scope) harr⟩
 | panic ch => exact ⟨_, a₁, w₁, hq, .of_steps (.one h0 stepR_scope) harr⟩
 | outgrown => exact ⟨_, a₁, w₁, hq, .of_steps (.one h0 stepR_scope) harr⟩

section
variable {P : Program} {N : Nat} {c : Cx} {Q : Exit -> Act -> World -> Prop} {env : List (Nat × Value)} {mem : List (Nat × Obj)}
theorem c_scope {x : Code} (k : RunC P N c x (Exit.noGoto Q) env mem) : RunC P N c (.scope x) Q env mem := .mk fun a W ha hw => wpIn_scope (k.run a W ha hw)
theorem x_scope_ret (k : RunX N c Q .ret env mem) : RunX N c (Exit.noGoto Q) .ret env mem := .mk fun a W ha hw => k.run a W ha hw
theorem SatW.perm {w0 : World} {D : Nat -> Prop} {J : (Nat -> Prop) -> World -> Prop} {mem mem' : List (Nat × Obj)} {W : World} (h : SatW w0 D J mem W) (hp : mem.Perm mem') : SatW w0 D J mem' W := by
 refine ⟨h.same, h.dom, (hp.map _).nodup_iff.1 h.nodup, fun p hm => h.own p (hp.mem_iff.2 hm), h.closed, ?_⟩
 have hk : keys mem' = keys mem := by
  funext b
  unfold keys
  exact propext ((hp.map _).mem_iff).symm
 rw [hk]; exact h.word
theorem x_perm {e : Exit} {mem' : List (Nat × Obj)} (hp : mem.Perm mem') (k : RunX N c Q e env mem') : RunX N c Q e env mem := .mk fun a W ha hm => k.run a W ha (hm.perm hp)
end
end Kin
end Go

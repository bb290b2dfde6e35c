/- The engine: elements of arrays by value, slices of slices. Generic: no program is named here. -/
import Derived.Test.YtjagcijgfmclhaaEng13
set_option linter.unusedSectionVars false
set_option linter.unusedVariables false
set_option linter.unusedSimpArgs false
namespace Go
open Go.RowKit
namespace Kin
section
variable {P : Program} {N : Nat} {c : Cx} {env : List (Nat × Value)} {mem : List (Nat × Obj)} {tt : List (TypeId × TI)} {ty : TypeId} {pos : String} {af : Array Edge} {g : Option (Nat × Bool)} {dd : Option Tmp}

/-- an element of an array that is held by value; elements of one cell -/
theorem v_ix [T : TT P tt] {t e n sz bt sz' bt' : Nat} {x ix : Operand} {ke : TK} {z z' v : Value} {cs : List Value} {k : IntKind} {i : Int} (hx : evOp env x = some (.agg ⟨cs⟩)) (hi : evOp env ix = some (.int k i)) (ht : look tt t = some ⟨.array n e, sz', bt', z'⟩)
    (hte : look tt e = some ⟨ke, sz, bt, z⟩) (h0 : 0 ≤ i) (h1 : i < n) (hv : aggV ke.isAgg sz cs (i.toNat * sz) = some v) : OpVal P N c env mem ⟨dd, .index t x ix, ty, pos, af, g⟩ v :=
  ⟨rfl, fun a W ha _ => by
    have hu : P.underlying t = some (.array n e) := (TT.look (P := P) ht).1
    obtain ⟨i', hi', hs'⟩ := (TT.look (P := P) hte).size
    have hp := run_part (P := P) (W := W) (TT.look (P := P) hte).size (TT.look (P := P) hte).1 hv
    simp only [execOp, ha.eval hx, ha.eval hi, Instr.index, asIntOf, Sem.run_bind, Sem.run_pure, Result.andThen_ok, run_und hu]
    rw [if_pos ⟨h0, h1⟩]
    simp only [Sem.run_bind, run_size hi', Result.andThen_ok, hs', hp]⟩

/-- an array that is built by value, all of whose elements are given, in order -/
theorem v_buildA [T : TT P tt] {t e n sz bt sz' bt' : Nat} {ke : TK} {z z' : Value} {cs : List Value} {ps : List (Nat × Operand)} (ht : look tt t = some ⟨.array n e, sz', bt', z'⟩) (hte : look tt e = some ⟨ke, sz, bt, z⟩)
    (hn : Nat.beq (cellsL z').length (ps.length * sz) = true) (hv : rowsK env sz ps 0 some = some cs) :
    OpVal P N c env mem ⟨dd, .build t ⟨ps⟩, ty, pos, af, g⟩ (.agg ⟨cs⟩) := ⟨rfl, fun a W ha _ => by
  obtain ⟨hu, inf, hinf, _, _, hz⟩ := TT.look (P := P) ht
  have hu : P.underlying t = some (.array n e) := hu
  have hz2 : (zeroValue t).run P W = .ok z' W := by
    simp only [zeroValue, Sem.run_bind, run_info hinf, Result.andThen_ok, hz]; rfl
  obtain ⟨_, i', hi', hs', _, _⟩ := TT.look (P := P) hte
  simp only at hs'
  obtain ⟨cs', h1, h2, h3⟩ := rowsK_ok ha ps 0 _ _ hv
  simp only [Option.some.injEq] at h1
  subst h1
  have h4 := h3 [] (cellsL z') (by simp) (Nat.eq_of_beq_eq_true hn)
  rw [List.nil_append, List.nil_append] at h4
  have e3 : ((⟨ps⟩ : Array (Nat × Operand)).map fun (x : Nat × Operand) => (x.1, a.eval x.2)).toList = ps.map fun p => (p.1, a.eval p.2) := by simp
  simp only [execOp, Instr.build, Sem.run_bind, hz2, run_und hu, run_size hi', Result.andThen_ok, hs']
  rw [e3, cellsL_eq, h4]; rfl⟩

/-- a call that hands back memory of its own: two blocks -/
theorem r_call2 [Wide c.F] {Q : Exit → Act → World → Prop} {L l : List Oper} {d : Nat} {f : FuncId} [Ent P f] {args : List Operand} {ats : Array TypeId} {vs : List Value} {ι : Type} {v : ι → Value} {bk bk2 : ι → Nat} {o o2 : ι → Obj} (hw : wantB L env g = some true) (hd : Nat.blt d N = true) (ha : evOps env args some = some vs)
    (hc : ∀ W, SatW c.w0 c.D c.J mem W → Calls P f ⟨vs⟩ W fun e W' => ∃ i, e = .returned (v i) ∧ Below W.heap.size W W' ∧ W.heap.size ≤ bk i ∧ W'.heap[bk i]? = some (o i) ∧ W.heap.size ≤ bk2 i ∧ W'.heap[bk2 i]? = some (o2 i) ∧ bk2 i ≠ bk i)
    (k : ∀ i, RunL P N c L l Q ((d, v i) :: env) ((bk2 i, o2 i) :: (bk i, o i) :: mem)) : RunL P N c L (⟨some d, .call ⟨.value (.func f), ⟨args⟩, ats⟩, ty, pos, af, g⟩ :: l) Q env mem :=
  l_call (ι := ι) (v := v) (mem' := fun i => (bk2 i, o2 i) :: (bk i, o i) :: mem) hw hd ha (fun W hm => (hc W hm).mono fun _ W' ⟨i, h1, h2, h3, h4, h5, h6, h7⟩ => ⟨i, h1, by
    have hm2 := hm.later h2
    have hfar : ∀ b, W.heap.size ≤ b → b ∉ mem.map (·.1) ∧ ¬ c.D b := fun b hb => ⟨fun hmm => by
      obtain ⟨p, hp, e⟩ := List.mem_map.1 hmm
      have := hm.lt hp
      omega, fun hdd => by have := hm.dom _ hdd; have := hm.same.size; omega⟩
    refine ⟨hm2.same, hm2.dom, ?_, ?_, hm.closed, hm.closed _ _ _ _ hm.word (Same.of_below_all h2) fun b hb => ?_⟩
    · simp only [List.map_cons, List.nodup_cons, List.mem_cons, not_or]
      exact ⟨⟨h7, (hfar _ h5).1⟩, (hfar _ h3).1, hm2.nodup⟩
    · intro p hp
      rcases List.mem_cons.1 hp with rfl | hp
      · exact ⟨(hfar _ h5).2, h6⟩
      · rcases List.mem_cons.1 hp with rfl | hp
        · exact ⟨(hfar _ h3).2, h4⟩
        · exact hm2.own p hp
    · simp only [keys, List.map_cons, List.mem_cons] at hb
      rcases hb with rfl | rfl | hb
      · exact .inr h5
      · exact .inr h3
      · exact .inl hb⟩) k

theorem min2_int (k k' : IntKind) (x y : Int) : Builtin.min2 (.int k x) (.int k' y) = pure (.int k (min x y)) := by
  have : (if y < x then y else x) = min x y := by omega
  rw [← this]; rfl
theorem max2_int (k k' : IntKind) (x y : Int) : Builtin.max2 (.int k x) (.int k' y) = pure (.int k (max x y)) := by
  have : (if x < y then y else x) = max x y := by omega
  rw [← this]; rfl
theorem v_min3 {x y z : Operand} {k k2 k3 : IntKind} {m n o : Int} {ats : Array TypeId} (hx : evOp env x = some (.int k m)) (hy : evOp env y = some (.int k2 n)) (hz : evOp env z = some (.int k3 o)) :
    OpVal P N c env mem ⟨dd, .call ⟨.builtin .min, ⟨[x, y, z]⟩, ats⟩, ty, pos, af, g⟩ (.int k (min (min m n) o)) := ⟨rfl, fun a W ha _ => by
  simp only [execOp, resolve, List.map_toArray, List.map_cons, List.map_nil, ha.eval hx, ha.eval hy, ha.eval hz, Sem.run_bind]
  simp [invoke, builtin, Builtin.min_, min2_int, Sem.run, pure]⟩
theorem v_max3 {x y z : Operand} {k k2 k3 : IntKind} {m n o : Int} {ats : Array TypeId} (hx : evOp env x = some (.int k m)) (hy : evOp env y = some (.int k2 n)) (hz : evOp env z = some (.int k3 o)) :
    OpVal P N c env mem ⟨dd, .call ⟨.builtin .max, ⟨[x, y, z]⟩, ats⟩, ty, pos, af, g⟩ (.int k (max (max m n) o)) := ⟨rfl, fun a W ha _ => by
  simp only [execOp, resolve, List.map_toArray, List.map_cons, List.map_nil, ha.eval hx, ha.eval hy, ha.eval hz, Sem.run_bind]
  simp [invoke, builtin, Builtin.max_, max2_int, Sem.run, pure]⟩
theorem v_min4 {x y z u : Operand} {k k2 k3 k4 : IntKind} {m n o p : Int} {ats : Array TypeId} (hx : evOp env x = some (.int k m)) (hy : evOp env y = some (.int k2 n)) (hz : evOp env z = some (.int k3 o)) (hu : evOp env u = some (.int k4 p)) :
    OpVal P N c env mem ⟨dd, .call ⟨.builtin .min, ⟨[x, y, z, u]⟩, ats⟩, ty, pos, af, g⟩ (.int k (min (min (min m n) o) p)) := ⟨rfl, fun a W ha _ => by
  simp only [execOp, resolve, List.map_toArray, List.map_cons, List.map_nil, ha.eval hx, ha.eval hy, ha.eval hz, ha.eval hu, Sem.run_bind]
  simp [invoke, builtin, Builtin.min_, min2_int, Sem.run, pure]⟩
theorem v_max4 {x y z u : Operand} {k k2 k3 k4 : IntKind} {m n o p : Int} {ats : Array TypeId} (hx : evOp env x = some (.int k m)) (hy : evOp env y = some (.int k2 n)) (hz : evOp env z = some (.int k3 o)) (hu : evOp env u = some (.int k4 p)) :
    OpVal P N c env mem ⟨dd, .call ⟨.builtin .max, ⟨[x, y, z, u]⟩, ats⟩, ty, pos, af, g⟩ (.int k (max (max (max m n) o) p)) := ⟨rfl, fun a W ha _ => by
  simp only [execOp, resolve, List.map_toArray, List.map_cons, List.map_nil, ha.eval hx, ha.eval hy, ha.eval hz, ha.eval hu, Sem.run_bind]
  simp [invoke, builtin, Builtin.max_, max2_int, Sem.run, pure]⟩

/-- the end of a slice, from a number on -/
theorem v_sliceL [T : TT P tt] {t e n cap b o l sz bt sz' bt' : Nat} {x lo : Operand} {ke : TK} {z z' : Value} {k : IntKind} {i : Int} (hx : evOp env x = some (.slice (some ⟨b, o, none⟩) n cap)) (hl : evOp env lo = some (.int k i)) (ht : look tt t = some ⟨.slice e, sz', bt', z'⟩)
    (hte : look tt e = some ⟨ke, sz, bt, z⟩) (hil : i = l) (h1 : l ≤ n) (h2 : cap ≠ l) :
    OpVal P N c env mem ⟨dd, .slice t x (some lo) none none, ty, pos, af, g⟩ (.slice (some ⟨b, o + l * sz, none⟩) (n - l) (cap - l)) :=
  ⟨rfl, fun a W ha _ => by
    subst hil
    have hu : P.underlying t = some (.slice e) := (TT.look (P := P) ht).1
    obtain ⟨i', hi', hs'⟩ := (TT.look (P := P) hte).size
    have e1 : (⟨b, o, none⟩ : Addr).add (l * sz) = ⟨b, o + l * sz, none⟩ := by
      unfold Addr.add
      split
      · rename_i h; simp [h]
      · rfl
    simp only [execOp, ha.eval hx, Option.map_some, Option.map_none, ha.eval hl, Instr.sliceAt, Instr.slice, Instr.sliceBounds, Instr.sliceBound, asIntOf, Sem.run_bind, Sem.run_pure, Result.andThen_ok, run_und hu]
    rw [if_pos (⟨by omega, by omega⟩ : 0 ≤ ((l : Nat) : Int) ∧ ((l : Nat) : Int) ≤ n)]
    simp only [Sem.run_bind, Sem.run_pure, Result.andThen_ok, run_size hi', hs', Int.toNat_natCast, if_neg h2, Option.map_some, e1]⟩

/-- a slice in the middle of a block that is known -/
theorem SatW.rowsAt {w0 W : World} {D : Nat → Prop} {J : (Nat → Prop) → World → Prop} {mem : List (Nat × Obj)} (hW : SatW w0 D J mem W) {b o : Nat} {cs : List Value} {T : TypeId} {fr : Nat × Nat} (hm : (b, Obj.cells ⟨cs⟩ T fr) ∈ mem)
    {rows : List (List Value)} {sz : Nat} {pre rest : List Value} (he : cs = pre ++ (rows.flatten ++ rest)) (ho : pre.length = o) (hl : ∀ r ∈ rows, r.length = sz) : At W (some ⟨b, o, none⟩) sz rows := fun i r hi => by
  refine ⟨b, o, rfl, fun j v hj => ?_⟩
  rw [hW.cellAt hm, he, Nat.add_assoc, ← ho, List.getElem?_append_right (by omega), Nat.add_sub_cancel_left]
  exact (rowAt_flatten hl hi).get hj
end
end Kin
end Go

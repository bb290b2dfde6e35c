/- The engine's rules: structs and slices by literals, make. Generic: no program is named here. -/
import Derived.Test.YtdegengehbdelaaGreatDoorEng4
import Derived.Laws.AppendOwn
import Derived.Laws.MakeOwn
set_option linter.unusedSectionVars false
set_option linter.unusedVariables false
set_option linter.unusedSimpArgs false
namespace Go
open Go.RowKit
namespace Kin

theorem fold_set (off : Nat) : ∀ (vs : List Value) (k : Nat) (cells : Array Value), off + k + vs.length <= cells.size ->
  (vs.zipIdx k).foldl (fun cs (p : Value × Nat) => cs.setIfInBounds (off + p.2) p.1) cells = ⟨cells.toList.take (off + k) ++ vs ++ cells.toList.drop (off + k + vs.length)⟩
 | [], k, cells, _ => by simp
 | v :: vs, k, cells, h => by
  simp only [List.length_cons] at h
  have ih := fold_set off vs (k + 1) (cells.setIfInBounds (off + k) v) (by simp; omega)
  simp only [List.zipIdx_cons, List.foldl_cons]
  rw [ih]
  congr 1
  rw [Array.toList_setIfInBounds]
  have h1 := list_seg_step cells.toList (off + k) v vs (by simp; omega)
  rw [show off + (k + 1) = off + k + 1 by omega, show off + k + (v :: vs).length = off + k + (vs.length + 1) by simp]
  exact h1

theorem fill_one (off : Nat) (v : Value) (cs : List Value) (h1 : off + (cellsL v).length <= cs.length) :
  (v.cells.zipIdx.foldl (fun cs (x : Value × Nat) => cs.setIfInBounds (off + x.2) x.1) (⟨cs⟩ : Array Value)) = ⟨cs.take off ++ cellsL v ++ cs.drop (off + (cellsL v).length)⟩ := by
 rw [cellsL_eq, <- Array.foldl_toList, Array.toList_zipIdx]
 have := fold_set off (cellsL v) 0 ⟨cs⟩ (by simpa using h1)
 simpa using this

def placeF (f : Field) : Sem (Nat × Nat) := do pure (f.offset, <- sizeOf f.type)

theorem run_places {P : Program} {W : World} : ∀ (fs : List Field), (∀ f ∈ fs, ∃ i, P.info? f.type = some i) ->
  (fs.mapM placeF).run P W = .ok (fs.map fun f => (f.offset, P.cellsOf f.type)) W
 | [], _ => rfl
 | f :: fs, h => by
  obtain ⟨i, hi⟩ := h f List.mem_cons_self
  have ih := run_places (P := P) (W := W) fs fun g hg => h g (List.mem_cons_of_mem _ hg)
  have h1 : (placeF f).run P W = .ok (f.offset, P.cellsOf f.type) W := by
   simp only [placeF, Sem.run_bind, run_size hi, Result.andThen_ok, Program.cellsOf, hi, Option.map_some, Option.getD_some]; rfl
  rw [List.mapM_cons]
  simp only [Sem.run_bind, h1, ih, Result.andThen_ok, List.map_cons]; rfl

/-- A struct's literal. -/
def buildK (tt : List (TypeId × TI)) (env : List (Nat × Value)) (fs : List (TypeId × Nat)) : List (Nat × Operand) -> List Value -> Option Value
 | [], cells => some (.agg ⟨cells⟩)
 | (i, x) :: ps, cells => match nth fs i with
   | some (ft, off) => match look tt ft with
     | some ⟨_, sz, _, _⟩ => match evOp env x with
       | some v => bif Nat.beq (cellsL v).length sz then putK cells off (cellsL v) fun cells' => buildK tt env fs ps cells' else none
       | none => none
     | none => none
   | none => none

def allIn (tt : List (TypeId × TI)) : List (TypeId × Nat) -> Bool
 | [] => true
 | (t, _) :: fs => match look tt t with
   | some _ => allIn tt fs
   | none => false

section
variable {P : Program} {N : Nat} {c : Cx} {Q : Exit -> Act -> World -> Prop} {env : List (Nat × Value)} {mem : List (Nat × Obj)} {L l : List Oper} [Wide c.F]
 {tt : List (TypeId × TI)} {d : Nat} {ty : TypeId} {pos : String} {af : Array Edge} {g : Option (Nat × Bool)} {dd : Option Tmp}

theorem allIn_info [T : TT P tt] {fs : List (TypeId × Nat)} (h : allIn tt fs = true) : ∀ p ∈ fs, ∃ i, P.info? p.1 = some i := by
 induction fs with
 | nil => intro p hp; cases hp
 | cons q fs ih =>
  obtain ⟨t, o⟩ := q
  simp only [allIn] at h
  cases hl : look tt t with
  | none => rw [hl] at h; cases h
  | some ti =>
   rw [hl] at h
   intro p hp
   rcases List.mem_cons.1 hp with rfl | hp
   ·obtain ⟨_, i, hi, _⟩ := TT.look (P := P) hl; exact ⟨i, hi⟩
   ·exact ih h p hp

theorem fill_ok [T : TT P tt] {ds : List Deferred} {a : Act} (ha : SatA N ds env a) {fs : List Field} : ∀ (ps : List (Nat × Operand)) (cells : List Value) (v : Value),
  buildK tt env (fs.map fun f => (f.type, f.offset)) ps cells = some v ->
  ∃ cs, v = .agg cs /\ Instr.fill (fun i => (fs.map fun f => (f.offset, P.cellsOf f.type))[i]?) ⟨cells⟩ (ps.map fun p => (p.1, a.eval p.2)) = some cs
 | [], cells, v, h => by
  simp only [buildK, Option.some.injEq] at h
  exact ⟨_, h.symm, rfl⟩
 | (i, x) :: ps, cells, v, h => by
  simp only [buildK] at h
  split at h
  ·rename_i ft off h1
   split at h
   ·rename_i sz _ _ h2
    split at h
    ·rename_i u h3
     cases hb : Nat.beq (cellsL u).length sz with
     | false => rw [hb] at h; cases h
     | true =>
      rw [hb] at h
      simp only [cond_true] at h
      have hlen := Nat.eq_of_beq_eq_true hb
      obtain ⟨h4, h5⟩ := putK_eq h
      obtain ⟨cs, h6, h7⟩ := fill_ok ha ps _ v h5
      refine ⟨cs, h6, ?_⟩
      rw [nth_eq, List.getElem?_map] at h1
      cases hf : fs[i]? with
      | none => rw [hf] at h1; cases h1
      | some f =>
       rw [hf] at h1
       simp only [Option.map_some, Option.some.injEq, Prod.mk.injEq] at h1
       obtain ⟨rfl, rfl⟩ := h1
       obtain ⟨inf, hi, hs⟩ := (TT.look (P := P) h2).size
       have hsz : P.cellsOf f.type = sz := by simp [Program.cellsOf, hi, hs]
       have hpl : (fs.map fun f => (f.offset, P.cellsOf f.type))[i]? = some (f.offset, sz) := by rw [List.getElem?_map, hf]; simp [hsz]
       simp only [List.map_cons, Instr.fill, hpl, ha.eval h3]
       have hcz : u.cells.size = sz := by rw [cellsL_eq]; exact hlen
       rw [if_neg (by simp only [hcz, ne_eq, not_true_eq_false, decide_false, Bool.false_or, decide_eq_true_eq, List.size_toArray]; omega)]
       rw [fill_one f.offset u cells h4]
       exact h7
    ·cases h
   ·cases h
  ·cases h

theorem v_build [T : TT P tt] {t sz bt : Nat} {fs : List (TypeId × Nat)} {z v : Value} {ps : List (Nat × Operand)} (ht : look tt t = some ⟨.struct fs, sz, bt, z⟩) (hi : allIn tt fs = true) (hv : buildK tt env fs ps (cellsL z) = some v) :
  OpVal P N c env mem ⟨dd, .build t ⟨ps⟩, ty, pos, af, g⟩ v := ⟨rfl, fun a W ha _ => by
 obtain ⟨⟨fields, hu, hf⟩, inf, hinf, _, _, hz⟩ := TT.look (P := P) ht
 subst hf
 have hz2 : (zeroValue t).run P W = .ok z W := by
  simp only [zeroValue, Sem.run_bind, run_info hinf, Result.andThen_ok, hz]; rfl
 obtain ⟨cs, rfl, h2⟩ := fill_ok (P := P) ha ps _ v hv
 have hpl := run_places (P := P) (W := W) fields.toList fun f hf => allIn_info hi (f.type, f.offset) (List.mem_map.2 ⟨f, hf, rfl⟩)
 have hpl2 : (fields.mapM placeF).run P W = .ok (fields.map fun f => (f.offset, P.cellsOf f.type)) W := by
  rw [Array.mapM_eq_mapM_toList, Sem.run_map, hpl]
  simp only [Result.andThen_ok]
  congr 1
  apply Array.ext'; simp
 have e1 : (fields.toList.map fun f => (f.offset, P.cellsOf f.type)) = (fields.map fun f => (f.offset, P.cellsOf f.type)).toList := by simp
 rw [e1] at h2
 simp only [execOp, Instr.build, Sem.run_bind, hz2, run_und hu, Result.andThen_ok]
 show ((((fields.mapM placeF).run P W).andThen _).andThen _) = _
 rw [hpl2]
 simp only [Result.andThen_ok]
 have e2 : (fun (i : Nat) => (fields.map fun f => (f.offset, P.cellsOf f.type)).toList[i]?) = fun (i : Nat) => (fields.map fun f => (f.offset, P.cellsOf f.type))[i]? := by funext i; simp
 rw [e2] at h2
 have e3 : ((⟨ps⟩ : Array (Nat × Operand)).map fun (x : Nat × Operand) => (x.1, a.eval x.2)).toList = ps.map fun p => (p.1, a.eval p.2) := by simp
 rw [e3, cellsL_eq, h2]; rfl⟩


/-! ## Slices by literals, and make -/
/-- the cells of a slice's literal all of whose elements are given, in order -/
def rowsK {β : Type} (env : List (Nat × Value)) (sz : Nat) : List (Nat × Operand) -> Nat -> (List Value -> Option β) -> Option β
 | [], _, k => k []
 | (i, x) :: ps, j, k => bif Nat.beq i j then match evOp env x with
   | some v => bif Nat.beq (cellsL v).length sz then rowsK env sz ps (j + 1) fun r => k (cellsL v ++ r) else none
   | none => none
   else none

theorem rowsK_ok {β : Type} {ds : List Deferred} {a : Act} (ha : SatA N ds env a) {sz : Nat} : ∀ (ps : List (Nat × Operand)) (j : Nat) (k : List Value -> Option β) (r : β), rowsK env sz ps j k = some r ->
  ∃ cs, k cs = some r /\ cs.length = ps.length * sz /\ ∀ pre post : List Value, pre.length = j * sz -> post.length = ps.length * sz ->
   Instr.fill (fun i => some (i * sz, sz)) ⟨pre ++ post⟩ (ps.map fun p => (p.1, a.eval p.2)) = some ⟨pre ++ cs⟩
 | [], j, k, r, h => ⟨[], h, by simp, fun pre post _ h2 => by
   have : post = [] := List.eq_nil_of_length_eq_zero (by simpa using h2)
   subst this; rfl⟩
 | (i, x) :: ps, j, k, r, h => by
  simp only [rowsK] at h
  cases hb : Nat.beq i j with
  | false => rw [hb] at h; cases h
  | true =>
   have hij := Nat.eq_of_beq_eq_true hb
   subst hij
   rw [hb] at h
   simp only [cond_true] at h
   split at h
   ·rename_i v hx
    cases hb2 : Nat.beq (cellsL v).length sz with
    | false => rw [hb2] at h; cases h
    | true =>
     have hlen := Nat.eq_of_beq_eq_true hb2
     rw [hb2] at h
     simp only [cond_true] at h
     obtain ⟨cs, h1, h2, h3⟩ := rowsK_ok ha ps (i + 1) _ r h
     refine ⟨cellsL v ++ cs, h1, by rw [List.length_append, h2, hlen, List.length_cons, Nat.add_mul, Nat.one_mul, Nat.add_comm], fun pre post hp hq => ?_⟩
     have hcz : v.cells.size = sz := by rw [cellsL_eq]; exact hlen
     have hq2 : sz <= post.length := by rw [hq, List.length_cons, Nat.add_mul, Nat.one_mul]; omega
     simp only [List.map_cons, Instr.fill, ha.eval hx]
     rw [if_neg (by simp only [hcz, ne_eq, not_true_eq_false, decide_false, Bool.false_or, decide_eq_true_eq, List.size_toArray, List.length_append]; omega)]
     rw [fill_one (i * sz) v (pre ++ post) (by simp only [List.length_append]; omega)]
     have e1 : (pre ++ post).take (i * sz) = pre := by rw [<- hp, List.take_left]
     have e2 : (pre ++ post).drop (i * sz + (cellsL v).length) = post.drop sz := by
      rw [hlen, <- hp, <- List.drop_drop, List.drop_left]
     rw [e1, e2]
     have := h3 (pre ++ cellsL v) (post.drop sz) (by rw [List.length_append, hp, hlen, Nat.add_mul, Nat.one_mul]) (by rw [List.length_drop, hq, List.length_cons, Nat.add_mul, Nat.one_mul]; omega)
     rw [this, List.append_assoc]
   ·cases h

theorem r_buildSlice [T : TT P tt] {t e n sz bt sz' bt' : Nat} {ke : TK} {z z' : Value} {ps : List (Nat × Operand)} {cs : List Value} (hw : wantB L env g = some true) (hd : Nat.blt d N = true)
  (ht : look tt t = some ⟨.slice e, sz', bt', z'⟩) (hte : look tt e = some ⟨ke, sz, bt, z⟩) (hn : Nat.beq ps.length n = true) (hb : Nat.ble (n * sz) 16777216 = true) (hv : rowsK env sz ps 0 some = some cs)
  (k : ∀ b, RunL P N c L l Q ((d, .slice (some ⟨b, 0, none⟩) n n) :: env) ((b, .cells ⟨cs⟩ e (0, 0)) :: mem)) :
  RunL P N c L (⟨some d, .buildSlice t n ⟨ps⟩, ty, pos, af, g⟩ :: l) Q env mem := by
 have hn := Nat.eq_of_beq_eq_true hn
 subst hn
 have hu : P.underlying t = some (.slice e) := (TT.look (P := P) ht).1
 obtain ⟨_, inf, hi, hs, _, hz⟩ := TT.look (P := P) hte
 simp only at hs hz
 refine l_eff (ι := Nat) (v := fun b => .slice (some ⟨b, 0, none⟩) ps.length ps.length) (mem' := fun b => (b, .cells ⟨cs⟩ e (0, 0)) :: mem) hw hd ⟨rfl, fun a W ha hm => ?_⟩ k
 refine ⟨W.heap.size, _, ?_, hm.alloc _⟩
 obtain ⟨cs', h1, h2, h3⟩ := rowsK_ok ha ps 0 _ _ hv
 simp only [Option.some.injEq] at h1
 subst h1
 have hz2 : (zeroValue e).run P W = .ok z W := by
  simp only [zeroValue, Sem.run_bind, run_info hi, Result.andThen_ok, hz]; rfl
 have hb2 : ¬ ps.length * sz > 2 ^ 24 := by have := Nat.le_of_ble_eq_true hb; omega
 have hfill : ∀ zz : Array Value, Instr.fill (fun i => some (i * sz, sz)) ((Array.range (ps.length * sz)).map (zz[· % zz.size]!)) (ps.map fun p => (p.1, a.eval p.2)) = some ⟨cs'⟩ := fun zz => by
  have := h3 [] ((Array.range (ps.length * sz)).map (zz[· % zz.size]!)).toList (by simp) (by simp)
  rwa [List.nil_append, show (⟨((Array.range (ps.length * sz)).map (zz[· % zz.size]!)).toList⟩ : Array Value) = (Array.range (ps.length * sz)).map (zz[· % zz.size]!) from rfl, List.nil_append] at this
 simp only [execOp, Instr.buildSlice, Sem.run_bind, run_und hu, run_size hi, Result.andThen_ok, hs]
 rw [if_neg hb2]
 have e3 : ((⟨ps⟩ : Array (Nat × Operand)).map fun (x : Nat × Operand) => (x.1, a.eval x.2)).toList = ps.map fun p => (p.1, a.eval p.2) := by simp
 rw [e3]
 by_cases h0 : ps.length * sz = 0
 ·rw [if_pos h0]
  simp only [pure_bind]
  rw [hfill #[]]; rfl
 ·rw [if_neg h0]
  simp only [Sem.run_bind, hz2, Result.andThen_ok]
  rw [show (Sem.run P (pure z.cells : Sem (Array Value)) W) = .ok z.cells W from rfl, Result.andThen_ok, hfill z.cells]; rfl

end
end Kin
end Go

namespace Go
open Go.RowKit
namespace Kin
section
variable {P : Program} {N : Nat} {c : Cx} {Q : Exit -> Act -> World -> Prop} {env : List (Nat × Value)} {mem : List (Nat × Obj)} {L l : List Oper} [Wide c.F]
 {tt : List (TypeId × TI)} {d : Nat} {ty : TypeId} {pos : String} {af : Array Edge} {g : Option (Nat × Bool)} {dd : Option Tmp}

theorem zeros_eq (z : Array Value) (n : Nat) (hz : z.size ≠ 0) : ((Array.range (n * z.size)).map (fun i => z[i % z.size]!)) = ⟨flat n fun _ => z.toList⟩ := by
 apply Array.ext'
 simp only [Array.toList_map, Array.toList_range]
 unfold flat
 induction n with
 | zero => simp
 | succ n ih =>
  rw [Nat.add_mul, Nat.one_mul, List.range_add, List.map_append, ih, List.range_succ, List.flatMap_append]
  congr 1
  simp only [List.map_map, List.flatMap_cons, List.flatMap_nil, List.append_nil]
  apply List.ext_getElem?
  intro j
  by_cases hj : j < z.size
  ·have h1 : (n * z.size + j) % z.size = j := by rw [Nat.add_comm, Nat.add_mul_mod_self_right, Nat.mod_eq_of_lt hj]
   simp [hj, h1]
  ·simp [hj]

theorem flat_one {n : Nat} {z : Value} : (flat n fun _ => [z]) = vec n fun _ => z := by
 unfold flat vec
 induction n with
 | zero => rfl
 | succ n ih => rw [List.range_succ, List.flatMap_append, ih, List.map_append]; rfl

theorem r_make [T : TT P tt] {t e n sz bt sz' bt' : Nat} {ke : TK} {z z' : Value} {x y : Operand} {m : Int} {cs : List Value} {kd : IntKind} (hw : wantB L env g = some true) (hd : Nat.blt d N = true)
  (ht : look tt t = some ⟨.slice e, sz', bt', z'⟩) (hte : look tt e = some ⟨ke, sz, bt, z⟩) (hx : evOp env x = some (.int kd m)) (hy : evOp env y = some (.int kd m)) (hm : m = (n : Int)) (hn : n * bt <= 140737488355328) (hn2 : n <= 281474976710656)
  (hs0 : Nat.beq sz 0 = false) (hzl : Nat.beq (cellsL z).length sz = true) (hcs : (flat n fun _ => cellsL z) = cs)
  (k : ∀ b, RunL P N c L l Q ((d, .slice (some ⟨b, 0, none⟩) n n) :: env) ((b, .cells ⟨cs⟩ e (0, 0)) :: mem)) :
  RunL P N c L (⟨some d, .makeSlice t x y, ty, pos, af, g⟩ :: l) Q env mem := by
 subst hm
 subst hcs
 have hu : P.underlying t = some (.slice e) := (TT.look (P := P) ht).1
 obtain ⟨_, inf, hi, hs, hb, hz⟩ := TT.look (P := P) hte
 simp only at hs hz hb
 have hs0 := Nat.ne_of_beq_eq_false hs0
 have hzl := Nat.eq_of_beq_eq_true hzl
 refine l_eff (ι := Nat) (v := fun b => .slice (some ⟨b, 0, none⟩) n n) (mem' := fun b => (b, .cells ⟨flat n fun _ => cellsL z⟩ e (0, 0)) :: mem) hw hd ⟨rfl, fun a W ha hm => ?_⟩ k
 refine ⟨W.heap.size, _, ?_, hm.alloc _⟩
 have hzsz : z.cells.size = sz := by rw [cellsL_eq]; exact hzl
 have hzero : madeCells z.cells ((n : Int).toNat * inf.size) = ⟨flat n fun _ => cellsL z⟩ := by
  have := zeros_eq z.cells n (by rw [hzsz]; exact hs0)
  rw [hzsz, cellsL_eq] at this
  rw [Int.toNat_natCast, hs, madeCells, cellsL_eq]
  simpa [hzl] using this
 have hbb : (inf.bytes : Int) * (n : Int) <= 281474976710656 := by
  have h : ((inf.bytes * n : Nat) : Int) <= 281474976710656 := by rw [hb, Nat.mul_comm]; omega
  rwa [Int.natCast_mul] at h
 have hr := run_make (P := P) W t e inf z hu hi hz kd kd n n (by omega) (Int.le_refl _) hbb (by omega)
 rw [hzero, Int.toNat_natCast] at hr
 simp only [execOp, ha.eval hx, ha.eval hy, Sem.run_bind, hr, Result.andThen_ok]; rfl

/-- A row that grows: `n` elements in `xs`, and behind them the rest of the array. -/
structure Grow (sz n : Nat) (xs : List Value) (cap : Nat) (rest : List Value) : Prop where
 len : xs.length = n * sz
 all : (xs ++ rest).length = cap * sz
 le : n <= cap
 max : cap <= maxLen

inductive Rem : List (Nat × Obj) -> Nat -> Obj -> List (Nat × Obj) -> Prop
 | head {b : Nat} {o : Obj} {m : List (Nat × Obj)} : Rem ((b, o) :: m) b o m
 | tail {b : Nat} {o : Obj} {x : Nat × Obj} {m m' : List (Nat × Obj)} (h : Rem m b o m') : Rem (x :: m) b o (x :: m')

theorem Rem.sub {m m' : List (Nat × Obj)} {b : Nat} {o : Obj} (h : Rem m b o m') : List.Sublist m' m := by
 induction h with
 | head => exact List.sublist_cons_self _ _
 | tail _ ih => exact ih.cons_cons _
theorem Rem.isIn {m m' : List (Nat × Obj)} {b : Nat} {o : Obj} (h : Rem m b o m') : (b, o) ∈ m := by
 induction h with
 | head => exact List.mem_cons_self
 | tail _ ih => exact List.mem_cons_of_mem _ ih
theorem Rem.not {m m' : List (Nat × Obj)} {b : Nat} {o : Obj} (h : Rem m b o m') (hn : (m.map (·.1)).Nodup) : b ∉ m'.map (·.1) := by
 induction h with
 | head => simp only [List.map_cons, List.nodup_cons] at hn; exact hn.1
 | tail hr ih =>
  simp only [List.map_cons, List.nodup_cons] at hn
  simp only [List.map_cons, List.mem_cons, not_or]
  exact ⟨fun e => hn.1 (e ▸ List.mem_map.2 ⟨_, hr.isIn, rfl⟩), ih hn.2⟩

/-- The cells that are appended. -/
structure News (c : Cx) (mem : List (Nat × Obj)) (b o : Nat) (ys : List Value) : Prop where
 ok : ∀ W, SatW c.w0 c.D c.J mem W -> ∀ j v, ys[j]? = some v -> W.cell? ⟨b, o + j, none⟩ = some v
theorem news_own {b : Nat} {ys : List Value} {T' : TypeId} {fr : Nat × Nat} (hm : (b, Obj.cells ⟨ys⟩ T' fr) ∈ mem) : News c mem b 0 ys :=
 ⟨fun W hW j v hj => by rw [hW.cellAt hm, Nat.zero_add]; exact hj⟩
theorem news_ext {b o : Nat} {ys : List Value} (he : Ext c.w0 c.D b o ys) : News c mem b o ys :=
 ⟨fun W hW j v hj => hW.same.cell (he.cell j v hj) he.dom⟩

theorem p_append {t : TypeId} {x y : Operand} {a : Act} {W W' : World} {s u v : Value} (hx : a.eval x = s) (hy : a.eval y = u) (h : (Builtin.append_ #[t, t] ty #[s, u]).run P W = .ok v W') :
  (execOp a.eval ⟨dd, .call ⟨.builtin .append, ⟨[x, y]⟩, ⟨[t, t]⟩⟩, ty, pos, af, g⟩).run P W = .ok (.value v) W' := by
 simp only [execOp, resolve, List.map_toArray, List.map_cons, List.map_nil, hx, hy, Sem.run_bind]
 simp only [Sem.run, pure, Result.andThen_ok, invoke, builtin, Sem.run_bind, bind, Sem.run_bind']
 rw [show (Builtin.append_ ⟨[t, t]⟩ ty ⟨[s, u]⟩).run P W = .ok v W' from h]; rfl

theorem zeroCells_len (z : Array Value) (n : Nat) : (Builtin.zeroCells z n).toList.length = n * z.size := by simp [Builtin.zeroCells]

theorem SatW.newest {w0 : World} {D : Nat -> Prop} {J : (Nat -> Prop) -> World -> Prop} {W : World} (h : SatW w0 D J mem W) (o : Obj) : SatW w0 D J ((W.heap.size, o) :: mem) (W.drew.alloc o) := by
 have := (show SatW w0 D J mem W.drew from h.drew).alloc o
 exact this

theorem r_append_nil [T : TT P tt] {t e m cx bx ox sz bt sz' bt' : Nat} {ke : TK} {z z' : Value} {x y : Operand} {ys : List Value} (hw : wantB L env g = some true) (hd : Nat.blt d N = true)
  (hx : evOp env x = some (.slice none 0 0)) (hy : evOp env y = some (.slice (some ⟨bx, ox, none⟩) m cx)) (ht : look tt t = some ⟨.slice e, sz', bt', z'⟩) (hte : look tt e = some ⟨ke, sz, bt, z⟩) (hnews : News c mem bx ox ys)
  (hl : ys.length = m * sz) (hzl : Nat.beq (cellsL z).length sz = true) (h0 : 0 < m) (hb : m * bt <= 140737488355328) (hm : m <= maxLen)
  (k : ∀ b cap rest, Grow sz m ys cap rest -> RunL P N c L l Q ((d, .slice (some ⟨b, 0, none⟩) m cap) :: env) ((b, .cells ⟨ys ++ rest⟩ e (0, 0)) :: mem)) :
  RunL P N c L (⟨some d, .call ⟨.builtin .append, ⟨[x, y]⟩, ⟨[t, t]⟩⟩, ty, pos, af, g⟩ :: l) Q env mem := by
 have hu : P.underlying t = some (.slice e) := (TT.look (P := P) ht).1
 obtain ⟨_, inf, hi, hs, hbt, hz⟩ := TT.look (P := P) hte
 simp only at hs hz hbt
 have hzl := Nat.eq_of_beq_eq_true hzl
 refine l_eff (ι := { p : Nat × Nat × List Value // Grow sz m ys p.2.1 p.2.2 }) (v := fun p => .slice (some ⟨p.1.1, 0, none⟩) m p.1.2.1) (mem' := fun p => (p.1.1, .cells ⟨ys ++ p.1.2.2⟩ e (0, 0)) :: mem) hw hd ⟨rfl, fun a W ha hmm => ?_⟩ (fun p => k _ _ _ p.2)
 have hr := run_append_nil (P := P) W t ty e inf z hu hi hz ⟨bx, ox, none⟩ m cx ys (by rw [hs]; exact hl) (fun j v hj => by rw [addr_add]; exact hnews.ok W hmm j v hj) h0 (by simp only [maxLen] at hm; omega) (by rw [hbt]; omega)
 have hge := grownCap_ge W m 0 e
 refine ⟨⟨(W.heap.size, grownCap W m 0 e, (Builtin.zeroCells z.cells (grownCap W m 0 e - m)).toList), ⟨hl, ?_, hge, grownCap_le_maxLen W m 0 e hm⟩⟩, _, p_append (ha.eval hx) (ha.eval hy) hr, ?_⟩
 ·rw [List.length_append, hl, zeroCells_len, cellsL_eq]
  show m * sz + (grownCap W m 0 e - m) * (cellsL z).length = _
  rw [hzl, <- Nat.add_mul]
  simp only
  congr 1; omega
 ·have := hmm.newest (.cells (ys.toArray ++ Builtin.zeroCells z.cells (grownCap W m 0 e - m)) e)
  rw [show (ys.toArray ++ Builtin.zeroCells z.cells (grownCap W m 0 e - m)) = ⟨ys ++ (Builtin.zeroCells z.cells (grownCap W m 0 e - m)).toList⟩ by apply Array.ext'; simp] at this ⊢
  exact this

theorem r_append [T : TT P tt] {t e n cap b m cx bx ox sz bt sz' bt' : Nat} {ke : TK} {z z' : Value} {x y : Operand} {xs rest ys : List Value} {mem' : List (Nat × Obj)} (hw : wantB L env g = some true) (hd : Nat.blt d N = true)
  (hx : evOp env x = some (.slice (some ⟨b, 0, none⟩) n cap)) (hy : evOp env y = some (.slice (some ⟨bx, ox, none⟩) m cx)) (ht : look tt t = some ⟨.slice e, sz', bt', z'⟩) (hte : look tt e = some ⟨ke, sz, bt, z⟩) (hnews : News c mem bx ox ys)
  (hr : Rem mem b (.cells ⟨xs ++ rest⟩ e (0, 0)) mem') (hg : Grow sz n xs cap rest)
  (hl : ys.length = m * sz) (hone : allOne ys = true) (hzl : Nat.beq (cellsL z).length sz = true) (hb : (n + m) * bt <= 140737488355328) (hm : n + m <= maxLen)
  (k : ∀ b cap rest, Grow sz (n + m) (xs ++ ys) cap rest -> RunL P N c L l Q ((d, .slice (some ⟨b, 0, none⟩) (n + m) cap) :: env) ((b, .cells ⟨xs ++ ys ++ rest⟩ e (0, 0)) :: mem')) :
  RunL P N c L (⟨some d, .call ⟨.builtin .append, ⟨[x, y]⟩, ⟨[t, t]⟩⟩, ty, pos, af, g⟩ :: l) Q env mem := by
 have hu : P.underlying t = some (.slice e) := (TT.look (P := P) ht).1
 obtain ⟨_, inf, hi, hs, hbt, hz⟩ := TT.look (P := P) hte
 simp only at hs hz hbt
 have hzl := Nat.eq_of_beq_eq_true hzl
 refine l_eff (ι := { p : Nat × Nat × List Value // Grow sz (n + m) (xs ++ ys) p.2.1 p.2.2 }) (v := fun p => .slice (some ⟨p.1.1, 0, none⟩) (n + m) p.1.2.1) (mem' := fun p => (p.1.1, .cells ⟨xs ++ ys ++ p.1.2.2⟩ e (0, 0)) :: mem') hw hd ⟨rfl, fun a W ha hmm => ?_⟩ (fun p => k _ _ _ p.2)
 have hbW := (hmm.own _ hr.isIn).2
 simp only at hbW
 have hlen2 : (xs ++ ys).length = (n + m) * sz := by rw [List.length_append, hg.len, hl, Nat.add_mul]
 by_cases hroom : n + m <= cap
 ·have hfit : n * inf.size + ys.length <= (xs ++ rest).length := by rw [hg.all, hs, hl, <- Nat.add_mul]; exact Nat.mul_le_mul_right _ hroom
  have hap := run_append_room (P := P) W t ty e inf hu hi b n cap ⟨xs ++ rest⟩ hbW ⟨bx, ox, none⟩ m cx ys (by rw [hs]; exact hl) (fun j v hj => by rw [addr_add]; exact hnews.ok W hmm j v hj) (allOne_mem hone) hroom hfit
  have e1 : (xs ++ rest).take (n * inf.size) = xs := by rw [hs, <- hg.len, List.take_left]
  have e2 : (xs ++ rest).drop (n * inf.size + ys.length) = rest.drop ys.length := by rw [hs, <- hg.len, <- List.drop_drop, List.drop_left]
  simp only [e1, e2] at hap
  have hl3 : (xs ++ ys ++ rest.drop ys.length).length = cap * sz := by
   have := hg.all
   simp only [List.length_append, List.length_drop] at this ⊢ hfit
   rw [hs, <- hg.len] at hfit
   omega
  refine ⟨⟨(b, cap, rest.drop ys.length), ⟨hlen2, hl3, hroom, hg.max⟩⟩, _, p_append (ha.eval hx) (ha.eval hy) hap, ?_⟩
  have hsub := hmm.mono hr.sub
  have hnot := hr.not hmm.nodup
  refine ⟨hmm.same.trans ((setRow_same _ _ _).mono fun k hk e => (hmm.own _ hr.isIn).1 (e ▸ hk)), hmm.dom, ?_, ?_, hmm.closed, ?_⟩
  ·simp only [List.map_cons, List.nodup_cons]; exact ⟨hnot, hsub.nodup⟩
  ·intro p hp
   rcases List.mem_cons.1 hp with rfl | hp
   ·exact ⟨(hmm.own _ hr.isIn).1, setRow_heap W b ⟨xs ++ rest⟩ _ e _ hbW⟩
   ·exact ⟨(hsub.own p hp).1, ((setRow_same W b _).block _ (hsub.lt hp) (fun e => hnot (List.mem_map.2 ⟨p, hp, e⟩))).trans (hsub.own p hp).2⟩
  ·refine hmm.closed _ _ _ _ hmm.word ((setRow_same W b _).mono fun k hk e => hk (List.mem_map.2 ⟨_, hr.isIn, e.symm⟩)) fun k hk => .inl ?_
   simp only [keys, List.map_cons, List.mem_cons] at hk
   rcases hk with rfl | hk
   ·exact List.mem_map.2 ⟨_, hr.isIn, rfl⟩
   ·obtain ⟨p, hp, e⟩ := List.mem_map.1 hk
    exact List.mem_map.2 ⟨p, hr.sub.mem hp, e⟩
 ·have hap := run_append_grow (P := P) W t ty e inf z hu hi hz ⟨b, 0, none⟩ n cap xs (by rw [hs]; exact hg.len) (fun j v hj => by
    rw [addr_add, Nat.zero_add, hmm.cellAt hr.isIn, List.getElem?_append_left (List.getElem?_eq_some_iff.1 hj).1]; exact hj)
   ⟨bx, ox, none⟩ m cx ys (by rw [hs]; exact hl) (fun j v hj => by rw [addr_add]; exact hnews.ok W hmm j v hj) (by omega) (by simp only [maxLen] at hm; omega) (growslice_fits (by omega) (by rw [hbt]; exact hb))
  have hge := grownCap_ge W (n + m) cap e
  refine ⟨⟨(W.heap.size, grownCap W (n + m) cap e, (Builtin.zeroCells z.cells (grownCap W (n + m) cap e - (n + m))).toList), ⟨hlen2, ?_, hge, grownCap_le_maxLen W (n + m) cap e hm⟩⟩, _, p_append (ha.eval hx) (ha.eval hy) hap, ?_⟩
  ·rw [List.length_append, hlen2, zeroCells_len, cellsL_eq]
   show (n + m) * sz + (grownCap W (n + m) cap e - (n + m)) * (cellsL z).length = _
   rw [hzl, <- Nat.add_mul]
   simp only
   congr 1; omega
  ·have := (hmm.mono hr.sub).newest (.cells (xs.toArray ++ ys.toArray ++ Builtin.zeroCells z.cells (grownCap W (n + m) cap e - (n + m))) e)
   rw [show (xs.toArray ++ ys.toArray ++ Builtin.zeroCells z.cells (grownCap W (n + m) cap e - (n + m))) = ⟨xs ++ ys ++ (Builtin.zeroCells z.cells (grownCap W (n + m) cap e - (n + m))).toList⟩ by apply Array.ext'; simp] at this ⊢
   exact this

end
end Kin
end Go

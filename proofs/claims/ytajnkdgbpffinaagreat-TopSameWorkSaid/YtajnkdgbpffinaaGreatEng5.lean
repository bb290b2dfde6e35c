/- The engine's rules: structs and slices by literals, make. Generic: no program is named here. -/
import Derived.Test.YtajnkdgbpffinaaGreatEng4
set_option linter.unusedSectionVars false
set_option linter.unusedVariables false
set_option linter.unusedSimpArgs false
namespace Go
open Go.RowKit
namespace Kin

theorem fold_set (off : Nat) : ∀ (vs : List Value) (k : Nat) (cells : Array Value), off + k + vs.length <= cells.size ->
  (vs.zipIdx k).foldl (fun cs (p : Value × Nat) => cs.setIfInBounds (off + p.2) p.1) cells = ⟨cells.toList.take (off + k) ++ vs ++ cells.toList.drop (off + k + vs.length)⟩
 | [], k, cells, _ => by simp
 | v :: vs, k, cells, h => by
  simp only [List.length_cons] at h
  have ih := fold_set off vs (k + 1) (cells.setIfInBounds (off + k) v) (by simp; omega)
  simp only [List.zipIdx_cons, List.foldl_cons]
  rw [ih]
  congr 1
  rw [Array.toList_setIfInBounds]
  have h1 := list_seg_step cells.toList (off + k) v vs (by simp; omega)
  rw [show off + (k + 1) = off + k + 1 by omega, show off + k + (v :: vs).length = off + k + (vs.length + 1) by simp]
  exact h1

theorem fill_one (off : Nat) (v : Value) (cs : List Value) (h1 : off + (cellsL v).length <= cs.length) :
  (v.cells.zipIdx.foldl (fun cs (x : Value × Nat) => cs.setIfInBounds (off + x.2) x.1) (⟨cs⟩ : Array Value)) = ⟨cs.take off ++ cellsL v ++ cs.drop (off + (cellsL v).length)⟩ := by
 rw [cellsL_eq, <- Array.foldl_toList, Array.toList_zipIdx]
 have := fold_set off (cellsL v) 0 ⟨cs⟩ (by simpa using h1)
 simpa using this

def placeF (f : Field) : Sem (Nat × Nat) := do pure (f.offset, <- sizeOf f.type)

theorem run_places {P : Program} {W : World} : ∀ (fs : List Field), (∀ f ∈ fs, ∃ i, P.info? f.type = some i) ->
  (fs.mapM placeF).run P W = .ok (fs.map fun f => (f.offset, P.cellsOf f.type)) W
 | [], _ => rfl
 | f :: fs, h => by
  obtain ⟨i, hi⟩ := h f List.mem_cons_self
  have ih := run_places (P := P) (W := W) fs fun g hg => h g (List.mem_cons_of_mem _ hg)
  have h1 : (placeF f).run P W = .ok (f.offset, P.cellsOf f.type) W := by
   simp only [placeF, Sem.run_bind, run_size hi, Result.andThen_ok, Program.cellsOf, hi, Option.map_some, Option.getD_some]; rfl
  rw [List.mapM_cons]
  simp only [Sem.run_bind, h1, ih, Result.andThen_ok, List.map_cons]; rfl

/-- A struct's literal. -/
def buildK (tt : List (TypeId × TI)) (env : List (Nat × Value)) (fs : List (TypeId × Nat)) : List (Nat × Operand) -> List Value -> Option Value
 | [], cells => some (.agg ⟨cells⟩)
 | (i, x) :: ps, cells => match nth fs i with
   | some (ft, off) => match look tt ft with
     | some ⟨_, sz, _, _⟩ => match evOp env x with
       | some v => bif Nat.beq (cellsL v).length sz then putK cells off (cellsL v) fun cells' => buildK tt env fs ps cells' else none
       | none => none
     | none => none
   | none => none

def allIn (tt : List (TypeId × TI)) : List (TypeId × Nat) -> Bool
 | [] => true
 | (t, _) :: fs => match look tt t with
   | some _ => allIn tt fs
   | none => false

section
variable {P : Program} {N : Nat} {c : Cx} {Q : Exit -> Act -> World -> Prop} {env : List (Nat × Value)} {mem : List (Nat × Obj)} {L l : List Oper} [Wide c.F]
 {tt : List (TypeId × TI)} {d : Nat} {ty : TypeId} {pos : String} {af : Array Edge} {g : Option (Nat × Bool)} {dd : Option Tmp}

theorem allIn_info [T : TT P tt] {fs : List (TypeId × Nat)} (h : allIn tt fs = true) : ∀ p ∈ fs, ∃ i, P.info? p.1 = some i := by
 induction fs with
 | nil => intro p hp; cases hp
 | cons q fs ih =>
  obtain ⟨t, o⟩ := q
  simp only [allIn] at h
  cases hl : look tt t with
  | none => rw [hl] at h; cases h
  | some ti =>
   rw [hl] at h
   intro p hp
   rcases List.mem_cons.1 hp with rfl | hp
   ·obtain ⟨_, i, hi, _⟩ := TT.look (P := P) hl; exact ⟨i, hi⟩
   ·exact ih h p hp

theorem fill_ok [T : TT P tt] {ds : List Deferred} {a : Act} (ha : SatA N ds env a) {fs : List Field} : ∀ (ps : List (Nat × Operand)) (cells : List Value) (v : Value),
  buildK tt env (fs.map fun f => (f.type, f.offset)) ps cells = some v ->
  ∃ cs, v = .agg cs /\ Instr.fill (fun i => (fs.map fun f => (f.offset, P.cellsOf f.type))[i]?) ⟨cells⟩ (ps.map fun p => (p.1, a.eval p.2)) = some cs
 | [], cells, v, h => by
  simp only [buildK, Option.some.injEq] at h
  exact ⟨_, h.symm, rfl⟩
 | (i, x) :: ps, cells, v, h => by
  simp only [buildK] at h
  split at h
  ·rename_i ft off h1
   split at h
   ·rename_i sz _ _ h2
    split at h
    ·rename_i u h3
     cases hb : Nat.beq (cellsL u).length sz with
     | false => rw [hb] at h; cases h
     | true =>
      rw [hb] at h
      simp only [cond_true] at h
      have hlen := Nat.eq_of_beq_eq_true hb
      obtain ⟨h4, h5⟩ := putK_eq h
      obtain ⟨cs, h6, h7⟩ := fill_ok ha ps _ v h5
      refine ⟨cs, h6, ?_⟩
      rw [nth_eq, List.getElem?_map] at h1
      cases hf : fs[i]? with
      | none => rw [hf] at h1; cases h1
      | some f =>
       rw [hf] at h1
       simp only [Option.map_some, Option.some.injEq, Prod.mk.injEq] at h1
       obtain ⟨rfl, rfl⟩ := h1
       obtain ⟨inf, hi, hs⟩ := (TT.look (P := P) h2).size
       have hsz : P.cellsOf f.type = sz := by simp [Program.cellsOf, hi, hs]
       have hpl : (fs.map fun f => (f.offset, P.cellsOf f.type))[i]? = some (f.offset, sz) := by rw [List.getElem?_map, hf]; simp [hsz]
       simp only [List.map_cons, Instr.fill, hpl, ha.eval h3]
       have hcz : u.cells.size = sz := by rw [cellsL_eq]; exact hlen
       rw [if_neg (by simp only [hcz, ne_eq, not_true_eq_false, decide_false, Bool.false_or, decide_eq_true_eq, List.size_toArray]; omega)]
       rw [fill_one f.offset u cells h4]
       exact h7
    ·cases h
   ·cases h
  ·cases h

theorem v_build [T : TT P tt] {t sz bt : Nat} {fs : List (TypeId × Nat)} {z v : Value} {ps : List (Nat × Operand)} (ht : look tt t = some ⟨.struct fs, sz, bt, z⟩) (hi : allIn tt fs = true) (hv : buildK tt env fs ps (cellsL z) = some v) :
  OpVal P N c env mem ⟨dd, .build t ⟨ps⟩, ty, pos, af, g⟩ v := ⟨rfl, fun a W ha _ => by
 obtain ⟨⟨fields, hu, hf⟩, inf, hinf, _, _, hz⟩ := TT.look (P := P) ht
 subst hf
 have hz2 : (zeroValue t).run P W = .ok z W := by
  simp only [zeroValue, Sem.run_bind, run_info hinf, Result.andThen_ok, hz]; rfl
 obtain ⟨cs, rfl, h2⟩ := fill_ok (P := P) ha ps _ v hv
 have hpl := run_places (P := P) (W := W) fields.toList fun f hf => allIn_info hi (f.type, f.offset) (List.mem_map.2 ⟨f, hf, rfl⟩)
 have hpl2 : (fields.mapM placeF).run P W = .ok (fields.map fun f => (f.offset, P.cellsOf f.type)) W := by
  rw [Array.mapM_eq_mapM_toList, Sem.run_map, hpl]
  simp only [Result.andThen_ok]
  congr 1
  apply Array.ext'; simp
 have e1 : (fields.toList.map fun f => (f.offset, P.cellsOf f.type)) = (fields.map fun f => (f.offset, P.cellsOf f.type)).toList := by simp
 rw [e1] at h2
 simp only [execOp, Instr.build, Sem.run_bind, hz2, run_und hu, Result.andThen_ok]
 show ((((fields.mapM placeF).run P W).andThen _).andThen _) = _
 rw [hpl2]
 simp only [Result.andThen_ok]
 have e2 : (fun (i : Nat) => (fields.map fun f => (f.offset, P.cellsOf f.type)).toList[i]?) = fun (i : Nat) => (fields.map fun f => (f.offset, P.cellsOf f.type))[i]? := by funext i; simp
 rw [e2] at h2
 have e3 : ((⟨ps⟩ : Array (Nat × Operand)).map fun (x : Nat × Operand) => (x.1, a.eval x.2)).toList = ps.map fun p => (p.1, a.eval p.2) := by simp
 rw [e3, cellsL_eq, h2]; rfl⟩


/-! ## Slices by literals, and make -/
/-- the cells of a slice's literal all of whose elements are given, in order -/
def rowsK {β : Type} (env : List (Nat × Value)) (sz : Nat) : List (Nat × Operand) -> Nat -> (List Value -> Option β) -> Option β
 | [], _, k => k []
 | (i, x) :: ps, j, k => bif Nat.beq i j then match evOp env x with
   | some v => bif Nat.beq (cellsL v).length sz then rowsK env sz ps (j + 1) fun r => k (cellsL v ++ r) else none
   | none => none
   else none

theorem rowsK_ok {β : Type} {ds : List Deferred} {a : Act} (ha : SatA N ds env a) {sz : Nat} : ∀ (ps : List (Nat × Operand)) (j : Nat) (k : List Value -> Option β) (r : β), rowsK env sz ps j k = some r ->
  ∃ cs, k cs = some r /\ cs.length = ps.length * sz /\ ∀ pre post : List Value, pre.length = j * sz -> post.length = ps.length * sz ->
   Instr.fill (fun i => some (i * sz, sz)) ⟨pre ++ post⟩ (ps.map fun p => (p.1, a.eval p.2)) = some ⟨pre ++ cs⟩
 | [], j, k, r, h => ⟨[], h, by simp, fun pre post _ h2 => by
   have : post = [] := List.eq_nil_of_length_eq_zero (by simpa using h2)
   subst this; rfl⟩
 | (i, x) :: ps, j, k, r, h => by
  simp only [rowsK] at h
  cases hb : Nat.beq i j with
  | false => rw [hb] at h; cases h
  | true =>
   have hij := Nat.eq_of_beq_eq_true hb
   subst hij
   rw [hb] at h
   simp only [cond_true] at h
   split at h
   ·rename_i v hx
    cases hb2 : Nat.beq (cellsL v).length sz with
    | false => rw [hb2] at h; cases h
    | true =>
     have hlen := Nat.eq_of_beq_eq_true hb2
     rw [hb2] at h
     simp only [cond_true] at h
     obtain ⟨cs, h1, h2, h3⟩ := rowsK_ok ha ps (i + 1) _ r h
     refine ⟨cellsL v ++ cs, h1, by rw [List.length_append, h2, hlen, List.length_cons, Nat.add_mul, Nat.one_mul, Nat.add_comm], fun pre post hp hq => ?_⟩
     have hcz : v.cells.size = sz := by rw [cellsL_eq]; exact hlen
     have hq2 : sz <= post.length := by rw [hq, List.length_cons, Nat.add_mul, Nat.one_mul]; omega
     simp only [List.map_cons, Instr.fill, ha.eval hx]
     rw [if_neg (by simp only [hcz, ne_eq, not_true_eq_false, decide_false, Bool.false_or, decide_eq_true_eq, List.size_toArray, List.length_append]; omega)]
     rw [fill_one (i * sz) v (pre ++ post) (by simp only [List.length_append]; omega)]
     have e1 : (pre ++ post).take (i * sz) = pre := by rw [<- hp, List.take_left]
     have e2 : (pre ++ post).drop (i * sz + (cellsL v).length) = post.drop sz := by
      rw [hlen, <- hp, <- List.drop_drop, List.drop_left]
     rw [e1, e2]
     have := h3 (pre ++ cellsL v) (post.drop sz) (by rw [List.length_append, hp, hlen, Nat.add_mul, Nat.one_mul]) (by rw [List.length_drop, hq, List.length_cons, Nat.add_mul, Nat.one_mul]; omega)
     rw [this, List.append_assoc]
   ·cases h

theorem r_buildSlice [T : TT P tt] {t e n sz bt sz' bt' : Nat} {ke : TK} {z z' : Value} {ps : List (Nat × Operand)} {cs : List Value} (hw : wantB L env g = some true) (hd : Nat.blt d N = true)
  (ht : look tt t = some ⟨.slice e, sz', bt', z'⟩) (hte : look tt e = some ⟨ke, sz, bt, z⟩) (hn : Nat.beq ps.length n = true) (hb : Nat.ble (n * sz) 16777216 = true) (hv : rowsK env sz ps 0 some = some cs)
  (k : ∀ b, RunL P N c L l Q ((d, .slice (some ⟨b, 0, none⟩) n n) :: env) ((b, .cells ⟨cs⟩ e (0, 0)) :: mem)) :
  RunL P N c L (⟨some d, .buildSlice t n ⟨ps⟩, ty, pos, af, g⟩ :: l) Q env mem := by
 have hn := Nat.eq_of_beq_eq_true hn
 subst hn
 have hu : P.underlying t = some (.slice e) := (TT.look (P := P) ht).1
 obtain ⟨_, inf, hi, hs, _, hz⟩ := TT.look (P := P) hte
 simp only at hs hz
 refine l_eff (ι := Nat) (v := fun b => .slice (some ⟨b, 0, none⟩) ps.length ps.length) (mem' := fun b => (b, .cells ⟨cs⟩ e (0, 0)) :: mem) hw hd ⟨rfl, fun a W ha hm => ?_⟩ k
 refine ⟨W.heap.size, _, ?_, hm.alloc _⟩
 obtain ⟨cs', h1, h2, h3⟩ := rowsK_ok ha ps 0 _ _ hv
 simp only [Option.some.injEq] at h1
 subst h1
 have hz2 : (zeroValue e).run P W = .ok z W := by
  simp only [zeroValue, Sem.run_bind, run_info hi, Result.andThen_ok, hz]; rfl
 have hb2 : ¬ ps.length * sz > 2 ^ 24 := by have := Nat.le_of_ble_eq_true hb; omega
 have hfill : ∀ zz : Array Value, Instr.fill (fun i => some (i * sz, sz)) ((Array.range (ps.length * sz)).map (zz[· % zz.size]!)) (ps.map fun p => (p.1, a.eval p.2)) = some ⟨cs'⟩ := fun zz => by
  have := h3 [] ((Array.range (ps.length * sz)).map (zz[· % zz.size]!)).toList (by simp) (by simp)
  rwa [List.nil_append, show (⟨((Array.range (ps.length * sz)).map (zz[· % zz.size]!)).toList⟩ : Array Value) = (Array.range (ps.length * sz)).map (zz[· % zz.size]!) from rfl, List.nil_append] at this
 simp only [execOp, Instr.buildSlice, Sem.run_bind, run_und hu, run_size hi, Result.andThen_ok, hs]
 rw [if_neg hb2]
 have e3 : ((⟨ps⟩ : Array (Nat × Operand)).map fun (x : Nat × Operand) => (x.1, a.eval x.2)).toList = ps.map fun p => (p.1, a.eval p.2) := by simp
 rw [e3]
 by_cases h0 : ps.length * sz = 0
 ·rw [if_pos h0]
  simp only [pure_bind]
  rw [hfill #[]]; rfl
 ·rw [if_neg h0]
  simp only [Sem.run_bind, hz2, Result.andThen_ok]
  rw [show (Sem.run P (pure z.cells : Sem (Array Value)) W) = .ok z.cells W from rfl, Result.andThen_ok, hfill z.cells]; rfl

end
end Kin
end Go

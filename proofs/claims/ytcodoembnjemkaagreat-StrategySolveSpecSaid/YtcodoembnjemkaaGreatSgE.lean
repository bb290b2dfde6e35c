/- The engine: maps keyed by records of a number and an array of numbers. Generic: no program is named here. -/
import Derived.Test.YtcodoembnjemkaaGreatEng33
import Derived.Test.YtcodoembnjemkaaGreatSgC
set_option linter.unusedSectionVars false
set_option linter.unusedVariables false
set_option linter.unusedSimpArgs false
namespace Go
open Go.RowKit
namespace Kin
section
variable {P : Program} {N : Nat} {c : Cx} {Q : Exit -> Act -> World -> Prop} {env : List (Nat × Value)} {mem : List (Nat × Obj)} {L l : List Oper} {tt : List (TypeId × TI)}
 {ty : TypeId} {pos : String} {af : Array Edge} {g : Option (Nat × Bool)} {dd : Option Tmp}
/-- the cells of a key -/
def pkC (k : Int) (f : Nat -> Int) : List Value := .int .i64 k :: ivec 6 f
/-- the type of such keys -/
structure PkT (P : Program) (tt : List (TypeId × TI)) (t ta ti : Nat) : Prop where
 st : ∃ sz bt z, look tt t = some ⟨.struct [(ti, 0), (ta, 1)], sz, bt, z⟩
 ar : ∃ bt z, look tt ta = some ⟨.array 6 ti, 6, bt, z⟩
 nt : ∃ bt z, look tt ti = some ⟨.int .i64, 1, bt, z⟩
 eq : EqS P t
def sameTo (f h : Nat -> Int) (n : Nat) : Bool := (List.range n).all fun i => decide (f i = h i)
theorem sameTo_iff {f h : Nat -> Int} {n : Nat} : sameTo f h n = true ↔ ∀ i, i < n -> f i = h i := by
 unfold sameTo
 rw [List.all_eq_true]
 constructor
 ·intro k i hi; exact of_decide_eq_true (k i (List.mem_range.2 hi))
 ·intro k i hi; exact decide_eq_true (k i (List.mem_range.1 hi))
theorem part_ivec [T : TT P tt] {e bt n i : Nat} {z : Value} (he : look tt e = some ⟨.int .i64, 1, bt, z⟩) (f : Nat -> Int) (hi : i < n) (W : World) : (part e ⟨ivec n f⟩ (i * 1)).run P W = .ok (.int .i64 (f i)) W :=
 run_part (TT.look he).size (TT.look he).1 (by show nth _ _ = _; rw [nth_eq, Nat.mul_one]; exact ivec_get hi)
theorem run_eqArr [T : TT P tt] {t e sz bt bt' d : Nat} {z z' : Value} (ht : look tt t = some ⟨.array 6 e, sz, bt, z⟩) (he : look tt e = some ⟨.int .i64, 1, bt', z'⟩) (f h : Nat -> Int) (W : World) :
  (Op.equalIn (d + 2) t (.agg ⟨ivec 6 f⟩) (.agg ⟨ivec 6 h⟩)).run P W = .ok (sameTo f h 6) W := by
 have hu : P.underlying t = some (.array 6 e) := (TT.look (P := P) ht).1
 have hue : P.underlying e = some (.int .i64) := (TT.look (P := P) he).1
 obtain ⟨i, hi, hs⟩ := (TT.look (P := P) he).size
 have hsz : (sizeOf e).run P W = .ok 1 W := by rw [run_size hi, hs]
 have eqi : ∀ m n : Int, (Op.equalIn (d + 1) e (.int .i64 m) (.int .i64 n)).run P W = .ok (m == n) W := fun m n => run_equalIn_int W d e .i64 .i64 m n hue
 have pf : ∀ (k : Nat -> Int) (i : Nat), i < 6 -> (part e ⟨ivec 6 k⟩ (i * 1)).run P W = .ok (.int .i64 (k i)) W := fun k i hi => part_ivec he k hi W
 have e2 : sameTo f h 6 = (decide (f 0 = h 0) && (decide (f 1 = h 1) && (decide (f 2 = h 2) && (decide (f 3 = h 3) && (decide (f 4 = h 4) && (decide (f 5 = h 5) && true)))))) := rfl
 rw [e2, Op.equalIn]
 simp only [Sem.run_bind, run_und hu, Result.andThen_ok, hsz]
 simp only [Std.Legacy.Range.forIn_eq_forIn_range', Std.Legacy.Range.size, Nat.sub_zero, Nat.add_sub_cancel, Nat.div_one, List.range'_succ, List.range'_zero, List.forIn_cons, List.forIn_nil, Sem.run_bind, pf _ 0 (by omega), eqi, Result.andThen_ok]
 by_cases h0 : f 0 = h 0
 rotate_left
 ·simp [Sem.run_bind, Sem.run_pure, h0]
 rw [h0, decide_eq_true rfl, Bool.true_and, beq_self_eq_true]
 simp only [Bool.not_true, Bool.false_eq_true, if_false, Sem.run_bind, Sem.run_pure, Result.andThen_ok, Nat.zero_add, pf _ 1 (by omega), eqi]
 by_cases h1 : f 1 = h 1
 rotate_left
 ·simp [Sem.run_bind, Sem.run_pure, h1]
 rw [h1, decide_eq_true rfl, Bool.true_and, beq_self_eq_true]
 simp only [Bool.not_true, Bool.false_eq_true, if_false, Sem.run_bind, Sem.run_pure, Result.andThen_ok, Nat.reduceAdd, pf _ 2 (by omega), eqi]
 by_cases h2 : f 2 = h 2
 rotate_left
 ·simp [Sem.run_bind, Sem.run_pure, h2]
 rw [h2, decide_eq_true rfl, Bool.true_and, beq_self_eq_true]
 simp only [Bool.not_true, Bool.false_eq_true, if_false, Sem.run_bind, Sem.run_pure, Result.andThen_ok, Nat.reduceAdd, pf _ 3 (by omega), eqi]
 by_cases h3 : f 3 = h 3
 rotate_left
 ·simp [Sem.run_bind, Sem.run_pure, h3]
 rw [h3, decide_eq_true rfl, Bool.true_and, beq_self_eq_true]
 simp only [Bool.not_true, Bool.false_eq_true, if_false, Sem.run_bind, Sem.run_pure, Result.andThen_ok, Nat.reduceAdd, pf _ 4 (by omega), eqi]
 by_cases h4 : f 4 = h 4
 rotate_left
 ·simp [Sem.run_bind, Sem.run_pure, h4]
 rw [h4, decide_eq_true rfl, Bool.true_and, beq_self_eq_true]
 simp only [Bool.not_true, Bool.false_eq_true, if_false, Sem.run_bind, Sem.run_pure, Result.andThen_ok, Nat.reduceAdd, pf _ 5 (by omega), eqi]
 by_cases h5 : f 5 = h 5
 ·simp [Sem.run_bind, Sem.run_pure, h5]
 ·simp [Sem.run_bind, Sem.run_pure, h5]
theorem map_two {α β : Type} {f : α -> β} {l : List α} {a b : β} (h : l.map f = [a, b]) : ∃ x y, l = [x, y] /\ f x = a /\ f y = b := by
 cases l with
 | nil => cases h
 | cons x l =>
  cases l with
  | nil => cases h
  | cons y l =>
   cases l with
   | nil =>
    simp only [List.map_cons, List.map_nil, List.cons.injEq, and_true] at h
    exact ⟨x, y, rfl, h.1, h.2⟩
   | cons z l => cases h
theorem pk_part {k : Int} {f : Nat -> Int} : aggV true 6 (pkC k f) 1 = some (.agg ⟨ivec 6 f⟩) := rfl
theorem run_eqPk [T : TT P tt] {t ta ti : Nat} (K : PkT P tt t ta ti) (k k' : Int) (f f' : Nat -> Int) (W : World) : (Op.equal t (.agg ⟨pkC k f⟩) (.agg ⟨pkC k' f'⟩)).run P W = .ok (decide (k = k') && sameTo f f' 6) W := by
 obtain ⟨sz, bt, z, ht⟩ := K.st
 obtain ⟨bt2, z2, hta⟩ := K.ar
 obtain ⟨bt3, z3, hti⟩ := K.nt
 obtain ⟨fields, hf, hmap⟩ := (TT.look (P := P) ht).1
 have S := K.eq
 have hfo : P.fieldsOf t = fields := by simp [Program.fieldsOf, hf]
 show (Op.equalIn (9999 + 1) t _ _).run P W = _
 rw [run_equalIn_struct W 9999 t _ _ (by rw [hfo]; exact hf) S.st]
 have hnb := S.nb
 rw [hfo] at hnb ⊢
 generalize fields.toList = l at hmap hnb ⊢
 obtain ⟨F1, F2, rfl, e1, e2⟩ := map_two hmap
 ·simp only [Prod.mk.injEq] at e1 e2
  obtain ⟨a1, a2⟩ := e1
  obtain ⟨a3, a4⟩ := e2
  simp only [List.all_cons, List.all_nil, Bool.and_eq_true, bne_iff_ne, ne_eq, and_true] at hnb
  have p1 : ∀ (k : Int) (f : Nat -> Int), (part F1.type ⟨pkC k f⟩ F1.offset).run P W = .ok (.int .i64 k) W := fun k f => by rw [a1, a2]; exact run_part (TT.look hti).size (TT.look hti).1 rfl
  have p2 : ∀ (k : Int) (f : Nat -> Int), (part F2.type ⟨pkC k f⟩ F2.offset).run P W = .ok (.agg ⟨ivec 6 f⟩) W := fun k f => by rw [a3, a4]; exact run_part (TT.look hta).size (TT.look hta).1 pk_part
  have q1 : ∀ m n : Int, (Op.equalIn 9999 F1.type (.int .i64 m) (.int .i64 n)).run P W = .ok (m == n) W := fun m n => by rw [a1]; exact run_equalIn_int W 9998 ti .i64 .i64 m n (TT.look (P := P) hti).1
  have q2 : (Op.equalIn 9999 F2.type (.agg ⟨ivec 6 f⟩) (.agg ⟨ivec 6 f'⟩)).run P W = .ok (sameTo f f' 6) W := by rw [a3]; exact run_eqArr (d := 9997) hta hti f f' W
  simp only [Op.eqFields, if_pos hnb.1, if_pos hnb.2, Sem.run_bind, p1, p2, Result.andThen_ok, q1]
  by_cases h1 : k = k'
  ·subst h1
   simp only [beq_self_eq_true, Bool.not_true, Bool.false_eq_true, if_false, decide_true, Bool.true_and, Sem.run_bind, p2, Result.andThen_ok, q2]
   cases sameTo f f' 6 <;> rfl
  ·simp [h1, Sem.run_pure]
theorem run_checkPk [T : TT P tt] {t ta ti : Nat} (K : PkT P tt t ta ti) (k : Int) (f : Nat -> Int) (W : World) (em : Bool) : (Instr.checkKey em 10000 t (.agg ⟨pkC k f⟩)).run P W = .ok () W := by
 obtain ⟨sz, bt, z, ht⟩ := K.st
 obtain ⟨bt2, z2, hta⟩ := K.ar
 obtain ⟨bt3, z3, hti⟩ := K.nt
 obtain ⟨fields, hf, hmap⟩ := (TT.look (P := P) ht).1
 have hti' : P.underlying ti = some (.int .i64) := (TT.look (P := P) hti).1
 have hta' : P.underlying ta = some (.array 6 ti) := (TT.look (P := P) hta).1
 obtain ⟨ie, hie, hse⟩ := (TT.look (P := P) hti).size
 have hsz : (sizeOf ti).run P W = .ok 1 W := by rw [run_size hie, hse]
 have c1 : ∀ (n : Nat) (v : Value), (Instr.checkKey em (n + 1) ti v).run P W = .ok () W := fun n v => run_checkPlain hti' rfl
 have pf : ∀ (i : Nat), i < 6 -> (part ti ⟨ivec 6 f⟩ (i * 1)).run P W = .ok (.int .i64 (f i)) W := fun i hi => part_ivec hti f hi W
 have c2 : (Instr.checkKey em 9999 ta (.agg ⟨ivec 6 f⟩)).run P W = .ok () W := by
  rw [show (9999 : Nat) = 9998 + 1 from rfl, Instr.checkKey]
  simp only [Sem.run_bind, run_und hta', Result.andThen_ok]
  have c3 := fun v => c1 9997 v
  simp only [Std.Legacy.Range.forIn_eq_forIn_range', Std.Legacy.Range.size, Nat.sub_zero, Nat.add_sub_cancel, Nat.div_one, List.range'_succ, List.range'_zero, List.forIn_cons, List.forIn_nil, Sem.run_bind, hsz, pf _ (show (0 : Nat) < 6 by omega), pf _ (show (0 + 1 : Nat) < 6 by omega), pf _ (show (0 + 1 + 1 : Nat) < 6 by omega), pf _ (show (0 + 1 + 1 + 1 : Nat) < 6 by omega), pf _ (show (0 + 1 + 1 + 1 + 1 : Nat) < 6 by omega), pf _ (show (0 + 1 + 1 + 1 + 1 + 1 : Nat) < 6 by omega), c3, Result.andThen_ok, Sem.run_pure]
 rw [show (10000 : Nat) = 9999 + 1 from rfl, Instr.checkKey]
 simp only [Sem.run_bind, run_und hf, Result.andThen_ok]
 rw [<- Array.forIn_toList]
 generalize fields.toList = l at hmap ⊢
 obtain ⟨F1, F2, rfl, e1, e2⟩ := map_two hmap
 ·simp only [Prod.mk.injEq] at e1 e2
  obtain ⟨a1, a2⟩ := e1
  obtain ⟨a3, a4⟩ := e2
  have p1 : (part F1.type ⟨pkC k f⟩ F1.offset).run P W = .ok (.int .i64 k) W := by rw [a1, a2]; exact run_part (TT.look hti).size (TT.look hti).1 rfl
  have p2 : (part F2.type ⟨pkC k f⟩ F2.offset).run P W = .ok (.agg ⟨ivec 6 f⟩) W := by rw [a3, a4]; exact run_part (TT.look hta).size (TT.look hta).1 pk_part
  have c1' : (Instr.checkKey em 9999 F1.type (.int .i64 k)).run P W = .ok () W := by rw [a1]; exact c1 9998 _
  have c2' : (Instr.checkKey em 9999 F2.type (.agg ⟨ivec 6 f⟩)).run P W = .ok () W := by rw [a3]; exact c2
  by_cases n1 : F1.name = "_"
  ·by_cases n2 : F2.name = "_"
   ·simp [Sem.run_bind, Sem.run_pure, n1, n2]
   ·simp [Sem.run_bind, Sem.run_pure, n1, n2, p2, c2']
  ·by_cases n2 : F2.name = "_"
   ·simp [Sem.run_bind, Sem.run_pure, n1, n2, p1, c1']
   ·simp [Sem.run_bind, Sem.run_pure, n1, n2, p1, c1', p2, c2']
/-- what a key says of another one -/
def pkB (k : Int) (f : Nat -> Int) : Value -> Bool
 | .agg ⟨.int .i64 k' :: [.int .i64 a, .int .i64 b, .int .i64 c, .int .i64 d, .int .i64 e, .int .i64 g]⟩ => decide (k = k') && (decide (f 0 = a) && (decide (f 1 = b) && (decide (f 2 = c) && (decide (f 3 = d) && (decide (f 4 = e) && (decide (f 5 = g) && true))))))
 | _ => false
theorem pkB_eq {k k' : Int} {f f' : Nat -> Int} : pkB k f (.agg ⟨pkC k' f'⟩) = (decide (k = k') && sameTo f f' 6) := rfl
theorem ivec_congr {n : Nat} {f h : Nat -> Int} (e : ∀ i, i < n -> f i = h i) : ivec n f = ivec n h := by
 unfold ivec vec
 exact List.map_congr_left fun i hi => by rw [e i (List.mem_range.1 hi)]
theorem pkB_true {k k' : Int} {f f' : Nat -> Int} (h : pkB k f (.agg ⟨pkC k' f'⟩) = true) : pkC k f = pkC k' f' := by
 rw [pkB_eq, Bool.and_eq_true, decide_eq_true_eq, sameTo_iff] at h
 unfold pkC
 rw [h.1, ivec_congr h.2]
/-- keys of a kind -/
def PkE (e : MapEntry) : Prop := ∃ k f, e.key = .agg ⟨pkC k f⟩
theorem run_findPk [T : TT P tt] {t ta ti : Nat} (K : PkT P tt t ta ti) {ents : List MapEntry} (he : ∀ e ∈ ents, PkE e) (k : Int) (f : Nat -> Int) (W : World) : (Instr.findKey t (.agg ⟨pkC k f⟩) ents).run P W = .ok (findB (pkB k f) ents 0) W := by
 obtain ⟨sz, bt, z, ht⟩ := K.st
 obtain ⟨fields, hf, hmap⟩ := (TT.look (P := P) ht).1
 refine run_findKey hf rfl ents fun e hm => ?_
 obtain ⟨k', f', h⟩ := he e hm
 rw [h, pkB_eq]
 exact run_eqPk K k k' f f' W
theorem findB_some {f : Value -> Bool} : ∀ {l : List MapEntry} {n j : Nat} {v : Value}, findB f l n = some (j, v) -> ∃ en, n <= j /\ l[j - n]? = some en /\ f en.key = true /\ en.val = v
 | [], _, _, _, h => by cases h
 | en :: l, n, j, v, h => by
  unfold findB at h
  cases hh : f en.key with
  | false =>
   rw [hh] at h
   obtain ⟨en0, h1, h2, h3⟩ := findB_some (l := l) h
   exact ⟨en0, by omega, by rw [show j - n = j - (n + 1) + 1 by omega]; exact h2, h3⟩
  | true =>
   rw [hh] at h
   simp only [Option.some.injEq, Prod.mk.injEq] at h
   exact ⟨en, by omega, by rw [show j - n = 0 by omega]; rfl, hh, h.2⟩
theorem pk_stays (k : Int) (f : Nat -> Int) (W : World) : (Instr.keyThatStays (.agg ⟨pkC k f⟩) (.agg ⟨pkC k f⟩)).run P W = .ok (.agg ⟨pkC k f⟩) W := by
 unfold Instr.keyThatStays
 have : Instr.sameBits 10000 (.agg ⟨pkC k f⟩) (.agg ⟨pkC k f⟩) = true := by
  have e1 : ∀ m : Int, Instr.sameBits 9999 (.int .i64 m) (.int .i64 m) = true := fun m => by rw [Instr.sameBits]; simp
  have e3 : pkC k f = [.int .i64 k, .int .i64 (f 0), .int .i64 (f 1), .int .i64 (f 2), .int .i64 (f 3), .int .i64 (f 4), .int .i64 (f 5)] := rfl
  rw [show (10000 : Nat) = 9999 + 1 from rfl, Instr.sameBits, e3]
  simp only [List.zip_cons_cons, List.all_cons, e1]
  rfl
 rw [if_pos this]; rfl
/-! ## A map whose entries are of a kind, as a word -/
/-- what has been reckoned is noted -/
theorem d_noteP [T : TT P tt] {F : Fence} {n : Nat} {ds : List Deferred} {w0 : World} {D : Nat -> Prop} {b : Nat} {R : MapEntry -> Prop} {t kt ta ti et sz bt : Nat} {m kx vx : Operand} {k : Int} {f : Nat -> Int} {z v : Value}
  (hD : ¬ D b) (hm0 : evOp env m = some (.map (some b))) (hk : evOp env kx = some (.agg ⟨pkC k f⟩)) (hv : evOp env vx = some v)
  (ht : look tt t = some ⟨.map kt et, sz, bt, z⟩) (K : PkT P tt kt ta ti) (hR : ∀ e, R e -> PkE e) (hnew : ∀ e : MapEntry, e.key = .agg ⟨pkC k f⟩ -> e.val = v -> R e) :
  OpDo P N ⟨F, n, ds, w0, D, HasJ b R⟩ env mem ⟨dd, .mapUpdate t m kx vx, ty, pos, af, g⟩ mem := by
 refine ⟨rfl, fun a W ha hm => ?_⟩
 have hm' := hm
 obtain ⟨_, _, ents, clock, hb, hf⟩ := hm.word
 have hmu : P.underlying t = some (.map kt et) := (TT.look (P := P) ht).1
 have hlt := lt_of_heap hb
 have hr := run_findPk K (fun e he => hR e (hf e he)) k f W
 cases hfind : findB (pkB k f) ents 0 with
 | none =>
  rw [hfind] at hr
  refine ⟨W.putObj b (.map ⟨ents ++ [⟨.agg ⟨pkC k f⟩, v, clock⟩]⟩ (clock + 1)), ?_, satW_hasJ hm' hD (Same.putObj _ _ _ fun h => h rfl) (ents := ents ++ [⟨.agg ⟨pkC k f⟩, v, clock⟩]) (World.putObj_heap_same hlt) fun en hen => ?_⟩
  ·simp only [execOp, ha.eval hm0, ha.eval hk, ha.eval hv, Instr.mapUpdate, Sem.run_bind, run_und hmu, Result.andThen_ok, MapKept.run_getObj_map hb, run_checkPk K, hr]
   rw [MapKept.run_setObj_map _ hb]
   simp [World.putObj]
  ·rcases List.mem_append.1 hen with h | h
   ·exact hf en h
   ·rw [List.mem_singleton.1 h]; exact hnew _ rfl rfl
 | some p =>
  obtain ⟨j, u⟩ := p
  rw [hfind] at hr
  obtain ⟨en0, _, h2, h3, h4⟩ := findB_some hfind
  rw [Nat.sub_zero] at h2
  obtain ⟨k', f', hkk⟩ := hR en0 (hf en0 (List.mem_of_getElem? h2))
  rw [hkk] at h3
  have hk0 : en0.key = .agg ⟨pkC k f⟩ := by rw [hkk, pkB_true h3]
  have hg : ((((⟨ents⟩ : Array MapEntry)[j]?).map (·.key)).getD (.agg ⟨pkC k f⟩)) = .agg ⟨pkC k f⟩ := by
   have : (⟨ents⟩ : Array MapEntry)[j]? = some en0 := by simpa using h2
   rw [this]; exact hk0
  refine ⟨W.putObj b (.map ⟨ents.modify j fun e => { e with key := .agg ⟨pkC k f⟩, val := v }⟩ clock), ?_, satW_hasJ hm' hD (Same.putObj _ _ _ fun h => h rfl) (ents := ents.modify j fun e => { e with key := .agg ⟨pkC k f⟩, val := v }) (World.putObj_heap_same hlt) fun en hen => ?_⟩
  ·simp only [execOp, ha.eval hm0, ha.eval hk, ha.eval hv, Instr.mapUpdate, Sem.run_bind, run_und hmu, Result.andThen_ok, MapKept.run_getObj_map hb, run_checkPk K, hr, hg, pk_stays]
   rw [MapKept.run_setObj_map _ hb]
   simp [World.putObj]
  ·obtain ⟨n', hn'⟩ := List.getElem?_of_mem hen
   rw [List.getElem?_modify] at hn'
   cases hq : ents[n']? with
   | none => rw [hq] at hn'; cases hn'
   | some en1 =>
    rw [hq] at hn'
    have hn' : (if j = n' then ({ en1 with key := .agg ⟨pkC k f⟩, val := v } : MapEntry) else en1) = en := Option.some.inj hn'
    by_cases hjn : j = n'
    ·rw [if_pos hjn] at hn'
     rw [<- hn']; exact hnew _ rfl rfl
    ·rw [if_neg hjn] at hn'
     rw [<- hn']; exact hf en1 (List.mem_of_getElem? hq)
/-! ## A map that is known -/
/-- the entries in the order in which they came -/
def pkM : Nat -> List ((Int × (Nat -> Int)) × Value) -> List MapEntry
 | _, [] => []
 | s, ((k, f), v) :: l => ⟨.agg ⟨pkC k f⟩, v, s⟩ :: pkM (s + 1) l
def pkO (l : List ((Int × (Nat -> Int)) × Value)) : Obj := .map ⟨pkM 0 l⟩ l.length
theorem pkM_snoc (x : (Int × (Nat -> Int)) × Value) : ∀ (l : List ((Int × (Nat -> Int)) × Value)) (s : Nat), pkM s (l ++ [x]) = pkM s l ++ [⟨.agg ⟨pkC x.1.1 x.1.2⟩, x.2, s + l.length⟩]
 | [], s => rfl
 | y :: l, s => by
  obtain ⟨⟨k, f⟩, v⟩ := y
  rw [List.cons_append, pkM, pkM_snoc x l (s + 1), pkM, List.cons_append, List.length_cons, show s + 1 + l.length = s + (l.length + 1) by omega]
theorem pkM_pk : ∀ {l : List ((Int × (Nat -> Int)) × Value)} {s : Nat} {e : MapEntry}, e ∈ pkM s l -> PkE e
 | [], _, _, h => by cases h
 | ((k, f), v) :: l, s, e, h => by
  rw [pkM] at h
  rcases List.mem_cons.1 h with rfl | h
  ·exact ⟨k, f, rfl⟩
  ·exact pkM_pk h
/-- what the map says of a key -/
def pkGet (l : List ((Int × (Nat -> Int)) × Value)) (k : Int) (f : Nat -> Int) : Option Value := (l.find? fun x => decide (k = x.1.1) && sameTo f x.1.2 6).map (·.2)
theorem pkM_find {k : Int} {f : Nat -> Int} : ∀ (l : List ((Int × (Nat -> Int)) × Value)) (s n : Nat), (findB (pkB k f) (pkM s l) n).map (·.2) = pkGet l k f
 | [], _, _ => rfl
 | ((k', f'), v) :: l, s, n => by
  unfold pkGet
  rw [pkM, findB, List.find?_cons]
  rw [show pkB k f (MapEntry.mk (.agg ⟨pkC k' f'⟩) v s).key = (decide (k = k') && sameTo f f' 6) from pkB_eq]
  cases h : (decide (k = k') && sameTo f f' 6) with
  | true => rfl
  | false => exact pkM_find l (s + 1) (n + 1)
theorem v_pkGet [T : TT P tt] {t kt ta ti et b sz bt sz2 bt2 : Nat} {m kx : Operand} {k : Int} {f : Nat -> Int} {s : List ((Int × (Nat -> Int)) × Value)} {z z2 out : Value} {kd : TK} {ok : Bool}
  (hm0 : evOp env m = some (.map (some b))) (hk : evOp env kx = some (.agg ⟨pkC k f⟩)) (ht : look tt t = some ⟨.map kt et, sz, bt, z⟩) (K : PkT P tt kt ta ti) (het : look tt et = some ⟨kd, sz2, bt2, z2⟩)
  (hin : (b, pkO s) ∈ mem) (ho : (match pkGet s k f with | some v => (match ok with | true => Value.tuple ⟨[v, .bool true]⟩ | false => v) | none => (match ok with | true => Value.tuple ⟨[z2, .bool false]⟩ | false => z2)) = out) :
  OpVal P N c env mem ⟨dd, .lookup t m kx ok, ty, pos, af, g⟩ out :=
 ⟨rfl, fun a W ha hm => by
  have hb := (hm.own _ hin).2
  have hmu : P.underlying t = some (.map kt et) := (TT.look (P := P) ht).1
  obtain ⟨_, i, hi, _, _, hz⟩ := TT.look (P := P) het
  have hz2 : (zeroValue et).run P W = .ok z2 W := by
   simp only [zeroValue, Sem.run_bind, run_info hi, Result.andThen_ok, hz]; rfl
  unfold pkO at hb
  have hr := run_findPk K (ents := pkM 0 s) (fun e he => pkM_pk he) k f W
  have hp := pkM_find (k := k) (f := f) s 0 0
  subst ho
  cases hfb : findB (pkB k f) (pkM 0 s) 0 with
  | none =>
   rw [hfb] at hr hp
   rw [<- hp]
   cases ok <;>
   ·simp only [execOp, ha.eval hm0, ha.eval hk, Instr.lookup, Sem.run_bind, run_und hmu, Result.andThen_ok, MapKept.run_getObj_map hb, run_checkPk K, hr, hz2, Sem.run_pure]
    rfl
  | some p =>
   obtain ⟨j, u⟩ := p
   rw [hfb] at hr hp
   rw [<- hp]
   cases ok <;>
   ·simp only [execOp, ha.eval hm0, ha.eval hk, Instr.lookup, Sem.run_bind, run_und hmu, Result.andThen_ok, MapKept.run_getObj_map hb, run_checkPk K, hr, Sem.run_pure]
    rfl⟩
theorem d_pkNew [T : TT P tt] {t kt ta ti et b sz bt : Nat} {m kx vx : Operand} {k : Int} {f : Nat -> Int} {s : List ((Int × (Nat -> Int)) × Value)} {z v : Value} {mem' : List (Nat × Obj)}
  (hm0 : evOp env m = some (.map (some b))) (hk : evOp env kx = some (.agg ⟨pkC k f⟩)) (hv : evOp env vx = some v) (ht : look tt t = some ⟨.map kt et, sz, bt, z⟩) (K : PkT P tt kt ta ti)
  (hnew : pkGet s k f = none) (hu : Upd mem b (pkO s) (pkO (s ++ [((k, f), v)])) mem') :
  OpDo P N c env mem ⟨dd, .mapUpdate t m kx vx, ty, pos, af, g⟩ mem' :=
 ⟨rfl, fun a W ha hm => by
  have hb := (hm.own _ hu.isIn).2
  have hmu : P.underlying t = some (.map kt et) := (TT.look (P := P) ht).1
  have hr := run_findPk K (ents := pkM 0 s) (fun e he => pkM_pk he) k f W
  have hp := pkM_find (k := k) (f := f) s 0 0
  have hfb : findB (pkB k f) (pkM 0 s) 0 = none := by
   rw [hnew] at hp
   cases h : findB (pkB k f) (pkM 0 s) 0 with
   | none => rfl
   | some p => rw [h] at hp; cases hp
  rw [hfb] at hr
  refine ⟨W.putObj b (pkO (s ++ [((k, f), v)])), ?_, hm.upd hu (Same.putObj _ _ _ fun h => h rfl) (World.putObj_heap_same (lt_of_heap hb))⟩
  unfold pkO at hb ⊢
  simp only [execOp, ha.eval hm0, ha.eval hk, ha.eval hv, Instr.mapUpdate, Sem.run_bind, run_und hmu, Result.andThen_ok, MapKept.run_getObj_map hb, run_checkPk K, hr]
  rw [MapKept.run_setObj_map _ hb]
  simp [World.putObj, pkM_snoc, List.length_append]⟩
end
end Kin
end Go

set_option maxRecDepth 100000
set_option maxHeartbeats 400000000
namespace Go.Proofs
open Go.RowKit Go.Kin Go.Kin.St Go.Kin.Ct Go.Kin.Sg
namespace R24
/-- the first place of a kind -/
structure IdxOf (p : Int -> Bool) (t : List Int) where
 r : Int
 ok : (r = -1 /\ ∀ x ∈ t, p x = false) ∨ ∃ i : Nat, r = i /\ i < t.length /\ (∀ x ∈ t.take i, p x = false) /\ ∃ x, t[i]? = some x /\ p x = true
theorem idx_any {p : Int -> Bool} {t : List Int} (r : IdxOf p t) : decide (0 <= r.r) = t.any p := by
 rcases r.ok with ⟨h1, h2⟩ | ⟨i, h1, h2, _, x, h3, h4⟩
 ·rw [decide_eq_false (by omega)]
  cases ha : t.any p with
  | false => rfl
  | true =>
   obtain ⟨x, hx, hp⟩ := List.any_eq_true.1 ha
   rw [h2 x hx] at hp; cases hp
 ·rw [decide_eq_true (by omega)]
  exact (List.any_eq_true.2 ⟨x, List.mem_of_getElem? h3, h4⟩).symm
theorem indexF_calls (g : Nat) [Ent Tryz.prog g] (fs cs : List Value) (p : Int -> Bool) (T : Option Addr) (cap : Nat) (t : List Int) (w : World) (hT : Kin.At w T 1 (t.map inE)) (hl : t.length <= 9223372036854775807)
  (hp : ∀ x ∈ t, ∀ W, Later w W -> Calls Tryz.prog g ⟨fs ++ [.int .i64 x] ++ cs⟩ W fun e w' => e = .returned (.bool (p x)) /\ Below W.heap.size W w') :
  Calls Tryz.prog 72 ⟨[.slice T t.length cap, .func (.func g) ⟨fs⟩ ⟨cs⟩]⟩ w fun e w' => ∃ r : IdxOf p t, e = .returned (.int .i64 r.r) /\ Below w.heap.size w w' := by
 refine fEn Tryz.func72 rfl Tryz.ntmps72 rfl rfl (sWn w) ?_
 repeat (first|refine lVa rfl rfl (by first|exact pEv rfl|fail) ?_|refine lNi ?_|refine cRg ?_|refine cSq ?_|refine xTh ?_|refine cBl ?_|fail)
 refine c_loop (ι := Nat) (fun k => k <= t.length /\ ∀ x ∈ t.take k, p x = false) (fun k => [(0, .slice T t.length cap), (1, .func (.func g) ⟨fs⟩ ⟨cs⟩), (7, .int .i64 t.length), (8, .int .i64 k)]) (fun _ => []) (fun k => t.length - k) 0 ⟨Nat.zero_le _, fun u hu => by simp at hu⟩ (by repeat (first|exact .nil|refine .cons rfl (by first|rfl|(congr 1; done)|exact congrArg _ (by omega)|(simp; done)) ?_)) (by repeat (first|exact .nil|refine .keep (by first|rfl|assumption) ?_|refine .drop ?_|exact MSub.refl _)) ?_
 rintro k ⟨hk, hF⟩
 by_cases hlt : k < t.length
 ·obtain ⟨y, hy⟩ : ∃ y, t[k]? = some y := ⟨_, List.getElem?_eq_getElem hlt⟩
  obtain ⟨b', o, rfl, hc⟩ := hT k (inE y) (by simp [hy])
  have he := ext_of hc
  rw [Nat.mul_one] at he
  repeat (first|refine lVa rfl rfl (by first|exact pEv rfl|exact vL0 rfl (by assumption) rfl (by rfl)|exact v_index rfl rfl rfl rfl (by omega) (by omega) (by with_reducible first|exact idx2 _ _|fail)|fail) ?_|refine lNi ?_|refine cRg ?_|refine cSq ?_|refine xTh ?_|refine c_dec_t rfl (by first|omega|fail) ?_|refine cBl ?_|refine cSk ?_|fail)
  refine r_callv rfl rfl rfl rfl rfl (fun W hW => hp y (List.mem_of_getElem? hy) W hW.below) ?_
  cases hg : p y with
  | false =>
   repeat (first|refine lVa rfl rfl (by first|exact v_add rfl rfl (by omega) (by omega)|exact pEv rfl|fail) ?_|refine lNi ?_|refine cRg ?_|refine xTh ?_|refine c_false rfl ?_|refine cSk ?_|refine x_block ?_|fail)
   refine x_back (k + 1) ⟨hlt, fun z hz => ?_⟩ (by omega) (by repeat (first|exact .nil|refine .cons rfl (by first|rfl|(congr 1; done)|exact congrArg _ (by omega)|(simp; done)) ?_)) (by repeat (first|exact .nil|refine .keep (by first|rfl|assumption) ?_|refine .drop ?_|exact MSub.refl _))
   rw [List.take_add_one, hy] at hz
   rcases List.mem_append.1 hz with h | h
   ·exact hF z h
   ·simp only [Option.toList_some, List.mem_singleton] at h
    rw [h]; exact hg
  | true =>
   repeat (first|refine lVa rfl rfl (by first|exact pEv rfl|fail) ?_|refine lNi ?_|refine cRg ?_|refine cSq ?_|refine xTh ?_|refine c_true rfl ?_|refine c_ret ?_|refine xTr ?_|refine xBr ?_|fail)
   exact x_ret rfl rfl (by repeat constructor) rfl (fun W hW => ⟨⟨(k : Int), .inr ⟨k, rfl, hlt, hF, y, hy, hg⟩⟩, rfl, hW.below⟩)
 ·have hkl : k = t.length := by omega
  subst hkl
  rw [List.take_length] at hF
  repeat (first|refine lVa rfl rfl (by first|exact pEv rfl|fail) ?_|refine lNi ?_|refine cRg ?_|refine cSq ?_|refine xTh ?_|refine c_dec_f rfl (by first|omega|fail) ?_|refine c_ret ?_|refine c_exit ?_|refine xTe ?_|refine xBs ?_|fail)
  exact x_ret rfl rfl (by repeat constructor) rfl (fun W hW => ⟨⟨-1, .inl ⟨rfl, hF⟩⟩, rfl, hW.below⟩)
theorem containsF_calls (g : Nat) [Ent Tryz.prog g] (fs cs : List Value) (p : Int -> Bool) (T : Option Addr) (cap : Nat) (t : List Int) (w : World) (hT : Kin.At w T 1 (t.map inE)) (hl : t.length <= 9223372036854775807)
  (hp : ∀ x ∈ t, ∀ W, Later w W -> Calls Tryz.prog g ⟨fs ++ [.int .i64 x] ++ cs⟩ W fun e w' => e = .returned (.bool (p x)) /\ Below W.heap.size W w') :
  Calls Tryz.prog 55 ⟨[.slice T t.length cap, .func (.func g) ⟨fs⟩ ⟨cs⟩]⟩ w fun e w' => e = .returned (.bool (t.any p)) /\ Below w.heap.size w w' := by
 refine fEn Tryz.func55 rfl Tryz.ntmps55 rfl rfl (sWn w) ?_
 repeat (first|refine lVa rfl rfl (by first|exact pEv rfl|fail) ?_|refine lNi ?_|refine cRg ?_|refine cSq ?_|refine xTh ?_|fail)
 refine r_callI rfl rfl rfl (fun W hW => indexF_calls g fs cs p T cap t W (hT.sat hW) hl fun x hx W' hW' => hp x hx W' (Later.step hW.below hW')) ?_
 intro r
 repeat (first|refine lVa rfl rfl (by first|exact pEv rfl|fail) ?_|refine lNi ?_|refine xTh ?_|refine c_ret ?_|fail)
 exact x_ret rfl rfl (by repeat constructor) rfl (fun W hW => ⟨by rw [<- idx_any r], hW.below⟩)
theorem index_calls (v : Int) (T : Option Addr) (cap : Nat) (t : List Int) (w : World) (hT : Kin.At w T 1 (t.map inE)) (hl : t.length <= 9223372036854775807) :
  Calls Tryz.prog 73 ⟨[.slice T t.length cap, .int .i64 v]⟩ w fun e w' => ∃ r : IdxOf (fun x => decide (v = x)) t, e = .returned (.int .i64 r.r) /\ Below w.heap.size w w' := by
 refine fEn Tryz.func73 rfl Tryz.ntmps73 rfl rfl (sWn w) ?_
 repeat (first|refine lVa rfl rfl (by first|exact pEv rfl|fail) ?_|refine lNi ?_|refine cRg ?_|refine cSq ?_|refine xTh ?_|refine cBl ?_|fail)
 refine c_loop (ι := Nat) (fun k => k <= t.length /\ ∀ x ∈ t.take k, decide (v = x) = false) (fun k => [(0, .slice T t.length cap), (1, .int .i64 v), (7, .int .i64 t.length), (8, .int .i64 k)]) (fun _ => []) (fun k => t.length - k) 0 ⟨Nat.zero_le _, fun u hu => by simp at hu⟩ (by repeat (first|exact .nil|refine .cons rfl (by first|rfl|(congr 1; done)|exact congrArg _ (by omega)|(simp; done)) ?_)) (by repeat (first|exact .nil|refine .keep (by first|rfl|assumption) ?_|refine .drop ?_|exact MSub.refl _)) ?_
 rintro k ⟨hk, hF⟩
 by_cases hlt : k < t.length
 ·obtain ⟨y, hy⟩ : ∃ y, t[k]? = some y := ⟨_, List.getElem?_eq_getElem hlt⟩
  obtain ⟨b', o, rfl, hc⟩ := hT k (inE y) (by simp [hy])
  have he := ext_of hc
  rw [Nat.mul_one] at he
  have hF' := fun (_ : Unit) => hF
  clear hF
  by_cases hg : v = y
  ·repeat (first|refine lVa rfl rfl (by first|exact pEv rfl|exact vL0 rfl (by assumption) rfl (by rfl)|exact v_index rfl rfl rfl rfl (by omega) (by omega) (by with_reducible first|exact idx2 _ _|fail)|fail) ?_|refine lNi ?_|refine cRg ?_|refine cSq ?_|refine xTh ?_|refine c_dec_t rfl (by first|omega|fail) ?_|refine cBl ?_|refine cSk ?_|refine c_ret ?_|refine xTr ?_|refine xBr ?_|fail)
   exact x_ret rfl rfl (by repeat constructor) rfl (fun W hW => ⟨⟨(k : Int), .inr ⟨k, rfl, hlt, hF' (), y, hy, decide_eq_true hg⟩⟩, rfl, hW.below⟩)
  ·repeat (first|refine lVa rfl rfl (by first|exact v_add rfl rfl (by omega) (by omega)|exact pEv rfl|exact vL0 rfl (by assumption) rfl (by rfl)|exact v_index rfl rfl rfl rfl (by omega) (by omega) (by with_reducible first|exact idx2 _ _|fail)|fail) ?_|refine lNi ?_|refine cRg ?_|refine cSq ?_|refine xTh ?_|refine c_dec_t rfl (by first|omega|fail) ?_|refine c_dec_f rfl (by first|omega|fail) ?_|refine cBl ?_|refine cSk ?_|refine x_block ?_|fail)
   refine x_back (k + 1) ⟨hlt, fun z hz => ?_⟩ (by omega) (by repeat (first|exact .nil|refine .cons rfl (by first|rfl|(congr 1; done)|exact congrArg _ (by omega)|(simp; done)) ?_)) (by repeat (first|exact .nil|refine .keep (by first|rfl|assumption) ?_|refine .drop ?_|exact MSub.refl _))
   rw [List.take_add_one, hy] at hz
   rcases List.mem_append.1 hz with h | h
   ·exact hF' () z h
   ·simp only [Option.toList_some, List.mem_singleton] at h
    rw [h]; exact decide_eq_false hg
 ·have hkl : k = t.length := by omega
  subst hkl
  rw [List.take_length] at hF
  repeat (first|refine lVa rfl rfl (by first|exact pEv rfl|fail) ?_|refine lNi ?_|refine cRg ?_|refine cSq ?_|refine xTh ?_|refine c_dec_f rfl (by first|omega|fail) ?_|refine c_ret ?_|refine c_exit ?_|refine xTe ?_|refine xBs ?_|fail)
  exact x_ret rfl rfl (by repeat constructor) rfl (fun W hW => ⟨⟨-1, .inl ⟨rfl, hF⟩⟩, rfl, hW.below⟩)
theorem any_eq {v : Int} {t : List Int} : (t.any fun x => decide (v = x)) = t.contains v := by
 cases h : t.contains v with
 | true => exact List.any_eq_true.2 ⟨v, List.contains_iff_mem.1 h, decide_eq_true rfl⟩
 | false =>
  cases h2 : t.any fun x => decide (v = x) with
  | false => rfl
  | true =>
   obtain ⟨x, hx, he⟩ := List.any_eq_true.1 h2
   rw [of_decide_eq_true he, List.contains_iff_mem.2 hx] at h; cases h
theorem contains_calls (v : Int) (T : Option Addr) (cap : Nat) (t : List Int) (w : World) (hT : Kin.At w T 1 (t.map inE)) (hl : t.length <= 9223372036854775807) :
  Calls Tryz.prog 45 ⟨[.slice T t.length cap, .int .i64 v]⟩ w fun e w' => e = .returned (.bool (t.contains v)) /\ Below w.heap.size w w' := by
 refine fEn Tryz.func45 rfl Tryz.ntmps45 rfl rfl (sWn w) ?_
 repeat (first|refine lVa rfl rfl (by first|exact pEv rfl|fail) ?_|refine lNi ?_|refine cRg ?_|refine cSq ?_|refine xTh ?_|fail)
 refine r_callI rfl rfl rfl (fun W hW => index_calls v T cap t W (hT.sat hW) hl) ?_
 intro r
 repeat (first|refine lVa rfl rfl (by first|exact pEv rfl|fail) ?_|refine lNi ?_|refine xTh ?_|refine c_ret ?_|fail)
 exact x_ret rfl rfl (by repeat constructor) rfl (fun W hW => ⟨by rw [<- any_eq, <- idx_any r], hW.below⟩)
/-- a closure that asks whether a number lacks in a list -/
theorem lacks_calls (f : Nat) (hf : f = 85 ∨ f = 56) (v : Int) (bx : Nat) (T : Option Addr) (cap : Nat) (t : List Int) (w : World) (hB : w.cell? ⟨bx, 0, none⟩ = some (.slice T t.length cap)) (hT : Kin.At w T 1 (t.map inE)) (hl : t.length <= 9223372036854775807) :
  Calls Tryz.prog f ⟨[] ++ [.int .i64 v] ++ [.pointer (some ⟨bx, 0, none⟩)]⟩ w fun e w' => e = .returned (.bool (!t.contains v)) /\ Below w.heap.size w w' := by
 have hE : Ext w (base w) bx 0 [.slice T t.length cap] := ext_of fun j v hj => by
  cases j with
  | zero => cases hj; exact hB
  | succ j => cases hj
 rcases hf with rfl | rfl
 ·refine fEn Tryz.func85 rfl Tryz.ntmps85 rfl rfl (sWn w) ?_
  repeat (first|refine lVa rfl rfl (by first|exact pEv rfl|exact vL0 rfl (by assumption) rfl (by rfl)|fail) ?_|refine lNi ?_|refine cRg ?_|refine cSq ?_|refine xTh ?_|fail)
  refine r_call rfl rfl rfl (fun W hW => contains_calls v T cap t W (hT.sat hW) hl) ?_
  repeat (first|refine lVa rfl rfl (by first|exact pEv rfl|fail) ?_|refine lNi ?_|refine xTh ?_|refine c_ret ?_|fail)
  exact x_ret rfl rfl (by repeat constructor) rfl (fun W hW => ⟨rfl, hW.below⟩)
 ·refine fEn Tryz.func56 rfl Tryz.ntmps56 rfl rfl (sWn w) ?_
  repeat (first|refine lVa rfl rfl (by first|exact pEv rfl|exact vL0 rfl (by assumption) rfl (by rfl)|fail) ?_|refine lNi ?_|refine cRg ?_|refine cSq ?_|refine xTh ?_|fail)
  refine r_call rfl rfl rfl (fun W hW => contains_calls v T cap t W (hT.sat hW) hl) ?_
  repeat (first|refine lVa rfl rfl (by first|exact pEv rfl|fail) ?_|refine lNi ?_|refine xTh ?_|refine c_ret ?_|fail)
  exact x_ret rfl rfl (by repeat constructor) rfl (fun W hW => ⟨rfl, hW.below⟩)
/-- all of a list are in another one -/
def allIn (l m : List Int) : Bool := !(l.any fun x => !m.contains x)
theorem allIn_iff {l m : List Int} : allIn l m = true ↔ ∀ x ∈ l, x ∈ m := by
 unfold allIn
 rw [Bool.not_eq_true', List.any_eq_false]
 constructor
 ·intro h x hx
  have := h x hx
  simpa using this
 ·intro h x hx
  simpa using h x hx
theorem within_calls (A B : Option Addr) (ca cb : Nat) (l m : List Int) (w : World) (hA : Kin.At w A 1 (l.map inE)) (hB : Kin.At w B 1 (m.map inE)) (hl : l.length <= 9223372036854775807) (hm : m.length <= 9223372036854775807) :
  Calls Tryz.prog 27 ⟨[.slice A l.length ca, .slice B m.length cb]⟩ w fun e w' => e = .returned (.bool (allIn l m)) /\ Below w.heap.size w w' := by
 refine fEn Tryz.func27 rfl Tryz.ntmps27 rfl rfl (sWn w) ?_
 repeat (first|refine lVa rfl rfl (by first|exact pEv rfl|fail) ?_|refine lNi ?_|refine cRg ?_|refine cSq ?_|refine xTh ?_|refine r_box rfl rfl rfl rfl (fun _ => ?_)|fail)
 rename_i b1
 refine r_call rfl rfl rfl (fun W hW => containsF_calls 56 [] [.pointer (some ⟨b1, 0, none⟩)] (fun x => !m.contains x) A ca l W (hA.sat hW) hl fun x hx W' hW' => ?_) ?_
 ·have hb := hW.cellAt (b := b1) (by repeat constructor) 0
  exact lacks_calls 56 (.inr rfl) x b1 B cb m W' (hW'.cell hb) ((hB.sat hW).later hW') hm
 repeat (first|refine lVa rfl rfl (by first|exact pEv rfl|fail) ?_|refine lNi ?_|refine xTh ?_|refine c_ret ?_|fail)
 exact x_ret rfl rfl (by repeat constructor) rfl (fun W hW => ⟨rfl, hW.below⟩)
end R24
end Go.Proofs

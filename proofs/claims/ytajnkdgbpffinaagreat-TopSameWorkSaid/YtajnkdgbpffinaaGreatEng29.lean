/- The engine: arrays of two numbers, compared and as keys. Generic: no program is named here. -/
import Derived.Test.YtajnkdgbpffinaaGreatEng22
set_option linter.unusedSectionVars false
set_option linter.unusedVariables false
set_option linter.unusedSimpArgs false
namespace Go
open Go.RowKit
namespace Kin
section
variable {P : Program} {N : Nat} {c : Cx} {Q : Exit -> Act -> World -> Prop} {env : List (Nat × Value)} {mem : List (Nat × Obj)} {L l : List Oper} {tt : List (TypeId × TI)}
 {ty : TypeId} {pos : String} {af : Array Edge} {g : Option (Nat × Bool)} {dd : Option Tmp}
@[reducible] def pairE (a b : Int) : List Value := [.int .i64 a, .int .i64 b]
theorem part_pair [T : TT P tt] {e bt : Nat} {z : Value} (he : look tt e = some ⟨.int .i64, 1, bt, z⟩) (a b : Int) (W : World) : (part e ⟨pairE a b⟩ (0 * 1)).run P W = .ok (.int .i64 a) W /\ (part e ⟨pairE a b⟩ (1 * 1)).run P W = .ok (.int .i64 b) W :=
 ⟨run_part (TT.look he).size (TT.look he).1 rfl, run_part (TT.look he).size (TT.look he).1 rfl⟩
theorem run_eqA2 [T : TT P tt] {t e bt sz' bt' d : Nat} {z z' : Value} (ht : look tt t = some ⟨.array 2 e, sz', bt', z'⟩) (he : look tt e = some ⟨.int .i64, 1, bt, z⟩) (a b a' b' : Int) (W : World) :
  (Op.equalIn (d + 2) t (.agg ⟨pairE a b⟩) (.agg ⟨pairE a' b'⟩)).run P W = .ok (decide (a = a') && decide (b = b')) W := by
 have hu : P.underlying t = some (.array 2 e) := (TT.look (P := P) ht).1
 have hue : P.underlying e = some (.int .i64) := (TT.look (P := P) he).1
 obtain ⟨i, hi, hs⟩ := (TT.look (P := P) he).size
 obtain ⟨p1, p2⟩ := part_pair (P := P) he a b W
 obtain ⟨q1, q2⟩ := part_pair (P := P) he a' b' W
 have hsz : (sizeOf e).run P W = .ok 1 W := by rw [run_size hi, hs]
 have eqi : ∀ m n : Int, (Op.equalIn (d + 1) e (.int .i64 m) (.int .i64 n)).run P W = .ok (m == n) W := fun m n => run_equalIn_int W d e .i64 .i64 m n hue
 rw [Op.equalIn]
 simp only [Sem.run_bind, run_und hu, Result.andThen_ok, hsz]
 simp only [Std.Legacy.Range.forIn_eq_forIn_range', Std.Legacy.Range.size, Nat.sub_zero, Nat.add_sub_cancel, Nat.div_one, List.range'_succ, List.range'_zero, List.forIn_cons, List.forIn_nil, Sem.run_bind, p1, q1, p2, q2, eqi, Result.andThen_ok]
 by_cases h1 : a = a'
 ·by_cases h2 : b = b'
  ·subst h1 h2; simp [Sem.run_bind, Sem.run_pure, p1, p2, eqi]
  ·subst h1; simp [Sem.run_bind, Sem.run_pure, p1, p2, q2, eqi, h2]
 ·simp [Sem.run_bind, Sem.run_pure, h1]

/-! ## A map of pairs, as a word -/
def EntF (F : Int -> Int -> Int) (e : MapEntry) : Prop := ∃ i k : Int, e.key = .agg ⟨pairE i k⟩ /\ e.val = .int .i64 (F i k)
/-- the block holds a map from pairs to what a function says of them -/
def MapJ (b : Nat) (F : Int -> Int -> Int) : (Nat -> Prop) -> World -> Prop := fun S A => b < A.heap.size /\ ¬ S b /\ ∃ ents clock, A.heap[b]? = some (.map ⟨ents⟩ clock) /\ ∀ e ∈ ents, EntF F e
theorem closed_mapJ (b : Nat) (F : Int -> Int -> Int) : Closed (MapJ b F) := fun S S' A B h hS hs => by
 obtain ⟨h1, h2, ents, clock, h3, h4⟩ := h
 have hb := hS.size
 exact ⟨by omega, fun h => (hs b h).elim h2 (fun h => by omega), ents, clock, hS.obj h3 h2, h4⟩
theorem satW_mapJ {w0 : World} {D : Nat -> Prop} {b : Nat} {F : Int -> Int -> Int} {mem : List (Nat × Obj)} {W W' : World} (h : SatW w0 D (MapJ b F) mem W) (hD : ¬ D b) (hS : Same (fun k => k ≠ b) W W') {ents : List MapEntry} {clock : Nat} (hb : W'.heap[b]? = some (.map ⟨ents⟩ clock)) (he : ∀ e ∈ ents, EntF F e) :
  SatW w0 D (MapJ b F) mem W' := by
 have hk : ∀ p ∈ mem, p.1 ≠ b := fun p hp e => h.word.2.1 (List.mem_map.2 ⟨p, hp, e⟩)
 refine ⟨h.same.trans (hS.mono fun k hk e => hD (e ▸ hk)), h.dom, h.nodup, fun p hp => ⟨(h.own p hp).1, hS.obj (h.own p hp).2 (hk p hp)⟩, h.closed, lt_of_heap hb, h.word.2.1, ents, clock, hb, he⟩
theorem fpair (a b : Int) (F : Int -> Int -> Int) [T : TT P tt] {t e bt sz' bt' : Nat} {z z' : Value} (ht : look tt t = some ⟨.array 2 e, sz', bt', z'⟩) (he : look tt e = some ⟨.int .i64, 1, bt, z⟩) {ents : List MapEntry} (hf : ∀ en ∈ ents, EntF F en) (W : World) :
  ∃ r, (Instr.findKey t (.agg ⟨pairE a b⟩) ents).run P W = .ok r W /\ ∀ j v, r = some (j, v) -> v = .int .i64 (F a b) := by
 have hu : P.underlying t = some (.array 2 e) := (TT.look (P := P) ht).1
 let f : Value -> Bool := fun key => match key with
  | .agg ⟨[.int .i64 a', .int .i64 b']⟩ => decide (a = a') && decide (b = b')
  | _ => false
 have hfk : ∀ en ∈ ents, (Op.equal t (.agg ⟨pairE a b⟩) en.key).run P W = .ok (f en.key) W := fun en hen => by
  obtain ⟨i, k, h1, _⟩ := hf en hen
  rw [h1]
  exact run_eqA2 (P := P) (d := 9998) ht he a b i k W
 refine ⟨_, run_findKey hu rfl ents hfk, ?_⟩
 have key : ∀ (l : List MapEntry) (n : Nat), (∀ en ∈ l, EntF F en) -> ∀ j v, findB f l n = some (j, v) -> v = .int .i64 (F a b) := by
  intro l
  induction l with
  | nil => intro n _ j v h; cases h
  | cons en l ih =>
   intro n hl j v h
   unfold findB at h
   cases hh : f en.key with
   | false => rw [hh] at h; exact ih (n + 1) (fun e he => hl e (List.mem_cons_of_mem _ he)) j v h
   | true =>
    rw [hh] at h
    simp only [Option.some.injEq, Prod.mk.injEq] at h
    obtain ⟨i, k, h1, h2⟩ := hl en List.mem_cons_self
    rw [h1] at hh
    have hh : (decide (a = i) && decide (b = k)) = true := hh
    simp only [Bool.and_eq_true, decide_eq_true_eq] at hh
    rw [<- h.2, h2, hh.1, hh.2]
 exact key ents 0 hf
/-- what is known, or that it is not known yet -/
theorem l_lookupF [T : TT P tt] [Wide c.F] {F : Fence} {n : Nat} {ds : List Deferred} {w0 : World} {D : Nat -> Prop} {b : Nat} {G : Int -> Int -> Int} {t kt et e d sz bt sz1 bt1 sz2 bt2 bt3 : Nat} {m kx : Operand} {i k : Int} {z z1 z2 : Value}
  (hc : c = ⟨F, n, ds, w0, D, MapJ b G⟩) (hw : wantB L env g = some true) (hd : Nat.blt d N = true) (hm0 : evOp env m = some (.map (some b))) (hk : evOp env kx = some (.agg ⟨[.int .i64 i, .int .i64 k]⟩))
  (ht : look tt t = some ⟨.map kt et, sz, bt, z⟩) (hkt : look tt kt = some ⟨.array 2 e, sz1, bt1, z1⟩) (he : look tt e = some ⟨.int .i64, 1, bt2, z2⟩) (het : look tt et = some ⟨.int .i64, sz2, bt3, .int .i64 0⟩)
  (k1 : RunL P N c L l Q ((d, .tuple ⟨[.int .i64 (G i k), .bool true]⟩) :: env) mem) (k2 : RunL P N c L l Q ((d, .tuple ⟨[.int .i64 0, .bool false]⟩) :: env) mem) :
  RunL P N c L (⟨some d, .lookup t m kx true, ty, pos, af, g⟩ :: l) Q env mem := by
 subst hc
 refine l_eff (ι := Bool) (v := fun x => if x then .tuple ⟨[.int .i64 (G i k), .bool true]⟩ else .tuple ⟨[.int .i64 0, .bool false]⟩) (mem' := fun _ => mem) hw hd ⟨rfl, fun a W ha hm => ?_⟩ (fun x => by cases x; exact k2; exact k1)
 obtain ⟨_, _, ents, clock, hb, hf⟩ := hm.word
 have hmu : P.underlying t = some (.map kt et) := (TT.look (P := P) ht).1
 have hku : P.underlying kt = some (.array 2 e) := (TT.look (P := P) hkt).1
 have heu : P.underlying e = some (.int .i64) := (TT.look (P := P) he).1
 obtain ⟨_, i2, hi2, _, _, hz⟩ := TT.look (P := P) het
 have hz2 : (zeroValue et).run P W = .ok (.int .i64 0) W := by
  simp only [zeroValue, Sem.run_bind, run_info hi2, Result.andThen_ok, hz]; rfl
 obtain ⟨p1, p2⟩ := part_pair (P := P) he i k W
 obtain ⟨ie, hie, hse⟩ := (TT.look (P := P) he).size
 have hsz : (sizeOf e).run P W = .ok 1 W := by rw [run_size hie, hse]
 have hck : ∀ em : Bool, (Instr.checkKey em 10000 kt (.agg ⟨pairE i k⟩)).run P W = .ok () W := fun em => by
  have hp : ∀ v : Value, (Instr.checkKey em 9999 e v).run P W = .ok () W := fun v => run_checkPlain (n := 9998) heu rfl
  rw [show (10000 : Nat) = 9999 + 1 from rfl, Instr.checkKey]
  simp only [Sem.run_bind, run_und hku, Result.andThen_ok]
  simp only [Std.Legacy.Range.forIn_eq_forIn_range', Std.Legacy.Range.size, Nat.sub_zero, Nat.add_sub_cancel, Nat.div_one, List.range'_succ, List.range'_zero, List.forIn_cons, List.forIn_nil, Sem.run_bind, hsz, p1, p2, hp, Result.andThen_ok, Sem.run_pure]
 obtain ⟨r, hr, hv⟩ := fpair (P := P) i k G hkt he hf W
 cases r with
 | none =>
  refine ⟨false, W, ?_, hm⟩
  simp only [execOp, ha.eval hm0, ha.eval hk, Instr.lookup, Sem.run_bind, run_und hmu, Result.andThen_ok, MapKept.run_getObj_map hb, hck, hr, hz2, Sem.run_pure]
  rfl
 | some p =>
  obtain ⟨j, v⟩ := p
  have hvv := hv j v rfl
  subst hvv
  refine ⟨true, W, ?_, hm⟩
  simp only [execOp, ha.eval hm0, ha.eval hk, Instr.lookup, Sem.run_bind, run_und hmu, Result.andThen_ok, MapKept.run_getObj_map hb, hck, hr, Sem.run_pure]
  rfl
/-- what has been reckoned is noted -/
theorem l_noteF [T : TT P tt] [Wide c.F] {F : Fence} {n : Nat} {ds : List Deferred} {w0 : World} {D : Nat -> Prop} {b : Nat} {G : Int -> Int -> Int} {t kt et e sz bt sz1 bt1 bt2 : Nat} {m kx vx : Operand} {i k : Int} {z z1 z2 : Value}
  (hc : c = ⟨F, n, ds, w0, D, MapJ b G⟩) (hD : ¬ D b) (hw : wantB L env g = some true) (hm0 : evOp env m = some (.map (some b))) (hk : evOp env kx = some (.agg ⟨[.int .i64 i, .int .i64 k]⟩)) (hv : evOp env vx = some (.int .i64 (G i k)))
  (ht : look tt t = some ⟨.map kt et, sz, bt, z⟩) (hkt : look tt kt = some ⟨.array 2 e, sz1, bt1, z1⟩) (he : look tt e = some ⟨.int .i64, 1, bt2, z2⟩)
  (kk : RunL P N c L l Q env mem) : RunL P N c L (⟨none, .mapUpdate t m kx vx, ty, pos, af, g⟩ :: l) Q env mem := by
 subst hc
 refine l_do (mem' := mem) hw ⟨rfl, fun a W ha hm => ?_⟩ kk
 have hm' := hm
 obtain ⟨_, _, ents, clock, hb, hf⟩ := hm.word
 have hmu : P.underlying t = some (.map kt et) := (TT.look (P := P) ht).1
 have hku : P.underlying kt = some (.array 2 e) := (TT.look (P := P) hkt).1
 have heu : P.underlying e = some (.int .i64) := (TT.look (P := P) he).1
 obtain ⟨p1, p2⟩ := part_pair (P := P) he i k W
 obtain ⟨ie, hie, hse⟩ := (TT.look (P := P) he).size
 have hsz : (sizeOf e).run P W = .ok 1 W := by rw [run_size hie, hse]
 have hck : ∀ em : Bool, (Instr.checkKey em 10000 kt (.agg ⟨pairE i k⟩)).run P W = .ok () W := fun em => by
  have hp : ∀ v : Value, (Instr.checkKey em 9999 e v).run P W = .ok () W := fun v => run_checkPlain (n := 9998) heu rfl
  rw [show (10000 : Nat) = 9999 + 1 from rfl, Instr.checkKey]
  simp only [Sem.run_bind, run_und hku, Result.andThen_ok]
  simp only [Std.Legacy.Range.forIn_eq_forIn_range', Std.Legacy.Range.size, Nat.sub_zero, Nat.add_sub_cancel, Nat.div_one, List.range'_succ, List.range'_zero, List.forIn_cons, List.forIn_nil, Sem.run_bind, hsz, p1, p2, hp, Result.andThen_ok, Sem.run_pure]
 have hlt := lt_of_heap hb
 obtain ⟨f, hfk, hkey⟩ : ∃ f : Value -> Bool, (∀ en ∈ ents, (Op.equal kt (.agg ⟨pairE i k⟩) en.key).run P W = .ok (f en.key) W) /\ ∀ en ∈ ents, f en.key = true -> en.key = .agg ⟨pairE i k⟩ := by
  refine ⟨fun key => match key with
   | .agg ⟨[.int .i64 a', .int .i64 b']⟩ => decide (i = a') && decide (k = b')
   | _ => false, fun en hen => ?_, fun en hen h => ?_⟩
  ·obtain ⟨i', k', h1, _⟩ := hf en hen
   rw [h1]
   exact run_eqA2 (P := P) (d := 9998) hkt he i k i' k' W
  ·obtain ⟨i', k', h1, _⟩ := hf en hen
   rw [h1] at h ⊢
   have h : (decide (i = i') && decide (k = k')) = true := h
   simp only [Bool.and_eq_true, decide_eq_true_eq] at h
   rw [h.1, h.2]
 have hr := run_findKey (P := P) (W := W) hku rfl ents hfk
 cases hfind : findB f ents 0 with
 | none =>
  rw [hfind] at hr
  refine ⟨W.putObj b (.map ⟨ents ++ [⟨.agg ⟨pairE i k⟩, .int .i64 (G i k), clock⟩]⟩ (clock + 1)), ?_, satW_mapJ hm' hD (Same.putObj _ _ _ fun h => h rfl) (ents := ents ++ [⟨.agg ⟨pairE i k⟩, .int .i64 (G i k), clock⟩]) (World.putObj_heap_same hlt) fun en hen => ?_⟩
  ·simp only [execOp, ha.eval hm0, ha.eval hk, ha.eval hv, Instr.mapUpdate, Sem.run_bind, run_und hmu, Result.andThen_ok, MapKept.run_getObj_map hb, hck, hr]
   rw [MapKept.run_setObj_map _ hb]
   simp [World.putObj]
  ·rcases List.mem_append.1 hen with h | h
   ·exact hf en h
   ·rw [List.mem_singleton.1 h]; exact ⟨i, k, rfl, rfl⟩
 | some p =>
  obtain ⟨j, v⟩ := p
  rw [hfind] at hr
  obtain ⟨en0, hj, hjk⟩ : ∃ en0, ents[j]? = some en0 /\ f en0.key = true := by
   have key : ∀ (l : List MapEntry) (n : Nat), findB f l n = some (j, v) -> ∃ en0, n <= j /\ l[j - n]? = some en0 /\ f en0.key = true := by
    intro l
    induction l with
    | nil => intro n h; cases h
    | cons en l ih =>
     intro n h
     unfold findB at h
     cases hh : f en.key with
     | false =>
      rw [hh] at h
      obtain ⟨en0, h1, h2, h3⟩ := ih (n + 1) h
      exact ⟨en0, by omega, by rw [show j - n = j - (n + 1) + 1 by omega]; exact h2, h3⟩
     | true =>
      rw [hh] at h
      simp only [Option.some.injEq, Prod.mk.injEq] at h
      exact ⟨en, by omega, by rw [show j - n = 0 by omega]; rfl, hh⟩
   obtain ⟨en0, _, h2, h3⟩ := key ents 0 hfind
   exact ⟨en0, h2, h3⟩
  have hk0 := hkey en0 (List.mem_of_getElem? hj) hjk
  have hstay : (Instr.keyThatStays (.agg ⟨pairE i k⟩) (.agg ⟨pairE i k⟩)).run P W = .ok (.agg ⟨pairE i k⟩) W := by
   unfold Instr.keyThatStays
   have : Instr.sameBits 10000 (.agg ⟨pairE i k⟩) (.agg ⟨pairE i k⟩) = true := by
    have e1 : ∀ m : Int, Instr.sameBits 9999 (.int .i64 m) (.int .i64 m) = true := fun m => by rw [Instr.sameBits]; simp
    rw [show (10000 : Nat) = 9999 + 1 from rfl, Instr.sameBits]
    simp only [pairE, List.zip_cons_cons, List.all_cons, e1]
    rfl
   rw [if_pos this]; rfl
  have hg : ((((⟨ents⟩ : Array MapEntry)[j]?).map (·.key)).getD (.agg ⟨pairE i k⟩)) = .agg ⟨pairE i k⟩ := by
   have : (⟨ents⟩ : Array MapEntry)[j]? = some en0 := by simpa using hj
   rw [this]; exact hk0
  refine ⟨W.putObj b (.map ⟨ents.modify j fun e => { e with key := .agg ⟨pairE i k⟩, val := .int .i64 (G i k) }⟩ clock), ?_, satW_mapJ hm' hD (Same.putObj _ _ _ fun h => h rfl) (ents := ents.modify j fun e => { e with key := .agg ⟨pairE i k⟩, val := .int .i64 (G i k) }) (World.putObj_heap_same hlt) fun en hen => ?_⟩
  ·simp only [execOp, ha.eval hm0, ha.eval hk, ha.eval hv, Instr.mapUpdate, Sem.run_bind, run_und hmu, Result.andThen_ok, MapKept.run_getObj_map hb, hck, hr, hg, hstay]
   rw [MapKept.run_setObj_map _ hb]
   simp [World.putObj]
  ·obtain ⟨n', hn'⟩ := List.getElem?_of_mem hen
   rw [List.getElem?_modify] at hn'
   cases hq : ents[n']? with
   | none => rw [hq] at hn'; cases hn'
   | some en1 =>
    rw [hq] at hn'
    have hn' : (if j = n' then ({ en1 with key := .agg ⟨pairE i k⟩, val := .int .i64 (G i k) } : MapEntry) else en1) = en := Option.some.inj hn'
    by_cases hjn : j = n'
    ·rw [if_pos hjn] at hn'
     rw [<- hn']; exact ⟨i, k, rfl, rfl⟩
    ·rw [if_neg hjn] at hn'
     rw [<- hn']; exact hf en1 (List.mem_of_getElem? hq)
/-- a new map becomes a word -/
theorem c_mapJ {F : Fence} {n : Nat} {ds : List Deferred} {w0 : World} {D : Nat -> Prop} {b : Nat} (G : Int -> Int -> Int) {x : Code} {mem' : List (Nat × Obj)} (hp : mem.Perm ((b, .map ⟨[]⟩ 0) :: mem'))
  (k : RunC P N ⟨F, n, ds, w0, D, MapJ b G⟩ x Q env mem') : RunC P N ⟨F, n, ds, w0, D, noJ⟩ x Q env mem := .mk fun a W ha hm => by
 have h := hm.perm hp
 have hn := h.nodup
 simp only [List.map_cons, List.nodup_cons] at hn
 have hb := (h.own _ List.mem_cons_self).2
 exact k.run a W ha ⟨h.same, h.dom, hn.2, fun p hp => h.own p (List.mem_cons_of_mem _ hp), closed_mapJ b G, lt_of_heap hb, hn.1, [], 0, hb, fun e he => by cases he⟩
end
end Kin
end Go

namespace Go
open Go.RowKit
namespace Kin
section
variable {P : Program} {N : Nat} {c : Cx} {Q : Exit -> Act -> World -> Prop} {env : List (Nat × Value)} {mem mem' : List (Nat × Obj)} {L l : List Oper} {ty : TypeId} {pos : String} {af : Array Edge} {g : Option (Nat × Bool)}
/-- a call that leaves something behind of which a predicate tells: from here on the world that it leaves is the ground -/
theorem l_callF {F : Fence} {n : Nat} {ds : List Deferred} {w0 : World} {D : Nat -> Prop} {J : (Nat -> Prop) -> World -> Prop} [Wide F] {f : FuncId} [Ent P f] {d : Nat} {args : List Operand} {ats : Array TypeId} {vs : List Value} {ι : Type} {v : ι -> Value} (R : ι -> World -> World -> Prop)
  (hw : wantB L env g = some true) (hd : Nat.blt d N = true) (ha : evOps env args some = some vs) (hM : MSub mem mem')
  (hc : ∀ W, SatW w0 D J mem W -> Calls P f ⟨vs⟩ W fun e W' => ∃ i, e = .returned (v i) /\ Under W.heap.size W W' /\ R i W W')
  (k : ∀ i W W', SatW w0 D J mem W -> Under W.heap.size W W' -> SatW w0 D J mem' W' -> R i W W' -> RunL P N ⟨F, n, ds, W', allBut W' (mem'.map (·.1)), noJ⟩ L l Q ((d, v i) :: env) mem') :
  RunL P N ⟨F, n, ds, w0, D, J⟩ L (⟨some d, .call ⟨.value (.func f), ⟨args⟩, ats⟩, ty, pos, af, g⟩ :: l) Q env mem :=
 l_run hw fun a W hA hm => by
  have h1 := hA.evals ha
  simp only [Option.some.injEq] at h1
  rw [semAt_plain _ rfl, p_call, h1]
  refine ⟨Wide.depth F n, (Wide.calls (F := F) (hc W hm)).mono ?_⟩
  rintro e W' ⟨i, rfl, hb, hR⟩
  have h2 : SatW w0 D J mem' W' := (hm.later hb).mono hM.sub
  exact (k i W W' hm hb h2 hR).run _ _ (hA.put hd _) (satW_fresh h2.nodup fun p hp => (h2.own p hp).2)
end
/-- a row's slice, read from the block of slices -/
theorem Ext.at {W : World} {D : Nat -> Prop} {b o : Nat} {cs : List Value} {i : Nat} {v : Value} (h : Ext W D b o cs) (hi : cs[i]? = some v) : Ext W D b (o + i) [v] :=
 ⟨h.dom, fun j u hj => by
  cases j with
  | zero => simp at hj; subst hj; exact h.cell i v hi
  | succ j => simp at hj⟩
end Kin
end Go

namespace Go
open Go.RowKit
namespace Kin
section
variable {P : Program} {N : Nat} {c : Cx} {Q : Exit -> Act -> World -> Prop} {env : List (Nat × Value)} {mem mem' : List (Nat × Obj)} {L l : List Oper} {tt : List (TypeId × TI)} {ty : TypeId} {pos : String} {af : Array Edge} {g : Option (Nat × Bool)} {dd : Option Tmp}
/-- nothing is appended: the slice as it is -/
theorem v_append0 [T : TT P tt] {t e n cap cx sz bt sz' bt' : Nat} {A B : Option Addr} {ke : TK} {z z' : Value} {x y : Operand}
  (hx : evOp env x = some (.slice B n cap)) (hy : evOp env y = some (.slice A 0 cx)) (ht : look tt t = some ⟨.slice e, sz', bt', z'⟩) (hte : look tt e = some ⟨ke, sz, bt, z⟩) (hle : n <= cap) :
  OpVal P N c env mem ⟨dd, .call ⟨.builtin .append, ⟨[x, y]⟩, ⟨[t, t]⟩⟩, ty, pos, af, g⟩ (.slice B n cap) := by
 have hu : P.underlying t = some (.slice e) := (TT.look (P := P) ht).1
 obtain ⟨_, inf, hi, hs, hbt, hz⟩ := TT.look (P := P) hte
 refine ⟨rfl, fun a W ha hmm => p_append (ha.eval hx) (ha.eval hy) ?_⟩
 cases A <;> cases B <;> simp [Builtin.append_, Sem.run_bind, run_und hu, run_size hi, Builtin.lenOf, hle, Builtin.firstCells, storeCells, Sem.run_pure, loadCells, loadCellsFrom]
end
section
variable {P : Program} {N : Nat} {c : Cx} {Q : Exit -> Act -> World -> Prop} {env : List (Nat × Value)} {mem mem' : List (Nat × Obj)}
/-! ## Where ways meet, on a new ground -/
end
end Kin
end Go

namespace Go
open Go.RowKit
namespace Kin
section
variable {P : Program} {N : Nat} {c : Cx} {Q : Exit -> Act -> World -> Prop} {env : List (Nat × Value)} {mem mem' : List (Nat × Obj)} {L l : List Oper} {tt : List (TypeId × TI)} {ty : TypeId} {pos : String} {af : Array Edge} {g : Option (Nat × Bool)} {d : Nat} [Wide c.F]
theorem l_perm (hp : mem.Perm mem') (k : RunL P N c L l Q env mem') : RunL P N c L l Q env mem := .mk fun a W ha hm => k.run a W ha (hm.perm hp)
theorem Rem.perm {b : Nat} {o : Obj} (h : Rem mem b o mem') : mem.Perm ((b, o) :: mem') := by
 induction h with
 | head => exact List.Perm.refl _
 | tail h ih => exact (ih.cons _).trans (List.Perm.swap _ _ _)
/-- an array that came in is what is appended, or nothing is -/
def NewsG (c : Cx) (mem : List (Nat × Obj)) (A : Option Addr) (m : Nat) (ys : List Value) : Prop := (m = 0 /\ ys = []) ∨ ∃ bx ox, A = some ⟨bx, ox, none⟩ /\ News c mem bx ox ys
theorem r_appendG [T : TT P tt] {t e n cap b m cx sz bt sz' bt' : Nat} {A : Option Addr} {ke : TK} {z z' : Value} {x y : Operand} {xs rest ys : List Value} (hw : wantB L env g = some true) (hd : Nat.blt d N = true)
  (hx : evOp env x = some (.slice (some ⟨b, 0, none⟩) n cap)) (hy : evOp env y = some (.slice A m cx)) (ht : look tt t = some ⟨.slice e, sz', bt', z'⟩) (hte : look tt e = some ⟨ke, sz, bt, z⟩) (hnews : NewsG c mem A m ys)
  (hr : Rem mem b (.cells ⟨xs ++ rest⟩ e (0, 0)) mem') (hg : Grow sz n xs cap rest)
  (hl : ys.length = m * sz) (hone : allOne ys = true) (hzl : Nat.beq (cellsL z).length sz = true) (hb : (n + m) * bt <= 140737488355328) (hm : n + m <= maxLen)
  (k : ∀ b cap rest, Grow sz (n + m) (xs ++ ys) cap rest -> RunL P N c L l Q ((d, .slice (some ⟨b, 0, none⟩) (n + m) cap) :: env) ((b, .cells ⟨xs ++ ys ++ rest⟩ e (0, 0)) :: mem')) :
  RunL P N c L (⟨some d, .call ⟨.builtin .append, ⟨[x, y]⟩, ⟨[t, t]⟩⟩, ty, pos, af, g⟩ :: l) Q env mem := by
 rcases hnews with ⟨rfl, rfl⟩ | ⟨bx, ox, rfl, hn⟩
 ·refine lVa hw hd (v_append0 hx hy ht hte hg.le) (l_perm hr.perm ?_)
  have := k b cap rest (by rw [List.append_nil]; exact hg)
  rw [List.append_nil] at this
  exact this
 ·exact r_append hw hd hx hy ht hte hn hr hg hl hone hzl hb hm k
end
end Kin
end Go

namespace Go
open Go.RowKit
namespace Kin
section
variable {P : Program} {N : Nat} {c : Cx} {Q : Exit -> Act -> World -> Prop} {env : List (Nat × Value)} {mem : List (Nat × Obj)} {L l : List Oper} {ty : TypeId} {pos : String} {af : Array Edge} {g : Option (Nat × Bool)}
end
end Kin
end Go

namespace Go
open Go.RowKit
namespace Kin
section
variable {P : Program} {N : Nat} {c : Cx} {Q : Exit -> Act -> World -> Prop} {env : List (Nat × Value)} {mem : List (Nat × Obj)} {L l : List Oper} {ty : TypeId} {pos : String} {af : Array Edge} {g : Option (Nat × Bool)}
/-- a rule of blocks that lie in another order -/
theorem c_perm {x : Code} {mem' : List (Nat × Obj)} (hp : mem.Perm mem') (k : RunC P N c x Q env mem') : RunC P N c x Q env mem := .mk fun a W ha hm => k.run a W ha (hm.perm hp)
end
end Kin
end Go

namespace Go
open Go.RowKit
namespace Kin
section
variable {P : Program} {N : Nat} {c : Cx} {Q : Exit -> Act -> World -> Prop} {env : List (Nat × Value)} {mem : List (Nat × Obj)} {L l : List Oper} {tt : List (TypeId × TI)} [Wide c.F]
 {ty : TypeId} {pos : String} {af : Array Edge} {g : Option (Nat × Bool)} {dd : Option Tmp}
end
end Kin
end Go

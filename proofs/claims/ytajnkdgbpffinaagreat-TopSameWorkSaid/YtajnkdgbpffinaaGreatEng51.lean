/- The engine: maps from numbers to anything, and ranges over maps. Generic: no program is named here. -/
import Derived.Test.YtajnkdgbpffinaaGreatEng43
import Derived.Maps.RangeRun
import Derived.RangeFuncNested
set_option linter.unusedSectionVars false
set_option linter.unusedVariables false
set_option linter.unusedSimpArgs false
namespace Go
open Go.RowKit
namespace Kin
/-- the entries of a map keyed by numbers, in the order in which they came -/
def imF : Nat -> List (Int × Value) -> List MapEntry
 | _, [] => []
 | k, p :: l => ⟨.int .i64 p.1, p.2, k⟩ :: imF (k + 1) l
theorem imF_len : ∀ {l : List (Int × Value)} {k : Nat}, (imF k l).length = l.length
 | [], _ => rfl
 | _ :: l, k => by rw [imF, List.length_cons, imF_len, List.length_cons]
theorem imF_snoc (x : Int × Value) : ∀ (l : List (Int × Value)) (k : Nat), imF k (l ++ [x]) = imF k l ++ [⟨.int .i64 x.1, x.2, k + l.length⟩]
 | [], k => rfl
 | y :: l, k => by
  rw [List.cons_append, imF, imF_snoc x l (k + 1), imF, List.cons_append, List.length_cons, show k + 1 + l.length = k + (l.length + 1) by omega]
theorem imF_get : ∀ {l : List (Int × Value)} {k i : Nat} {p : Int × Value}, l[i]? = some p -> (imF k l)[i]? = some ⟨.int .i64 p.1, p.2, k + i⟩
 | _ :: l, k, 0, p, h => by cases h; rfl
 | y :: l, k, i + 1, p, h => by
  rw [imF, List.getElem?_cons_succ, imF_get (k := k + 1) (i := i) h, show k + 1 + i = k + (i + 1) by omega]
theorem imF_in {l : List (Int × Value)} {k i : Nat} {e : MapEntry} (h : (imF k l)[i]? = some e) : ∃ p, l[i]? = some p /\ e = ⟨.int .i64 p.1, p.2, k + i⟩ := by
 have hlt := (List.getElem?_eq_some_iff.1 h).1
 rw [imF_len] at hlt
 refine ⟨l[i], List.getElem?_eq_getElem hlt, ?_⟩
 rw [imF_get (List.getElem?_eq_getElem hlt)] at h
 exact (Option.some.inj h).symm
theorem imF_mem {l : List (Int × Value)} {k : Nat} {e : MapEntry} (h : e ∈ imF k l) : ∃ i p, l[i]? = some p /\ e = ⟨.int .i64 p.1, p.2, k + i⟩ := by
 obtain ⟨i, hi⟩ := List.getElem?_of_mem h
 obtain ⟨p, h1, h2⟩ := imF_in hi
 exact ⟨i, p, h1, h2⟩
def imO (l : List (Int × Value)) : Obj := .map ⟨imF 0 l⟩ l.length
/-- what a key has -/
def imGet : List (Int × Value) -> Int -> Option Value
 | [], _ => none
 | p :: l, k => if p.1 = k then some p.2 else imGet l k
def imSet : List (Int × Value) -> Int -> Value -> List (Int × Value)
 | [], _, _ => []
 | p :: l, k, v => if p.1 = k then (k, v) :: l else p :: imSet l k v
/-- a key is given a value -/
def imPut (l : List (Int × Value)) (k : Int) (v : Value) : List (Int × Value) := if (imGet l k).isSome then imSet l k v else l ++ [(k, v)]
theorem imGet_none {k : Int} : ∀ {l : List (Int × Value)}, imGet l k = none ↔ ∀ p ∈ l, p.1 ≠ k
 | [] => by simp [imGet]
 | p :: l => by
  rw [imGet]
  by_cases h : p.1 = k
  ·rw [if_pos h]; simp [h]
  ·rw [if_neg h, imGet_none]; simp [h]
theorem imF_find {k : Int} {l : List (Int × Value)} : ∀ {b i : Nat}, (imGet l k = none /\ Instr.findNow (.int .i64) (.int .i64 k) (imF b l) i = some none) ∨ ∃ (v : Value) (j : Nat), imGet l k = some v /\ l[j]? = some (k, v) /\ Instr.findNow (.int .i64) (.int .i64 k) (imF b l) i = some (some (i + j, v)) /\ (imF b l).modify j (fun e => { e with key := .int .i64 k, val := e.val }) = imF b l /\ ∀ w : Value, (imF b l).modify j (fun e => { e with key := .int .i64 k, val := w }) = imF b (imSet l k w) := by
 induction l with
 | nil => exact fun {b i} => .inl ⟨rfl, rfl⟩
 | cons p l ih =>
  intro b i
  have hk : MapKept.IsKey (.int .i64) (.int .i64 k) := rfl
  obtain ⟨r, hr, hiff⟩ := MapKept.sameNow_of_keys hk (show MapKept.IsKey (.int .i64) (.int .i64 p.1) from rfl)
  by_cases hp : p.1 = k
  ·have hrt : r = true := hiff.2 (by rw [hp])
   subst hrt
   refine .inr ⟨p.2, 0, by rw [imGet, if_pos hp], by rw [<- hp]; rfl, by simp [imF, Instr.findNow, hr], ?_, fun w => ?_⟩
   ·simp [imF, hp]
   ·simp [imF, imSet, hp]
  ·have hrf : r = false := by
    cases r with
    | false => rfl
    | true =>
     have := hiff.1 rfl
     injection this with _ h2
     exact absurd h2.symm hp
   subst hrf
   rcases ih (b := b + 1) (i := i + 1) with ⟨h1, h2⟩ | ⟨v, j, h1, h2, h3, h4, h5⟩
   ·exact .inl ⟨by rw [imGet, if_neg hp]; exact h1, by simp [imF, Instr.findNow, hr, h2]⟩
   ·refine .inr ⟨v, j + 1, by rw [imGet, if_neg hp]; exact h1, h2, by simp [imF, Instr.findNow, hr, h3]; omega, ?_, fun w => ?_⟩
    ·simp only [imF, List.modify_succ_cons]; rw [h4]
    ·simp only [imF, List.modify_succ_cons, imSet, if_neg hp]; rw [h5]
theorem imPut_new {l : List (Int × Value)} {k : Int} {v : Value} (h : imGet l k = none) : imPut l k v = l ++ [(k, v)] := by unfold imPut; rw [h]; rfl
theorem imPut_old {l : List (Int × Value)} {k : Int} {v w : Value} (h : imGet l k = some w) : imPut l k v = imSet l k v := by unfold imPut; rw [h]; rfl
theorem imSet_len {k : Int} {v : Value} : ∀ {l : List (Int × Value)}, (imSet l k v).length = l.length
 | [] => rfl
 | p :: l => by rw [imSet]; split <;> simp [imSet_len]
theorem imSet_get {k q : Int} {v : Value} : ∀ {l : List (Int × Value)}, (imGet l k).isSome -> imGet (imSet l k v) q = if q = k then some v else imGet l q
 | [], h => by cases h
 | p :: l, h => by
  rw [imSet]
  by_cases hp : p.1 = k
  ·rw [if_pos hp, imGet]
   simp only
   by_cases hq : q = k
   ·rw [if_pos hq.symm, if_pos hq]
   ·rw [if_neg (fun e => hq e.symm), if_neg hq, imGet, if_neg (by rw [hp]; exact fun e => hq e.symm)]
  ·rw [if_neg hp, imGet, imGet]
   rw [imGet, if_neg hp] at h
   by_cases hq : p.1 = q
   ·rw [if_pos hq, if_pos hq, if_neg (by rw [<- hq]; exact hp)]
   ·rw [if_neg hq, if_neg hq, imSet_get h]
theorem imGet_app {k : Int} : ∀ {l m : List (Int × Value)}, imGet (l ++ m) k = (imGet l k).or (imGet m k)
 | [], m => by simp [imGet]
 | p :: l, m => by
  rw [List.cons_append, imGet, imGet]
  by_cases h : p.1 = k
  ·rw [if_pos h, if_pos h]; rfl
  ·rw [if_neg h, if_neg h, imGet_app]
theorem imPut_get {l : List (Int × Value)} {k q : Int} {v : Value} : imGet (imPut l k v) q = if q = k then some v else imGet l q := by
 unfold imPut
 by_cases h : (imGet l k).isSome
 ·rw [if_pos h, imSet_get h]
 ·rw [if_neg h, imGet_app, imGet, imGet]
  rw [Option.not_isSome_iff_eq_none] at h
  simp only
  by_cases hq : q = k
  ·rw [if_pos hq.symm, if_pos hq, hq, h]; rfl
  ·rw [if_neg (fun e => hq e.symm), if_neg hq]; cases imGet l q <;> rfl
section
variable {P : Program} {N : Nat} {c : Cx} {Q : Exit -> Act -> World -> Prop} {env : List (Nat × Value)} {mem mem' : List (Nat × Obj)} {L l : List Oper} {tt : List (TypeId × TI)} [Wide c.F]
 {ty : TypeId} {pos : String} {af : Array Edge} {g : Option (Nat × Bool)} {dd : Option Tmp}
theorem v_imGet [T : TT P tt] {t kt et b : Nat} {m kx : Operand} {k : Int} {s : List (Int × Value)} {kd : TK} {sz bt sz' bt' sz2 bt2 : Nat} {z z' z2 out : Value} {ok : Bool}
  (hm0 : evOp env m = some (.map (some b))) (hk : evOp env kx = some (.int .i64 k)) (ht : look tt t = some ⟨.map kt et, sz, bt, z⟩) (hkt : look tt kt = some ⟨.int .i64, sz', bt', z'⟩) (het : look tt et = some ⟨kd, sz2, bt2, z2⟩)
  (hin : (b, imO s) ∈ mem) (ho : (match imGet s k with | some v => (match ok with | true => Value.tuple ⟨[v, .bool true]⟩ | false => v) | none => (match ok with | true => Value.tuple ⟨[z2, .bool false]⟩ | false => z2)) = out) :
  OpVal P N c env mem ⟨dd, .lookup t m kx ok, ty, pos, af, g⟩ out :=
 ⟨rfl, fun a W ha hm => by
  have hb := (hm.own _ hin).2
  have hku : P.underlying kt = some (.int .i64) := (TT.look (P := P) hkt).1
  have hmu : P.underlying t = some (.map kt et) := (TT.look (P := P) ht).1
  obtain ⟨_, i', hi, _, _, hz⟩ := TT.look (P := P) het
  have hz2 : (zeroValue et).run P W = .ok z2 W := by
   simp only [zeroValue, Sem.run_bind, run_info hi, Result.andThen_ok, hz]; rfl
  unfold imO at hb
  subst ho
  rcases imF_find (k := k) (l := s) (b := 0) (i := 0) with ⟨h1, h2⟩ | ⟨v, j, h1, _, h2, _, _⟩
  ·rw [h1]
   simp only [execOp, ha.eval hm0, ha.eval hk, Instr.lookup, Sem.run_bind, run_und hmu, Result.andThen_ok, MapKept.run_getObj_map hb, Sem.run_pure, MapKept.run_checkKey hku (k := .int .i64 k) rfl, MapKept.run_findKey hku h2, hz2]
   cases ok <;> rfl
  ·rw [h1]
   simp only [execOp, ha.eval hm0, ha.eval hk, Instr.lookup, Sem.run_bind, run_und hmu, Result.andThen_ok, MapKept.run_getObj_map hb, Sem.run_pure, MapKept.run_checkKey hku (k := .int .i64 k) rfl, MapKept.run_findKey hku h2]
   cases ok <;> rfl⟩
theorem imF_array {l : List (Int × Value)} {j : Nat} {f : MapEntry -> MapEntry} : (⟨imF 0 l⟩ : Array MapEntry).modify j f = ⟨(imF 0 l).modify j f⟩ := by
 apply Array.ext'
 simp
theorem d_imPut [T : TT P tt] {t kt et b : Nat} {m kx vx : Operand} {k : Int} {v : Value} {s : List (Int × Value)} {sz bt sz' bt' : Nat} {z z' : Value} {mem' : List (Nat × Obj)}
  (hm0 : evOp env m = some (.map (some b))) (hk : evOp env kx = some (.int .i64 k)) (hv : evOp env vx = some v) (ht : look tt t = some ⟨.map kt et, sz, bt, z⟩) (hkt : look tt kt = some ⟨.int .i64, sz', bt', z'⟩)
  (hu : Upd mem b (imO s) (imO (imPut s k v)) mem') :
  OpDo P N c env mem ⟨none, .mapUpdate t m kx vx, ty, pos, af, g⟩ mem' :=
 ⟨rfl, fun a W ha hm => by
  have hb := (hm.own _ hu.isIn).2
  have hku : P.underlying kt = some (.int .i64) := (TT.look (P := P) hkt).1
  have hmu : P.underlying t = some (.map kt et) := (TT.look (P := P) ht).1
  refine ⟨W.putObj b (imO (imPut s k v)), ?_, hm.upd hu (Same.putObj _ _ _ fun h => h rfl) (World.putObj_heap_same (lt_of_heap hb))⟩
  unfold imO at hb ⊢
  rcases imF_find (k := k) (l := s) (b := 0) (i := 0) with ⟨h1, h2⟩ | ⟨w, j, h1, hj, h2, h3, h4⟩
  ·rw [imPut_new h1]
   simp only [execOp, ha.eval hm0, ha.eval hk, ha.eval hv, Instr.mapUpdate, Sem.run_bind, run_und hmu, Result.andThen_ok, MapKept.run_getObj_map hb, MapKept.run_checkKey hku (k := .int .i64 k) rfl, MapKept.run_findKey hku h2]
   rw [MapKept.run_setObj_map _ hb]
   simp [World.putObj, imF_snoc, List.length_append]
  ·rw [imPut_old h1]
   have hst : ((((⟨imF 0 s⟩ : Array MapEntry)[0 + j]?).map (·.key)).getD (.int .i64 k)) = .int .i64 k := by
    have := imF_get (k := 0) hj
    simp [this]
   have hks : (Instr.keyThatStays (.int .i64 k) (.int .i64 k)).run P W = .ok (.int .i64 k) W := MapKept.run_keyThatStays (d := .int .i64) rfl
   simp only [execOp, ha.eval hm0, ha.eval hk, ha.eval hv, Instr.mapUpdate, Sem.run_bind, run_und hmu, Result.andThen_ok, MapKept.run_getObj_map hb, MapKept.run_checkKey hku (k := .int .i64 k) rfl, MapKept.run_findKey hku h2, hst, hks]
   rw [MapKept.run_setObj_map _ hb, Nat.zero_add, imF_array, h4, imSet_len]
   simp [World.putObj]⟩
/-! ## Ranges over maps -/
def itO (b n : Nat) (seen : List Nat) : Obj := .mapIter (some b) n ⟨seen⟩ n
/-- what comes next: nothing, or an entry that has not come yet -/
def NxI (s : List (Int × Value)) (seen : List Nat) : Type := { o : Option Nat // match o with | none => ∀ j, j < s.length -> j ∈ seen | some j => j < s.length /\ j ∉ seen }
def nxV (s : List (Int × Value)) (seen : List Nat) (o : NxI s seen) : Value := match o.1 with
 | none => .tuple ⟨[.bool false]⟩
 | some j => .tuple ⟨[.bool true, .int .i64 (s.getD j (0, .bool false)).1, (s.getD j (0, .bool false)).2]⟩
def nxS (s : List (Int × Value)) (seen : List Nat) (o : NxI s seen) : List Nat := match o.1 with
 | none => seen
 | some j => seen ++ [j]
end
end Kin
end Go

namespace Go
open Go.RowKit
namespace Kin
section
variable {P : Program} {N : Nat} {c : Cx} {Q : Exit -> Act -> World -> Prop} {env : List (Nat × Value)} {mem : List (Nat × Obj)} {L l : List Oper} {tt : List (TypeId × TI)}
 {ty : TypeId} {pos : String} {af : Array Edge} {g : Option (Nat × Bool)} {dd : Option Tmp} {t t' : TypeId} {x y : Operand}
end
end Kin
end Go

namespace Go
open Go.RowKit
namespace Kin
section
variable {P : Program} {N : Nat} {c : Cx} {Q : Exit -> Act -> World -> Prop} {env : List (Nat × Value)} {mem mem' : List (Nat × Obj)} {L l : List Oper} {tt : List (TypeId × TI)} [Wide c.F]
 {ty : TypeId} {pos : String} {af : Array Edge} {g : Option (Nat × Bool)} {dd : Option Tmp}
/-- a map that lies among the own blocks, or in what stays -/
def ImAt (c : Cx) (mem : List (Nat × Obj)) (b : Nat) (s : List (Int × Value)) : Prop := ∀ W, SatW c.w0 c.D c.J mem W -> W.heap[b]? = some (imO s)
theorem ImAt.far {b : Nat} {s : List (Int × Value)} (hD : c.D b) (h : c.w0.heap[b]? = some (imO s)) : ImAt c mem b s := fun _ hm => hm.same.obj h hD
theorem v_imGetG [T : TT P tt] {t kt et b : Nat} {m kx : Operand} {k : Int} {s : List (Int × Value)} {kd : TK} {sz bt sz' bt' sz2 bt2 : Nat} {z z' z2 out : Value} {ok : Bool}
  (hm0 : evOp env m = some (.map (some b))) (hk : evOp env kx = some (.int .i64 k)) (ht : look tt t = some ⟨.map kt et, sz, bt, z⟩) (hkt : look tt kt = some ⟨.int .i64, sz', bt', z'⟩) (het : look tt et = some ⟨kd, sz2, bt2, z2⟩)
  (hin : ImAt c mem b s) (ho : (match imGet s k with | some v => (match ok with | true => Value.tuple ⟨[v, .bool true]⟩ | false => v) | none => (match ok with | true => Value.tuple ⟨[z2, .bool false]⟩ | false => z2)) = out) :
  OpVal P N c env mem ⟨dd, .lookup t m kx ok, ty, pos, af, g⟩ out :=
 ⟨rfl, fun a W ha hm => by
  have hb := hin W hm
  have hku : P.underlying kt = some (.int .i64) := (TT.look (P := P) hkt).1
  have hmu : P.underlying t = some (.map kt et) := (TT.look (P := P) ht).1
  obtain ⟨_, i', hi, _, _, hz⟩ := TT.look (P := P) het
  have hz2 : (zeroValue et).run P W = .ok z2 W := by
   simp only [zeroValue, Sem.run_bind, run_info hi, Result.andThen_ok, hz]; rfl
  unfold imO at hb
  subst ho
  rcases imF_find (k := k) (l := s) (b := 0) (i := 0) with ⟨h1, h2⟩ | ⟨v, j, h1, _, h2, _, _⟩
  ·rw [h1]
   simp only [execOp, ha.eval hm0, ha.eval hk, Instr.lookup, Sem.run_bind, run_und hmu, Result.andThen_ok, MapKept.run_getObj_map hb, Sem.run_pure, MapKept.run_checkKey hku (k := .int .i64 k) rfl, MapKept.run_findKey hku h2, hz2]
   cases ok <;> rfl
  ·rw [h1]
   simp only [execOp, ha.eval hm0, ha.eval hk, Instr.lookup, Sem.run_bind, run_und hmu, Result.andThen_ok, MapKept.run_getObj_map hb, Sem.run_pure, MapKept.run_checkKey hku (k := .int .i64 k) rfl, MapKept.run_findKey hku h2]
   cases ok <;> rfl⟩
theorem l_imRangeG {t kt et b d : Nat} {m : Operand} {s : List (Int × Value)} {sz bt : Nat} {z : Value} [T : TT P tt] (hw : wantB L env g = some true) (hd : Nat.blt d N = true)
  (hm0 : evOp env m = some (.map (some b))) (ht : look tt t = some ⟨.map kt et, sz, bt, z⟩) (hin : ImAt c mem b s)
  (k : ∀ r, RunL P N c L l Q ((d, .pointer (some ⟨r, 0, none⟩)) :: env) ((r, itO b s.length []) :: mem)) :
  RunL P N c L (⟨some d, .range t m, ty, pos, af, g⟩ :: l) Q env mem :=
 l_eff (ι := Nat) (v := fun r => .pointer (some ⟨r, 0, none⟩)) (mem' := fun r => (r, itO b s.length []) :: mem) hw hd ⟨rfl, fun a W ha hm => by
  have hb := hin W hm
  have hmu : P.underlying t = some (.map kt et) := (TT.look (P := P) ht).1
  refine ⟨W.heap.size, _, ?_, hm.alloc _⟩
  unfold imO at hb
  simp only [execOp, ha.eval hm0, Sem.run_bind, run_range_map W t kt et b _ _ hmu hb, Result.andThen_ok]
  rfl⟩ k
theorem l_imNextG {b r d : Nat} {m : Operand} {s : List (Int × Value)} {seen : List Nat} {mem' : List Nat -> List (Nat × Obj)} (hw : wantB L env g = some true) (hd : Nat.blt d N = true)
  (hm0 : evOp env m = some (.pointer (some ⟨r, 0, none⟩))) (hin : ImAt c mem b s) (hu : ∀ seen', Upd mem r (itO b s.length seen) (itO b s.length seen') (mem' seen'))
  (k : ∀ o : NxI s seen, RunL P N c L l Q ((d, nxV s seen o) :: env) (mem' (nxS s seen o))) :
  RunL P N c L (⟨some d, .next m false, ty, pos, af, g⟩ :: l) Q env mem :=
 l_eff (ι := NxI s seen) (v := nxV s seen) (mem' := fun o => mem' (nxS s seen o)) hw hd ⟨rfl, fun a W ha hm => by
  have hb := hin W hm
  have hr := (hm.own _ (hu []).isIn).2
  unfold itO at hr
  unfold imO at hb
  have hold : ∀ x ∈ (⟨imF 0 s⟩ : Array MapEntry).toList, x.born < s.length := fun x hx => by
   obtain ⟨i, p, h1, rfl⟩ := imF_mem hx
   have := (List.getElem?_eq_some_iff.1 h1).1
   simp only; omega
  rcases run_next_at (P := P) W ty r b s.length s.length ⟨seen⟩ ⟨imF 0 s⟩ s.length hr hb hold (Nat.le_refl _) with ⟨h1, h2⟩ | ⟨e, he, w1, hw1, h2⟩
  ·have hall := all_seen _ _ h1
   refine ⟨⟨none, fun j hj => ?_⟩, W, ?_, ?_⟩
   ·have := hall ⟨.int .i64 s[j].1, s[j].2, 0 + j⟩ (List.mem_of_getElem? (imF_get (List.getElem?_eq_getElem hj)))
    simpa using this
   ·simp only [execOp, ha.eval hm0, Sem.run_bind, h2, Result.andThen_ok]
    rfl
   ·have := hm.upd (hu seen) (W' := W) (Same.refl _ _) (by unfold itO; exact hr)
    exact this
  ·obtain ⟨he1, he2⟩ := mem_left he
   obtain ⟨j, p, hj, rfl⟩ := imF_mem he1
   have hjl := (List.getElem?_eq_some_iff.1 hj).1
   have hns : j ∉ seen := by simpa using he2
   have hg : s.getD j (0, .bool false) = p := by rw [List.getD_eq_getElem?_getD, hj]; rfl
   have hsw : SatW c.w0 c.D c.J mem w1 := by
    rcases hw1 with rfl | rfl
    ·exact hm
    ·exact hm.drew
   have hr1 := (hsw.own _ (hu []).isIn).2
   refine ⟨⟨some j, hjl, hns⟩, w1.putObj r (itO b s.length (seen ++ [j])), ?_, hsw.upd (hu _) (Same.putObj _ _ _ fun h => h rfl) (World.putObj_heap_same (lt_of_heap hr1))⟩
   unfold nxV
   simp only [execOp, ha.eval hm0, Sem.run_bind, h2, Result.andThen_ok, hg]
   have : (⟨seen⟩ : Array Nat).push (0 + j) = ⟨seen ++ [j]⟩ := by simp
   simp only [Go.ChangeMaps.setBlock, World.putObj, itO, this]
   rfl⟩ k
end
end Kin
end Go

namespace Go
open Go.RowKit
namespace Kin
section
variable {P : Program} {N : Nat} {c : Cx} {Q : Exit -> Act -> World -> Prop} {env : List (Nat × Value)} {mem mem' : List (Nat × Obj)} {L l : List Oper} {tt : List (TypeId × TI)} [Wide c.F]
 {ty : TypeId} {pos : String} {af : Array Edge} {g : Option (Nat × Bool)} {dd : Option Tmp} {d : Nat}
theorem d_imIns [T : TT P tt] {t kt et b : Nat} {m kx vx : Operand} {k : Int} {v : Value} {s : List (Int × Value)} {sz bt sz' bt' : Nat} {z z' : Value} {mem' : List (Nat × Obj)}
  (hm0 : evOp env m = some (.map (some b))) (hk : evOp env kx = some (.int .i64 k)) (hv : evOp env vx = some v) (ht : look tt t = some ⟨.map kt et, sz, bt, z⟩) (hkt : look tt kt = some ⟨.int .i64, sz', bt', z'⟩)
  (hu : Upd mem b (imO s) (imO (imPut s k v)) mem') :
  OpDo P N c env mem ⟨none, .insert t m kx vx, ty, pos, af, g⟩ mem' :=
 ⟨rfl, fun a W ha hm => (d_imPut (P := P) (N := N) (c := c) (ty := ty) (pos := pos) (af := af) (g := g) hm0 hk hv ht hkt hu).2 a W ha hm⟩
end
section
variable {P : Program} {N : Nat} {c : Cx} {Q : Exit -> Act -> World -> Prop} {env : List (Nat × Value)} {mem : List (Nat × Obj)} {L l : List Oper} {tt : List (TypeId × TI)} [Wide c.F]
 {ty : TypeId} {pos : String} {af : Array Edge} {g : Option (Nat × Bool)} {dd : Option Tmp} {d : Nat} {kt : Kt} {rd : List (Nat × Nat)} {tl : List (Nat × Obj)} {fr : OM}
end
end Kin
end Go

namespace Go
open Go.RowKit
namespace Kin
section
variable {P : Program} {N : Nat} {env : List (Nat × Value)} {mem : List (Nat × Obj)}
end
end Kin
end Go

namespace Go
open Go.RowKit
namespace Kin
section
variable {P : Program} {N : Nat} {c : Cx} {Q : Exit -> Act -> World -> Prop} {env : List (Nat × Value)} {mem mem' : List (Nat × Obj)} {L l : List Oper} {tt : List (TypeId × TI)}
 {ty : TypeId} {pos : String} {af : Array Edge} {g : Option (Nat × Bool)} {dd : Option Tmp}
end
end Kin
end Go

namespace Go
open Go.RowKit
namespace Kin
section
variable {P : Program} {N : Nat} {c : Cx} {Q : Exit -> Act -> World -> Prop} {env : List (Nat × Value)} {mem mem' : List (Nat × Obj)} {L l : List Oper} {tt : List (TypeId × TI)} [Wide c.F]
 {ty : TypeId} {pos : String} {af : Array Edge} {g : Option (Nat × Bool)} {dd : Option Tmp} {d : Nat}
/-! ## Ends behind marks, with a word -/
end
end Kin
end Go

namespace Go
open Go.RowKit
namespace Kin
section
variable {P : Program} {N : Nat} {c : Cx} {env : List (Nat × Value)} {mem : List (Nat × Obj)} {tt : List (TypeId × TI)} {ty : TypeId} {pos : String} {af : Array Edge} {g : Option (Nat × Bool)} {dd : Option Tmp}
theorem v_eqNilS [T : TT P tt] {t t' e n m sz bt : Nat} {z : Value} {ad : Addr} {x : Operand} (ht : look tt t = some ⟨.slice e, sz, bt, z⟩) (hx : evOp env x = some (.slice (some ad) n m)) :
  OpVal P N c env mem ⟨dd, .binOp .eql t x (.const (.slice none 0 0)) t', ty, pos, af, g⟩ (.bool false) := by
 have hu : P.underlying t = some (.slice e) := (TT.look (P := P) ht).1
 refine ⟨rfl, fun a W ha _ => ?_⟩
 have h1 : (eqGuard .eql t x (.const (.slice none 0 0)) (.slice (some ad) n m) (.slice none 0 0)).run P W = .ok () W := by
  unfold eqGuard; simp [Sem.run, pure]
 have h2 : (Op.equal t (.slice (some ad) n m) (.slice none 0 0)).run P W = .ok false W := by
  show (Op.equalIn (9999 + 1) t _ _).run P W = _
  rw [Op.equalIn]
  simp only [Sem.run_bind, run_und hu, Result.andThen_ok]; rfl
 have h3 : a.eval (.const (.slice none 0 0)) = .slice none 0 0 := rfl
 simp only [execOp, ha.eval hx, h3, Sem.run_bind, h1, Result.andThen_ok, binOp, h2]
 rfl
theorem v_eqNilS0 [T : TT P tt] {t t' e sz bt : Nat} {z : Value} {x : Operand} (ht : look tt t = some ⟨.slice e, sz, bt, z⟩) (hx : evOp env x = some (.slice none 0 0)) :
  OpVal P N c env mem ⟨dd, .binOp .eql t x (.const (.slice none 0 0)) t', ty, pos, af, g⟩ (.bool true) := by
 have hu : P.underlying t = some (.slice e) := (TT.look (P := P) ht).1
 refine ⟨rfl, fun a W ha _ => ?_⟩
 have h1 : (eqGuard .eql t x (.const (.slice none 0 0)) (.slice none 0 0) (.slice none 0 0)).run P W = .ok () W := by
  unfold eqGuard; simp [Sem.run, pure]
 have h2 : (Op.equal t (.slice none 0 0) (.slice none 0 0)).run P W = .ok true W := by
  show (Op.equalIn (9999 + 1) t _ _).run P W = _
  rw [Op.equalIn]
  simp only [Sem.run_bind, run_und hu, Result.andThen_ok]; rfl
 have h3 : a.eval (.const (.slice none 0 0)) = .slice none 0 0 := rfl
 simp only [execOp, ha.eval hx, h3, Sem.run_bind, h1, Result.andThen_ok, binOp, h2]
 rfl
end
end Kin
end Go

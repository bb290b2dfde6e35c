/- The engine: maps from numbers to anything, and ranges over maps. Generic: no program is named here. -/
import Derived.Test.YtdegengehbdelaaGreatDoorEng43
import Derived.Maps.RangeRun
import Derived.Test.YtdegengehbdelaaGreatDoorSeA
import Derived.Test.YtdegengehbdelaaGreatDoorClA
set_option linter.unusedSectionVars false
set_option linter.unusedVariables false
set_option linter.unusedSimpArgs false
namespace Go
open Go.RowKit
namespace Kin
/-- the entries of a map keyed by numbers, in the order in which they came -/
def imF : Nat -> List (Int × Value) -> List MapEntry
 | _, [] => []
 | k, p :: l => ⟨.int .i64 p.1, p.2, k⟩ :: imF (k + 1) l
theorem imF_len : ∀ {l : List (Int × Value)} {k : Nat}, (imF k l).length = l.length
 | [], _ => rfl
 | _ :: l, k => by rw [imF, List.length_cons, imF_len, List.length_cons]
theorem imF_snoc (x : Int × Value) : ∀ (l : List (Int × Value)) (k : Nat), imF k (l ++ [x]) = imF k l ++ [⟨.int .i64 x.1, x.2, k + l.length⟩]
 | [], k => rfl
 | y :: l, k => by
  rw [List.cons_append, imF, imF_snoc x l (k + 1), imF, List.cons_append, List.length_cons, show k + 1 + l.length = k + (l.length + 1) by omega]
theorem imF_get : ∀ {l : List (Int × Value)} {k i : Nat} {p : Int × Value}, l[i]? = some p -> (imF k l)[i]? = some ⟨.int .i64 p.1, p.2, k + i⟩
 | _ :: l, k, 0, p, h => by cases h; rfl
 | y :: l, k, i + 1, p, h => by
  rw [imF, List.getElem?_cons_succ, imF_get (k := k + 1) (i := i) h, show k + 1 + i = k + (i + 1) by omega]
theorem imF_in {l : List (Int × Value)} {k i : Nat} {e : MapEntry} (h : (imF k l)[i]? = some e) : ∃ p, l[i]? = some p /\ e = ⟨.int .i64 p.1, p.2, k + i⟩ := by
 have hlt := (List.getElem?_eq_some_iff.1 h).1
 rw [imF_len] at hlt
 refine ⟨l[i], List.getElem?_eq_getElem hlt, ?_⟩
 rw [imF_get (List.getElem?_eq_getElem hlt)] at h
 exact (Option.some.inj h).symm
theorem imF_mem {l : List (Int × Value)} {k : Nat} {e : MapEntry} (h : e ∈ imF k l) : ∃ i p, l[i]? = some p /\ e = ⟨.int .i64 p.1, p.2, k + i⟩ := by
 obtain ⟨i, hi⟩ := List.getElem?_of_mem h
 obtain ⟨p, h1, h2⟩ := imF_in hi
 exact ⟨i, p, h1, h2⟩
theorem imF_born : ∀ {l : List (Int × Value)} {k : Nat}, (imF k l).map (·.born) = (List.range l.length).map (k + ·)
 | [], _ => rfl
 | y :: l, k => by
  rw [imF, List.map_cons, imF_born, List.length_cons, List.range_succ_eq_map, List.map_cons, List.map_map]
  congr 1
  exact List.map_congr_left fun x _ => by simp only [Function.comp]; omega
def imO (l : List (Int × Value)) : Obj := .map ⟨imF 0 l⟩ l.length
/-- what a key has -/
def imGet : List (Int × Value) -> Int -> Option Value
 | [], _ => none
 | p :: l, k => if p.1 = k then some p.2 else imGet l k
def imSet : List (Int × Value) -> Int -> Value -> List (Int × Value)
 | [], _, _ => []
 | p :: l, k, v => if p.1 = k then (k, v) :: l else p :: imSet l k v
/-- a key is given a value -/
def imPut (l : List (Int × Value)) (k : Int) (v : Value) : List (Int × Value) := if (imGet l k).isSome then imSet l k v else l ++ [(k, v)]
theorem imGet_none {k : Int} : ∀ {l : List (Int × Value)}, imGet l k = none ↔ ∀ p ∈ l, p.1 ≠ k
 | [] => by simp [imGet]
 | p :: l => by
  rw [imGet]
  by_cases h : p.1 = k
  ·rw [if_pos h]; simp [h]
  ·rw [if_neg h, imGet_none]; simp [h]
theorem imGet_some {k : Int} {v : Value} : ∀ {l : List (Int × Value)}, imGet l k = some v -> ∃ i : Nat, l[i]? = some (k, v)
 | p :: l, h => by
  rw [imGet] at h
  by_cases hk : p.1 = k
  ·rw [if_pos hk] at h
   exact ⟨0, by rw [<- hk, <- Option.some.inj h]; rfl⟩
  ·rw [if_neg hk] at h
   obtain ⟨i, hi⟩ := imGet_some h
   exact ⟨i + 1, hi⟩
theorem imF_find {k : Int} {l : List (Int × Value)} : ∀ {b i : Nat}, (imGet l k = none /\ Instr.findNow (.int .i64) (.int .i64 k) (imF b l) i = some none) ∨ ∃ (v : Value) (j : Nat), imGet l k = some v /\ l[j]? = some (k, v) /\ Instr.findNow (.int .i64) (.int .i64 k) (imF b l) i = some (some (i + j, v)) /\ (imF b l).modify j (fun e => { e with key := .int .i64 k, val := e.val }) = imF b l /\ ∀ w : Value, (imF b l).modify j (fun e => { e with key := .int .i64 k, val := w }) = imF b (imSet l k w) := by
 induction l with
 | nil => exact fun {b i} => .inl ⟨rfl, rfl⟩
 | cons p l ih =>
  intro b i
  have hk : MapKept.IsKey (.int .i64) (.int .i64 k) := rfl
  obtain ⟨r, hr, hiff⟩ := MapKept.sameNow_of_keys hk (show MapKept.IsKey (.int .i64) (.int .i64 p.1) from rfl)
  by_cases hp : p.1 = k
  ·have hrt : r = true := hiff.2 (by rw [hp])
   subst hrt
   refine .inr ⟨p.2, 0, by rw [imGet, if_pos hp], by rw [<- hp]; rfl, by simp [imF, Instr.findNow, hr], ?_, fun w => ?_⟩
   ·simp [imF, hp]
   ·simp [imF, imSet, hp]
  ·have hrf : r = false := by
    cases r with
    | false => rfl
    | true =>
     have := hiff.1 rfl
     injection this with _ h2
     exact absurd h2.symm hp
   subst hrf
   rcases ih (b := b + 1) (i := i + 1) with ⟨h1, h2⟩ | ⟨v, j, h1, h2, h3, h4, h5⟩
   ·exact .inl ⟨by rw [imGet, if_neg hp]; exact h1, by simp [imF, Instr.findNow, hr, h2]⟩
   ·refine .inr ⟨v, j + 1, by rw [imGet, if_neg hp]; exact h1, h2, by simp [imF, Instr.findNow, hr, h3]; omega, ?_, fun w => ?_⟩
    ·simp only [imF, List.modify_succ_cons]; rw [h4]
    ·simp only [imF, List.modify_succ_cons, imSet, if_neg hp]; rw [h5]
theorem imPut_new {l : List (Int × Value)} {k : Int} {v : Value} (h : imGet l k = none) : imPut l k v = l ++ [(k, v)] := by unfold imPut; rw [h]; rfl
theorem imPut_old {l : List (Int × Value)} {k : Int} {v w : Value} (h : imGet l k = some w) : imPut l k v = imSet l k v := by unfold imPut; rw [h]; rfl
theorem imSet_len {k : Int} {v : Value} : ∀ {l : List (Int × Value)}, (imSet l k v).length = l.length
 | [] => rfl
 | p :: l => by rw [imSet]; split <;> simp [imSet_len]
theorem imSet_get {k q : Int} {v : Value} : ∀ {l : List (Int × Value)}, (imGet l k).isSome -> imGet (imSet l k v) q = if q = k then some v else imGet l q
 | [], h => by cases h
 | p :: l, h => by
  rw [imSet]
  by_cases hp : p.1 = k
  ·rw [if_pos hp, imGet]
   simp only
   by_cases hq : q = k
   ·rw [if_pos hq.symm, if_pos hq]
   ·rw [if_neg (fun e => hq e.symm), if_neg hq, imGet, if_neg (by rw [hp]; exact fun e => hq e.symm)]
  ·rw [if_neg hp, imGet, imGet]
   rw [imGet, if_neg hp] at h
   by_cases hq : p.1 = q
   ·rw [if_pos hq, if_pos hq, if_neg (by rw [<- hq]; exact hp)]
   ·rw [if_neg hq, if_neg hq, imSet_get h]
theorem imGet_app {k : Int} : ∀ {l m : List (Int × Value)}, imGet (l ++ m) k = (imGet l k).or (imGet m k)
 | [], m => by simp [imGet]
 | p :: l, m => by
  rw [List.cons_append, imGet, imGet]
  by_cases h : p.1 = k
  ·rw [if_pos h, if_pos h]; rfl
  ·rw [if_neg h, if_neg h, imGet_app]
theorem imPut_get {l : List (Int × Value)} {k q : Int} {v : Value} : imGet (imPut l k v) q = if q = k then some v else imGet l q := by
 unfold imPut
 by_cases h : (imGet l k).isSome
 ·rw [if_pos h, imSet_get h]
 ·rw [if_neg h, imGet_app, imGet, imGet]
  rw [Option.not_isSome_iff_eq_none] at h
  simp only
  by_cases hq : q = k
  ·rw [if_pos hq.symm, if_pos hq, hq, h]; rfl
  ·rw [if_neg (fun e => hq e.symm), if_neg hq]; cases imGet l q <;> rfl
/-- keys are all different -/
def imOK (l : List (Int × Value)) : Prop := (l.map (·.1)).Nodup
theorem imSet_keys {k : Int} {v : Value} : ∀ {l : List (Int × Value)}, (imSet l k v).map (·.1) = l.map (·.1)
 | [] => rfl
 | p :: l => by
  rw [imSet]
  split
  ·rename_i h; simp [h]
  ·simp [imSet_keys]
theorem imPut_ok {l : List (Int × Value)} {k : Int} {v : Value} (h : imOK l) : imOK (imPut l k v) := by
 unfold imPut imOK
 by_cases hs : (imGet l k).isSome
 ·rw [if_pos hs, imSet_keys]; exact h
 ·rw [if_neg hs, List.map_append, List.nodup_append]
  rw [Option.not_isSome_iff_eq_none, imGet_none] at hs
  refine ⟨h, by simp, fun a ha b hb e => ?_⟩
  obtain ⟨p, hp, rfl⟩ := List.mem_map.1 ha
  exact hs p hp (e.trans (by simpa using hb))
theorem imGet_at {l : List (Int × Value)} (h : imOK l) {i : Nat} {p : Int × Value} (hi : l[i]? = some p) : imGet l p.1 = some p.2 := by
 induction l generalizing i with
 | nil => cases hi
 | cons q l ih =>
  unfold imOK at h
  rw [List.map_cons, List.nodup_cons] at h
  rw [imGet]
  cases i with
  | zero => cases hi; rw [if_pos rfl]
  | succ i =>
   have hm : p ∈ l := List.mem_of_getElem? hi
   rw [if_neg (fun e => h.1 (List.mem_map.2 ⟨p, hm, e.symm⟩))]
   exact ih h.2 hi
section
variable {P : Program} {N : Nat} {c : Cx} {Q : Exit -> Act -> World -> Prop} {env : List (Nat × Value)} {mem mem' : List (Nat × Obj)} {L l : List Oper} {tt : List (TypeId × TI)} [Wide c.F]
 {ty : TypeId} {pos : String} {af : Array Edge} {g : Option (Nat × Bool)} {dd : Option Tmp}
theorem v_imGet [T : TT P tt] {t kt et b : Nat} {m kx : Operand} {k : Int} {s : List (Int × Value)} {kd : TK} {sz bt sz' bt' sz2 bt2 : Nat} {z z' z2 out : Value} {ok : Bool}
  (hm0 : evOp env m = some (.map (some b))) (hk : evOp env kx = some (.int .i64 k)) (ht : look tt t = some ⟨.map kt et, sz, bt, z⟩) (hkt : look tt kt = some ⟨.int .i64, sz', bt', z'⟩) (het : look tt et = some ⟨kd, sz2, bt2, z2⟩)
  (hin : (b, imO s) ∈ mem) (ho : (match imGet s k with | some v => (match ok with | true => Value.tuple ⟨[v, .bool true]⟩ | false => v) | none => (match ok with | true => Value.tuple ⟨[z2, .bool false]⟩ | false => z2)) = out) :
  OpVal P N c env mem ⟨dd, .lookup t m kx ok, ty, pos, af, g⟩ out :=
 ⟨rfl, fun a W ha hm => by
  have hb := (hm.own _ hin).2
  have hku : P.underlying kt = some (.int .i64) := (TT.look (P := P) hkt).1
  have hmu : P.underlying t = some (.map kt et) := (TT.look (P := P) ht).1
  obtain ⟨_, i', hi, _, _, hz⟩ := TT.look (P := P) het
  have hz2 : (zeroValue et).run P W = .ok z2 W := by
   simp only [zeroValue, Sem.run_bind, run_info hi, Result.andThen_ok, hz]; rfl
  unfold imO at hb
  subst ho
  rcases imF_find (k := k) (l := s) (b := 0) (i := 0) with ⟨h1, h2⟩ | ⟨v, j, h1, _, h2, _, _⟩
  ·rw [h1]
   simp only [execOp, ha.eval hm0, ha.eval hk, Instr.lookup, Sem.run_bind, run_und hmu, Result.andThen_ok, MapKept.run_getObj_map hb, Sem.run_pure, MapKept.run_checkKey hku (k := .int .i64 k) rfl, MapKept.run_findKey hku h2, hz2]
   cases ok <;> rfl
  ·rw [h1]
   simp only [execOp, ha.eval hm0, ha.eval hk, Instr.lookup, Sem.run_bind, run_und hmu, Result.andThen_ok, MapKept.run_getObj_map hb, Sem.run_pure, MapKept.run_checkKey hku (k := .int .i64 k) rfl, MapKept.run_findKey hku h2]
   cases ok <;> rfl⟩
theorem imF_array {l : List (Int × Value)} {j : Nat} {f : MapEntry -> MapEntry} : (⟨imF 0 l⟩ : Array MapEntry).modify j f = ⟨(imF 0 l).modify j f⟩ := by
 apply Array.ext'
 simp
theorem d_imPut [T : TT P tt] {t kt et b : Nat} {m kx vx : Operand} {k : Int} {v : Value} {s : List (Int × Value)} {sz bt sz' bt' : Nat} {z z' : Value} {mem' : List (Nat × Obj)}
  (hm0 : evOp env m = some (.map (some b))) (hk : evOp env kx = some (.int .i64 k)) (hv : evOp env vx = some v) (ht : look tt t = some ⟨.map kt et, sz, bt, z⟩) (hkt : look tt kt = some ⟨.int .i64, sz', bt', z'⟩)
  (hu : Upd mem b (imO s) (imO (imPut s k v)) mem') :
  OpDo P N c env mem ⟨none, .mapUpdate t m kx vx, ty, pos, af, g⟩ mem' :=
 ⟨rfl, fun a W ha hm => by
  have hb := (hm.own _ hu.isIn).2
  have hku : P.underlying kt = some (.int .i64) := (TT.look (P := P) hkt).1
  have hmu : P.underlying t = some (.map kt et) := (TT.look (P := P) ht).1
  refine ⟨W.putObj b (imO (imPut s k v)), ?_, hm.upd hu (Same.putObj _ _ _ fun h => h rfl) (World.putObj_heap_same (lt_of_heap hb))⟩
  unfold imO at hb ⊢
  rcases imF_find (k := k) (l := s) (b := 0) (i := 0) with ⟨h1, h2⟩ | ⟨w, j, h1, hj, h2, h3, h4⟩
  ·rw [imPut_new h1]
   simp only [execOp, ha.eval hm0, ha.eval hk, ha.eval hv, Instr.mapUpdate, Sem.run_bind, run_und hmu, Result.andThen_ok, MapKept.run_getObj_map hb, MapKept.run_checkKey hku (k := .int .i64 k) rfl, MapKept.run_findKey hku h2]
   rw [MapKept.run_setObj_map _ hb]
   simp [World.putObj, imF_snoc, List.length_append]
  ·rw [imPut_old h1]
   have hst : ((((⟨imF 0 s⟩ : Array MapEntry)[0 + j]?).map (·.key)).getD (.int .i64 k)) = .int .i64 k := by
    have := imF_get (k := 0) hj
    simp [this]
   have hks : (Instr.keyThatStays (.int .i64 k) (.int .i64 k)).run P W = .ok (.int .i64 k) W := MapKept.run_keyThatStays (d := .int .i64) rfl
   simp only [execOp, ha.eval hm0, ha.eval hk, ha.eval hv, Instr.mapUpdate, Sem.run_bind, run_und hmu, Result.andThen_ok, MapKept.run_getObj_map hb, MapKept.run_checkKey hku (k := .int .i64 k) rfl, MapKept.run_findKey hku h2, hst, hks]
   rw [MapKept.run_setObj_map _ hb, Nat.zero_add, imF_array, h4, imSet_len]
   simp [World.putObj]⟩
/-! ## Ranges over maps -/
def itO (b n : Nat) (seen : List Nat) : Obj := .mapIter (some b) n ⟨seen⟩ n
/-- what comes next: nothing, or an entry that has not come yet -/
def NxI (s : List (Int × Value)) (seen : List Nat) : Type := { o : Option Nat // match o with | none => ∀ j, j < s.length -> j ∈ seen | some j => j < s.length /\ j ∉ seen }
def nxV (s : List (Int × Value)) (seen : List Nat) (o : NxI s seen) : Value := match o.1 with
 | none => .tuple ⟨[.bool false]⟩
 | some j => .tuple ⟨[.bool true, .int .i64 (s.getD j (0, .bool false)).1, (s.getD j (0, .bool false)).2]⟩
def nxS (s : List (Int × Value)) (seen : List Nat) (o : NxI s seen) : List Nat := match o.1 with
 | none => seen
 | some j => seen ++ [j]
end
end Kin
end Go

namespace Go
open Go.RowKit
namespace Kin
section
variable {P : Program} {N : Nat} {c : Cx} {Q : Exit -> Act -> World -> Prop} {env : List (Nat × Value)} {mem : List (Nat × Obj)} {L l : List Oper} {tt : List (TypeId × TI)}
 {ty : TypeId} {pos : String} {af : Array Edge} {g : Option (Nat × Bool)} {dd : Option Tmp} {t t' : TypeId} {x y : Operand}
theorem v_andNotA {m n r : Int} (hx : evOp env x = some (.int .i64 m)) (hy : evOp env y = some (.int .i64 n)) (hr : bits .andNot .i64 m n = r) : OpVal P N c env mem ⟨dd, .binOp .andNot t x y t', ty, pos, af, g⟩ (.int .i64 r) :=
 ⟨rfl, fun a W ha _ => by
  have : (execOp a.eval ⟨dd, .binOp .andNot t x y t', ty, pos, af, g⟩).run P W = .ok (.value (.int .i64 (bits .andNot .i64 m n))) W := by
   simp only [execOp, ha.eval hx, ha.eval hy, eqGuard, binOp]; rfl
  rw [this, hr]⟩
end
theorem and_small : ∀ a, a < 64 -> ∀ b, b < 64 -> bits .and .i64 ((a : Nat) : Int) ((b : Nat) : Int) = ((a &&& b : Nat) : Int) := by decide +kernel
theorem andNot_small : ∀ a, a < 64 -> ∀ b, b < 64 -> bits .andNot .i64 ((a : Nat) : Int) ((b : Nat) : Int) = ((a - (a &&& b) : Nat) : Int) := by decide +kernel
theorem neg_small : ∀ a, a < 64 -> 0 < a -> bits .and .i64 ((a : Nat) : Int) (-((a : Nat) : Int)) = ((a - (a &&& (a - 1)) : Nat) : Int) := by decide +kernel
end Kin
end Go

set_option maxRecDepth 100000
set_option maxHeartbeats 400000000
namespace Go.Proofs
open Go.RowKit Go.Kin Go.Kin.Se
namespace R41
def nE (x : Nat) : List Value := [.int .i64 x]
def cst (l : List Nat) : List Int := l.map fun x : Nat => (x : Int)
theorem cst_rows (l : List Nat) : (cst l).map inE = l.map nE := by unfold cst; rw [List.map_map]; rfl
theorem cst_len (l : List Nat) : (cst l).length = l.length := List.length_map ..
theorem cst_mem {l : List Nat} {x : Nat} : (x : Int) ∈ cst l ↔ x ∈ l := by
 unfold cst
 rw [List.mem_map]
 exact ⟨fun ⟨y, h, e⟩ => (by omega : y = x) ▸ h, fun h => ⟨x, h, rfl⟩⟩
theorem index62_calls (v : Int) (T : Option Addr) (cap : Nat) (t : List Int) (w : World) (hT : Kin.At w T 1 (t.map inE)) (hl : t.length <= 9223372036854775806) :
  Calls Tryz.prog 62 ⟨[.slice T t.length cap, .int .i64 v]⟩ w fun e w' => ∃ r : Int, ((r = -1 /\ v ∉ t) ∨ (0 <= r /\ v ∈ t)) /\ e = .returned (.int .i64 r) /\ Below w.heap.size w w' := by
 refine fEn Tryz.func62 rfl Tryz.ntmps62 rfl rfl (sWn w) ?_
 repeat (first|refine lVa rfl rfl (by first|exact pEv rfl|fail) ?_|refine lNi ?_|refine cRg ?_|refine cSq ?_|refine xTh ?_|refine cBl ?_|fail)
 refine c_loop (ι := Nat) (fun k => k <= t.length /\ ∀ x ∈ t.take k, v ≠ x) (fun k => [(0, .slice T t.length cap), (1, .int .i64 v), (7, .int .i64 t.length), (8, .int .i64 k)]) (fun _ => []) (fun k => t.length - k) 0 ⟨Nat.zero_le _, fun u hu => by simp at hu⟩ (by repeat (first|exact .nil|refine .cons rfl (by first|rfl|(congr 1; done)|exact congrArg _ (by omega)|(simp; done)) ?_)) (by repeat (first|exact .nil|refine .keep (by first|rfl|assumption) ?_|refine .drop ?_|exact MSub.refl _)) ?_
 rintro k ⟨hk, hF⟩
 by_cases hlt : k < t.length
 ·obtain ⟨y, hy⟩ : ∃ y, t[k]? = some y := ⟨_, List.getElem?_eq_getElem hlt⟩
  obtain ⟨b', o, rfl, hc⟩ := hT k (inE y) (by simp [hy])
  have he := ext_of hc
  rw [Nat.mul_one] at he
  have hF' := fun (_ : Unit) => hF
  clear hF
  by_cases hg : v = y
  ·repeat (first|refine lVa rfl rfl (by first|exact pEv rfl|exact vL0 rfl (by assumption) rfl (by rfl)|exact v_index rfl rfl rfl rfl (by omega) (by omega) (by with_reducible first|exact idx2 _ _|fail)|fail) ?_|refine lNi ?_|refine cRg ?_|refine cSq ?_|refine xTh ?_|refine c_dec_t rfl (by first|omega|fail) ?_|refine cBl ?_|refine cSk ?_|refine c_ret ?_|refine xTr ?_|refine xBr ?_|fail)
   exact x_ret rfl rfl (by repeat constructor) rfl (fun W hW => ⟨(k : Int), .inr ⟨by omega, by rw [hg]; exact List.mem_of_getElem? hy⟩, rfl, hW.below⟩)
  ·repeat (first|refine lVa rfl rfl (by first|exact v_add rfl rfl (by omega) (by omega)|exact pEv rfl|exact vL0 rfl (by assumption) rfl (by rfl)|exact v_index rfl rfl rfl rfl (by omega) (by omega) (by with_reducible first|exact idx2 _ _|fail)|fail) ?_|refine lNi ?_|refine cRg ?_|refine cSq ?_|refine xTh ?_|refine c_dec_t rfl (by first|omega|fail) ?_|refine c_dec_f rfl (by first|omega|fail) ?_|refine cBl ?_|refine cSk ?_|refine x_block ?_|fail)
   refine x_back (k + 1) ⟨hlt, fun z hz => ?_⟩ (by omega) (by repeat (first|exact .nil|refine .cons rfl (by first|rfl|(congr 1; done)|exact congrArg _ (by omega)|(simp; done)) ?_)) (by repeat (first|exact .nil|refine .keep (by first|rfl|assumption) ?_|refine .drop ?_|exact MSub.refl _))
   rw [List.take_add_one, hy] at hz
   rcases List.mem_append.1 hz with h | h
   ·exact hF' () z h
   ·simp only [Option.toList_some, List.mem_singleton] at h
    rw [h]; exact hg
 ·have hkl : k = t.length := by omega
  subst hkl
  rw [List.take_length] at hF
  repeat (first|refine lVa rfl rfl (by first|exact pEv rfl|fail) ?_|refine lNi ?_|refine cRg ?_|refine cSq ?_|refine xTh ?_|refine c_dec_f rfl (by first|omega|fail) ?_|refine c_ret ?_|refine c_exit ?_|refine xTe ?_|refine xBs ?_|fail)
  exact x_ret rfl rfl (by repeat constructor) rfl (fun W hW => ⟨-1, .inl ⟨rfl, fun h => hF v h rfl⟩, rfl, hW.below⟩)
theorem contains31_calls (v : Int) (T : Option Addr) (cap : Nat) (t : List Int) (w : World) (hT : Kin.At w T 1 (t.map inE)) (hl : t.length <= 9223372036854775806) :
  Calls Tryz.prog 31 ⟨[.slice T t.length cap, .int .i64 v]⟩ w fun e w' => e = .returned (.bool (decide (v ∈ t))) /\ Below w.heap.size w w' := by
 refine fEn Tryz.func31 rfl Tryz.ntmps31 rfl rfl (sWn w) ?_
 repeat (first|refine lVa rfl rfl (by first|exact pEv rfl|fail) ?_|refine lNi ?_|refine cRg ?_|refine cSq ?_|refine xTh ?_|fail)
 refine r_callI (ι := { r : Int // (r = -1 /\ v ∉ t) ∨ (0 <= r /\ v ∈ t) }) (v := fun r => .int .i64 r.1) rfl rfl rfl (fun W hW => (index62_calls v T cap t W (hT.sat hW) hl).mono fun e w' ⟨r, h1, h2, h3⟩ => ⟨⟨r, h1⟩, h2, h3⟩) ?_
 rintro ⟨r, hr⟩
 rcases hr with ⟨h1, h2⟩ | ⟨h1, h2⟩
 ·rw [decide_eq_false h2]
  simp only
  subst h1
  repeat (first|refine lVa rfl rfl (by first|exact pEv rfl|fail) ?_|refine lNi ?_|refine xTh ?_|refine c_ret ?_|fail)
  exact x_ret rfl rfl (by repeat constructor) rfl (fun W hW => ⟨rfl, hW.below⟩)
 ·rw [decide_eq_true h2]
  simp only
  repeat (first|refine lVa rfl rfl (by first|exact pEv rfl|fail) ?_|refine lNi ?_|refine xTh ?_|refine c_ret ?_|fail)
  exact x_ret rfl rfl (by repeat constructor) rfl (fun W hW => ⟨by simp [h1], hW.below⟩)
theorem sub_one {a : Nat} (h : 0 < a) : ((a : Int) - 1) = ((a - 1 : Nat) : Int) := by omega
theorem single_calls (s : Nat) (w : World) (hs : s < 64) : Calls Tryz.prog 48 ⟨[.int .i64 s]⟩ w fun e w' => e = .returned (.bool (singleB s)) /\ Below w.heap.size w w' := by
 refine fEn Tryz.func48 rfl Tryz.ntmps48 rfl rfl (sWn w) ?_
 unfold singleB
 by_cases h0 : s = 0
 ·subst h0
  repeat (first|refine lVa rfl rfl (by first|exact pEv rfl|fail) ?_|refine lNi ?_|refine cRg ?_|refine cSq ?_|refine xTh ?_|refine l_skip rfl rfl ?_|refine c_ret ?_|fail)
  exact x_ret rfl rfl (by repeat constructor) rfl (fun W hW => ⟨rfl, hW.below⟩)
 ·have ha : bits .and .i64 (s : Int) ((s : Int) - 1) = ((s &&& (s - 1) : Nat) : Int) := by rw [sub_one (by omega)]; exact and_small s hs (s - 1) (by omega)
  repeat (first|refine lVa rfl rfl (v_andA rfl rfl ha) ?_|refine lVa rfl rfl (by first|exact v_sub rfl rfl (by omega) (by omega)|exact pEv rfl|fail) ?_|refine lNi ?_|refine cRg ?_|refine cSq ?_|refine xTh ?_|refine c_ret ?_|refine l_dec_t rfl rfl rfl rfl rfl (by first|omega|fail) ?_|fail)
  refine x_ret rfl rfl (by repeat constructor) rfl (fun W hW => ⟨?_, hW.below⟩)
  rw [decide_eq_true (show 0 < s by omega), Bool.true_and]
  congr 2
  exact decide_eq_decide.2 (by omega)
/-- the closure that asks for a single witness or a clade -/
theorem own_calls (s : Nat) (bx : Nat) (A : Option Addr) (cap : Nat) (cl : List Nat) (w : World) (hs : s < 64) (hb : w.cell? ⟨bx, 0, none⟩ = some (.slice A cl.length cap)) (hA : Kin.At w A 1 (cl.map nE)) (hl : cl.length <= 1000) :
  Calls Tryz.prog 78 ⟨[] ++ [.int .i64 s] ++ [.pointer (some ⟨bx, 0, none⟩)]⟩ w fun e w' => e = .returned (.bool (ownB cl s)) /\ Below w.heap.size w w' := by
 have hx : Ext w (base w) bx 0 [.slice A cl.length cap] := ext_of fun j u hj => by
  cases j with
  | succ j => cases hj
  | zero => cases hj; exact hb
 refine fEn Tryz.func78 rfl Tryz.ntmps78 rfl rfl (sWn w) ?_
 unfold ownB
 repeat (first|refine lVa rfl rfl (by first|exact pEv rfl|fail) ?_|refine lNi ?_|refine cRg ?_|refine cSq ?_|refine xTh ?_|fail)
 refine r_call rfl rfl rfl (fun W hW => single_calls s W hs) ?_
 cases hsi : singleB s with
 | true =>
  repeat (first|refine lVa rfl rfl (by first|exact pEv rfl|exact vL0 rfl (by assumption) rfl (by rfl)|fail) ?_|refine lNi ?_|refine xTh ?_|refine l_skip rfl rfl ?_|refine c_ret ?_|fail)
  exact x_ret rfl rfl (by repeat constructor) rfl (fun W hW => ⟨by simp, hW.below⟩)
 | false =>
  repeat (first|refine lVa rfl rfl (by first|exact pEv rfl|exact vL0 rfl (by assumption) rfl (by rfl)|fail) ?_|fail)
  refine r_call (v := .bool (decide (s ∈ cl))) rfl rfl rfl (fun W hW => ?_) ?_
  ·have := contains31_calls (s : Int) A cap (cst cl) W (by rw [cst_rows]; exact hA.sat hW) (by rw [cst_len]; omega)
   rw [cst_len, show decide ((s : Int) ∈ cst cl) = decide (s ∈ cl) from decide_eq_decide.2 cst_mem] at this
   exact this
  repeat (first|refine lVa rfl rfl (by first|exact pEv rfl|fail) ?_|refine lNi ?_|refine xTh ?_|refine c_ret ?_|fail)
  exact x_ret rfl rfl (by repeat constructor) rfl (fun W hW => ⟨by simp, hW.below⟩)
end R41
end Go.Proofs

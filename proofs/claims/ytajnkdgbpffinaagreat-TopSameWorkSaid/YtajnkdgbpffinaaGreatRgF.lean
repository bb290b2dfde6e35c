/- The engine: sets of pairs of numbers (maps from records of two numbers to true), and ranges over them. Generic: no program is named here. -/
import Derived.Test.YtajnkdgbpffinaaGreatEng53
import Derived.Test.YtajnkdgbpffinaaGreatRgE
set_option linter.unusedSectionVars false
set_option linter.unusedVariables false
set_option linter.unusedSimpArgs false
namespace Go
open Go.RowKit
namespace Kin
@[reducible] def pk (a : Int × Int) : Value := .agg ⟨[.int .i64 a.1, .int .i64 a.2]⟩
def pmF : Nat -> List (Int × Int) -> List MapEntry
 | _, [] => []
 | k, p :: l => ⟨pk p, .bool true, k⟩ :: pmF (k + 1) l
theorem pmF_len : ∀ {l : List (Int × Int)} {k : Nat}, (pmF k l).length = l.length
 | [], _ => rfl
 | _ :: l, k => by rw [pmF, List.length_cons, pmF_len, List.length_cons]
theorem pmF_snoc (x : Int × Int) : ∀ (l : List (Int × Int)) (k : Nat), pmF k (l ++ [x]) = pmF k l ++ [⟨pk x, .bool true, k + l.length⟩]
 | [], k => rfl
 | y :: l, k => by
  rw [List.cons_append, pmF, pmF_snoc x l (k + 1), pmF, List.cons_append, List.length_cons, show k + 1 + l.length = k + (l.length + 1) by omega]
theorem pmF_get : ∀ {l : List (Int × Int)} {k i : Nat} {p : Int × Int}, l[i]? = some p -> (pmF k l)[i]? = some ⟨pk p, .bool true, k + i⟩
 | _ :: l, k, 0, p, h => by cases h; rfl
 | y :: l, k, i + 1, p, h => by
  rw [pmF, List.getElem?_cons_succ, pmF_get (k := k + 1) (i := i) h, show k + 1 + i = k + (i + 1) by omega]
theorem pmF_mem {l : List (Int × Int)} {k : Nat} {e : MapEntry} (h : e ∈ pmF k l) : ∃ i p, l[i]? = some p /\ e = ⟨pk p, .bool true, k + i⟩ := by
 obtain ⟨i, hi⟩ := List.getElem?_of_mem h
 have hlt := (List.getElem?_eq_some_iff.1 hi).1
 rw [pmF_len] at hlt
 refine ⟨i, l[i], List.getElem?_eq_getElem hlt, ?_⟩
 rw [pmF_get (List.getElem?_eq_getElem hlt)] at hi
 exact (Option.some.inj hi).symm
theorem pmF_born : ∀ {l : List (Int × Int)} {k : Nat}, (pmF k l).map (·.born) = (List.range l.length).map (k + ·)
 | [], _ => rfl
 | y :: l, k => by
  rw [pmF, List.map_cons, pmF_born, List.length_cons, List.range_succ_eq_map, List.map_cons, List.map_map]
  congr 1
  exact List.map_congr_left fun x _ => by simp only [Function.comp]; omega
def pmO (l : List (Int × Int)) : Obj := .map ⟨pmF 0 l⟩ l.length
def pmPut (l : List (Int × Int)) (k : Int × Int) : List (Int × Int) := if k ∈ l then l else l ++ [k]
/-- the test of '==' on a key -/
def fP (k : Int × Int) (v : Value) : Bool := match v with
 | .agg ⟨[.int _ a, .int _ b]⟩ => decide (k.1 = a) && decide (k.2 = b)
 | _ => false
theorem fP_pk {k p : Int × Int} : fP k (pk p) = decide (k = p) := by
 obtain ⟨k1, k2⟩ := k
 obtain ⟨p1, p2⟩ := p
 show (decide (k1 = p1) && decide (k2 = p2)) = _
 rw [Bool.eq_iff_iff]
 simp
theorem pm_find {k : Int × Int} {l : List (Int × Int)} : ∀ {b i : Nat}, (k ∉ l /\ findB (fP k) (pmF b l) i = none) ∨ ∃ j : Nat, k ∈ l /\ l[j]? = some k /\ findB (fP k) (pmF b l) i = some (i + j, .bool true) /\ (pmF b l).modify j (fun e => { e with key := pk k, val := .bool true }) = pmF b l := by
 induction l with
 | nil => exact fun {b i} => .inl ⟨List.not_mem_nil, rfl⟩
 | cons p l ih =>
  intro b i
  by_cases hp : k = p
  ·subst hp
   refine .inr ⟨0, List.mem_cons_self, rfl, ?_, ?_⟩
   ·rw [pmF, findB, fP_pk, decide_eq_true rfl]; rfl
   ·simp [pmF]
  ·rcases ih (b := b + 1) (i := i + 1) with ⟨h1, h2⟩ | ⟨j, h1, h2, h3, h4⟩
   ·exact .inl ⟨fun h => by rcases List.mem_cons.1 h with h | h <;> contradiction, by rw [pmF, findB, fP_pk, decide_eq_false hp]; exact h2⟩
   ·refine .inr ⟨j + 1, List.mem_cons_of_mem _ h1, h2, by rw [pmF, findB, fP_pk, decide_eq_false hp, show i + (j + 1) = i + 1 + j by omega]; exact h3, ?_⟩
    simp only [pmF, List.modify_succ_cons]; rw [h4]
/-- records of two numbers, in the table of types -/
structure PairT (P : Program) (tt : List (TypeId × TI)) (kt : TypeId) : Prop where
 st : ∃ fs sz bt z, look tt kt = some ⟨.struct fs, sz, bt, z⟩ /\ ∀ a : Int × Int, keyF tt [.int .i64 a.1, .int .i64 a.2] fs = true
 eq : ∀ (a b : Int × Int) (W : World), (Op.equal kt (pk a) (pk b)).run P W = .ok (fP a (pk b)) W
section
variable {P : Program} {N : Nat} {c : Cx} {Q : Exit -> Act -> World -> Prop} {env : List (Nat × Value)} {mem : List (Nat × Obj)} {L l : List Oper} {tt : List (TypeId × TI)} [Wide c.F]
 {ty : TypeId} {pos : String} {af : Array Edge} {g : Option (Nat × Bool)} {dd : Option Tmp}
def PmAt (c : Cx) (mem : List (Nat × Obj)) (b : Nat) (s : List (Int × Int)) : Prop := ∀ W, SatW c.w0 c.D c.J mem W -> W.heap[b]? = some (pmO s)
theorem PmAt.own {b : Nat} {s : List (Int × Int)} (h : (b, pmO s) ∈ mem) : PmAt c mem b s := fun _ hm => (hm.own _ h).2
theorem PmAt.far {b : Nat} {s : List (Int × Int)} (hD : c.D b) (h : c.w0.heap[b]? = some (pmO s)) : PmAt c mem b s := fun _ hm => hm.same.obj h hD
theorem v_pmGet [T : TT P tt] {t kt et b : Nat} {m kx : Operand} {k : Int × Int} {s : List (Int × Int)} {sz bt sz2 bt2 : Nat} {z : Value} (hE : PairT P tt kt)
  (hm0 : evOp env m = some (.map (some b))) (hk : evOp env kx = some (pk k)) (ht : look tt t = some ⟨.map kt et, sz, bt, z⟩) (het : look tt et = some ⟨.bool, sz2, bt2, .bool false⟩) (hin : PmAt c mem b s) :
  OpVal P N c env mem ⟨dd, .lookup t m kx false, ty, pos, af, g⟩ (.bool (decide (k ∈ s))) :=
 ⟨rfl, fun a W ha hm => by
  have hb := hin W hm
  unfold pmO at hb
  obtain ⟨fs, sz', bt', z', hkt, hkf⟩ := hE.st
  obtain ⟨fields, hff, _⟩ := (TT.look (P := P) hkt).1
  have hmu : P.underlying t = some (.map kt et) := (TT.look (P := P) ht).1
  obtain ⟨_, i, hi, _, _, hz⟩ := TT.look (P := P) het
  have hz2 : (zeroValue et).run P W = .ok (.bool false) W := by
   simp only [zeroValue, Sem.run_bind, run_info hi, Result.andThen_ok, hz]; rfl
  have e1 := run_findKey (W := W) (k := pk k) (f := fP k) hff rfl (⟨pmF 0 s⟩ : Array MapEntry).toList (fun e he => by obtain ⟨i, p, _, rfl⟩ := pmF_mem he; exact hE.eq _ _ _)
  rw [show (⟨pmF 0 s⟩ : Array MapEntry).toList = pmF 0 s from rfl] at e1
  rcases pm_find (k := k) (l := s) (b := 0) (i := 0) with ⟨h1, h2⟩ | ⟨j, h1, h2, h3, h4⟩
  ·rw [h2] at e1
   rw [decide_eq_false h1]
   simp only [execOp, ha.eval hm0, ha.eval hk, Instr.lookup, Sem.run_bind, run_und hmu, Result.andThen_ok, MapKept.run_getObj_map hb, Sem.run_pure, run_checkS hkt (hkf k), e1, hz2]
   rfl
  ·rw [h3] at e1
   rw [decide_eq_true h1]
   simp only [execOp, ha.eval hm0, ha.eval hk, Instr.lookup, Sem.run_bind, run_und hmu, Result.andThen_ok, MapKept.run_getObj_map hb, Sem.run_pure, run_checkS hkt (hkf k), e1]
   rfl⟩
theorem v_pmGetQ [T : TT P tt] {t kt et b : Nat} {m kx : Operand} {k : Int × Int} {s : List (Int × Int)} {q : Bool} {sz bt sz2 bt2 : Nat} {z : Value} (hE : PairT P tt kt)
  (hm0 : evOp env m = some (.map (some b))) (hk : evOp env kx = some (pk k)) (ht : look tt t = some ⟨.map kt et, sz, bt, z⟩) (het : look tt et = some ⟨.bool, sz2, bt2, .bool false⟩) (hin : PmAt c mem b s) (hq : decide (k ∈ s) = q) :
  OpVal P N c env mem ⟨dd, .lookup t m kx false, ty, pos, af, g⟩ (.bool q) := by
 subst hq; exact v_pmGet hE hm0 hk ht het hin
theorem pmF_array {l : List (Int × Int)} {j : Nat} {f : MapEntry -> MapEntry} : (⟨pmF 0 l⟩ : Array MapEntry).modify j f = ⟨(pmF 0 l).modify j f⟩ := by
 apply Array.ext'
 simp
theorem d_pmPut [T : TT P tt] {t kt et b : Nat} {m kx vx : Operand} {k : Int × Int} {s : List (Int × Int)} {sz bt : Nat} {z : Value} {mem' : List (Nat × Obj)} (hE : PairT P tt kt)
  (hm0 : evOp env m = some (.map (some b))) (hk : evOp env kx = some (pk k)) (hv : evOp env vx = some (.bool true)) (ht : look tt t = some ⟨.map kt et, sz, bt, z⟩)
  (hu : Upd mem b (pmO s) (pmO (pmPut s k)) mem') : OpDo P N c env mem ⟨none, .mapUpdate t m kx vx, ty, pos, af, g⟩ mem' :=
 ⟨rfl, fun a W ha hm => by
  have hb := (hm.own _ hu.isIn).2
  obtain ⟨fs, sz', bt', z', hkt, hkf⟩ := hE.st
  obtain ⟨fields, hff, _⟩ := (TT.look (P := P) hkt).1
  have hmu : P.underlying t = some (.map kt et) := (TT.look (P := P) ht).1
  refine ⟨W.putObj b (pmO (pmPut s k)), ?_, hm.upd hu (Same.putObj _ _ _ fun h => h rfl) (World.putObj_heap_same (lt_of_heap hb))⟩
  unfold pmO at hb ⊢
  have e1 := run_findKey (W := W) (k := pk k) (f := fP k) hff rfl (⟨pmF 0 s⟩ : Array MapEntry).toList (fun e he => by obtain ⟨i, p, _, rfl⟩ := pmF_mem he; exact hE.eq _ _ _)
  rw [show (⟨pmF 0 s⟩ : Array MapEntry).toList = pmF 0 s from rfl] at e1
  rcases pm_find (k := k) (l := s) (b := 0) (i := 0) with ⟨h1, h2⟩ | ⟨j, h1, hj, h3, h4⟩
  ·rw [h2] at e1
   rw [show pmPut s k = s ++ [k] from if_neg h1]
   simp only [execOp, ha.eval hm0, ha.eval hk, ha.eval hv, Instr.mapUpdate, Sem.run_bind, run_und hmu, Result.andThen_ok, MapKept.run_getObj_map hb, run_checkS hkt (hkf k), e1]
   rw [MapKept.run_setObj_map _ hb]
   simp [World.putObj, pmF_snoc, List.length_append]
  ·rw [h3] at e1
   rw [show pmPut s k = s from if_pos h1]
   have hst : ((((⟨pmF 0 s⟩ : Array MapEntry)[0 + j]?).map (·.key)).getD (pk k)) = pk k := by
    have := pmF_get (k := 0) hj
    simp [this]
   have hks : (Instr.keyThatStays (pk k) (pk k)).run P W = .ok (pk k) W := by
    simp [Instr.keyThatStays, Instr.sameBits]
   simp only [execOp, ha.eval hm0, ha.eval hk, ha.eval hv, Instr.mapUpdate, Sem.run_bind, run_und hmu, Result.andThen_ok, MapKept.run_getObj_map hb, run_checkS hkt (hkf k), e1, hst, hks]
   rw [MapKept.run_setObj_map _ hb, Nat.zero_add, pmF_array, h4]
   simp [World.putObj]⟩
/-! ## Ranges -/
theorem l_pmRange {t kt et b d : Nat} {m : Operand} {s : List (Int × Int)} {sz bt : Nat} {z : Value} [T : TT P tt] (hw : wantB L env g = some true) (hd : Nat.blt d N = true)
  (hm0 : evOp env m = some (.map (some b))) (ht : look tt t = some ⟨.map kt et, sz, bt, z⟩) (hin : PmAt c mem b s)
  (k : ∀ r, RunL P N c L l Q ((d, .pointer (some ⟨r, 0, none⟩)) :: env) ((r, itO b s.length []) :: mem)) :
  RunL P N c L (⟨some d, .range t m, ty, pos, af, g⟩ :: l) Q env mem :=
 l_eff (ι := Nat) (v := fun r => .pointer (some ⟨r, 0, none⟩)) (mem' := fun r => (r, itO b s.length []) :: mem) hw hd ⟨rfl, fun a W ha hm => by
  have hb := hin W hm
  have hmu : P.underlying t = some (.map kt et) := (TT.look (P := P) ht).1
  refine ⟨W.heap.size, _, ?_, hm.alloc _⟩
  unfold pmO at hb
  simp only [execOp, ha.eval hm0, Sem.run_bind, run_range_map W t kt et b _ _ hmu hb, Result.andThen_ok]
  rfl⟩ k
def NxP (s : List (Int × Int)) (seen : List Nat) : Type := { o : Option Nat // match o with | none => ∀ j, j < s.length -> j ∈ seen | some j => j < s.length /\ j ∉ seen }
def nxPV (s : List (Int × Int)) (seen : List Nat) (o : NxP s seen) : Value := match o.1 with
 | none => .tuple ⟨[.bool false]⟩
 | some j => .tuple ⟨[.bool true, pk (s.getD j (0, 0)), .bool true]⟩
def nxPS (s : List (Int × Int)) (seen : List Nat) (o : NxP s seen) : List Nat := match o.1 with
 | none => seen
 | some j => seen ++ [j]
theorem l_pmNext {b r d : Nat} {m : Operand} {s : List (Int × Int)} {seen : List Nat} {mem' : List Nat -> List (Nat × Obj)} (hw : wantB L env g = some true) (hd : Nat.blt d N = true)
  (hm0 : evOp env m = some (.pointer (some ⟨r, 0, none⟩))) (hin : PmAt c mem b s) (hu : ∀ seen', Upd mem r (itO b s.length seen) (itO b s.length seen') (mem' seen'))
  (k : ∀ o : NxP s seen, RunL P N c L l Q ((d, nxPV s seen o) :: env) (mem' (nxPS s seen o))) :
  RunL P N c L (⟨some d, .next m false, ty, pos, af, g⟩ :: l) Q env mem :=
 l_eff (ι := NxP s seen) (v := nxPV s seen) (mem' := fun o => mem' (nxPS s seen o)) hw hd ⟨rfl, fun a W ha hm => by
  have hb := hin W hm
  have hr := (hm.own _ (hu []).isIn).2
  unfold itO at hr
  unfold pmO at hb
  have hold : ∀ x ∈ (⟨pmF 0 s⟩ : Array MapEntry).toList, x.born < s.length := fun x hx => by
   obtain ⟨i, p, h1, rfl⟩ := pmF_mem hx
   have := (List.getElem?_eq_some_iff.1 h1).1
   simp only; omega
  rcases run_next_at (P := P) W ty r b s.length s.length ⟨seen⟩ ⟨pmF 0 s⟩ s.length hr hb hold (Nat.le_refl _) with ⟨h1, h2⟩ | ⟨e, he, w1, hw1, h2⟩
  ·have hall := all_seen _ _ h1
   refine ⟨⟨none, fun j hj => ?_⟩, W, ?_, ?_⟩
   ·have := hall ⟨pk s[j], .bool true, 0 + j⟩ (List.mem_of_getElem? (pmF_get (List.getElem?_eq_getElem hj)))
    simpa using this
   ·simp only [execOp, ha.eval hm0, Sem.run_bind, h2, Result.andThen_ok]
    rfl
   ·have := hm.upd (hu seen) (W' := W) (Same.refl _ _) (by unfold itO; exact hr)
    exact this
  ·obtain ⟨he1, he2⟩ := mem_left he
   obtain ⟨j, p, hj, rfl⟩ := pmF_mem he1
   have hjl := (List.getElem?_eq_some_iff.1 hj).1
   have hns : j ∉ seen := by simpa using he2
   have hg : s.getD j (0, 0) = p := by rw [List.getD_eq_getElem?_getD, hj]; rfl
   have hsw : SatW c.w0 c.D c.J mem w1 := by
    rcases hw1 with rfl | rfl
    ·exact hm
    ·exact hm.drew
   have hr1 := (hsw.own _ (hu []).isIn).2
   refine ⟨⟨some j, hjl, hns⟩, w1.putObj r (itO b s.length (seen ++ [j])), ?_, hsw.upd (hu _) (Same.putObj _ _ _ fun h => h rfl) (World.putObj_heap_same (lt_of_heap hr1))⟩
   unfold nxPV
   simp only [execOp, ha.eval hm0, Sem.run_bind, h2, Result.andThen_ok, hg]
   have : (⟨seen⟩ : Array Nat).push (0 + j) = ⟨seen ++ [j]⟩ := by simp
   simp only [Go.ChangeMaps.setBlock, World.putObj, itO, this]
   rfl⟩ k
theorem v_pmEntry {b r : Nat} {m : Operand} {s : List (Int × Int)} {seen : List Nat} {j : Nat} {p : Int × Int} (hm0 : evOp env m = some (.pointer (some ⟨r, 0, none⟩))) (hin : PmAt c mem b s) (hr : (r, itO b s.length (seen ++ [j])) ∈ mem) (hj : s[j]? = some p) :
  OpVal P N c env mem ⟨dd, .entry m, ty, pos, af, g⟩ (.tuple ⟨[pk p, .bool true]⟩) :=
 ⟨rfl, fun a W ha hm => by
  have hb := hin W hm
  have hr := (hm.own _ hr).2
  unfold itO at hr
  unfold pmO at hb
  have hr2 : W.heap[r]? = some (.mapIter (some b) s.length ((⟨seen⟩ : Array Nat).push (MapEntry.mk (pk p) (.bool true) (0 + j)).born) s.length) := by
   rw [hr]; simp
  have he : MapEntry.mk (pk p) (.bool true) (0 + j) ∈ (⟨pmF 0 s⟩ : Array MapEntry).toList := List.mem_of_getElem? (pmF_get hj)
  have hn : ((⟨pmF 0 s⟩ : Array MapEntry).toList.map (·.born)).Nodup := by
   show ((pmF 0 s).map (·.born)).Nodup
   rw [pmF_born]
   simp only [Nat.zero_add, List.map_id']
   exact List.nodup_range
  simp only [execOp, ha.eval hm0, Sem.run_bind, run_entry_at W r b s.length ⟨seen⟩ ⟨pmF 0 s⟩ s.length _ hr2 hb he hn, Result.andThen_ok]
  rfl⟩
end
end Kin
end Go

set_option maxRecDepth 100000
set_option maxHeartbeats 400000000
namespace Go.Proofs
open Go.RowKit Go.Kin Go.Kin.Cl
namespace R41
theorem pairT99 : PairT Tryz.prog tt 99 := ⟨⟨_, _, _, _, rfl, fun a => rfl⟩, fun a b W => eq_run (tt := tt) (es := [30, 32, 58, 99, 109]) rfl⟩
/-- what the iterator reads -/
def StR (w : World) (m : List (Nat × Obj)) : Nat -> Prop := fun k => allBut w (List.map (·.1) ([] : List (Nat × Obj))) k ∨ k ∈ m.map (·.1)
theorem std_of {w W W1 : World} {J : (Nat -> Prop) -> World -> Prop} {mem : List (Nat × Obj)} {i : StI} {A : Option Addr} {cap : Nat} {l : List Rg} {day time : Int} (hl : l.length <= 100000) (hA : Kin.At w A 11 (l.map rgE))
  (hm : SatW w (allBut w (List.map (·.1) ([] : List (Nat × Obj)))) J mem W) (hb : ∀ p ∈ i.m A cap l.length day time (goneL time l), p ∈ mem) (hs : Same (fun _ => True) W W1) :
  It Tryz.prog 99 i.lb (fun x => [.agg ⟨rgE x⟩]) (stL day time l) (StR w (i.m A cap l.length day time (goneL time l))) W1 := by
 have hsz := hs.size
 have hblk : ∀ p ∈ i.m A cap l.length day time (goneL time l), W1.heap[p.1]? = some p.2 := fun p hp => hs.obj (hm.own _ (hb p hp)).2 trivial
 have hw1 : Under w.heap.size w W1 := (hm.same.below (Nat.le_refl _) fun k hk => ⟨hk, by simp⟩ : Under w.heap.size w W).trans (hs.below hm.same.size fun _ _ => trivial)
 refine std99_it _ i.b3 i.b5 i.b4 i.b7 i.bm A cap l day time (goneL time l) W1 hl (hblk (i.b3, _) (by repeat constructor)) (hblk (i.b5, _) (by repeat constructor)) (hblk (i.b4, _) (by repeat constructor)) (hblk (i.b7, _) (by repeat constructor)) (hblk (i.bm, _) (by repeat constructor)) (hA.later hw1) (goneL_T time l [] allT_nil) ?_ ?_ ?_ ?_ ?_ ?_ ?_
 ·rintro k (hk | hk)
  ·exact Nat.lt_of_lt_of_le hk.1 hw1.size
  ·obtain ⟨p, hp, rfl⟩ := List.mem_map.1 hk
   exact lt_of_heap (hblk p hp)
 iterate 5 exact .inr (show _ ∈ [i.b7, i.bm, i.b5, i.b4, i.b3] by simp)
 ·intro a ha hne
  obtain ⟨x, l', rfl⟩ := List.exists_cons_of_ne_nil hne
  obtain ⟨b', o, h1, h2⟩ := hA 0 (rgE x) rfl
  rw [ha] at h1
  cases h1
  exact .inl ⟨lt_of_cell (h2 0 _ rfl), by simp⟩
def prF (kind ed : Int) (S : List (Int × Int)) (x : Rg) : List (Int × Int) := if x.kind = kind /\ x.ed = ed then pmPut S (x.ho, x.si) else S
def prtL (kind ed : Int) (xs : List Rg) : List (Int × Int) := xs.foldl (prF kind ed) []
theorem prtL_take {kind ed : Int} {xs : List Rg} {k : Nat} {x : Rg} (h : xs[k]? = some x) : prtL kind ed (xs.take (k + 1)) = prF kind ed (prtL kind ed (xs.take k)) x := by
 unfold prtL
 rw [List.take_add_one, h, List.foldl_append]; rfl
theorem parts40_calls (A : Option Addr) (cap : Nat) (l : List Rg) (kind ed day time : Int) (w : World) (hA : Kin.At w A 11 (l.map rgE)) (hl : l.length <= 100000) :
  Calls Tryz.prog 40 ⟨[.slice A l.length cap, .int .i64 kind, .int .i64 ed, .int .i64 day, .int .i64 time]⟩ w (FrQ [] (fun b : Nat => .map (some b)) (fun b => [(b, pmO (prtL kind ed (stL day time l)))]) w) := by
 have hsat := frQ_start (W := w) (pre := []) (by simp) fun p hp => by cases hp
 have hcall : ∀ W : World, Under w.heap.size w W -> Calls Tryz.prog 70 ⟨[.slice A l.length cap, .int .i64 day, .int .i64 time]⟩ W (FrQ [] StI.v (StI.m A cap l.length day time (goneL time l)) W) := fun W hB => standing70_calls A cap l day time W (hA.later hB) hl
 have hit := fun (W W1 : World) (mem : List (Nat × Obj)) (i : StI) (h1 : SatW w (allBut w (List.map (·.1) ([] : List (Nat × Obj)))) noJ mem W) (h2 : ∀ p ∈ i.m A cap l.length day time (goneL time l), p ∈ mem) h3 => std_of (W1 := W1) (day := day) (time := time) hl hA h1 h2 h3
 obtain ⟨n, hn⟩ : ∃ n, l.length = n := ⟨_, rfl⟩
 rw [hn] at hcall hit ⊢
 obtain ⟨xs, hxs⟩ : ∃ xs, stL day time l = xs := ⟨_, rfl⟩
 rw [hxs] at hit ⊢
 refine fEn Tryz.func40 rfl Tryz.ntmps40 rfl rfl hsat ?_
 repeat ((fail_if_success refine c_probe (id := 1) ?_); (fail_if_success refine c_probe1 (id := 1) ?_); first|refine lVa rfl rfl (by first|exact pEv rfl|fail) ?_|refine lNi ?_|refine cRg ?_|refine cSq ?_|refine xTh ?_|refine r_box rfl rfl rfl rfl (fun _ => ?_)|fail)
 rename_i b6 b7
 refine cSq ?_
 refine cRg ?_
 refine r_makeMap rfl rfl (fun bp => ?_)
 repeat ((fail_if_success refine c_probe (id := 2) ?_); (fail_if_success refine c_probe1 (id := 2) ?_); first|refine lNi ?_|refine xTh ?_|refine r_alloc rfl rfl rfl (by first|exact aggL|fail) (fun _ => ?_)|refine rSt rfl rfl rfl rfl rfl rfl rfl (by repeat constructor) (by rfl) ?_|fail)
 rename_i b11
 refine cSq ?_
 repeat ((fail_if_success refine c_probe (id := 3) ?_); (fail_if_success refine c_probe1 (id := 3) ?_); first|refine r_callF rfl rfl rfl (.refl _) (fun W hW _ _ => hcall W (hW.same.below (Nat.le_refl _) fun k hk => ⟨hk, by simp⟩)) (fun i => ?_)|refine lVa rfl rfl (by first|exact pEv rfl|fail) ?_|refine lNi ?_|refine cRg ?_|refine cSq ?_|refine xTh ?_|refine cBl ?_|fail)
 skip
 refine c_range (fun x => [.agg ⟨rgE x⟩]) xs (StR w (i.m A cap n day time (goneL time l))) (i.m A cap n day time (goneL time l)) (ι := Nat) (fun k => k) (fun k => k <= xs.length)
  (fun k => [(b11, .cells ⟨[.map (some bp)]⟩ 95 (0, 0)), (bp, pmO (prtL kind ed (xs.take k))), (b7, .cells ⟨[.int .i64 ed]⟩ 3 (0, 0)), (b6, .cells ⟨[.int .i64 kind]⟩ 3 (0, 0))]) (fun _ _ => False) 0 rfl
  (fun W W1 hW hs => hit W W1 _ i hW (fun p hp => List.mem_append_left _ hp) hs) (fun b hb => hb) (fun _ _ => rfl) (by decide) rfl (Nat.zero_le _) (by repeat (first|exact .nil|refine .keep (by first|rfl|assumption) ?_|refine .drop ?_|exact MSub.refl _))
  (env' := [(6, .pointer (some ⟨b6, 0, none⟩)), (7, .pointer (some ⟨b7, 0, none⟩)), (11, .pointer (some ⟨b11, 0, none⟩))]) (by repeat (first|exact .nil|refine .cons rfl (by first|rfl|(congr 1; done)|exact congrArg _ (by omega)|(simp; done)) ?_)) ?_ ?_ (fun _ _ _ h => h.elim)
 ·intro k hk' hk m lp W1 hW1 hDl hol
  obtain ⟨x, hx⟩ : ∃ x, xs[k] = x := ⟨_, rfl⟩
  have hx2 : xs[k]? = some x := by rw [List.getElem?_eq_getElem hk, hx]
  rw [hx]
  have htk := prtL_take (kind := kind) (ed := ed) hx2
  repeat (first|refine lNi ?_|refine cRg ?_|refine r_alloc rfl rfl rfl (by first|exact aggL|fail) (fun _ => ?_)|refine rSt rfl rfl rfl rfl rfl rfl rfl (by repeat constructor) (by rfl) ?_|fail)
  refine x_body hW1 hDl hol (fun n2 W2 r hW2 hr2 ho => ?_)
  by_cases h1 : x.kind = kind
  rotate_left
  ·have hn' : prtL kind ed (xs.take (k + 1)) = prtL kind ed (xs.take k) := by rw [htk]; exact if_neg fun h => h1 h.1
   repeat ((fail_if_success refine c_probe (id := 6) ?_); (fail_if_success refine c_probe1 (id := 6) ?_); first|refine lVa rfl rfl (by first|exact pEv rfl|exact vLd rfl (by repeat constructor) rfl (by rfl)|fail) ?_|refine lNi ?_|refine cRg ?_|refine cSq ?_|refine xTh ?_|refine l_skip rfl rfl ?_|refine c_false rfl ?_|refine cBl ?_|refine cSk ?_|refine x_block ?_|refine l_dec_f rfl rfl rfl rfl rfl (by first|omega|fail) ?_|fail)
   refine x_next (k + 1) rfl hk ?_
   rw [hn']
   exact (by repeat (first|exact .nil|refine .keep (by first|rfl|assumption) ?_|refine .drop ?_|exact MSub.refl _))
  by_cases h2 : x.ed = ed
  rotate_left
  ·have hn' : prtL kind ed (xs.take (k + 1)) = prtL kind ed (xs.take k) := by rw [htk]; exact if_neg fun h => h2 h.2
   repeat ((fail_if_success refine c_probe (id := 6) ?_); (fail_if_success refine c_probe1 (id := 6) ?_); first|refine lVa rfl rfl (by first|exact pEv rfl|exact vLd rfl (by repeat constructor) rfl (by rfl)|fail) ?_|refine lNi ?_|refine cRg ?_|refine cSq ?_|refine xTh ?_|refine c_dec_f rfl (by first|omega|fail) ?_|refine cBl ?_|refine cSk ?_|refine x_block ?_|refine l_dec_t rfl rfl rfl rfl rfl (by first|omega|fail) ?_|fail)
   refine x_next (k + 1) rfl hk ?_
   rw [hn']
   exact (by repeat (first|exact .nil|refine .keep (by first|rfl|assumption) ?_|refine .drop ?_|exact MSub.refl _))
  have hn' : prtL kind ed (xs.take (k + 1)) = pmPut (prtL kind ed (xs.take k)) (x.ho, x.si) := by rw [htk]; exact if_pos ⟨h1, h2⟩
  repeat ((fail_if_success refine c_probe (id := 6) ?_); (fail_if_success refine c_probe1 (id := 6) ?_); first|refine l_do rfl (d_pmPut (k := (x.ho, x.si)) pairT99 rfl rfl rfl rfl (by repeat constructor)) ?_|refine lVa rfl rfl (by first|exact pEv rfl|exact vLd rfl (by repeat constructor) rfl (by rfl)|exact v_build rfl rfl (by rfl)|fail) ?_|refine lNi ?_|refine cRg ?_|refine cSq ?_|refine xTh ?_|refine c_dec_t rfl (by first|omega|fail) ?_|refine cBl ?_|refine x_block ?_|refine l_dec_t rfl rfl rfl rfl rfl (by first|omega|fail) ?_|fail)
  refine x_next (k + 1) rfl hk ?_
  rw [hn']
  exact (by repeat (first|exact .nil|refine .keep (by first|rfl|assumption) ?_|refine .drop ?_|exact MSub.refl _))
 ·intro B k hk hk'
  rw [hk, List.take_length]
  repeat (first|refine lVa rfl rfl (by first|exact pEv rfl|exact vLd rfl (by repeat constructor) rfl (by rfl)|fail) ?_|refine lNi ?_|refine cRg ?_|refine cSq ?_|refine xTh ?_|refine c_ret ?_|refine x_block ?_|fail)
  exact x_rets (Ds := [B]) rfl rfl (.mark (.drop (.drop (.drop (.drop (.drop (.drop (.keep (.drop (.drop .nil))))))))))  rfl (by repeat constructor) rfl (fun W hW => ⟨bp, rfl, hW⟩)
end R41
end Go.Proofs

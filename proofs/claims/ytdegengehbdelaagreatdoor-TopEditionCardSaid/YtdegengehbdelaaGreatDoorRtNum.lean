/- The engine: unsigned opposites; maps that lie in what stays. Generic: no program is named here. -/
import Derived.Test.YtdegengehbdelaaGreatDoorSeB
import Derived.Test.YtdegengehbdelaaGreatDoorSeE
import Derived.Test.YtdegengehbdelaaGreatDoorClA
import Derived.WalkKit
set_option linter.unusedSectionVars false
set_option linter.unusedVariables false
set_option linter.unusedSimpArgs false
namespace Go
open Go.RowKit
namespace Kin
section
variable {P : Program} {N : Nat} {c : Cx} {Q : Exit -> Act -> World -> Prop} {env : List (Nat × Value)} {mem mem' : List (Nat × Obj)} {L l : List Oper} {tt : List (TypeId × TI)} [Wide c.F]
 {ty : TypeId} {pos : String} {af : Array Edge} {g : Option (Nat × Bool)} {dd : Option Tmp}
theorem v_umulD {t t' : TypeId} {x y : Operand} {m : Nat} (hx : evOp env x = some (.int .u64 m)) (hy : evOp env y = some (.int .u64 285870213051353865)) : OpVal P N c env mem ⟨dd, .binOp .mul t x y t', ty, pos, af, g⟩ (.int .u64 ((m * 285870213051353865 % 18446744073709551616 : Nat) : Int)) :=
 v_umul (n := 285870213051353865) hx hy
theorem v_ushr58 {t t' : TypeId} {x y : Operand} {m : Nat} {k' : IntKind} (hx : evOp env x = some (.int .u64 m)) (hy : evOp env y = some (.int k' 58)) : OpVal P N c env mem ⟨dd, .binOp .shr t x y t', ty, pos, af, g⟩ (.int .u64 ((m / 288230376151711744 : Nat) : Int)) := by
 have := v_ushr (P := P) (N := N) (c := c) (mem := mem) (ty := ty) (pos := pos) (af := af) (g := g) (dd := dd) (t := t) (t' := t') (n := 58) hx hy (by decide)
 rw [show (2 : Nat) ^ 58 = 288230376151711744 by decide +kernel] at this
 exact this
/-- a map that lies among the own blocks, or in what stays -/
def ImAt (c : Cx) (mem : List (Nat × Obj)) (b : Nat) (s : List (Int × Value)) : Prop := ∀ W, SatW c.w0 c.D c.J mem W -> W.heap[b]? = some (imO s)
theorem ImAt.own {b : Nat} {s : List (Int × Value)} (h : (b, imO s) ∈ mem) : ImAt c mem b s := fun _ hm => (hm.own _ h).2
theorem ImAt.far {b : Nat} {s : List (Int × Value)} (hD : c.D b) (h : c.w0.heap[b]? = some (imO s)) : ImAt c mem b s := fun _ hm => hm.same.obj h hD
theorem v_imGetG [T : TT P tt] {t kt et b : Nat} {m kx : Operand} {k : Int} {s : List (Int × Value)} {kd : TK} {sz bt sz' bt' sz2 bt2 : Nat} {z z' z2 out : Value} {ok : Bool}
  (hm0 : evOp env m = some (.map (some b))) (hk : evOp env kx = some (.int .i64 k)) (ht : look tt t = some ⟨.map kt et, sz, bt, z⟩) (hkt : look tt kt = some ⟨.int .i64, sz', bt', z'⟩) (het : look tt et = some ⟨kd, sz2, bt2, z2⟩)
  (hin : ImAt c mem b s) (ho : (match imGet s k with | some v => (match ok with | true => Value.tuple ⟨[v, .bool true]⟩ | false => v) | none => (match ok with | true => Value.tuple ⟨[z2, .bool false]⟩ | false => z2)) = out) :
  OpVal P N c env mem ⟨dd, .lookup t m kx ok, ty, pos, af, g⟩ out :=
 ⟨rfl, fun a W ha hm => by
  have hb := hin W hm
  have hku : P.underlying kt = some (.int .i64) := (TT.look (P := P) hkt).1
  have hmu : P.underlying t = some (.map kt et) := (TT.look (P := P) ht).1
  obtain ⟨_, i', hi, _, _, hz⟩ := TT.look (P := P) het
  have hz2 : (zeroValue et).run P W = .ok z2 W := by
   simp only [zeroValue, Sem.run_bind, run_info hi, Result.andThen_ok, hz]; rfl
  unfold imO at hb
  subst ho
  rcases imF_find (k := k) (l := s) (b := 0) (i := 0) with ⟨h1, h2⟩ | ⟨v, j, h1, _, h2, _, _⟩
  ·rw [h1]
   simp only [execOp, ha.eval hm0, ha.eval hk, Instr.lookup, Sem.run_bind, run_und hmu, Result.andThen_ok, MapKept.run_getObj_map hb, Sem.run_pure, MapKept.run_checkKey hku (k := .int .i64 k) rfl, MapKept.run_findKey hku h2, hz2]
   cases ok <;> rfl
  ·rw [h1]
   simp only [execOp, ha.eval hm0, ha.eval hk, Instr.lookup, Sem.run_bind, run_und hmu, Result.andThen_ok, MapKept.run_getObj_map hb, Sem.run_pure, MapKept.run_checkKey hku (k := .int .i64 k) rfl, MapKept.run_findKey hku h2]
   cases ok <;> rfl⟩
theorem l_imRangeG {t kt et b d : Nat} {m : Operand} {s : List (Int × Value)} {sz bt : Nat} {z : Value} [T : TT P tt] (hw : wantB L env g = some true) (hd : Nat.blt d N = true)
  (hm0 : evOp env m = some (.map (some b))) (ht : look tt t = some ⟨.map kt et, sz, bt, z⟩) (hin : ImAt c mem b s)
  (k : ∀ r, RunL P N c L l Q ((d, .pointer (some ⟨r, 0, none⟩)) :: env) ((r, itO b s.length []) :: mem)) :
  RunL P N c L (⟨some d, .range t m, ty, pos, af, g⟩ :: l) Q env mem :=
 l_eff (ι := Nat) (v := fun r => .pointer (some ⟨r, 0, none⟩)) (mem' := fun r => (r, itO b s.length []) :: mem) hw hd ⟨rfl, fun a W ha hm => by
  have hb := hin W hm
  have hmu : P.underlying t = some (.map kt et) := (TT.look (P := P) ht).1
  refine ⟨W.heap.size, _, ?_, hm.alloc _⟩
  unfold imO at hb
  simp only [execOp, ha.eval hm0, Sem.run_bind, run_range_map W t kt et b _ _ hmu hb, Result.andThen_ok]
  rfl⟩ k
theorem l_imNextG {b r d : Nat} {m : Operand} {s : List (Int × Value)} {seen : List Nat} {mem' : List Nat -> List (Nat × Obj)} (hw : wantB L env g = some true) (hd : Nat.blt d N = true)
  (hm0 : evOp env m = some (.pointer (some ⟨r, 0, none⟩))) (hin : ImAt c mem b s) (hu : ∀ seen', Upd mem r (itO b s.length seen) (itO b s.length seen') (mem' seen'))
  (k : ∀ o : NxI s seen, RunL P N c L l Q ((d, nxV s seen o) :: env) (mem' (nxS s seen o))) :
  RunL P N c L (⟨some d, .next m false, ty, pos, af, g⟩ :: l) Q env mem :=
 l_eff (ι := NxI s seen) (v := nxV s seen) (mem' := fun o => mem' (nxS s seen o)) hw hd ⟨rfl, fun a W ha hm => by
  have hb := hin W hm
  have hr := (hm.own _ (hu []).isIn).2
  unfold itO at hr
  unfold imO at hb
  have hold : ∀ x ∈ (⟨imF 0 s⟩ : Array MapEntry).toList, x.born < s.length := fun x hx => by
   obtain ⟨i, p, h1, rfl⟩ := imF_mem hx
   have := (List.getElem?_eq_some_iff.1 h1).1
   simp only; omega
  rcases run_next_at (P := P) W ty r b s.length s.length ⟨seen⟩ ⟨imF 0 s⟩ s.length hr hb hold (Nat.le_refl _) with ⟨h1, h2⟩ | ⟨e, he, w1, hw1, h2⟩
  ·have hall := all_seen _ _ h1
   refine ⟨⟨none, fun j hj => ?_⟩, W, ?_, ?_⟩
   ·have := hall ⟨.int .i64 s[j].1, s[j].2, 0 + j⟩ (List.mem_of_getElem? (imF_get (List.getElem?_eq_getElem hj)))
    simpa using this
   ·simp only [execOp, ha.eval hm0, Sem.run_bind, h2, Result.andThen_ok]
    rfl
   ·have := hm.upd (hu seen) (W' := W) (Same.refl _ _) (by unfold itO; exact hr)
    exact this
  ·obtain ⟨he1, he2⟩ := mem_left he
   obtain ⟨j, p, hj, rfl⟩ := imF_mem he1
   have hjl := (List.getElem?_eq_some_iff.1 hj).1
   have hns : j ∉ seen := by simpa using he2
   have hg : s.getD j (0, .bool false) = p := by rw [List.getD_eq_getElem?_getD, hj]; rfl
   have hsw : SatW c.w0 c.D c.J mem w1 := by
    rcases hw1 with rfl | rfl
    ·exact hm
    ·exact hm.drew
   have hr1 := (hsw.own _ (hu []).isIn).2
   refine ⟨⟨some j, hjl, hns⟩, w1.putObj r (itO b s.length (seen ++ [j])), ?_, hsw.upd (hu _) (Same.putObj _ _ _ fun h => h rfl) (World.putObj_heap_same (lt_of_heap hr1))⟩
   unfold nxV
   simp only [execOp, ha.eval hm0, Sem.run_bind, h2, Result.andThen_ok, hg]
   have : (⟨seen⟩ : Array Nat).push (0 + j) = ⟨seen ++ [j]⟩ := by simp
   simp only [Go.ChangeMaps.setBlock, World.putObj, itO, this]
   rfl⟩ k
theorem v_imEntryG {b r : Nat} {m : Operand} {s : List (Int × Value)} {seen : List Nat} {j : Nat} {p : Int × Value} (hm0 : evOp env m = some (.pointer (some ⟨r, 0, none⟩))) (hin : ImAt c mem b s) (hr : (r, itO b s.length (seen ++ [j])) ∈ mem) (hj : s[j]? = some p) :
  OpVal P N c env mem ⟨dd, .entry m, ty, pos, af, g⟩ (.tuple ⟨[.int .i64 p.1, p.2]⟩) :=
 ⟨rfl, fun a W ha hm => by
  have hb := hin W hm
  have hr := (hm.own _ hr).2
  unfold itO at hr
  unfold imO at hb
  have hr2 : W.heap[r]? = some (.mapIter (some b) s.length ((⟨seen⟩ : Array Nat).push (MapEntry.mk (.int .i64 p.1) p.2 (0 + j)).born) s.length) := by
   rw [hr]; simp
  have he : MapEntry.mk (.int .i64 p.1) p.2 (0 + j) ∈ (⟨imF 0 s⟩ : Array MapEntry).toList := List.mem_of_getElem? (imF_get hj)
  have hn : ((⟨imF 0 s⟩ : Array MapEntry).toList.map (·.born)).Nodup := by
   show ((imF 0 s).map (·.born)).Nodup
   rw [imF_born]
   simp only [Nat.zero_add, List.map_id']
   exact List.nodup_range
  simp only [execOp, ha.eval hm0, Sem.run_bind, run_entry_at W r b s.length ⟨seen⟩ ⟨imF 0 s⟩ s.length _ hr2 hb he hn, Result.andThen_ok]
  rfl⟩
end
end Kin
end Go

set_option maxRecDepth 100000
set_option maxHeartbeats 400000000
namespace Go.Proofs
open Go.RowKit Go.Kin Go.Kin.Se
namespace R41
/-- the cells of the library's table that are read -/
def tzI (i : Nat) : Nat := (2 ^ i * 285870213051353865 % 18446744073709551616) / 288230376151711744
theorem tz_and : ∀ i, i < 5 -> 2 ^ i &&& (18446744073709551616 - 2 ^ i) = 2 ^ i := by decide +kernel
theorem tz_lt : ∀ i, i < 5 -> tzI i < 64 := by decide +kernel
theorem tz_sm : ∀ i, i < 5 -> 0 < 2 ^ i /\ 2 ^ i <= 16 := by decide +kernel
theorem tz_neg (m : Nat) (h : 0 < m) (h2 : m <= 16) : IntKind.u64.wrap (0 - (m : Int)) = ((18446744073709551616 - m : Nat) : Int) := by rw [IntKind.wrap_u64]; omega
def Glob (w : World) : Prop := ∀ i, i < 5 -> w.cell? ⟨1, tzI i, none⟩ = some (.int .u8 i)
theorem Glob.later {w w' : World} (h : Glob w) (k : Below w.heap.size w w') : Glob w' := fun i hi => (k.cell (lt_of_cell (h i hi))).trans (h i hi)
theorem ext1o {w : World} {b o : Nat} {v : Value} (h : w.cell? ⟨b, o, none⟩ = some v) : Ext w (base w) b o [v] := ext_of fun j u hj => by
 cases j with
 | succ j => cases hj
 | zero => cases hj; exact h
theorem tz64_lem (i q m : Nat) (hi : i < 5) (w : World) (hx : Ext w (base w) 1 q [.int .u8 i]) (htl : q < 64) (hm32 : 0 < m /\ m <= 16) (hand : m &&& (18446744073709551616 - m) = m) (hix : (m * 285870213051353865 % 18446744073709551616) / 288230376151711744 = q) : Calls Tryz.prog 81 ⟨[.int .u64 (m : Int)]⟩ w fun e w' => e = .returned (.int .i64 i) /\ Below w.heap.size w w' := by
 have hneg := tz_neg m hm32.1 hm32.2
 have hne : ¬ (m : Int) = 0 := by omega
 refine fEn Tryz.func81 rfl Tryz.ntmps81 rfl rfl (sWn w) ?_
 repeat (first|refine lVa rfl rfl (by first|exact pEv rfl|fail) ?_|refine lNi ?_|refine cRg ?_|refine cSq ?_|refine xTh ?_|refine c_dec_f rfl (by first|omega|fail) ?_|refine cSk ?_|fail)
 rw [hneg]
 refine lVa rfl rfl (v_uand (m := m) (n := 18446744073709551616 - m) rfl rfl (by omega) (by omega)) ?_
 rw [hand]
 refine lVa rfl rfl (v_umulD (m := m) rfl rfl) ?_
 refine lVa rfl rfl (v_ushr58 rfl rfl) ?_
 rw [hix]
 clear hix hand hneg
 repeat (first|refine lVa rfl rfl (by first|exact v_iconv rfl rfl rfl (by omega) (by omega)|exact pEv rfl|exact vL0 rfl (by assumption) rfl (by rfl)|exact v_indexA rfl rfl rfl rfl (by omega) (by omega) (by with_reducible first|exact idx1 _|fail)|fail) ?_|refine lNi ?_|refine xTh ?_|refine c_ret ?_|fail)
 exact x_ret rfl rfl (by repeat constructor) rfl (fun W hW => ⟨rfl, hW.below⟩)
theorem tz64_calls (i : Nat) (hi : i < 5) (w : World) (hg : Glob w) : Calls Tryz.prog 81 ⟨[.int .u64 ((2 ^ i : Nat) : Int)]⟩ w fun e w' => e = .returned (.int .i64 i) /\ Below w.heap.size w w' :=
 tz64_lem i (tzI i) (2 ^ i) hi w (ext1o (hg i hi)) (tz_lt i hi) (tz_sm i hi) (tz_and i hi) (by unfold tzI; rfl)
theorem tz_lem (i m : Nat) (w : World) (hc : ∀ W, Below w.heap.size w W -> Calls Tryz.prog 81 ⟨[.int .u64 (m : Int)]⟩ W fun e w' => e = .returned (.int .i64 i) /\ Below W.heap.size W w') : Calls Tryz.prog 69 ⟨[.int .u64 (m : Int)]⟩ w fun e w' => e = .returned (.int .i64 i) /\ Below w.heap.size w w' := by
 refine fEn Tryz.func69 rfl Tryz.ntmps69 rfl rfl (sWn w) ?_
 repeat (first|refine lVa rfl rfl (by first|exact pEv rfl|fail) ?_|refine lNi ?_|refine cRg ?_|refine cSq ?_|refine xTh ?_|refine c_false rfl ?_|refine cSk ?_|fail)
 refine r_call rfl rfl rfl (fun W hW => hc W hW.below) ?_
 repeat (first|refine lVa rfl rfl (by first|exact pEv rfl|fail) ?_|refine lNi ?_|refine xTh ?_|refine c_ret ?_|fail)
 exact x_ret rfl rfl (by repeat constructor) rfl (fun W hW => ⟨rfl, hW.below⟩)
theorem tz_calls (i : Nat) (hi : i < 5) (w : World) (hg : Glob w) : Calls Tryz.prog 69 ⟨[.int .u64 ((2 ^ i : Nat) : Int)]⟩ w fun e w' => e = .returned (.int .i64 i) /\ Below w.heap.size w w' :=
 tz_lem i (2 ^ i) w (fun W hW => tz64_calls i hi W (hg.later hW))
end R41
end Go.Proofs

set_option maxRecDepth 100000
set_option maxHeartbeats 400000000
namespace Go.Proofs
open Go.RowKit Go.Kin Go.Kin.Cl
namespace R41
structure Sg where
 id : Int
 role : Int
 bar : Int
 mark : Int
 kind : Int
 side : Int
 dir : Int
 level : Int
 size : Int
 wth : Int
 fn : Int
 fd : Int
 tn : Int
 td : Int
deriving DecidableEq
@[reducible] def sgE (s : Sg) : List Value := [.int .i64 s.id, .int .i64 s.role, .int .i64 s.bar, .int .i64 s.mark, .int .i64 s.kind, .int .i64 s.side, .int .i64 s.dir, .int .i64 s.level, .int .i64 s.size, .int .i64 s.wth, .int .i64 s.fn, .int .i64 s.fd, .int .i64 s.tn, .int .i64 s.td]
def sg0 : Sg := ⟨0, 0, 0, 0, 0, 0, 0, 0, 0, 0, 0, 0, 0, 0⟩
def digs (s : Sg) : List Dg := [⟨s.role, 0, 63, 6⟩, ⟨s.kind, 1, 9, 4⟩, ⟨s.side, 0, 2, 2⟩, ⟨s.dir, 0, 8, 4⟩, ⟨s.level, 0, 3, 2⟩, ⟨s.size, 0, 255, 8⟩, ⟨s.wth, 0, 64, 7⟩]
def okS (s : Sg) : Bool := (digs s).all Dg.fit
def codeV (s : Sg) : Int := (((((s.role * 16 + s.kind) * 4 + s.side) * 16 + s.dir) * 4 + s.level) * 256 + s.size) * 128 + s.wth
theorem okS_iff {s : Sg} : okS s = true ↔ (0 <= s.role /\ s.role <= 63) /\ (1 <= s.kind /\ s.kind <= 9) /\ (0 <= s.side /\ s.side <= 2) /\ (0 <= s.dir /\ s.dir <= 8) /\ (0 <= s.level /\ s.level <= 3) /\ (0 <= s.size /\ s.size <= 255) /\ (0 <= s.wth /\ s.wth <= 64) := by
 simp [okS, digs, Dg.fit]
theorem pv_digs (s : Sg) : pv (digs s) = codeV s := by
 unfold pv digs codeV
 simp only [List.foldl_cons, List.foldl_nil]
 rw [show (2 : Int) ^ 6 = 64 by decide, show (2 : Int) ^ 4 = 16 by decide, show (2 : Int) ^ 2 = 4 by decide, show (2 : Int) ^ 8 = 256 by decide, show (2 : Int) ^ 7 = 128 by decide]
 omega
theorem digs_fine (s : Sg) : ∀ d ∈ digs s, Fine d := by
 intro d hd
 simp only [digs, List.mem_cons, List.not_mem_nil, or_false] at hd
 rcases hd with rfl | rfl | rfl | rfl | rfl | rfl | rfl <;> (unfold Fine; simp only; decide)
/-- what Code answers -/
def codA (s : Sg) : Int × Int := if okS s = true then (codeV s, 0) else (0, 410)
def v2 (p : Int × Int) : Value := .tuple ⟨[.int .i64 p.1, .int .i64 p.2]⟩
theorem codA_t {s : Sg} (h : okS s = true) : codA s = (codeV s, 0) := if_pos h
theorem codA_f {s : Sg} (h : ¬ okS s = true) : codA s = (0, 410) := if_neg h
theorem dg_len (l : List Dg) : ∀ r ∈ l.map dgE, r.length = 4 := fun r hr => by obtain ⟨x, _, rfl⟩ := List.mem_map.1 hr; rfl
theorem Code_calls (s : Sg) (w : World) : Calls Tryz.prog 13 ⟨[.agg ⟨sgE s⟩]⟩ w fun e w' => e = .returned (v2 (codA s)) /\ Below w.heap.size w w' := by
 refine fEn Tryz.func13 rfl Tryz.ntmps13 rfl rfl (sWn w) ?_
 repeat (first|refine lVa rfl rfl (by first|exact pEv rfl|exact vLd rfl (by repeat constructor) rfl (by rfl)|exact v_build rfl rfl (by rfl)|fail) ?_|refine lNi ?_|refine cRg ?_|refine cSq ?_|refine xTh ?_|refine r_box rfl rfl rfl rfl (fun _ => ?_)|refine r_buildSlice rfl rfl rfl rfl rfl rfl (by rfl) (fun _ => ?_)|fail)
 rename_i b1 b2
 refine r_call rfl rfl rfl (fun W hW => pack_calls (some ⟨b2, 0, none⟩) 7 (digs s) W (by simp [digs]) (digs_fine s) (hW.rows (b := b2) (by repeat constructor) (rest := []) rfl (dg_len _))) ?_
 rw [pv_digs]
 by_cases h : okS s = true
 ·rw [show (digs s).all Dg.fit = true from h, if_pos rfl]
  repeat (first|refine lVa rfl rfl (by first|exact pEv rfl|fail) ?_|refine lNi ?_|refine cRg ?_|refine cSq ?_|refine xTh ?_|refine c_false rfl ?_|refine cSk ?_|refine c_ret ?_|fail)
  exact x_ret rfl rfl (by repeat constructor) rfl (fun W hW => ⟨by rw [codA_t h]; rfl, hW.below⟩)
 ·rw [show (digs s).all Dg.fit = false by simpa [okS] using h]
  repeat (first|refine lVa rfl rfl (by first|exact pEv rfl|fail) ?_|refine lNi ?_|refine cRg ?_|refine cSq ?_|refine xTh ?_|refine c_true rfl ?_|refine c_ret ?_|refine xTr ?_|fail)
  exact x_ret rfl rfl (by repeat constructor) rfl (fun W hW => ⟨by rw [codA_f h]; rfl, hW.below⟩)


end R41
end Go.Proofs

set_option maxRecDepth 100000
set_option maxHeartbeats 400000000
namespace Go.Proofs
open Go.RowKit Go.Kin Go.Kin.Cl
namespace R41
/-- the sign of a code, taken apart -/
def unp (c : Int) : Sg := ⟨0, c / 128 / 256 / 4 / 16 / 4 / 16, 0, 0, c / 128 / 256 / 4 / 16 / 4 % 16, c / 128 / 256 / 4 / 16 % 4, c / 128 / 256 / 4 % 16, c / 128 / 256 % 4, c / 128 % 256, c % 128, 0, 0, 0, 0⟩
/-- what Sign answers -/
def sgnA (c : Int) : Sg × Int := if okS (unp c) = true then (unp c, 0) else (sg0, 410)
def vS (p : Sg × Int) : Value := .tuple ⟨[.agg ⟨sgE p.1⟩, .int .i64 p.2]⟩
theorem sgnA_t {c : Int} (h : okS (unp c) = true) : sgnA c = (unp c, 0) := if_pos h
theorem sgnA_f {c : Int} (h : ¬ okS (unp c) = true) : sgnA c = (sg0, 410) := if_neg h
theorem unp_range {c : Int} (h : okS (unp c) = true) : 0 <= c /\ c < 8589934592 := by
 have := (okS_iff.1 h).1
 simp only [unp] at this
 omega

theorem last_calls (b : Nat) (r p : Int) (k : Nat) (w : World) (hp : (2 : Int) ^ k = p) (hk : k <= 8) (hr : -9223372036854775808 <= r /\ r <= 9223372036854775807) (h : w.heap[b]? = some (.cells ⟨[.int .i64 r]⟩ 3 (0, 0))) :
  Calls Tryz.prog 64 ⟨[.int .i64 k, .pointer (some ⟨b, 0, none⟩)]⟩ w fun e w' => e = .returned (.int .i64 (r % p)) /\ Same (fun k => k ≠ b) w w' /\ w'.heap[b]? = some (.cells ⟨[.int .i64 (r / p)]⟩ 3 (0, 0)) := by
 have hsat : SatW w (fun k => k < w.heap.size /\ k ≠ b) noJ [(b, .cells ⟨[.int .i64 r]⟩ 3 (0, 0))] w :=
  ⟨Same.refl _ _, fun _ h => h.1, by simp, fun p hp => by rw [List.mem_singleton.1 hp]; exact ⟨fun h => h.2 rfl, h⟩, closed_noJ, trivial⟩
 obtain ⟨p1, p2⟩ := pow_small hk
 rw [hp] at p1 p2
 have s1 : IntKind.i64.wrap (1 * 2 ^ k) = p := by rw [hp, Int.one_mul, wrap_i64 (by omega) (by omega)]
 have s2 : bits .and .i64 r (p - 1) = r % p := by rw [<- hp]; exact and_low r k (by omega)
 have s3 : r / 2 ^ k = r / p := by rw [hp]
 refine fEn Tryz.func64 rfl Tryz.ntmps64 rfl rfl hsat ?_
 repeat (first|refine lVa rfl rfl (by first|exact pEv rfl|exact vLd rfl (by repeat constructor) rfl (by rfl)|fail) ?_|refine lNi ?_|refine cRg ?_|refine cSq ?_|refine xTh ?_|refine rSt rfl rfl rfl rfl rfl rfl rfl (by repeat constructor) (by rfl) ?_|refine c_ret ?_|refine c_reads rfl (by decide +kernel) ?_|refine q_val rfl rfl (by first|exact v_sub rfl rfl (by omega) (by omega)|exact pEv rfl|exact vLd rfl (by repeat constructor) rfl (by rfl)|fail) ?_|refine q_nil ?_|(refine q_val rfl rfl (v_shlA rfl rfl (by omega) (by assumption)) ?_)|(refine q_val rfl rfl (v_andA rfl rfl (by assumption)) ?_)|(refine lVa rfl rfl (v_shrA rfl rfl (by omega) (by assumption)) ?_)|fail)
 refine x_ret rfl rfl (by repeat constructor) rfl (fun W hW => ⟨rfl, hW.same.monoLt fun b hb hne => ⟨hb, hne⟩, (hW.own _ (by repeat constructor)).2⟩)

theorem Sign_calls (c : Int) (w : World) (hc : -9223372036854775808 <= c /\ c <= 9223372036854775807) : Calls Tryz.prog 35 ⟨[.int .i64 c]⟩ w fun e w' => e = .returned (vS (sgnA c)) /\ Below w.heap.size w w' := by
 obtain ⟨hc1, hc2⟩ := hc
 obtain ⟨r1, hr1⟩ : ∃ r, c / 128 = r := ⟨_, rfl⟩
 obtain ⟨r2, hr2⟩ : ∃ r, r1 / 256 = r := ⟨_, rfl⟩
 obtain ⟨r3, hr3⟩ : ∃ r, r2 / 4 = r := ⟨_, rfl⟩
 obtain ⟨r4, hr4⟩ : ∃ r, r3 / 16 = r := ⟨_, rfl⟩
 obtain ⟨r5, hr5⟩ : ∃ r, r4 / 4 = r := ⟨_, rfl⟩
 obtain ⟨r6, hr6⟩ : ∃ r, r5 / 16 = r := ⟨_, rfl⟩
 have hu : unp c = ⟨0, r6, 0, 0, r5 % 16, r4 % 4, r3 % 16, r2 % 4, r1 % 256, c % 128, 0, 0, 0, 0⟩ := by unfold unp; rw [hr1, hr2, hr3, hr4, hr5, hr6]
 have b1 : -9223372036854775808 <= r1 /\ r1 <= 9223372036854775807 := by omega
 have b2 : -9223372036854775808 <= r2 /\ r2 <= 9223372036854775807 := by omega
 have b3 : -9223372036854775808 <= r3 /\ r3 <= 9223372036854775807 := by omega
 have b4 : -9223372036854775808 <= r4 /\ r4 <= 9223372036854775807 := by omega
 have b5 : -9223372036854775808 <= r5 /\ r5 <= 9223372036854775807 := by omega
 refine fEn Tryz.func35 rfl Tryz.ntmps35 rfl rfl (sWn w) ?_
 repeat (first|refine lVa rfl rfl (by first|exact pEv rfl|fail) ?_|refine lNi ?_|refine cRg ?_|refine cSq ?_|refine xTh ?_|refine r_alloc rfl rfl rfl (by first|exact aggL|fail) (fun _ => ?_)|refine rSt rfl rfl rfl rfl rfl rfl rfl (by repeat constructor) (by rfl) ?_|fail)
 rename_i x2 x4
 refine r_callvu (o := .cells ⟨[.int .i64 c]⟩ 3 (0, 0)) (o' := .cells ⟨[.int .i64 r1]⟩ 3 (0, 0)) rfl rfl rfl rfl rfl (by repeat constructor) (fun W hW h => hr1 ▸ last_calls x4 c 128 7 W (by decide) (by decide) ⟨hc1, hc2⟩ h) (by repeat constructor) ?_
 repeat (first|refine lVa rfl rfl (by first|exact pEv rfl|fail) ?_|refine lNi ?_|refine cRg ?_|refine cSq ?_|refine xTh ?_|refine rSt rfl rfl rfl rfl rfl rfl rfl (by repeat constructor) (by rfl) ?_|fail)
 refine r_callvu (o := .cells ⟨[.int .i64 r1]⟩ 3 (0, 0)) (o' := .cells ⟨[.int .i64 r2]⟩ 3 (0, 0)) rfl rfl rfl rfl rfl (by repeat constructor) (fun W hW h => hr2 ▸ last_calls x4 r1 256 8 W (by decide) (by decide) b1 h) (by repeat constructor) ?_
 repeat (first|refine lVa rfl rfl (by first|exact pEv rfl|fail) ?_|refine lNi ?_|refine cRg ?_|refine cSq ?_|refine xTh ?_|refine rSt rfl rfl rfl rfl rfl rfl rfl (by repeat constructor) (by rfl) ?_|fail)
 refine r_callvu (o := .cells ⟨[.int .i64 r2]⟩ 3 (0, 0)) (o' := .cells ⟨[.int .i64 r3]⟩ 3 (0, 0)) rfl rfl rfl rfl rfl (by repeat constructor) (fun W hW h => hr3 ▸ last_calls x4 r2 4 2 W (by decide) (by decide) b2 h) (by repeat constructor) ?_
 repeat (first|refine lVa rfl rfl (by first|exact pEv rfl|fail) ?_|refine lNi ?_|refine cRg ?_|refine cSq ?_|refine xTh ?_|refine rSt rfl rfl rfl rfl rfl rfl rfl (by repeat constructor) (by rfl) ?_|fail)
 refine r_callvu (o := .cells ⟨[.int .i64 r3]⟩ 3 (0, 0)) (o' := .cells ⟨[.int .i64 r4]⟩ 3 (0, 0)) rfl rfl rfl rfl rfl (by repeat constructor) (fun W hW h => hr4 ▸ last_calls x4 r3 16 4 W (by decide) (by decide) b3 h) (by repeat constructor) ?_
 repeat (first|refine lVa rfl rfl (by first|exact pEv rfl|fail) ?_|refine lNi ?_|refine cRg ?_|refine cSq ?_|refine xTh ?_|refine rSt rfl rfl rfl rfl rfl rfl rfl (by repeat constructor) (by rfl) ?_|fail)
 refine r_callvu (o := .cells ⟨[.int .i64 r4]⟩ 3 (0, 0)) (o' := .cells ⟨[.int .i64 r5]⟩ 3 (0, 0)) rfl rfl rfl rfl rfl (by repeat constructor) (fun W hW h => hr5 ▸ last_calls x4 r4 4 2 W (by decide) (by decide) b4 h) (by repeat constructor) ?_
 repeat (first|refine lVa rfl rfl (by first|exact pEv rfl|fail) ?_|refine lNi ?_|refine cRg ?_|refine cSq ?_|refine xTh ?_|refine rSt rfl rfl rfl rfl rfl rfl rfl (by repeat constructor) (by rfl) ?_|fail)
 refine r_callvu (o := .cells ⟨[.int .i64 r5]⟩ 3 (0, 0)) (o' := .cells ⟨[.int .i64 r6]⟩ 3 (0, 0)) rfl rfl rfl rfl rfl (by repeat constructor) (fun W hW h => hr6 ▸ last_calls x4 r5 16 4 W (by decide) (by decide) b5 h) (by repeat constructor) ?_
 repeat (first|refine lVa rfl rfl (by first|exact pEv rfl|exact vLd rfl (by repeat constructor) rfl (by rfl)|fail) ?_|refine lNi ?_|refine cRg ?_|refine cSq ?_|refine xTh ?_|refine rSt rfl rfl rfl rfl rfl rfl rfl (by repeat constructor) (by rfl) ?_|fail)
 refine r_call rfl rfl rfl (fun W hW => Code_calls ⟨0, r6, 0, 0, r5 % 16, r4 % 4, r3 % 16, r2 % 4, r1 % 256, c % 128, 0, 0, 0, 0⟩ W) ?_
 by_cases h : okS (unp c) = true
 ·rw [codA_t (by rw [<- hu]; exact h)]
  have hv := sgnA_t h
  rw [hu] at hv
  repeat (first|refine lVa rfl rfl (by first|exact pEv rfl|exact vLd rfl (by repeat constructor) rfl (by rfl)|fail) ?_|refine lNi ?_|refine cRg ?_|refine cSq ?_|refine xTh ?_|refine rSt rfl rfl rfl rfl rfl rfl rfl (by repeat constructor) (by rfl) ?_|refine c_false rfl ?_|refine cSk ?_|refine c_ret ?_|fail)
  exact x_ret rfl rfl (by repeat constructor) rfl (fun W hW => ⟨by rw [hv]; rfl, hW.below⟩)
 ·rw [codA_f (by rw [<- hu]; exact h)]
  have hv := sgnA_f h
  repeat (first|refine lVa rfl rfl (by first|exact pEv rfl|exact v_build rfl rfl (by rfl)|fail) ?_|refine lNi ?_|refine cRg ?_|refine cSq ?_|refine xTh ?_|refine rSt rfl rfl rfl rfl rfl rfl rfl (by repeat constructor) (by rfl) ?_|refine c_true rfl ?_|refine c_ret ?_|refine xTr ?_|fail)
  exact x_ret rfl rfl (by repeat constructor) rfl (fun W hW => ⟨by rw [hv]; rfl, hW.below⟩)

/-! ## Codes -/
def isC (c : Int) : Bool := okS (unp c) || decide (c = 8589934592)
theorem isC_t {c : Int} (h : okS (unp c) = true) : isC c = true := by unfold isC; rw [h]; rfl
theorem isC_f {c : Int} (h : ¬ okS (unp c) = true) : isC c = decide (c = 8589934592) := by unfold isC; rw [show okS (unp c) = false by simpa using h]; rfl


end R41
end Go.Proofs

namespace Go.Proofs
namespace R12
/-- what `remainders` yields -/
def rems : Nat -> Nat -> Nat -> List Nat
 | 0, _, _ => []
 | f + 1, a, b => if a = 0 then [] else a :: (if a % max b 1 = 0 then [b] else rems f b (a % max b 1))
theorem rems_stable : ∀ (f a b : Nat), b < f -> ∀ g, b < g -> rems f a b = rems g a b
 | 0, _, _, h, _, _ => by omega
 | f + 1, a, b, h, g, hg => by
  cases g with
  | zero => omega
  | succ g =>
   simp only [rems]
   split
   ·rfl
   ·split
    ·rfl
    ·have hlt : a % max b 1 < b ∨ b = 0 := by
      by_cases hb : b = 0
      ·right; exact hb
      ·left; have : max b 1 = b := by omega
       rw [this]; exact Nat.mod_lt _ (by omega)
     rcases hlt with hlt | hlt
     ·rw [rems_stable f b _ (by omega) g (by omega)]
     ·subst hlt; rename_i h1 h2; exact absurd (by simp [Nat.mod_one]) h2
def remL (a b : Nat) : List Nat := rems (b + 1) a b
theorem remL_zero (b : Nat) : remL 0 b = [] := by simp [remL, rems]
theorem remL_last (a b : Nat) (ha : a ≠ 0) (h : a % max b 1 = 0) : remL a b = [a, b] := by simp [remL, rems, ha, h]
theorem remL_next (a b : Nat) (ha : a ≠ 0) (h : a % max b 1 ≠ 0) : remL a b = a :: remL b (a % max b 1) := by
 have hb : b ≠ 0 := by intro e; subst e; exact h (by simp [Nat.mod_one])
 have hm : max b 1 = b := by omega
 have hlt : a % b < b := Nat.mod_lt _ (by omega)
 rw [hm] at h ⊢
 show rems (b + 1) a b = _
 simp only [rems, hm, if_neg ha, if_neg h]
 congr 1
 exact rems_stable _ _ _ hlt _ (Nat.lt_succ_self _)
/-- the last one that comes, `d` if none -/
theorem remL_gcd (b : Nat) : ∀ (a : Nat), b ≠ 0 -> (remL a b).getLastD b = Nat.gcd a b := by
 induction b using Nat.strongRecOn with
 | _ b ih =>
  intro a hb
  have hm : max b 1 = b := by omega
  by_cases ha : a = 0
  ·subst ha; simp [remL_zero]
  ·by_cases h : a % max b 1 = 0
   ·rw [remL_last a b ha h]; rw [hm] at h
    simp only [List.getLastD_cons, List.getLastD_nil]
    exact (Nat.gcd_eq_right (Nat.dvd_of_mod_eq_zero h)).symm
   ·rw [remL_next a b ha h]
    rw [hm] at h ⊢
    have h1 := ih (a % b) (Nat.mod_lt _ (by omega)) b h
    have hne : remL b (a % b) ≠ [] := by
     by_cases h2 : b % max (a % b) 1 = 0
     ·rw [remL_last b _ hb h2]; simp
     ·rw [remL_next b _ hb h2]; simp
    rw [List.getLastD_cons, List.getLastD_eq_getLast?]
    rw [List.getLastD_eq_getLast?] at h1
    rw [List.getLast?_eq_some_getLast hne] at h1 ⊢
    simp only [Option.getD_some] at h1 ⊢
    rw [h1, Nat.gcd_comm, <- Nat.gcd_rec, Nat.gcd_comm]
end R12
end Go.Proofs

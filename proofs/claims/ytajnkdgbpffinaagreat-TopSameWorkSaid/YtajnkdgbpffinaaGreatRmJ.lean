/- Identity: which of two editions are the same work, walked. -/
import Derived.Test.YtajnkdgbpffinaaGreatIdK
import Derived.Test.YtajnkdgbpffinaaGreatEng60
import Derived.Test.YtajnkdgbpffinaaGreatRmH
set_option maxRecDepth 100000
set_option maxHeartbeats 400000000
set_option linter.unusedSectionVars false
set_option linter.unusedVariables false
set_option linter.unusedSimpArgs false
namespace Go.Proofs
open Go.RowKit Go.Kin Go.Kin.Cl
namespace R41
theorem flZ_at {w0 W : World} {D : Nat -> Prop} {J : (Nat -> Prop) -> World -> Prop} {mem : List (Nat × Obj)} {l : List Int} {b : Nat} (hW : SatW w0 D J mem W) (h : (b, Obj.cells ⟨flZ l⟩ 3 (0, 0)) ∈ mem) : Kin.At W (some ⟨b, 0, none⟩) 1 (l.map inE) :=
 at_own (f := inE) (rest := []) hW (by rw [flZ_eq, List.append_nil]; exact h) (fun x => rfl)
theorem ext_later {W V : World} {b o : Nat} {cs : List Value} (h : Ext W (base W) b o cs) (hb : Under W.heap.size W V) : Ext V (base V) b o cs :=
 ⟨Nat.lt_of_lt_of_le h.dom hb.size, fun i v hi => (Under.cell hb (p := ⟨b, o + i, none⟩) h.dom).trans (h.cell i v hi)⟩
theorem Works13_bad (x y : Ed) (A : Option Addr) (cap : Nat) (limit : Int) (w : World) (hA : Kin.At w A 1 ([x, y].map Ed.v)) (hx : x.OK w) (hy : y.OK w) (hlim : ¬ (0 <= limit /\ limit <= 1000)) :
  Calls Tryz.prog 13 ⟨[.slice A 2 cap, .int .i64 limit]⟩ w fun e w' => e = .returned (.tuple ⟨[.slice none 0 0, .int .i64 450]⟩) /\ Under w.heap.size w w' := by
 have hc := fun W (h : Under w.heap.size w W) => table34_bad x y A cap limit W (hA.later h) (hx.later h) (hy.later h) hlim
 refine fEn Tryz.func13 rfl Tryz.ntmps13 rfl rfl (sWn w) ?_
 clear hA hx hy
 repeat ((fail_if_success refine c_probe (id := 1) ?_); (fail_if_success refine c_probe1 (id := 1) ?_); first|refine lVa rfl rfl (by first|exact pEv rfl|fail) ?_|refine lNi ?_|refine cRg ?_|refine cSq ?_|refine xTh ?_|fail)
 refine cSq ?_
 repeat (first|refine lVa rfl rfl (by first|exact pEv rfl|fail) ?_|refine cRg ?_|fail)
 refine r_call rfl rfl rfl (fun W hW => hc W hW.below) ?_
 repeat (first|refine lVa rfl rfl (by first|exact pEv rfl|fail) ?_|refine lNi ?_|refine cRg ?_|refine cSq ?_|refine xTh ?_|refine c_true rfl ?_|refine c_ret ?_|refine xTr ?_|fail)
 exact x_ret rfl rfl (by repeat constructor) rfl (fun V hV => ⟨rfl, hV.below⟩)
theorem Works13_calls (x y : Ed) (A : Option Addr) (cap : Nat) (limit : Int) (w : World) (hA : Kin.At w A 1 ([x, y].map Ed.v)) (hx : x.OK w) (hy : y.OK w) (hlim : 0 <= limit /\ limit <= 1000) :
  Calls Tryz.prog 13 ⟨[.slice A 2 cap, .int .i64 limit]⟩ w fun e w' => ∃ i : Nat × Nat, e = .returned (.tuple ⟨[.slice (some ⟨i.1, 0, none⟩) 2 i.2, .int .i64 0]⟩) /\ Under w.heap.size w w' /\ Ext w' (base w') i.1 0 [.int .i64 0, .int .i64 (if simB (essC x.l) (essC y.l) limit then 0 else 1)] := by
 have hc := fun W (h : Under w.heap.size w W) => table34_calls x y A cap limit W (hA.later h) (hx.later h) (hy.later h) hlim
 generalize simB (essC x.l) (essC y.l) limit = q at hc ⊢
 refine fEn Tryz.func13 rfl Tryz.ntmps13 rfl rfl (sWn w) ?_
 clear hA hx hy
 repeat ((fail_if_success refine c_probe (id := 1) ?_); (fail_if_success refine c_probe1 (id := 1) ?_); first|refine lVa rfl rfl (by first|exact pEv rfl|fail) ?_|refine lNi ?_|refine cRg ?_|refine cSq ?_|refine xTh ?_|fail)
 refine cSq ?_
 repeat (first|refine lVa rfl rfl (by first|exact pEv rfl|fail) ?_|refine cRg ?_|fail)
 refine l_callF (ι := Nat × Nat) (v := fun i => .tuple ⟨[.slice (some ⟨i.1, 0, none⟩) 2 i.2, .int .i64 0]⟩) (mem' := []) (fun i W W' => GrOK W' i.1 0 q) rfl rfl rfl .nil (fun W hW => hc W hW.below) ?_
 rintro ⟨bg, cg⟩ W W' hW hB hW' hG
 simp only at hG ⊢
 have hbl : ∀ {mem : List (Nat × Obj)} {V : World}, SatW W' (allBut W' (List.map (·.1) ([] : List (Nat × Obj)))) noJ mem V -> Under W'.heap.size W' V := fun hV => hV.same.below (Nat.le_refl _) fun k hk => ⟨hk, by simp⟩
 have hfin : ∀ V, SatW W' (allBut W' (List.map (·.1) ([] : List (Nat × Obj)))) noJ [] V -> Under w.heap.size w V := fun V hV => hW.below.trans ((hB.trans ((hbl hV).mono hB.size)).mono hW.below.size)
 have hGl : ∀ {mem : List (Nat × Obj)} {V : World}, SatW W' (allBut W' (List.map (·.1) ([] : List (Nat × Obj)))) noJ mem V -> GrOK V bg 0 q := fun hV => by
  obtain ⟨b0, o0, c0, b1, o1, c1, x1, x2, x3⟩ := hG.ex
  exact ⟨b0, o0, c0, b1, o1, c1, ext_later x1 (hbl hV), ext_later x2 (hbl hV), ext_later x3 (hbl hV)⟩
 have hf0 := fun (b : Nat) V (hA : Kin.At V (some ⟨b, 0, none⟩) 1 ((stV q 0).map inE)) => first35_calls (some ⟨b, 0, none⟩) 2 (stV q 0) V hA (by cases q <;> decide)
 have hf1 := fun (b : Nat) V (hA : Kin.At V (some ⟨b, 0, none⟩) 1 ((stV q 1).map inE)) => first35_calls (some ⟨b, 0, none⟩) 2 (stV q 1) V hA (by cases q <;> decide)
 rw [show (stV q 0).length = 2 by cases q <;> rfl, show fstI (stV q 0) = 0 by cases q <;> rfl] at hf0
 rw [show (stV q 1).length = 2 by cases q <;> rfl, show fstI (stV q 1) = if q then 0 else 1 by cases q <;> rfl] at hf1
 clear hG hc
 repeat ((fail_if_success refine c_probe (id := 5) ?_); (fail_if_success refine c_probe1 (id := 5) ?_); first|refine lVa rfl rfl (by first|exact pEv rfl|fail) ?_|refine lNi ?_|refine cRg ?_|refine cSq ?_|refine xTh ?_|refine c_false rfl ?_|refine cBl ?_|refine cSk ?_|fail)
 refine c_rounds 5 ?_
 repeat ((fail_if_success refine c_probe (id := 7) ?_); (fail_if_success refine c_probe1 (id := 7) ?_); first|refine lVa rfl rfl (by first|exact pEv rfl|fail) ?_|refine lNi ?_|refine cRg ?_|refine cSq ?_|refine xTh ?_|refine c_true rfl ?_|refine cBl ?_|refine cSk ?_|fail)
 skip
 refine r_callF (pre := []) rfl rfl rfl (List.Perm.refl _) (fun V hV _ _ => steps36_calls q 0 bg 0 cg V (hGl hV) (by decide)) ?_
 intro b1
 simp only [List.cons_append, List.nil_append]
 refine r_call rfl rfl rfl (fun V hV => hf0 b1 V (flZ_at hV List.mem_cons_self)) ?_
 repeat (first|refine r_buildSlice rfl rfl rfl rfl rfl rfl (by rfl) (fun _ => ?_)|fail)
 refine r_appendZ (f := inE) (e := 3) (sz := 1) (xs := []) (ys := [0]) (m := 1) (b := 0) (cap := 0) (rest := []) rfl rfl rfl rfl rfl rfl rfl (.inr ⟨_, 0, rfl, news_own (by repeat constructor)⟩) (.refl _) (fun h => absurd rfl h) inE_rows rfl rfl (by decide) (by unfold maxLen; decide) (fun b8 c8 r8 hg8 => ?_)
 rw [List.nil_append] at hg8 ⊢
 have hg8' := fun (_ : Unit) => hg8
 clear hg8
 rw [gSl_ne (by simp), gM_ne (by simp)]
 simp only [List.cons_append, List.nil_append, List.length_cons, List.length_nil, List.map_cons, List.map_nil, List.flatten_cons, List.flatten_nil]
 repeat (first|refine lVa rfl rfl (by first|exact v_add rfl rfl (by omega) (by omega)|exact pEv rfl|fail) ?_|refine lNi ?_|refine cRg ?_|refine cSq ?_|refine xTh ?_|refine c_true rfl ?_|refine cBl ?_|refine cSk ?_|refine x_block ?_|fail)
 refine r_callF (pre := []) rfl rfl rfl (List.Perm.refl _) (fun V hV _ _ => steps36_calls q 1 bg 0 cg V (hGl hV) (by decide)) ?_
 intro b2
 simp only [List.cons_append, List.nil_append]
 refine r_call rfl rfl rfl (fun V hV => hf1 b2 V (flZ_at hV List.mem_cons_self)) ?_
 generalize (if q = true then (0 : Int) else 1) = z
 repeat (first|refine r_buildSlice rfl rfl rfl rfl rfl rfl (by rfl) (fun _ => ?_)|fail)
 rename_i bs2
 refine r_appendZ (f := inE) (e := 3) (sz := 1) (xs := [0]) (ys := [z]) (m := 1) (b := b8) (cap := c8) (rest := r8) rfl rfl rfl rfl rfl rfl rfl (.inr ⟨_, 0, rfl, news_own (by repeat constructor)⟩) (List.perm_append_comm_assoc [_, _] [(b8, _)] _) (hg8' ()) inE_rows rfl rfl (by simp) (by unfold maxLen; simp) (fun b9 c9 r9 hg9 => ?_)
 clear hg9
 rw [gSl_ne (by simp), gM_ne (by simp)]
 simp only [List.cons_append, List.nil_append, List.length_cons, List.length_nil, List.map_cons, List.map_nil, List.flatten_cons, List.flatten_nil]
 repeat (first|refine lVa rfl rfl (by first|exact v_add rfl rfl (by omega) (by omega)|exact pEv rfl|fail) ?_|refine lNi ?_|refine cRg ?_|refine cSq ?_|refine xTh ?_|refine c_false rfl ?_|refine c_ret ?_|refine c_exit ?_|refine xTe ?_|refine x_block ?_|refine xBs ?_|fail)
 exact x_ret rfl rfl (by repeat constructor) rfl (fun V hV => ⟨(b9, c9), rfl, hfin V (hV.mono (List.nil_sublist _)), ext_pre (cs := [_, _]) (hV.own (b9, _) (by repeat constructor)).2⟩)
end R41
end Go.Proofs

namespace Go
open Go.RowKit
namespace Kin
section
variable {P : Program} {N : Nat} {c : Cx} {env : List (Nat × Value)} {mem : List (Nat × Obj)} {tt : List (TypeId × TI)} {ty : TypeId} {pos : String} {af : Array Edge} {g : Option (Nat × Bool)} {dd : Option Tmp}
/-- a pair of numbers is looked up -/
theorem v_lookP0 [T : TT P tt] {t kt et e b sz bt sz1 bt1 bt2 sz2 bt3 : Nat} {m kx : Operand} {i k : Int} {kd : TK} {z z1 z2 z3 : Value}
  (hm0 : evOp env m = some (.map (some b))) (hk : evOp env kx = some (.agg ⟨[.int .i64 i, .int .i64 k]⟩)) (ht : look tt t = some ⟨.map kt et, sz, bt, z⟩) (hkt : look tt kt = some ⟨.array 2 e, sz1, bt1, z1⟩) (he : look tt e = some ⟨.int .i64, 1, bt2, z2⟩)
  (het : look tt et = some ⟨kd, sz2, bt3, z3⟩) (hin : ImAt c mem b []) :
  OpVal P N c env mem ⟨dd, .lookup t m kx false, ty, pos, af, g⟩ z3 :=
 ⟨rfl, fun a W ha hm => by
  have hb : W.heap[b]? = some (.map ⟨[]⟩ 0) := hin W hm
  have hmu : P.underlying t = some (.map kt et) := (TT.look (P := P) ht).1
  have hku : P.underlying kt = some (.array 2 e) := (TT.look (P := P) hkt).1
  have heu : P.underlying e = some (.int .i64) := (TT.look (P := P) he).1
  obtain ⟨_, i2, hi2, _, _, hz⟩ := TT.look (P := P) het
  have hz2 : (zeroValue et).run P W = .ok z3 W := by
   simp only [zeroValue, Sem.run_bind, run_info hi2, Result.andThen_ok, hz]; rfl
  obtain ⟨p1, p2⟩ := part_pair (P := P) he i k W
  obtain ⟨ie, hie, hse⟩ := (TT.look (P := P) he).size
  have hsz : (sizeOf e).run P W = .ok 1 W := by rw [run_size hie, hse]
  have hck : ∀ em : Bool, (Instr.checkKey em 10000 kt (.agg ⟨pairE i k⟩)).run P W = .ok () W := fun em => by
   have hp : ∀ v : Value, (Instr.checkKey em 9999 e v).run P W = .ok () W := fun v => run_checkPlain (n := 9998) heu rfl
   rw [show (10000 : Nat) = 9999 + 1 from rfl, Instr.checkKey]
   simp only [Sem.run_bind, run_und hku, Result.andThen_ok]
   simp only [Std.Legacy.Range.forIn_eq_forIn_range', Std.Legacy.Range.size, Nat.sub_zero, Nat.add_sub_cancel, Nat.div_one, List.range'_succ, List.range'_zero, List.forIn_cons, List.forIn_nil, Sem.run_bind, hsz, p1, p2, hp, Result.andThen_ok, Sem.run_pure]
  have hr := run_findKey (P := P) (W := W) (k := .agg ⟨pairE i k⟩) (f := fun _ => false) hku rfl [] (fun e he => by cases he)
  rw [show findB (fun _ => false) [] 0 = none from rfl] at hr
  simp only [execOp, ha.eval hm0, ha.eval hk, Instr.lookup, Sem.run_bind, run_und hmu, Result.andThen_ok, MapKept.run_getObj_map hb, hck, hr, hz2, Sem.run_pure]
  rfl⟩
end
end Kin
end Go

set_option maxRecDepth 100000
set_option maxHeartbeats 400000000
namespace Go.Proofs
open Go.RowKit Go.Kin Go.Kin.Cl
namespace R41
/-- a state: its patches remove -/
structure StS (w : World) (bm bset br : Nat) (ps : List (Int × Int)) : Prop where
 set : w.heap[bset]? = some (.map ⟨[]⟩ 0)
 rm : RmW w br ps
@[reducible] def stV4 (bm bset br : Nat) (X : Option Addr) (n c : Nat) : List Value := [.map (some bm), .map (some bset), .map (some br), .slice X n c]
theorem StS.later {w W : World} {bm bset br : Nat} {ps : List (Int × Int)} (h : StS w bm bset br ps) (hB : Under w.heap.size w W) : StS W bm bset br ps := by
 obtain ⟨h1, R, h2, h3, h4⟩ := h
 refine ⟨(hB.block _ (lt_of_heap h1)).trans h1, R, (hB.block _ (lt_of_heap h2)).trans h2, fun p hp => ?_, h4⟩
 obtain ⟨b, c, g1, g2⟩ := h3 p hp
 exact ⟨b, c, g1, ext_later g2 hB⟩
theorem unseen93_calls (bm bset br : Nat) (X : Option Addr) (n c : Nat) (ps : List (Int × Int)) (sign : Int) (w : World) (hS : StS w bm bset br ps) :
  Calls Tryz.prog 93 ⟨[.agg ⟨stV4 bm bset br X n c⟩, .int .i64 sign]⟩ w fun e w' => e = .returned (.slice none 0 0) /\ Under w.heap.size w w' := by
 have hD : base w bset := lt_of_heap hS.set
 have h0 := hS.set
 refine fEn Tryz.func93 rfl Tryz.ntmps93 rfl rfl (sWn w) ?_
 repeat ((fail_if_success refine c_probe (id := 2) ?_); (fail_if_success refine c_probe1 (id := 2) ?_); first|refine lVa rfl rfl (by first|exact pEv rfl|fail) ?_|refine lNi ?_|refine cRg ?_|refine cSq ?_|refine xTh ?_|refine r_box rfl rfl rfl rfl (fun _ => ?_)|refine cBl ?_|fail)
 rename_i bx
 refine c_loop (ι := Nat) (fun k => 1 <= k /\ k <= 10) (fun k => [(1, .int .i64 sign), (2, .pointer (some ⟨bx, 0, none⟩)), (4, .slice none 0 0), (5, .int .i64 k)]) (fun _ => [(bx, .cells ⟨stV4 bm bset br X n c⟩ 74 (0, 0))]) (fun k => 10 - k) 1 ⟨by decide, by decide⟩ (by repeat (first|exact .nil|refine .cons rfl (by first|rfl|(congr 1; done)|exact congrArg _ (by omega)|(simp; done)) ?_)) (by repeat (first|exact .nil|refine .keep (by first|rfl|assumption) ?_|refine .drop ?_|exact MSub.refl _)) ?_
 rintro k ⟨h1, h2⟩
 by_cases hlt : k <= 9
 ·repeat ((fail_if_success refine c_probe (id := 4) ?_); (fail_if_success refine c_probe1 (id := 4) ?_); first|refine lVa rfl rfl (by first|exact pEv rfl|fail) ?_|refine lNi ?_|refine cRg ?_|refine cSq ?_|refine xTh ?_|refine c_dec_t rfl (by first|omega|fail) ?_|refine cBl ?_|refine cSk ?_|fail)
  repeat (first|refine lVa rfl rfl (v_lookP0 (i := sign) (k := k) rfl rfl rfl rfl rfl rfl (.far hD h0)) ?_|refine lVa rfl rfl (by first|exact pEv rfl|exact vLd rfl (by repeat constructor) rfl (by rfl)|exact v_buildA rfl rfl rfl (by rfl)|fail) ?_|refine lNi ?_|refine cRg ?_|refine cSq ?_|refine xTh ?_|refine cBl ?_|fail)
  refine c_rounds 0 ?_
  repeat ((fail_if_success refine c_probe (id := 3) ?_); (fail_if_success refine c_probe1 (id := 3) ?_); first|refine lVa rfl rfl (by first|exact v_add rfl rfl (by omega) (by omega)|exact pEv rfl|fail) ?_|refine lNi ?_|refine cRg ?_|refine cSq ?_|refine xTh ?_|refine c_false rfl ?_|refine c_exit ?_|refine xTe ?_|refine x_block ?_|refine xBs ?_|fail)
  skip
  exact x_back (k + 1) ⟨by omega, by omega⟩ (by omega) (by repeat (first|exact .nil|refine .cons rfl (by first|rfl|(congr 1; done)|exact congrArg _ (by omega)|(simp; done)) ?_)) (by repeat (first|exact .nil|refine .keep (by first|rfl|assumption) ?_|refine .drop ?_|exact MSub.refl _))
 repeat ((fail_if_success refine c_probe (id := 10) ?_); (fail_if_success refine c_probe1 (id := 10) ?_); first|refine lVa rfl rfl (by first|exact pEv rfl|fail) ?_|refine lNi ?_|refine cRg ?_|refine cSq ?_|refine xTh ?_|refine c_dec_f rfl (by first|omega|fail) ?_|refine c_exit ?_|refine xTe ?_|refine xBs ?_|fail)
 repeat (first|refine lVa rfl rfl (by first|exact pEv rfl|fail) ?_|refine lNi ?_|refine cRg ?_|refine cSq ?_|refine xTh ?_|refine c_ret ?_|fail)
 exact x_ret rfl rfl (by repeat constructor) rfl (fun W hW => ⟨rfl, hW.below⟩)
end R41
end Go.Proofs

set_option maxRecDepth 100000
set_option maxHeartbeats 400000000
namespace Go.Proofs
open Go.RowKit Go.Kin Go.Kin.Cl
namespace R41
theorem exists64_calls (bm bset br : Nat) (X : Option Addr) (n c : Nat) (ps : List (Int × Int)) (sign : Int) (w : World) (hS : StS w bm bset br ps) :
  Calls Tryz.prog 64 ⟨[.agg ⟨stV4 bm bset br X n c⟩, .int .i64 sign]⟩ w fun e w' => e = .returned (.bool (!(ps.map (·.2)).contains sign)) /\ Under w.heap.size w w' := by
 have hun := fun W (h : Under w.heap.size w W) => unseen93_calls bm bset br X n c ps sign W (hS.later h)
 obtain ⟨h0, R, h1, h2, h3⟩ := hS
 have hD : base w br := lt_of_heap h1
 refine fEn Tryz.func64 rfl Tryz.ntmps64 rfl rfl (sWn w) ?_
 by_cases hin : ∃ p ∈ ps, p.2 = sign
 ·obtain ⟨p, hp, rfl⟩ := hin
  obtain ⟨b, cc, g1, -⟩ := h2 p hp
  have hv : (!(ps.map (·.2)).contains p.2) = false := by rw [List.contains_eq_mem, decide_eq_true (List.mem_map.2 ⟨p, hp, rfl⟩)]; rfl
  rw [hv]
  repeat (first|refine lVa rfl rfl (v_imGetG (k := p.2) (s := R) (out := .slice (some ⟨b, 0, none⟩) 1 cc) (ok := false) rfl rfl rfl rfl rfl (.far hD h1) (by rw [g1])) ?_|refine lVa rfl rfl (by first|exact pEv rfl|exact vLd rfl (by repeat constructor) rfl (by rfl)|fail) ?_|refine lNi ?_|refine cRg ?_|refine cSq ?_|refine xTh ?_|refine r_box rfl rfl rfl rfl (fun _ => ?_)|refine l_dec_f rfl rfl rfl rfl rfl (by first|omega|exact fun h => h rfl|fail) ?_|fail)
  refine r_call rfl rfl rfl (fun W hW => hun W hW.below) ?_
  repeat (first|refine lVa rfl rfl (by first|exact pEv rfl|fail) ?_|refine lNi ?_|refine xTh ?_|refine c_ret ?_|fail)
  exact x_ret rfl rfl (by repeat constructor) rfl (fun W hW => ⟨rfl, hW.below⟩)
 ·have g1 := h3 sign fun p hp e => hin ⟨p, hp, e⟩
  have hv : (!(ps.map (·.2)).contains sign) = true := by
   rw [List.contains_eq_mem, decide_eq_false]; · rfl
   intro h
   obtain ⟨p, hp, e⟩ := List.mem_map.1 h
   exact hin ⟨p, hp, e⟩
  rw [hv]
  repeat (first|refine lVa rfl rfl (v_imGetG (k := sign) (s := R) (out := .slice none 0 0) (ok := false) rfl rfl rfl rfl rfl (.far hD h1) (by rw [g1])) ?_|refine lVa rfl rfl (by first|exact pEv rfl|exact vLd rfl (by repeat constructor) rfl (by rfl)|fail) ?_|refine lNi ?_|refine cRg ?_|refine cSq ?_|refine xTh ?_|refine l_skip rfl rfl ?_|refine r_box rfl rfl rfl rfl (fun _ => ?_)|refine c_ret ?_|fail)
  exact x_ret rfl rfl (by repeat constructor) rfl (fun W hW => ⟨rfl, hW.below⟩)
theorem latest94_calls (f : Value) (b1 b2 b3 bm bset br : Nat) (X : Option Addr) (n c : Nat) (sign field : Int) (w : World) (h1 : w.heap[b1]? = some (.cells ⟨stV4 bm bset br X n c⟩ 74 (0, 0))) (h2 : w.heap[b2]? = some (.cells ⟨[.int .i64 sign]⟩ 3 (0, 0))) (h3 : w.heap[b3]? = some (.cells ⟨[.int .i64 field]⟩ 3 (0, 0))) (hS : w.heap[bset]? = some (.map ⟨[]⟩ 0)) :
  Calls Tryz.prog 94 ⟨[f, .pointer (some ⟨b1, 0, none⟩), .pointer (some ⟨b2, 0, none⟩), .pointer (some ⟨b3, 0, none⟩)]⟩ w fun e w' => e = .returned (.tuple #[]) /\ Under w.heap.size w w' := by
 have x1 := ext_heap h1
 have x2 := ext_heap h2
 have x3 := ext_heap h3
 have hD : base w bset := lt_of_heap hS
 refine fEn Tryz.func94 rfl Tryz.ntmps94 rfl rfl (sWn w) ?_
 repeat (first|refine lVa rfl rfl (v_lookP0 (i := sign) (k := field) rfl rfl rfl rfl rfl rfl (.far hD hS)) ?_|refine c_rounds 0 ?_|refine lVa rfl rfl (by first|exact pEv rfl|exact vL0 rfl (by assumption) rfl (by rfl)|exact vLe rfl (by assumption) rfl (by rfl)|exact v_buildA rfl rfl rfl (by rfl)|fail) ?_|refine lNi ?_|refine cRg ?_|refine cSq ?_|refine xTh ?_|refine c_false rfl ?_|refine cBl ?_|refine c_exit ?_|refine xTe ?_|refine xBs ?_|fail)
 exact x_end rfl rfl (by repeat constructor) rfl (fun W hW => ⟨rfl, hW.below⟩)
theorem latest65_calls (bm bset br : Nat) (X : Option Addr) (n c : Nat) (sign field : Int) (w : World) :
  Calls Tryz.prog 65 ⟨[.agg ⟨stV4 bm bset br X n c⟩, .int .i64 sign, .int .i64 field]⟩ w (FrQ [] (fun i : Nat × Nat × Nat => .func (.func 94) ⟨[]⟩ ⟨[.pointer (some ⟨i.1, 0, none⟩), .pointer (some ⟨i.2.1, 0, none⟩), .pointer (some ⟨i.2.2, 0, none⟩)]⟩)
   (fun i => [(i.2.2, .cells ⟨[.int .i64 field]⟩ 3 (0, 0)), (i.2.1, .cells ⟨[.int .i64 sign]⟩ 3 (0, 0)), (i.1, .cells ⟨stV4 bm bset br X n c⟩ 74 (0, 0))]) w) := by
 have hsat := frQ_start (W := w) (pre := []) (by simp) fun p hp => by cases hp
 refine fEn Tryz.func65 rfl Tryz.ntmps65 rfl rfl hsat ?_
 repeat (first|refine lVa rfl rfl (by first|exact pEv rfl|fail) ?_|refine lNi ?_|refine cRg ?_|refine cSq ?_|refine xTh ?_|refine r_box rfl rfl rfl rfl (fun _ => ?_)|refine c_ret ?_|fail)
 rename_i b1 b2 b3
 exact x_ret rfl rfl (by repeat constructor) rfl (fun W hW => ⟨(b1, b2, b3), rfl, hW⟩)
/-- the iterator yields nothing -/
theorem latest_it {W : World} {q1 q2 q3 bm bset br : Nat} {X : Option Addr} {n c : Nat} {sign field : Int} (h1 : W.heap[q1]? = some (.cells ⟨stV4 bm bset br X n c⟩ 74 (0, 0))) (h2 : W.heap[q2]? = some (.cells ⟨[.int .i64 sign]⟩ 3 (0, 0))) (h3 : W.heap[q3]? = some (.cells ⟨[.int .i64 field]⟩ 3 (0, 0))) (hS : W.heap[bset]? = some (.map ⟨[]⟩ 0)) :
  It Tryz.prog 94 [.pointer (some ⟨q1, 0, none⟩), .pointer (some ⟨q2, 0, none⟩), .pointer (some ⟨q3, 0, none⟩)] (fun _ : Unit => []) [] (fun _ => False) W := by
 intro l J Jx cJ cJx hy h0
 refine (latest94_calls (.func (.yield l) #[] #[]) q1 q2 q3 bm bset br X n c sign field W h1 h2 h3 hS).mono ?_
 rintro e W' ⟨e1, hB⟩
 exact ⟨⟨_, e1⟩, .inl ⟨fun _ => False, cJ 0 _ _ _ _ h0 (Same.of_below_all hB) fun b hb => hb.elim⟩⟩
end R41
end Go.Proofs

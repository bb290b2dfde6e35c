/- Lists of signs that are the same, and numbers that increase, walked. -/
import Derived.Test.YtajnkdgbpffinaaGreatEng55
import Derived.LoopNIn
import Derived.Laws.CopyRow
import Derived.Test.YtajnkdgbpffinaaGreatPcF
set_option maxRecDepth 100000
set_option maxHeartbeats 400000000
set_option linter.unusedSectionVars false
set_option linter.unusedVariables false
set_option linter.unusedSimpArgs false
namespace Go.Proofs
open Go.RowKit Go.Kin Go.Kin.Cl
namespace R41
theorem same11_calls (A B : Option Addr) (ca cb : Nat) (l : List Sg) (w : World) (hA : Kin.At w A 14 (l.map sgE)) (hB : Kin.At w B 14 (l.map sgE)) (hl : l.length <= 100000) :
  Calls Tryz.prog 11 ⟨[.slice A l.length ca, .slice B l.length cb]⟩ w fun e w' => e = .returned (.bool true) /\ Under w.heap.size w w' := by
 obtain ⟨n, hn⟩ : ∃ n, l.length = n := ⟨_, rfl⟩
 rw [hn] at hl ⊢
 refine fEn Tryz.func11 rfl Tryz.ntmps11 rfl rfl (sWn w) ?_
 repeat ((fail_if_success refine c_probe (id := 4) ?_); (fail_if_success refine c_probe1 (id := 4) ?_); first|refine lVa rfl rfl (by first|exact pEv rfl|fail) ?_|refine lNi ?_|refine cRg ?_|refine cSq ?_|refine xTh ?_|refine c_dec_f rfl (by first|omega|exact fun h => h rfl|fail) ?_|refine cBl ?_|refine cSk ?_|fail)
 refine c_loop (ι := Nat) (fun k => k <= n) (fun k => [(0, .slice A n ca), (1, .slice B n cb), (5, .int .i64 k)]) (fun _ => []) (fun k => n - k) 0 (Nat.zero_le _) (by repeat (first|exact .nil|refine .cons rfl (by first|rfl|(congr 1; done)|exact congrArg _ (by omega)|(simp; done)) ?_)) (by repeat (first|exact .nil|refine .keep (by first|rfl|assumption) ?_|refine .drop ?_|exact MSub.refl _)) ?_
 intro k hk
 by_cases hlt : k < n
 rotate_left
 ·have hkn : k = n := by omega
  subst hkn
  repeat ((fail_if_success refine c_probe (id := 9) ?_); (fail_if_success refine c_probe1 (id := 9) ?_); first|refine lVa rfl rfl (by first|exact pEv rfl|fail) ?_|refine lNi ?_|refine cRg ?_|refine cSq ?_|refine xTh ?_|refine c_dec_f rfl (by first|omega|fail) ?_|refine c_ret ?_|refine c_exit ?_|refine xTe ?_|refine xBs ?_|fail)
  exact x_ret rfl rfl (by repeat constructor) rfl (fun W hW => ⟨rfl, hW.below⟩)
 obtain ⟨s, hs⟩ : ∃ s, l[k]? = some s := ⟨_, List.getElem?_eq_getElem (by omega)⟩
 obtain ⟨b, o, hAb, hc⟩ := hA k (sgE s) (by rw [List.getElem?_map, hs]; rfl)
 obtain ⟨b', o', hBb, hc'⟩ := hB k (sgE s) (by rw [List.getElem?_map, hs]; rfl)
 have x1 := ext_of hc
 have x2 := ext_of hc'
 have he : eqV tt [30, 32, 58, 99, 109] 8 32 (.agg ⟨sgE s⟩) (.agg ⟨sgE s⟩) = some true := by rw [eqsg, decide_eq_true rfl]
 rw [hAb, hBb]
 repeat ((fail_if_success refine c_probe (id := 6) ?_); (fail_if_success refine c_probe1 (id := 6) ?_); first|refine lVa rfl rfl (by first|exact pEv rfl|fail) ?_|refine lNi ?_|refine cRg ?_|refine cSq ?_|refine xTh ?_|refine c_dec_t rfl (by first|omega|fail) ?_|refine cBl ?_|refine cSk ?_|fail)
 refine cSq ?_
 repeat ((fail_if_success refine c_probe (id := 7) ?_); (fail_if_success refine c_probe1 (id := 7) ?_); first|refine q_val rfl rfl (v_neS rfl rfl rfl he) ?_|refine lVa rfl rfl (by first|exact v_add rfl rfl (by omega) (by omega)|exact pEv rfl|fail) ?_|refine lNi ?_|refine cRg ?_|refine xTh ?_|refine c_false rfl ?_|refine cSk ?_|refine x_block ?_|refine c_reads rfl (by decide +kernel) ?_|refine q_val rfl rfl (by first|exact pEv rfl|exact vL0 rfl (by assumption) rfl (by rfl)|exact v_index rfl rfl rfl rfl (by omega) (by omega) (by with_reducible first|exact idx4 _ _ _|fail)|fail) ?_|refine q_nil ?_|fail)
 skip
 exact x_back (k + 1) hlt (by omega) (by repeat (first|exact .nil|refine .cons rfl (by first|rfl|(congr 1; done)|exact congrArg _ (by omega)|(simp; done)) ?_)) (by repeat (first|exact .nil|refine .keep (by first|rfl|assumption) ?_|refine .drop ?_|exact MSub.refl _))
theorem incr88_calls (A : Option Addr) (ca : Nat) (l : List Int) (w : World) (hA : Kin.At w A 1 (l.map inE)) (hl : l.length <= 100000) (hi : l.Pairwise (· < ·)) :
  Calls Tryz.prog 88 ⟨[.slice A l.length ca]⟩ w fun e w' => e = .returned (.bool true) /\ Under w.heap.size w w' := by
 obtain ⟨n, hn⟩ : ∃ n, l.length = n := ⟨_, rfl⟩
 rw [hn] at hl ⊢
 refine fEn Tryz.func88 rfl Tryz.ntmps88 rfl rfl (sWn w) ?_
 repeat ((fail_if_success refine c_probe (id := 2) ?_); (fail_if_success refine c_probe1 (id := 2) ?_); first|refine lVa rfl rfl (by first|exact pEv rfl|fail) ?_|refine lNi ?_|refine cRg ?_|refine cSq ?_|refine xTh ?_|refine cBl ?_|fail)
 refine c_loop (ι := Nat) (fun _ => True) (fun k => [(0, .slice A n ca), (3, .int .i64 (k + 1 : Nat))]) (fun _ => []) (fun k => n - k) 0 trivial (by repeat (first|exact .nil|refine .cons rfl (by first|rfl|(congr 1; done)|exact congrArg _ (by omega)|(simp; done)) ?_)) (by repeat (first|exact .nil|refine .keep (by first|rfl|assumption) ?_|refine .drop ?_|exact MSub.refl _)) ?_
 intro k _
 by_cases hlt : k + 1 < n
 rotate_left
 ·repeat ((fail_if_success refine c_probe (id := 7) ?_); (fail_if_success refine c_probe1 (id := 7) ?_); first|refine lVa rfl rfl (by first|exact pEv rfl|fail) ?_|refine lNi ?_|refine cRg ?_|refine cSq ?_|refine xTh ?_|refine c_dec_f rfl (by first|omega|fail) ?_|refine c_ret ?_|refine c_exit ?_|refine xTe ?_|refine xBs ?_|fail)
  exact x_ret rfl rfl (by repeat constructor) rfl (fun W hW => ⟨rfl, hW.below⟩)
 obtain ⟨s, hs⟩ : ∃ s, l[k]? = some s := ⟨_, List.getElem?_eq_getElem (by omega)⟩
 obtain ⟨t, ht⟩ : ∃ s, l[k + 1]? = some s := ⟨_, List.getElem?_eq_getElem (by omega)⟩
 obtain ⟨b, o, hAb, hc⟩ := hA k (inE s) (by rw [List.getElem?_map, hs]; rfl)
 obtain ⟨b', o', hBb, hc'⟩ := hA (k + 1) (inE t) (by rw [List.getElem?_map, ht]; rfl)
 rw [hAb] at hBb
 cases hBb
 have x1 := ext_of hc
 have x2 := ext_of hc'
 rw [Nat.mul_one] at x1 x2
 have hst : s < t := by
  obtain ⟨h1, e1⟩ := List.getElem?_eq_some_iff.1 hs
  obtain ⟨h3, e3⟩ := List.getElem?_eq_some_iff.1 ht
  have := List.pairwise_iff_getElem.1 hi k (k + 1) h1 h3 (by omega)
  rw [e1, e3] at this; exact this
 have hx : ¬ t <= s := by omega
 rw [hAb]
 repeat ((fail_if_success refine c_probe (id := 4) ?_); (fail_if_success refine c_probe1 (id := 4) ?_); first|refine lVa rfl rfl (by first|exact pEv rfl|fail) ?_|refine lNi ?_|refine cRg ?_|refine cSq ?_|refine xTh ?_|refine c_dec_t rfl (by first|omega|fail) ?_|refine cBl ?_|refine cSk ?_|fail)
 refine cSq ?_
 repeat ((fail_if_success refine c_probe (id := 5) ?_); (fail_if_success refine c_probe1 (id := 5) ?_); first|refine q_val rfl rfl (v_subQ rfl rfl (show ((k + 1 : Nat) : Int) - 1 = (k : Int) by omega) (by omega) (by omega)) ?_|refine lVa rfl rfl (by first|exact v_add rfl rfl (by omega) (by omega)|exact pEv rfl|fail) ?_|refine lNi ?_|refine cRg ?_|refine xTh ?_|refine c_dec_f rfl (by first|omega|fail) ?_|refine cSk ?_|refine x_block ?_|refine c_reads rfl (by decide +kernel) ?_|refine q_val rfl rfl (by first|exact pEv rfl|exact vL0 rfl (by assumption) rfl (by rfl)|exact v_index rfl rfl rfl rfl (by omega) (by omega) (by with_reducible first|exact idx2 _ _|fail)|fail) ?_|refine q_nil ?_|fail)
 skip
 exact x_back (k + 1) trivial (by omega) (by repeat (first|exact .nil|refine .cons rfl (by first|rfl|(congr 1; done)|exact congrArg _ (by omega)|(simp; done)) ?_)) (by repeat (first|exact .nil|refine .keep (by first|rfl|assumption) ?_|refine .drop ?_|exact MSub.refl _))
end R41
end Go.Proofs

set_option maxRecDepth 100000
set_option maxHeartbeats 400000000
namespace Go.Proofs
open Go.RowKit Go.Kin Go.Kin.Cl
namespace R41
theorem nan92_calls (x : Int) (w : World) : Calls Tryz.prog 92 ⟨[.int .i64 x]⟩ w fun e w' => e = .returned (.bool false) /\ Under w.heap.size w w' := by
 refine fEn Tryz.func92 rfl Tryz.ntmps92 rfl rfl (sWn w) ?_
 repeat (first|refine lVa rfl rfl (by first|exact pEv rfl|fail) ?_|refine lNi ?_|refine cRg ?_|refine cSq ?_|refine xTh ?_|refine c_ret ?_|fail)
 exact x_ret rfl rfl (by repeat constructor) rfl (fun W hW => ⟨by simp, hW.below⟩)
def cmpZ (x y : Int) : Int := if x < y then -1 else if y < x then 1 else 0
theorem cmp63_calls (x y : Int) (w : World) : Calls Tryz.prog 63 ⟨[.int .i64 x, .int .i64 y]⟩ w fun e w' => e = .returned (.int .i64 (cmpZ x y)) /\ Under w.heap.size w w' := by
 refine fEn Tryz.func63 rfl Tryz.ntmps63 rfl rfl (sWn w) ?_
 repeat (first|refine lVa rfl rfl (by first|exact pEv rfl|fail) ?_|refine lNi ?_|refine cRg ?_|refine cSq ?_|refine xTh ?_|fail)
 refine r_call rfl rfl rfl (fun W hW => nan92_calls x W) ?_
 repeat (first|refine lVa rfl rfl (by first|exact pEv rfl|fail) ?_|refine lNi ?_|refine cRg ?_|refine cSq ?_|refine xTh ?_|fail)
 refine r_call rfl rfl rfl (fun W hW => nan92_calls y W) ?_
 by_cases h1 : x < y
 ·have hv : cmpZ x y = -1 := if_pos h1
  repeat (first|refine lVa rfl rfl (by first|exact pEv rfl|fail) ?_|refine lNi ?_|refine cRg ?_|refine cSq ?_|refine xTh ?_|refine c_false rfl ?_|refine c_dec_t rfl (by first|omega|fail) ?_|refine cSk ?_|refine c_ret ?_|refine xTr ?_|fail)
  exact x_ret rfl rfl (by repeat constructor) rfl (fun W hW => ⟨by rw [hv], hW.below⟩)
 by_cases h2 : y < x
 ·have hv : cmpZ x y = 1 := by unfold cmpZ; rw [if_neg h1, if_pos h2]
  repeat (first|refine lVa rfl rfl (by first|exact pEv rfl|fail) ?_|refine lNi ?_|refine cRg ?_|refine cSq ?_|refine xTh ?_|refine c_false rfl ?_|refine c_dec_t rfl (by first|omega|fail) ?_|refine c_dec_f rfl (by first|omega|fail) ?_|refine cSk ?_|refine c_ret ?_|refine xTr ?_|fail)
  exact x_ret rfl rfl (by repeat constructor) rfl (fun W hW => ⟨by rw [hv], hW.below⟩)
 have hv : cmpZ x y = 0 := by unfold cmpZ; rw [if_neg h1, if_neg h2]
 repeat (first|refine lVa rfl rfl (by first|exact pEv rfl|fail) ?_|refine lNi ?_|refine cRg ?_|refine cSq ?_|refine xTh ?_|refine c_false rfl ?_|refine c_dec_f rfl (by first|omega|fail) ?_|refine cSk ?_|refine c_ret ?_|fail)
 exact x_ret rfl rfl (by repeat constructor) rfl (fun W hW => ⟨by rw [hv], hW.below⟩)
theorem byid62_calls (s t : Sg) (w : World) : Calls Tryz.prog 62 ⟨[.agg ⟨sgE s⟩, .agg ⟨sgE t⟩]⟩ w fun e w' => e = .returned (.int .i64 (cmpZ s.id t.id)) /\ Under w.heap.size w w' := by
 refine fEn Tryz.func62 rfl Tryz.ntmps62 rfl rfl (sWn w) ?_
 repeat (first|refine lVa rfl rfl (by first|exact pEv rfl|exact vLd rfl (by repeat constructor) rfl (by rfl)|fail) ?_|refine lNi ?_|refine cRg ?_|refine cSq ?_|refine xTh ?_|refine r_box rfl rfl rfl rfl (fun _ => ?_)|fail)
 refine r_call rfl rfl rfl (fun W hW => cmp63_calls _ _ W) ?_
 repeat (first|refine lVa rfl rfl (by first|exact pEv rfl|fail) ?_|refine lNi ?_|refine xTh ?_|refine c_ret ?_|fail)
 exact x_ret rfl rfl (by repeat constructor) rfl (fun W hW => ⟨rfl, hW.below⟩)
end R41
end Go.Proofs

namespace Go
open Go.RowKit
namespace Kin
section
variable {P : Program} {N : Nat} {c : Cx} {Q : Exit -> Act -> World -> Prop} {env : List (Nat × Value)} {mem : List (Nat × Obj)}
/-- at most m + 1 rounds -/
theorem c_rounds {body : Code} (m : Nat) (k : RunC P N c body (Exit.then (Code.roundsIn c.F c.n P body Q m) Q) env mem) : RunC P N c (.loop body) Q env mem :=
 .mk fun a W ha hm => wpIn_loop_rounds (m + 1) (k.run a W ha hm)
end
end Kin
end Go

namespace Go
open Go.RowKit
namespace Kin
section
variable {P : Program} {N : Nat} {c : Cx} {Q : Exit -> Act -> World -> Prop} {env : List (Nat × Value)} {mem : List (Nat × Obj)} {L l : List Oper} {tt : List (TypeId × TI)}
 {ty : TypeId} {pos : String} {af : Array Edge} {g : Option (Nat × Bool)}
variable [Wide c.F]
theorem p_copy {t t2 : TypeId} {x y : Operand} {a : Act} {W W' : World} {s u v : Value} {dd : Option Tmp} (hx : a.eval x = s) (hy : a.eval y = u) (h : (Builtin.copy_ #[t, t2] ty #[s, u]).run P W = .ok v W') :
  (execOp a.eval ⟨dd, .call ⟨.builtin .copy, ⟨[x, y]⟩, ⟨[t, t2]⟩⟩, ty, pos, af, g⟩).run P W = .ok (.value v) W' := by
 simp only [execOp, resolve, List.map_toArray, List.map_cons, List.map_nil, hx, hy, Sem.run_bind]
 simp only [Sem.run, pure, Result.andThen_ok, invoke, builtin, Sem.run_bind, bind, Sem.run_bind']
 rw [show (Builtin.copy_ ⟨[t, t2]⟩ ty ⟨[s, u]⟩).run P W = .ok v W' from h]; rfl
/-- cells copied into a block of one's own -/
theorem r_copy [T : TT P tt] {d t t2 e o dLen dCap sLen sCap b bx ox bt sz' bt' : Nat} {ke : TK} {z z' : Value} {x y : Operand} {cur cs new : List Value} {q : Int} {T0 : TypeId} {mem' : List (Nat × Obj)} (hw : wantB L env g = some true) (hd : Nat.blt d N = true)
  (hx : evOp env x = some (.slice (some ⟨b, o, none⟩) dLen dCap)) (hy : evOp env y = some (.slice (some ⟨bx, ox, none⟩) sLen sCap)) (ht : look tt t = some ⟨.slice e, sz', bt', z'⟩) (hte : look tt e = some ⟨ke, 1, bt, z⟩)
  (hnews : News c mem bx ox cs) (hu : Upd mem b (.cells ⟨cur⟩ T0 (0, 0)) (.cells ⟨new⟩ T0 (0, 0)) mem') (hsp : splice cur o cs = new) (hq : (cs.length : Int) = q) (hn : cs.length = min sLen dLen) (hfit : o + cs.length <= cur.length) (hone : ∀ v ∈ cs, v.oneCell' = true)
  (k : RunL P N c L l Q ((d, .int .i64 q) :: env) mem') : RunL P N c L (⟨some d, .call ⟨.builtin .copy, ⟨[x, y]⟩, ⟨[t, t2]⟩⟩, ty, pos, af, g⟩ :: l) Q env mem :=
 l_run hw fun a W hA hm => by
  subst hsp
  subst hq
  have hu0 : P.underlying t = some (.slice e) := (TT.look (P := P) ht).1
  obtain ⟨_, inf, hi, hs, _⟩ := TT.look (P := P) hte
  have hb := (hm.own _ hu.isIn).2
  have hc := run_copy_row (P := P) W t t2 ty e b o dLen dCap ⟨bx, ox, none⟩ sLen sCap ⟨cur⟩ T0 cs hu0 (by rw [hi]; simp only [Option.map_some]; rw [hs]) hb hn (fun j v hj => by rw [addr_add]; exact hnews.ok W hm j v hj) (by simpa using hfit) hone
  rw [semAt_plain _ rfl, p_copy (hA.eval hx) (hA.eval hy) hc]
  exact k.run _ _ (hA.put hd _) (hm.upd hu (setRow_same W b _) (setRow_heap W b ⟨cur⟩ _ T0 _ hb))
end
end Kin
end Go

namespace Go
open Go.RowKit
namespace Kin
theorem setRow_put {W : World} {b : Nat} {cur r : Array Value} {T : TypeId} (h : W.heap[b]? = some (.cells cur T (0, 0))) : W.setRow b r = W.putObj b (.cells r T (0, 0)) := by
 have hlt := lt_of_heap h
 have h1 := setRow_heap W b cur r T (0, 0) h
 have h2 := World.putObj_heap_same (w := W) (o := .cells r T (0, 0)) hlt
 have e : (W.setRow b r).heap = (W.putObj b (.cells r T (0, 0))).heap := by
  apply Array.ext'
  refine List.ext_getElem? fun i => ?_
  rw [Array.getElem?_toList, Array.getElem?_toList]
  by_cases hi : i = b
  ·rw [hi, h1, h2]
  ·rw [World.putObj_heap_other hi]
   unfold World.setRow
   simp only
   rw [Array.getElem?_modify, if_neg (Ne.symm hi)]
 show World.mk _ _ _ _ _ = World.mk _ _ _ _ _
 exact congrArg (fun h => World.mk h W.tape W.drawn W.os W.output) e
section
variable {P : Program} {N : Nat} {c : Cx} {env : List (Nat × Value)} {mem : List (Nat × Obj)} {ty : TypeId} {pos : String} {af : Array Edge} {g : Option (Nat × Bool)} {dd : Option Tmp}
/-- a map that was made is not nil -/
theorem v_eqNilM {t t' kt e : TypeId} {b : Nat} {x : Operand} (hu : P.underlying t = some (.map kt e)) (hx : evOp env x = some (.map (some b))) :
  OpVal P N c env mem ⟨dd, .binOp .eql t x (.const (.map none)) t', ty, pos, af, g⟩ (.bool false) := by
 refine ⟨rfl, fun a W ha _ => ?_⟩
 have h1 : (eqGuard .eql t x (.const (.map none)) (.map (some b)) (.map none)).run P W = .ok () W := by
  unfold eqGuard; simp [Sem.run, pure]
 have h2 : (Op.equal t (.map (some b)) (.map none)).run P W = .ok false W := by
  show (Op.equalIn (9999 + 1) t _ _).run P W = _
  rw [Op.equalIn]
  simp only [Sem.run_bind, run_und hu, Result.andThen_ok]; rfl
 have h3 : a.eval (.const (.map none)) = .map none := rfl
 simp only [execOp, ha.eval hx, h3, Sem.run_bind, h1, Result.andThen_ok, binOp, h2]
 rfl
end
section
variable {P : Program} {N : Nat} {c : Cx} {Q : Exit -> Act -> World -> Prop} {env : List (Nat × Value)} {mem : List (Nat × Obj)} {L l : List Oper} {tt : List (TypeId × TI)}
 {ty : TypeId} {pos : String} {af : Array Edge} {g : Option (Nat × Bool)} [Wide c.F] {kt : Kt} {rd : List (Nat × Nat)} {tl : List (Nat × Obj)} {fr : OM}
/-- cells of a block copied within it -/
theorem e_copy [T : TT P tt] {k0 p d t t2 e o dLen dCap sLen sCap b ox bt sz' bt' : Nat} {ke : TK} {z z' : Value} {x y : Operand} {cur cs new : List Value} {q : Int} {T0 : TypeId} (hw : wantB L env g = some true) (hd : Nat.blt d N = true)
  (hx : evOp env x = some (.slice (some ⟨b, o, none⟩) dLen dCap)) (hy : evOp env y = some (.slice (some ⟨b, ox, none⟩) sLen sCap)) (ht : look tt t = some ⟨.slice e, sz', bt', z'⟩) (hte : look tt e = some ⟨ke, 1, bt, z⟩)
  (hp : kdOf kt k0 = some (.upd p)) (hmem : fr[p]? = some (some (b, .cells ⟨cur⟩ T0 (0, 0)))) (hsrc : ∀ j v, cs[j]? = some v -> cur[ox + j]? = some v) (hsp : splice cur o cs = new) (hq : (cs.length : Int) = q)
  (hn : cs.length = min sLen dLen) (hfit : o + cs.length <= cur.length) (hone : ∀ v ∈ cs, v.oneCell' = true)
  (kk : RunE P N c L kt rd tl l (k0 + 1) Q ((d, .int .i64 q) :: env) (fr.set p (some (b, .cells ⟨new⟩ T0 (0, 0))))) :
  RunE P N c L kt rd tl (⟨some d, .call ⟨.builtin .copy, ⟨[x, y]⟩, ⟨[t, t2]⟩⟩, ty, pos, af, g⟩ :: l) k0 Q env fr := .mk fun β a ha hr => by
 subst hsp
 subst hq
 have hu0 : P.underlying t = some (.slice e) := (TT.look (P := P) ht).1
 obtain ⟨_, inf, hi, hs, _⟩ := TT.look (P := P) hte
 refine ⟨_, _, .upd hp (wanted_of (o := ⟨some d, .call ⟨.builtin .copy, ⟨[x, y]⟩, ⟨[t, t2]⟩⟩, ty, pos, af, g⟩) hw ha) rfl hmem (.val _) (fun W hb => ?_), kk.run β _ (ha.put hd _) hr⟩
 have hc := run_copy_row (P := P) W t t2 ty e b o dLen dCap ⟨b, ox, none⟩ sLen sCap ⟨cur⟩ T0 cs hu0 (by rw [hi]; simp only [Option.map_some]; rw [hs]) hb hn (fun j v hj => by
  rw [addr_add]
  unfold World.cell?
  rw [hb]
  show cur.toArray[ox + j]? = _
  rw [List.getElem?_toArray]; exact hsrc j v hj) (by simpa using hfit) hone
 rw [p_copy (ha.eval hx) (ha.eval hy) hc, setRow_put hb]
 rfl
end
end Kin
end Go

set_option maxRecDepth 100000
set_option maxHeartbeats 400000000
namespace Go.Proofs
open Go.RowKit Go.Kin Go.Kin.Cl
namespace R41
/-- each number has an empty set of its own -/
def StW (W : World) (bm : Nat) (ps : List (Int × Int)) : Prop := ∃ S, W.heap[bm]? = some (imO S) /\ ∀ p ∈ ps, ∃ b, imGet S p.1 = some (.map (some b)) /\ W.heap[b]? = some (imO [])
theorem StW.later {W W' : World} {bm : Nat} {ps : List (Int × Int)} (h : StW W bm ps) (hB : Under W.heap.size W W') : StW W' bm ps := by
 obtain ⟨S, h1, h2⟩ := h
 refine ⟨S, (hB.block _ (lt_of_heap h1)).trans h1, fun p hp => ?_⟩
 obtain ⟨b, h3, h4⟩ := h2 p hp
 exact ⟨b, h3, (hB.block _ (lt_of_heap h4)).trans h4⟩
structure StT where
 k : Nat
 S : List (Int × Value)
 M : List (Nat × Obj)
theorem stands56_calls (B : Option Addr) (capB : Nat) (ps : List (Int × Int)) (w : World) (hB : Kin.At w B 19 (ps.map pE)) (hps : ps.length <= 512) (hid : (ps.map (·.1)).Nodup) :
  Calls Tryz.prog 56 ⟨[.slice B ps.length capB]⟩ w fun e w' => ∃ bm : Nat, e = .returned (.map (some bm)) /\ Under w.heap.size w w' /\ StW w' bm ps := by
 obtain ⟨n, hn⟩ : ∃ n, ps.length = n := ⟨_, rfl⟩
 rw [hn] at hps ⊢
 refine fEn Tryz.func56 rfl Tryz.ntmps56 rfl rfl (sWn w) ?_
 repeat ((fail_if_success refine c_probe (id := 3) ?_); (fail_if_success refine c_probe1 (id := 3) ?_); first|refine lVa rfl rfl (by first|exact pEv rfl|fail) ?_|refine lNi ?_|refine cRg ?_|refine cSq ?_|refine xTh ?_|refine r_makeMap rfl rfl (fun _ => ?_)|refine cBl ?_|fail)
 rename_i bm
 refine c_loop (ι := StT) (fun s => s.k <= n /\ ∀ p ∈ ps.take s.k, ∃ b, imGet s.S p.1 = some (.map (some b)) /\ (b, imO []) ∈ s.M) (fun s => [(3, .map (some bm)), (11, .slice B n capB), (12, .int .i64 n), (13, .int .i64 s.k)]) (fun s => (bm, imO s.S) :: s.M) (fun s => n - s.k) ⟨0, [], []⟩
  ⟨Nat.zero_le _, fun p hp => by simp at hp⟩ (by repeat (first|exact .nil|refine .cons rfl (by first|rfl|(congr 1; done)|exact congrArg _ (by omega)|(simp; done)) ?_)) (by repeat (first|exact .nil|refine .keep (by first|rfl|assumption) ?_|refine .drop ?_|exact MSub.refl _)) ?_
 rintro ⟨k, S, M⟩ ⟨hk, hI⟩
 simp only at hk hI ⊢
 by_cases hlt : k < n
 ·obtain ⟨p, hp⟩ : ∃ p, ps[k]? = some p := ⟨_, List.getElem?_eq_getElem (by omega)⟩
  obtain ⟨b, o, rfl, hcS⟩ := hB k (pE p) (by rw [List.getElem?_map, hp]; rfl)
  have x1 := ext_of hcS
  have htk : ps.take (k + 1) = ps.take k ++ [p] := by
   obtain ⟨h1, h2⟩ := List.getElem?_eq_some_iff.1 hp
   rw [List.take_succ_eq_append_getElem h1, h2]
  have hne : ∀ q ∈ ps.take k, q.1 ≠ p.1 := fun q hq e => by
   have h1 : ((ps.take (k + 1)).map (·.1)).Nodup := (List.Sublist.map _ (List.take_sublist _ _)).nodup hid
   rw [htk, List.map_append] at h1
   exact (List.nodup_append.1 h1).2.2 q.1 (List.mem_map.2 ⟨q, hq, rfl⟩) p.1 (by simp) e
  have hI2 : ∀ bk : Nat, ∀ q ∈ ps.take (k + 1), ∃ b, imGet (imPut S p.1 (.map (some bk))) q.1 = some (.map (some b)) /\ (b, imO []) ∈ (bk, imO []) :: M := fun bk q hq => by
   rw [htk] at hq
   rcases List.mem_append.1 hq with hq | hq
   ·obtain ⟨b, h1, h2⟩ := hI q hq
    exact ⟨b, by rw [imPut_get, if_neg (hne q hq)]; exact h1, List.mem_cons_of_mem _ h2⟩
   ·rw [List.mem_singleton.1 hq]
    exact ⟨bk, by rw [imPut_get, if_pos rfl], List.mem_cons_self⟩
  clear hI hid hne htk hcS hB
  repeat ((fail_if_success refine c_probe (id := 7) ?_); (fail_if_success refine c_probe1 (id := 7) ?_); first|refine lVa rfl rfl (by first|exact pEv rfl|exact vLd rfl (by repeat constructor) rfl (by rfl)|exact vL0 rfl (by assumption) rfl (by rfl)|exact v_index rfl rfl rfl rfl (by omega) (by omega) (by with_reducible first|exact idx4 _ _ _|fail)|fail) ?_|refine lNi ?_|refine cRg ?_|refine cSq ?_|refine xTh ?_|refine r_makeMap rfl rfl (fun _ => ?_)|refine r_alloc rfl rfl rfl (by first|exact aggL|fail) (fun _ => ?_)|refine rSt rfl rfl rfl rfl rfl rfl rfl (by repeat constructor) (by rfl) ?_|refine c_dec_t rfl (by first|omega|fail) ?_|refine cBl ?_|refine cSk ?_|fail)
  rename_i bk
  refine c_rounds 0 ?_
  repeat ((fail_if_success refine c_probe (id := 15) ?_); (fail_if_success refine c_probe1 (id := 15) ?_); first|refine lVa rfl rfl (by first|exact pEv rfl|exact vLd rfl (by repeat constructor) rfl (by rfl)|fail) ?_|refine lNi ?_|refine cRg ?_|refine cSq ?_|refine xTh ?_|refine c_false rfl ?_|refine c_exit ?_|refine xTe ?_|refine xBs ?_|fail)
  repeat (first|refine l_do rfl (d_imPut (k := p.1) (v := .map (some bk)) (s := S) rfl rfl rfl rfl rfl (by repeat constructor)) ?_|refine lVa rfl rfl (by first|exact v_add rfl rfl (by omega) (by omega)|exact pEv rfl|fail) ?_|refine lNi ?_|refine cRg ?_|refine xTh ?_|refine x_block ?_|fail)
  refine x_perm (List.perm_middle (l₁ := [_, _])).symm ?_
  exact x_back ⟨k + 1, imPut S p.1 (.map (some bk)), (bk, imO []) :: M⟩ ⟨hlt, hI2 bk⟩ (by simp only; omega) (by repeat (first|exact .nil|refine .cons rfl (by first|rfl|(congr 1; done)|exact congrArg _ (by omega)|(simp; done)) ?_)) (.drop (.keep rfl (.keep rfl (.refl _))))
 have hI2 := hI
 rw [List.take_of_length_le (by omega)] at hI2
 clear hI
 repeat ((fail_if_success refine c_probe (id := 17) ?_); (fail_if_success refine c_probe1 (id := 17) ?_); first|refine lVa rfl rfl (by first|exact pEv rfl|fail) ?_|refine lNi ?_|refine cRg ?_|refine cSq ?_|refine xTh ?_|refine c_dec_f rfl (by first|omega|fail) ?_|refine c_exit ?_|refine xTe ?_|refine xBs ?_|fail)
 repeat (first|refine lVa rfl rfl (by first|exact pEv rfl|fail) ?_|refine lNi ?_|refine cRg ?_|refine cSq ?_|refine xTh ?_|refine c_ret ?_|fail)
 exact x_ret rfl rfl (by repeat constructor) rfl (fun W hW => ⟨bm, rfl, hW.below, S, (hW.own _ List.mem_cons_self).2, fun p hp => by
  obtain ⟨b, h1, h2⟩ := hI2 p hp
  exact ⟨b, h1, (hW.own _ (List.mem_cons_of_mem _ h2)).2⟩⟩)
end R41
end Go.Proofs

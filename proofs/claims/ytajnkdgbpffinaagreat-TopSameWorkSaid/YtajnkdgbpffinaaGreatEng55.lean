/- Signs found by their numbers, and checked, walked. -/
import Derived.Test.YtajnkdgbpffinaaGreatPcB
import Derived.Test.YtajnkdgbpffinaaGreatRgF
set_option maxRecDepth 100000
set_option maxHeartbeats 400000000
set_option linter.unusedSectionVars false
set_option linter.unusedVariables false
set_option linter.unusedSimpArgs false
namespace Go.Proofs
open Go.RowKit Go.Kin Go.Kin.Cl
namespace R41
theorem at52_calls (A : Option Addr) (cap : Nat) (l : List Sg) (i : Nat) (id : Int) (w : World) (hA : Kin.At w A 14 (l.map sgE)) (hl : l.length <= 100000) (hr : ∀ s ∈ l, 0 <= s.id /\ s.id <= 1048576) (hid : 0 <= id /\ id <= 1048576)
  (hi : i < l.length) (hlo : ∀ (j : Nat) (s : Sg), l[j]? = some s -> j < i -> s.id < id) (hat : ∀ s, l[i]? = some s -> s.id = id) (hhi : ∀ (j : Nat) (s : Sg), l[j]? = some s -> i < j -> id < s.id) :
  Calls Tryz.prog 52 ⟨[.slice A l.length cap, .int .i64 id]⟩ w fun e w' => e = .returned (.tuple ⟨[.int .i64 i, .bool true]⟩) /\ Under w.heap.size w w' := by
 have hc := fun W (hB : Under w.heap.size w W) => bsf85_calls A cap l i id W (hA.later hB) hl hr hid hi hlo hat hhi
 refine fEn Tryz.func52 rfl Tryz.ntmps52 rfl rfl (sWn w) ?_
 clear hlo hat hhi hr
 repeat (first|refine lVa rfl rfl (by first|exact pEv rfl|fail) ?_|refine lNi ?_|refine cRg ?_|refine cSq ?_|refine xTh ?_|fail)
 refine r_call rfl rfl rfl (fun W hW => hc W hW.below) ?_
 repeat (first|refine lVa rfl rfl (by first|exact pEv rfl|fail) ?_|refine lNi ?_|refine xTh ?_|refine c_ret ?_|fail)
 exact x_ret rfl rfl (by repeat constructor) rfl (fun W hW => ⟨rfl, hW.below⟩)
def okN (last : Option Sg) (s : Sg) : Bool := formB s && (match last with | none => true | some t => decide (t.id < s.id))
def allS : Option Sg -> List Sg -> Bool
 | _, [] => true
 | o, s :: l => okN o s && allS (some s) l
def chkS (l : List Sg) : Int := if l.length > 4096 then 2 else if allS none l = true then 0 else 360
theorem allS_get : ∀ (l : List Sg) (o : Option Sg), allS o l = true -> (∀ s ∈ l, formB s = true) /\ l.Pairwise (fun a b => a.id < b.id) /\ ∀ t, o = some t -> ∀ s ∈ l, t.id < s.id
 | [], o, _ => ⟨fun s h => absurd h List.not_mem_nil, List.Pairwise.nil, fun t _ s h => absurd h List.not_mem_nil⟩
 | s :: l, o, h => by
  rw [allS, Bool.and_eq_true] at h
  obtain ⟨h1, h2⟩ := h
  unfold R41.okN at h1
  rw [Bool.and_eq_true] at h1
  obtain ⟨g1, g2, g3⟩ := allS_get l (some s) h2
  refine ⟨fun x hx => ?_, List.pairwise_cons.2 ⟨fun x hx => g3 s rfl x hx, g2⟩, fun t ht x hx => ?_⟩
  ·rcases List.mem_cons.1 hx with rfl | hx
   ·exact h1.1
   ·exact g1 x hx
  ·subst ht
   have h3 : t.id < s.id := of_decide_eq_true h1.2
   rcases List.mem_cons.1 hx with rfl | hx
   ·exact h3
   ·exact Int.lt_trans h3 (g3 s rfl x hx)
theorem Check18_calls (A : Option Addr) (cap : Nat) (l : List Sg) (w : World) (hA : Kin.At w A 14 (l.map sgE)) (hwf : ∀ s ∈ l, s.wf) (hl : l.length <= 9223372036854775807) :
  Calls Tryz.prog 18 ⟨[.slice A l.length cap]⟩ w fun e w' => e = .returned (.int .i64 (chkS l)) /\ Under w.heap.size w w' := by
 obtain ⟨n, hn⟩ : ∃ n, l.length = n := ⟨_, rfl⟩
 have hv : chkS l = if l.length > 4096 then 2 else if allS none l = true then 0 else 360 := rfl
 rw [hn] at hl hv ⊢
 refine fEn Tryz.func18 rfl Tryz.ntmps18 rfl rfl (sWn w) ?_
 by_cases h4 : n > 4096
 ·rw [if_pos h4] at hv
  repeat (first|refine lVa rfl rfl (by first|exact pEv rfl|fail) ?_|refine lNi ?_|refine cRg ?_|refine cSq ?_|refine xTh ?_|refine c_dec_t rfl (by first|omega|fail) ?_|refine c_ret ?_|refine xTr ?_|fail)
  exact x_ret rfl rfl (by repeat constructor) rfl (fun W hW => ⟨by rw [hv], hW.below⟩)
 rw [if_neg h4] at hv
 repeat ((fail_if_success refine c_probe (id := 4) ?_); (fail_if_success refine c_probe1 (id := 4) ?_); first|refine lVa rfl rfl (by first|exact pEv rfl|fail) ?_|refine lNi ?_|refine cRg ?_|refine cSq ?_|refine xTh ?_|refine c_dec_f rfl (by first|omega|fail) ?_|refine cBl ?_|refine cSk ?_|fail)
 refine c_loop (ι := Nat × Option Sg) (fun s => s.1 <= n /\ (s.1 = 0 -> s.2 = none) /\ (∀ m, s.1 = m + 1 -> ∃ t, s.2 = some t /\ l[m]? = some t) /\ (Unit -> allS none l = allS s.2 (l.drop s.1))) (fun s => [(0, .slice A n cap), (8, .slice A n cap), (9, .int .i64 n), (10, .int .i64 s.1)]) (fun _ => []) (fun s => n - s.1) (0, none) ⟨Nat.zero_le _, fun _ => rfl, fun m h => absurd h (by simp), fun _ => rfl⟩ (by repeat (first|exact .nil|refine .cons rfl (by first|rfl|(congr 1; done)|exact congrArg _ (by omega)|(simp; done)) ?_)) (by repeat (first|exact .nil|refine .keep (by first|rfl|assumption) ?_|refine .drop ?_|exact MSub.refl _)) ?_
 rintro ⟨k, o⟩ ⟨hk, hz, hp, hI⟩
 simp only at hk hz hp hI ⊢
 by_cases hlt : k < n
 rotate_left
 ·have hv0 : chkS l = 0 := by
   rw [hv, hI (), List.drop_eq_nil_of_le (by omega)]; rfl
  repeat ((fail_if_success refine c_probe (id := 10) ?_); (fail_if_success refine c_probe1 (id := 10) ?_); first|refine lVa rfl rfl (by first|exact pEv rfl|fail) ?_|refine lNi ?_|refine cRg ?_|refine cSq ?_|refine xTh ?_|refine c_dec_f rfl (by first|omega|fail) ?_|refine c_ret ?_|refine c_exit ?_|refine xTe ?_|refine xBs ?_|fail)
  exact x_ret rfl rfl (by repeat constructor) rfl (fun W hW => ⟨by rw [hv0], hW.below⟩)
 obtain ⟨s, hs⟩ : ∃ s, l[k]? = some s := ⟨_, List.getElem?_eq_getElem (by omega)⟩
 obtain ⟨b, oo, hAb, hc⟩ := hA k (sgE s) (by rw [List.getElem?_map, hs]; rfl)
 have x1 := ext_of hc
 have hsm := List.mem_of_getElem? hs
 have hdr : allS none l = (okN o s && allS (some s) (l.drop (k + 1))) := by
  obtain ⟨h1, h2⟩ := List.getElem?_eq_some_iff.1 hs
  rw [hI (), List.drop_eq_getElem_cons h1, h2]; rfl
 have hbad : R41.okN o s = false -> chkS l = 360 := fun h => by rw [hv, hdr, h]; rfl
 have hnx : R41.okN o s = true -> allS none l = allS (some s) (l.drop (k + 1)) := fun h => by rw [hdr, h]; rfl
 have hform := fun W => form_calls s W (hwf s hsm)
 rw [hAb]
 clear hI hdr
 by_cases hk0 : k = 0
 ·have ho := hz hk0
  subst ho
  subst hk0
  clear hp hz
  by_cases hf : formB s = true
  ·rw [hf] at hform
   have hok : R41.okN none s = true := by unfold R41.okN; rw [hf]; rfl
   have hn1 := fun (_ : Unit) => hnx hok
   clear hnx hbad
   repeat ((fail_if_success refine c_probe (id := 6) ?_); (fail_if_success refine c_probe1 (id := 6) ?_); first|refine lVa rfl rfl (by first|exact pEv rfl|exact vL0 rfl (by assumption) rfl (by rfl)|exact v_index rfl rfl rfl rfl (by omega) (by omega) (by with_reducible first|exact idx4 _ _ _|fail)|fail) ?_|refine lNi ?_|refine cRg ?_|refine cSq ?_|refine xTh ?_|refine r_alloc rfl rfl rfl (by first|exact aggL|fail) (fun _ => ?_)|refine rSt rfl rfl rfl rfl rfl rfl rfl (by repeat constructor) (by rfl) ?_|refine c_dec_t rfl (by first|omega|fail) ?_|refine cBl ?_|refine cSk ?_|fail)
   repeat (first|refine cSq ?_|refine c_reads rfl (by decide +kernel) ?_|refine q_val rfl rfl (by first|exact vLd rfl (by repeat constructor) rfl (by rfl)|fail) ?_|fail)
   refine q_call rfl rfl rfl (fun W _ => hform W) ?_
   repeat ((fail_if_success refine c_probe (id := 10) ?_); (fail_if_success refine c_probe1 (id := 10) ?_); first|refine lVa rfl rfl (by first|exact v_add rfl rfl (by omega) (by omega)|exact pEv rfl|fail) ?_|refine lNi ?_|refine cRg ?_|refine xTh ?_|refine c_false rfl ?_|refine cSk ?_|refine x_block ?_|refine q_val rfl rfl (by first|exact pEv rfl|fail) ?_|refine q_nil ?_|refine q_skip rfl rfl ?_|fail)
   exact x_back (0 + 1, some s) ⟨hlt, fun h => absurd h (by simp), fun m h => ⟨s, rfl, by simp only at h; rw [show m = 0 by omega]; exact hs⟩, hn1⟩ (by simp only; omega) (by repeat (first|exact .nil|refine .cons rfl (by first|rfl|(congr 1; done)|exact congrArg _ (by omega)|(simp; done)) ?_)) (by repeat (first|exact .nil|refine .keep (by first|rfl|assumption) ?_|refine .drop ?_|exact MSub.refl _))
  have hf : formB s = false := by simpa using hf
  rw [hf] at hform
  have hv0 := hbad (by unfold R41.okN; rw [hf]; rfl)
  clear hnx hbad
  repeat ((fail_if_success refine c_probe (id := 6) ?_); (fail_if_success refine c_probe1 (id := 6) ?_); first|refine lVa rfl rfl (by first|exact pEv rfl|exact vL0 rfl (by assumption) rfl (by rfl)|exact v_index rfl rfl rfl rfl (by omega) (by omega) (by with_reducible first|exact idx4 _ _ _|fail)|fail) ?_|refine lNi ?_|refine cRg ?_|refine cSq ?_|refine xTh ?_|refine r_alloc rfl rfl rfl (by first|exact aggL|fail) (fun _ => ?_)|refine rSt rfl rfl rfl rfl rfl rfl rfl (by repeat constructor) (by rfl) ?_|refine c_dec_t rfl (by first|omega|fail) ?_|refine cBl ?_|refine cSk ?_|fail)
  repeat (first|refine cSq ?_|refine c_reads rfl (by decide +kernel) ?_|refine q_val rfl rfl (by first|exact vLd rfl (by repeat constructor) rfl (by rfl)|fail) ?_|fail)
  refine q_call rfl rfl rfl (fun W _ => hform W) ?_
  repeat ((fail_if_success refine c_probe (id := 10) ?_); (fail_if_success refine c_probe1 (id := 10) ?_); first|refine lVa rfl rfl (by first|exact pEv rfl|fail) ?_|refine lNi ?_|refine cRg ?_|refine cSq ?_|refine xTh ?_|refine c_true rfl ?_|refine c_ret ?_|refine xTr ?_|refine xBr ?_|refine q_val rfl rfl (by first|exact pEv rfl|fail) ?_|refine q_nil ?_|refine q_skip rfl rfl ?_|fail)
  exact x_ret rfl rfl (by repeat constructor) rfl (fun W hW => ⟨by rw [hv0], hW.below⟩)
 obtain ⟨j, rfl⟩ : ∃ j, k = j + 1 := ⟨k - 1, by omega⟩
 obtain ⟨t, ht, htl⟩ := hp j rfl
 subst ht
 clear hp hz
 obtain ⟨b', o', e2, hc'⟩ := hA j (sgE t) (by rw [List.getElem?_map, htl]; rfl)
 rw [hAb] at e2
 cases e2
 have x2 := ext_of hc'
 have e4 : oo + j * 14 = oo + ((((j + 1 : Nat) : Int)) - 1).toNat * 14 := by rw [show (((j + 1 : Nat) : Int) - 1).toNat = j by omega]
 rw [e4] at x2
 by_cases hf : formB s = true
 rotate_left
 ·have hf : formB s = false := by simpa using hf
  rw [hf] at hform
  have hv0 := hbad (by unfold R41.okN; rw [hf]; rfl)
  clear hnx hbad
  repeat ((fail_if_success refine c_probe (id := 6) ?_); (fail_if_success refine c_probe1 (id := 6) ?_); first|refine lVa rfl rfl (by first|exact pEv rfl|exact vL0 rfl (by assumption) rfl (by rfl)|exact v_index rfl rfl rfl rfl (by omega) (by omega) (by with_reducible first|exact idx4 _ _ _|fail)|fail) ?_|refine lNi ?_|refine cRg ?_|refine cSq ?_|refine xTh ?_|refine r_alloc rfl rfl rfl (by first|exact aggL|fail) (fun _ => ?_)|refine rSt rfl rfl rfl rfl rfl rfl rfl (by repeat constructor) (by rfl) ?_|refine c_dec_t rfl (by first|omega|fail) ?_|refine cBl ?_|refine cSk ?_|fail)
  repeat (first|refine cSq ?_|refine c_reads rfl (by decide +kernel) ?_|refine q_val rfl rfl (by first|exact vLd rfl (by repeat constructor) rfl (by rfl)|fail) ?_|fail)
  refine q_call rfl rfl rfl (fun W _ => hform W) ?_
  repeat ((fail_if_success refine c_probe (id := 10) ?_); (fail_if_success refine c_probe1 (id := 10) ?_); first|refine lVa rfl rfl (by first|exact pEv rfl|fail) ?_|refine lNi ?_|refine cRg ?_|refine cSq ?_|refine xTh ?_|refine c_true rfl ?_|refine c_ret ?_|refine xTr ?_|refine xBr ?_|refine q_val rfl rfl (by first|exact pEv rfl|fail) ?_|refine q_nil ?_|refine q_skip rfl rfl ?_|fail)
  exact x_ret rfl rfl (by repeat constructor) rfl (fun W hW => ⟨by rw [hv0], hW.below⟩)
 rw [hf] at hform
 by_cases hts : t.id < s.id
 ·have hok : R41.okN (some t) s = true := by unfold R41.okN; rw [hf]; exact decide_eq_true hts
  have hn1 := fun (_ : Unit) => hnx hok
  clear hnx hbad
  repeat ((fail_if_success refine c_probe (id := 6) ?_); (fail_if_success refine c_probe1 (id := 6) ?_); first|refine lVa rfl rfl (by first|exact pEv rfl|exact vL0 rfl (by assumption) rfl (by rfl)|exact v_index rfl rfl rfl rfl (by omega) (by omega) (by with_reducible first|exact idx4 _ _ _|fail)|fail) ?_|refine lNi ?_|refine cRg ?_|refine cSq ?_|refine xTh ?_|refine r_alloc rfl rfl rfl (by first|exact aggL|fail) (fun _ => ?_)|refine rSt rfl rfl rfl rfl rfl rfl rfl (by repeat constructor) (by rfl) ?_|refine c_dec_t rfl (by first|omega|fail) ?_|refine cBl ?_|refine cSk ?_|fail)
  repeat (first|refine cSq ?_|refine c_reads rfl (by decide +kernel) ?_|refine q_val rfl rfl (by first|exact vLd rfl (by repeat constructor) rfl (by rfl)|fail) ?_|fail)
  refine q_call rfl rfl rfl (fun W _ => hform W) ?_
  repeat ((fail_if_success refine c_probe (id := 10) ?_); (fail_if_success refine c_probe1 (id := 10) ?_); first|refine lVa rfl rfl (by first|exact v_add rfl rfl (by omega) (by omega)|exact pEv rfl|fail) ?_|refine lNi ?_|refine cRg ?_|refine xTh ?_|refine c_dec_f rfl (by first|omega|fail) ?_|refine cSk ?_|refine x_block ?_|refine q_val rfl rfl (by first|exact v_sub rfl rfl (by omega) (by omega)|exact pEv rfl|exact vLd rfl (by repeat constructor) rfl (by rfl)|exact vL0 rfl (by assumption) rfl (by rfl)|exact v_index rfl rfl rfl rfl (by omega) (by omega) (by with_reducible first|exact idx8 _ _ _|fail)|fail) ?_|refine q_nil ?_|refine q_dec_t rfl rfl rfl rfl (by first|omega|fail) ?_|fail)
  exact x_back (j + 1 + 1, some s) ⟨hlt, fun h => absurd h (by simp), fun m h => ⟨s, rfl, by simp only at h; rw [show m = j + 1 by omega]; exact hs⟩, hn1⟩ (by simp only; omega) (by repeat (first|exact .nil|refine .cons rfl (by first|rfl|(congr 1; done)|exact congrArg _ (by omega)|(simp; done)) ?_)) (by repeat (first|exact .nil|refine .keep (by first|rfl|assumption) ?_|refine .drop ?_|exact MSub.refl _))
 have hv0 := hbad (by unfold R41.okN; rw [hf]; exact decide_eq_false hts)
 clear hnx hbad
 repeat ((fail_if_success refine c_probe (id := 6) ?_); (fail_if_success refine c_probe1 (id := 6) ?_); first|refine lVa rfl rfl (by first|exact pEv rfl|exact vL0 rfl (by assumption) rfl (by rfl)|exact v_index rfl rfl rfl rfl (by omega) (by omega) (by with_reducible first|exact idx4 _ _ _|fail)|fail) ?_|refine lNi ?_|refine cRg ?_|refine cSq ?_|refine xTh ?_|refine r_alloc rfl rfl rfl (by first|exact aggL|fail) (fun _ => ?_)|refine rSt rfl rfl rfl rfl rfl rfl rfl (by repeat constructor) (by rfl) ?_|refine c_dec_t rfl (by first|omega|fail) ?_|refine cBl ?_|refine cSk ?_|fail)
 repeat (first|refine cSq ?_|refine c_reads rfl (by decide +kernel) ?_|refine q_val rfl rfl (by first|exact vLd rfl (by repeat constructor) rfl (by rfl)|fail) ?_|fail)
 refine q_call rfl rfl rfl (fun W _ => hform W) ?_
 repeat ((fail_if_success refine c_probe (id := 10) ?_); (fail_if_success refine c_probe1 (id := 10) ?_); first|refine lVa rfl rfl (by first|exact pEv rfl|fail) ?_|refine lNi ?_|refine cRg ?_|refine cSq ?_|refine xTh ?_|refine c_dec_t rfl (by first|omega|fail) ?_|refine c_ret ?_|refine xTr ?_|refine xBr ?_|refine q_val rfl rfl (by first|exact v_sub rfl rfl (by omega) (by omega)|exact pEv rfl|exact vLd rfl (by repeat constructor) rfl (by rfl)|exact vL0 rfl (by assumption) rfl (by rfl)|exact v_index rfl rfl rfl rfl (by omega) (by omega) (by with_reducible first|exact idx8 _ _ _|fail)|fail) ?_|refine q_nil ?_|refine q_dec_t rfl rfl rfl rfl (by first|omega|fail) ?_|fail)
 exact x_ret rfl rfl (by repeat constructor) rfl (fun W hW => ⟨by rw [hv0], hW.below⟩)
end R41
end Go.Proofs

namespace Go
open Go.RowKit
namespace Kin
section
variable {P : Program} {N : Nat} {c : Cx} {env : List (Nat × Value)} {mem : List (Nat × Obj)} {tt : List (TypeId × TI)}
 {ty : TypeId} {pos : String} {af : Array Edge} {g : Option (Nat × Bool)} {dd : Option Tmp}
/-- the first elements of a slice, with no room behind them -/
theorem v_slice3 [T : TT P tt] {t e n cap h sz bt sz' bt' : Nat} {A : Option Addr} {x hi mx : Operand} {ke : TK} {z z' : Value} {k k' : IntKind} {i i' : Int} (hx : evOp env x = some (.slice A n cap)) (hl : evOp env hi = some (.int k i)) (hm : evOp env mx = some (.int k' i')) (ht : look tt t = some ⟨.slice e, sz', bt', z'⟩)
  (hte : look tt e = some ⟨ke, sz, bt, z⟩) (hil : i = h) (hil' : i' = h) (h1 : h <= cap) :
  OpVal P N c env mem ⟨dd, .slice t x none (some hi) (some mx), ty, pos, af, g⟩ (.slice A h h) :=
 ⟨rfl, fun a W ha _ => by
  subst hil
  subst hil'
  have hu : P.underlying t = some (.slice e) := (TT.look (P := P) ht).1
  obtain ⟨i', hi', hs'⟩ := (TT.look (P := P) hte).size
  simp only [execOp, ha.eval hx, Option.map_some, Option.map_none, ha.eval hl, ha.eval hm, Instr.sliceAt, Instr.slice, Instr.sliceBounds, Instr.sliceBound, asIntOf, Sem.run_bind, Sem.run_pure, Result.andThen_ok, run_und hu]
  rw [if_pos (⟨by omega, by omega⟩ : 0 <= ((h : Nat) : Int) /\ ((h : Nat) : Int) <= cap)]
  simp only [Sem.run_bind, Sem.run_pure, Result.andThen_ok, Int.toNat_natCast]
  rw [if_pos (⟨by omega, by omega⟩ : 0 <= ((h : Nat) : Int) /\ ((h : Nat) : Int) <= h)]
  have e1 : A.map (fun x : Addr => x.add (0 * i'.size)) = A := by
   cases A with
   | none => rfl
   | some a => simp [Addr.add]
  simp only [Sem.run_bind, Sem.run_pure, Result.andThen_ok, run_size hi', Int.toNat_natCast, Nat.sub_zero, e1, ite_self]⟩
end
section
variable {P : Program} {N : Nat} {c : Cx} {Q : Exit -> Act -> World -> Prop} {env : List (Nat × Value)} {mem : List (Nat × Obj)} {L l : List Oper} {tt : List (TypeId × TI)} [Wide c.F]
 {ty : TypeId} {pos : String} {af : Array Edge} {g : Option (Nat × Bool)} {dd : Option Tmp} {d : Nat} {kt : Kt} {rd : List (Nat × Nat)} {tl : List (Nat × Obj)} {fr : OM}
/-- something behind a row that is full and not one's own: a new block -/
theorem a_appendG [T : TT P tt] {t e n b o m k cx bx ox sz bt sz' bt' : Nat} {ke : TK} {z z' : Value} {x y : Operand} {xs ys : List Value}
  (hx : evOp env x = some (.slice (some ⟨b, o, none⟩) n n)) (hy : evOp env y = some (.slice (some ⟨bx, ox, none⟩) m cx)) (ht : look tt t = some ⟨.slice e, sz', bt', z'⟩) (hte : look tt e = some ⟨ke, sz, bt, z⟩) (hnx : News c mem b o xs) (hnews : News c mem bx ox ys)
  (hxl : xs.length = n * sz) (hl : ys.length = m * sz) (hm0 : 0 < m) (hzl : Nat.beq (cellsL z).length sz = true) (hk : n + m = k) (hb : k * bt <= 140737488355328) (hm : k <= maxLen) :
  OpApp P N c env mem ⟨dd, .call ⟨.builtin .append, ⟨[x, y]⟩, ⟨[t, t]⟩⟩, ty, pos, af, g⟩ none sz k (xs ++ ys) e := by
 subst hk
 have hu : P.underlying t = some (.slice e) := (TT.look (P := P) ht).1
 obtain ⟨_, inf, hi, hs, hbt, hz⟩ := TT.look (P := P) hte
 simp only at hs hz hbt
 have hzl := Nat.eq_of_beq_eq_true hzl
 refine ⟨rfl, fun a W ha hmm => ?_⟩
 have hlen2 : (xs ++ ys).length = (n + m) * sz := by rw [List.length_append, hxl, hl, Nat.add_mul]
 have hap := run_append_grow (P := P) W t ty e inf z hu hi hz ⟨b, o, none⟩ n n xs (by rw [hs]; exact hxl) (fun j v hj => by rw [addr_add]; exact hnx.ok W hmm j v hj)
  ⟨bx, ox, none⟩ m cx ys (by rw [hs]; exact hl) (fun j v hj => by rw [addr_add]; exact hnews.ok W hmm j v hj) (by omega) (by simp only [maxLen] at hm; omega) (growslice_fits (by omega) (by rw [hbt]; exact hb))
 have hge := grownCap_ge W (n + m) n e
 have e4 : (xs.toArray ++ ys.toArray ++ Builtin.zeroCells z.cells (grownCap W (n + m) n e - (n + m))) = ⟨xs ++ ys ++ (Builtin.zeroCells z.cells (grownCap W (n + m) n e - (n + m))).toList⟩ := by apply Array.ext'; simp
 rw [e4] at hap
 refine ⟨W.heap.size, grownCap W (n + m) n e, (Builtin.zeroCells z.cells (grownCap W (n + m) n e - (n + m))).toList, _, p_append (ha.eval hx) (ha.eval hy) hap, ⟨hlen2, ?_, hge, grownCap_le_maxLen W (n + m) n e hm⟩, ?_, .inr ⟨rfl, rfl⟩⟩
 ·rw [List.length_append, hlen2, zeroCells_len, cellsL_eq]
  show (n + m) * sz + (grownCap W (n + m) n e - (n + m)) * (cellsL z).length = _
  rw [hzl, <- Nat.add_mul]
  congr 1; omega
 ·exact World.alloc_heap_new W.drew _
/-- an append that makes a new block, in a drawn region -/
theorem e_appG {k p sz n : Nat} {op : Op} {xs : List Value} {e : TypeId} {mem' : List (Nat × Obj)} (hw : wantB L env g = some true) (hd : Nat.blt d N = true) (hk : kdOf kt k = some (.app p none sz)) (hp : fr[p]? = some none) (h0 : 0 < sz)
  (hx : xs.length = n * sz) (hn : n <= maxLen) (hm : pickO (rowS (shOf kt) rd k) 0 fr tl some = some mem') (hv : OpApp P N c env mem' ⟨some d, op, ty, pos, af, g⟩ none sz n xs e)
  (kk : ∀ b cap rest, Grow sz n xs cap rest -> RunE P N c L kt rd tl l (k + 1) Q ((d, .slice (some ⟨b, 0, none⟩) n cap) :: env) (fr.set p (some (b, .cells ⟨xs ++ rest⟩ e (0, 0))))) : RunE P N c L kt rd tl (⟨some d, op, ty, pos, af, g⟩ :: l) k Q env fr := .mk fun β a ha hr => by
 refine ⟨_, _, .app hk (wanted_of (o := ⟨some d, op, ty, pos, af, g⟩) hw ha) hv.1 hp h0 hx hn (fun q' e => by cases e) (e := e) (fun W hW => ?_), (kk (β k).b _ _ (growF_mk hx hn (β k).rest)).run β _ (ha.put hd _) hr⟩
 obtain ⟨m', h1, h2⟩ := pickO_eq (f := wrS (ancs .any L.toArray) (shOf kt) k) (fun p hp => rowS_ok hr hp) hm
 simp only [Option.some.injEq] at h2
 subst h2
 obtain ⟨b, cap, rest, W', g1, g2, g3, g4⟩ := hv.2 a W ha (hW.mono h1)
 exact ⟨b, cap, rest, W', g1, g2, g3, g4.imp (fun ⟨e1, e2⟩ => by cases e1) id⟩
end
end Kin
end Go

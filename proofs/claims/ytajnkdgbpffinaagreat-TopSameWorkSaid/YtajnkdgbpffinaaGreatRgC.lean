/- Rights: the check of a register, walked. -/
import Derived.Test.YtajnkdgbpffinaaGreatEng53
set_option maxRecDepth 100000
set_option maxHeartbeats 400000000
set_option linter.unusedSectionVars false
set_option linter.unusedVariables false
set_option linter.unusedSimpArgs false
namespace Go.Proofs
open Go.RowKit Go.Kin Go.Kin.Cl
namespace R41
@[reducible] def fR (n : Nat) : Value := .func (.func n) ⟨[]⟩ ⟨[]⟩
def asksL : List (Int × Value) := [(1, fR 119), (2, fR 121), (3, fR 121), (4, fR 122)]
theorem asks98_calls (w : World) : Calls Tryz.prog 98 ⟨[]⟩ w fun e w' => ∃ b : Nat, e = .returned (.map (some b)) /\ Under w.heap.size w w' /\ w.heap.size <= b /\ w'.heap[b]? = some (imO asksL) := by
 refine fEn Tryz.func98 rfl Tryz.ntmps98 rfl rfl (sWn w) ?_
 repeat ((fail_if_success refine c_probe (id := 1) ?_); (fail_if_success refine c_probe1 (id := 1) ?_); first|refine lVa rfl rfl (by first|exact pEv rfl|fail) ?_|refine lNi ?_|refine cRg ?_|refine cSq ?_|refine xTh ?_|fail)
 refine cSq ?_
 refine cRg ?_
 refine r_makeMap rfl rfl (fun b => ?_)
 refine l_do rfl (d_imIns (s := []) (k := 1) (v := fR 119) rfl rfl rfl rfl rfl (by repeat constructor)) ?_
 refine l_do rfl (d_imIns (s := imPut [] 1 (fR 119)) (k := 2) (v := fR 121) rfl rfl rfl rfl rfl (by repeat constructor)) ?_
 refine l_do rfl (d_imIns (s := imPut (imPut [] 1 (fR 119)) 2 (fR 121)) (k := 3) (v := fR 121) rfl rfl rfl rfl rfl (by repeat constructor)) ?_
 refine l_do rfl (d_imIns (s := imPut (imPut (imPut [] 1 (fR 119)) 2 (fR 121)) 3 (fR 121)) (k := 4) (v := fR 122) rfl rfl rfl rfl rfl (by repeat constructor)) ?_
 repeat (first|refine lVa rfl rfl (by first|exact pEv rfl|fail) ?_|refine lNi ?_|refine xTh ?_|refine c_ret ?_|fail)
 exact x_ret rfl rfl (by repeat constructor) rfl (fun W hW => ⟨b, rfl, hW.below, Nat.le_of_not_lt (hW.own (b, _) (by repeat constructor)).1, (hW.own (b, _) (by repeat constructor)).2⟩)
def askR (m : List Rg) (x : Rg) : Bool := if x.kind = 1 then billB x else if x.kind = 2 ∨ x.kind = 3 then heldB x else if x.kind = 4 then voidB m x else false
theorem asks_get (m : List Rg) (x : Rg) (h : 1 <= x.kind /\ x.kind <= 4) : ∃ f : FuncId, Ent Tryz.prog f /\ imGet asksL x.kind = some (fR f) /\ ∀ (W : World) (bm : Nat), W.heap[bm]? = some (imO (befL m)) ->
  Calls Tryz.prog f ⟨[.agg ⟨rgE x⟩, .map (some bm)]⟩ W fun e w' => e = .returned (.bool (askR m x)) /\ Under W.heap.size W w' := by
 have hc : x.kind = 1 ∨ x.kind = 2 ∨ x.kind = 3 ∨ x.kind = 4 := by omega
 unfold askR
 rcases hc with h1 | h1 | h1 | h1
 ·exact ⟨119, inferInstance, by rw [h1]; rfl, fun W bm hb => by rw [if_pos h1]; exact bill119_calls x _ W⟩
 ·exact ⟨121, inferInstance, by rw [h1]; rfl, fun W bm hb => by rw [if_neg (by omega), if_pos (.inl h1)]; exact held121_calls x _ W⟩
 ·exact ⟨121, inferInstance, by rw [h1]; rfl, fun W bm hb => by rw [if_neg (by omega), if_pos (.inr h1)]; exact held121_calls x _ W⟩
 ·exact ⟨122, inferInstance, by rw [h1]; rfl, fun W bm hb => by rw [if_neg (by omega), if_neg (by omega), if_pos h1]; exact void122_calls x m bm W hb⟩
theorem asks_no {x : Rg} (h : ¬ (1 <= x.kind /\ x.kind <= 4)) (m : List Rg) : imGet asksL x.kind = none /\ askR m x = false := by
 refine ⟨imGet_none.2 fun p hp e => ?_, ?_⟩
 ·simp only [asksL, List.mem_cons, List.mem_nil_iff, or_false] at hp
  rcases hp with rfl | rfl | rfl | rfl <;> simp only at e <;> omega
 ·unfold askR
  rw [if_neg (by omega), if_neg (by omega), if_neg (by omega)]
def okR (m : List Rg) (last : Int) (x : Rg) : Bool := decide (last < x.no) && (decide (x.no <= 1048576) && (wiB x.kn 0 134217727 && askR m x))
def allR : List Rg -> Int -> List Rg -> Bool
 | _, _, [] => true
 | m, last, x :: l => okR m last x && allR (m ++ [x]) x.no l
def chkR (l : List Rg) : Int := if l.length > 512 then 2 else if allR [] (-1) l = true then 0 else 460
theorem befL_put {m : List Rg} {x : Rg} {last : Int} (h : ∀ r ∈ m, r.no <= last) (hx : last < x.no) : imPut (befL m) x.no (.agg ⟨rgE x⟩) = befL (m ++ [x]) := by
 rw [imPut_new]
 ·unfold befL; rw [List.map_append]; rfl
 ·refine imGet_none.2 fun p hp e => ?_
  obtain ⟨r, hr, rfl⟩ := List.mem_map.1 hp
  have := h r hr
  simp only at e
  omega
theorem Check69_calls (A : Option Addr) (cap : Nat) (l : List Rg) (w : World) (hA : Kin.At w A 11 (l.map rgE)) (hl : l.length <= 9223372036854775807) : Calls Tryz.prog 69 ⟨[.slice A l.length cap]⟩ w fun e w' => e = .returned (.int .i64 (chkR l)) /\ Under w.heap.size w w' := by
 refine fEn Tryz.func69 rfl Tryz.ntmps69 rfl rfl (sWn w) ?_
 obtain ⟨n, hn⟩ : ∃ n, l.length = n := ⟨_, rfl⟩
 by_cases h5 : l.length > 512
 ·have hv : chkR l = 2 := if_pos h5
  rw [hn] at h5 hl ⊢
  repeat (first|refine lVa rfl rfl (by first|exact pEv rfl|fail) ?_|refine lNi ?_|refine cRg ?_|refine cSq ?_|refine xTh ?_|refine c_dec_t rfl (by first|omega|fail) ?_|refine c_ret ?_|refine xTr ?_|fail)
  exact x_ret rfl rfl (by repeat constructor) rfl (fun W hW => ⟨by rw [hv], hW.below⟩)
 have hv : chkR l = if allR [] (-1) l = true then 0 else 460 := if_neg h5
 rw [hn] at h5 hl ⊢
 repeat ((fail_if_success refine c_probe (id := 3) ?_); (fail_if_success refine c_probe1 (id := 3) ?_); first|refine lVa rfl rfl (by first|exact pEv rfl|fail) ?_|refine lNi ?_|refine cRg ?_|refine cSq ?_|refine xTh ?_|refine c_dec_f rfl (by first|omega|fail) ?_|refine cSk ?_|fail)
 refine cSq ?_
 refine cRg ?_
 refine r_makeMap rfl rfl (fun bm => ?_)
 refine r_call1 (ι := Nat) (v := fun b => .map (some b)) (bk := fun b => b) (o := fun _ => imO asksL) rfl rfl rfl (fun W hW => asks98_calls W) (fun ba => ?_)
 repeat ((fail_if_success refine c_probe (id := 5) ?_); (fail_if_success refine c_probe1 (id := 5) ?_); first|refine lVa rfl rfl (by first|exact pEv rfl|fail) ?_|refine lNi ?_|refine cRg ?_|refine cSq ?_|refine xTh ?_|refine cBl ?_|fail)
 refine c_loop (ι := Nat × Int) (fun s => s.1 <= n /\ (Unit -> (∀ r ∈ l.take s.1, r.no <= s.2) /\ allR [] (-1) l = allR (l.take s.1) s.2 (l.drop s.1))) (fun s => [(3, .map (some bm)), (4, .map (some ba)), (5, .int .i64 s.2), (15, .slice A n cap), (16, .int .i64 n), (17, .int .i64 s.1)]) (fun s => [(ba, imO asksL), (bm, imO (befL (l.take s.1)))]) (fun s => n - s.1) (0, -1) ⟨Nat.zero_le _, fun _ => ⟨fun r hr => by simp at hr, rfl⟩⟩ (by repeat (first|exact .nil|refine .cons rfl (by first|rfl|(congr 1; done)|exact congrArg _ (by omega)|(simp; done)) ?_)) (by repeat (first|exact .nil|refine .keep (by first|rfl|assumption) ?_|refine .drop ?_|exact MSub.refl _)) ?_
 rintro ⟨k, last⟩ ⟨hk, hI⟩
 simp only at hk hI ⊢
 by_cases hlt : k < n
 rotate_left
 ·have hkn : k = n := by omega
  have hz : chkR l = 0 := by
   rw [hv, (hI ()).2, List.drop_eq_nil_of_le (by omega)]
   rfl
  repeat ((fail_if_success refine c_probe (id := 13) ?_); (fail_if_success refine c_probe1 (id := 13) ?_); first|refine lVa rfl rfl (by first|exact pEv rfl|fail) ?_|refine lNi ?_|refine cRg ?_|refine cSq ?_|refine xTh ?_|refine c_dec_f rfl (by first|omega|fail) ?_|refine c_ret ?_|refine c_exit ?_|refine xTe ?_|refine xBs ?_|fail)
  exact x_ret rfl rfl (by repeat constructor) rfl (fun W hW => ⟨by rw [hz], hW.below⟩)
 obtain ⟨x, hx⟩ : ∃ x, l[k]? = some x := ⟨_, List.getElem?_eq_getElem (by omega)⟩
 obtain ⟨b, o, hAb, hc⟩ := hA k (rgE x) (by rw [List.getElem?_map, hx]; rfl)
 have x1 := ext_of hc
 rw [hAb]
 have htk : l.take (k + 1) = l.take k ++ [x] := by rw [List.take_add_one, hx]; rfl
 have hdr : allR [] (-1) l = (okR (l.take k) last x && allR (l.take (k + 1)) x.no (l.drop (k + 1))) := by
  obtain ⟨h1, h2⟩ := List.getElem?_eq_some_iff.1 hx
  rw [(hI ()).2, List.drop_eq_getElem_cons h1, h2, htk]
  rfl
 have hno : okR (l.take k) last x = false -> chkR l = 460 := fun h => by rw [hv, hdr, h]; rfl
 have hle := fun (_ : Unit) => (hI ()).1
 clear hI
 repeat ((fail_if_success refine c_probe (id := 7) ?_); (fail_if_success refine c_probe1 (id := 7) ?_); first|refine lVa rfl rfl (by first|exact pEv rfl|exact vL0 rfl (by assumption) rfl (by rfl)|exact v_index rfl rfl rfl rfl (by omega) (by omega) (by with_reducible first|exact idx4 _ _ _|fail)|fail) ?_|refine lNi ?_|refine cRg ?_|refine cSq ?_|refine xTh ?_|refine r_alloc rfl rfl rfl (by first|exact aggL|fail) (fun _ => ?_)|refine rSt rfl rfl rfl rfl rfl rfl rfl (by repeat constructor) (by rfl) ?_|refine c_dec_t rfl (by first|omega|fail) ?_|refine cBl ?_|refine cSk ?_|fail)
 by_cases hkd : 1 <= x.kind /\ x.kind <= 4
 rotate_left
 ·obtain ⟨g1, g2⟩ := asks_no hkd (l.take k)
  have hz := hno (by unfold okR; rw [g2]; simp)
  refine cSq ?_
  repeat ((fail_if_success refine c_probe (id := 8) ?_); (fail_if_success refine c_probe1 (id := 8) ?_); first|refine lVa rfl rfl (v_imGet (s := asksL) (out := .tuple ⟨[.nilFunc, .bool false]⟩) rfl rfl rfl rfl rfl (by repeat constructor) (by rw [g1])) ?_|refine lVa rfl rfl (by first|exact pEv rfl|exact vLd rfl (by repeat constructor) rfl (by rfl)|fail) ?_|refine lNi ?_|refine cRg ?_|refine xTh ?_|fail)
  repeat ((fail_if_success refine c_probe (id := 10) ?_); (fail_if_success refine c_probe1 (id := 10) ?_); first|refine lVa rfl rfl (by first|exact pEv rfl|exact vLd rfl (by repeat constructor) rfl (by rfl)|fail) ?_|refine lNi ?_|refine cRg ?_|refine cSq ?_|refine xTh ?_|refine l_skip rfl rfl ?_|refine c_true rfl ?_|refine c_ret ?_|refine xTr ?_|refine xBr ?_|fail)
  exact x_ret rfl rfl (by repeat constructor) rfl (fun W hW => ⟨by rw [hz], hW.below⟩)
 obtain ⟨f, hE, g1, hcl⟩ := asks_get (l.take k) x hkd
 haveI := hE
 refine cSq ?_
 repeat ((fail_if_success refine c_probe (id := 8) ?_); (fail_if_success refine c_probe1 (id := 8) ?_); first|refine lVa rfl rfl (v_imGet (s := asksL) (out := .tuple ⟨[fR f, .bool true]⟩) rfl rfl rfl rfl rfl (by repeat constructor) (by rw [g1])) ?_|refine lVa rfl rfl (by first|exact pEv rfl|exact vLd rfl (by repeat constructor) rfl (by rfl)|fail) ?_|refine lNi ?_|refine cRg ?_|refine xTh ?_|fail)
 by_cases h1 : last < x.no
 rotate_left
 ·have hz := hno (by unfold okR; rw [decide_eq_false h1]; rfl)
  repeat ((fail_if_success refine c_probe (id := 10) ?_); (fail_if_success refine c_probe1 (id := 10) ?_); first|refine lVa rfl rfl (by first|exact pEv rfl|exact vLd rfl (by repeat constructor) rfl (by rfl)|fail) ?_|refine lNi ?_|refine cRg ?_|refine cSq ?_|refine xTh ?_|refine l_skip rfl rfl ?_|refine c_true rfl ?_|refine c_ret ?_|refine xTr ?_|refine xBr ?_|refine l_dec_t rfl rfl rfl rfl rfl (by first|omega|fail) ?_|fail)
  exact x_ret rfl rfl (by repeat constructor) rfl (fun W hW => ⟨by rw [hz], hW.below⟩)
 by_cases h2 : x.no <= 1048576
 rotate_left
 ·have hz := hno (by unfold okR; rw [decide_eq_false h2]; simp)
  repeat ((fail_if_success refine c_probe (id := 10) ?_); (fail_if_success refine c_probe1 (id := 10) ?_); first|refine lVa rfl rfl (by first|exact pEv rfl|exact vLd rfl (by repeat constructor) rfl (by rfl)|fail) ?_|refine lNi ?_|refine cRg ?_|refine cSq ?_|refine xTh ?_|refine l_skip rfl rfl ?_|refine c_true rfl ?_|refine c_ret ?_|refine xTr ?_|refine xBr ?_|refine l_dec_t rfl rfl rfl rfl rfl (by first|omega|fail) ?_|refine l_dec_f rfl rfl rfl rfl rfl (by first|omega|fail) ?_|fail)
  exact x_ret rfl rfl (by repeat constructor) rfl (fun W hW => ⟨by rw [hz], hW.below⟩)
 have hok : okR (l.take k) last x = (wiB x.kn 0 134217727 && askR (l.take k) x) := by unfold okR; rw [decide_eq_true h1, decide_eq_true h2]; rfl
 have hput := befL_put (hle ()) h1
 have hw1 := fun W => within39_calls x.kn 0 134217727 W
 generalize wiB x.kn 0 134217727 = q0 at *
 generalize askR (l.take k) x = q1 at *
 repeat ((fail_if_success refine c_probe (id := 10) ?_); (fail_if_success refine c_probe1 (id := 10) ?_); first|refine lVa rfl rfl (by first|exact pEv rfl|exact vLd rfl (by repeat constructor) rfl (by rfl)|fail) ?_|refine cRg ?_|refine cSq ?_|refine l_dec_f rfl rfl rfl rfl rfl (by first|omega|fail) ?_|fail)
 refine r_call rfl rfl rfl (fun W hW => hw1 W) ?_
 cases q0 with
 | false =>
  have hz := hno hok
  repeat ((fail_if_success refine c_probe (id := 10) ?_); (fail_if_success refine c_probe1 (id := 10) ?_); first|refine lVa rfl rfl (by first|exact pEv rfl|exact vLd rfl (by repeat constructor) rfl (by rfl)|fail) ?_|refine lNi ?_|refine cRg ?_|refine cSq ?_|refine xTh ?_|refine l_skip rfl rfl ?_|refine c_true rfl ?_|refine c_ret ?_|refine xTr ?_|refine xBr ?_|fail)
  exact x_ret rfl rfl (by repeat constructor) rfl (fun W hW => ⟨by rw [hz], hW.below⟩)
 | true =>
 repeat ((fail_if_success refine c_probe (id := 10) ?_); (fail_if_success refine c_probe1 (id := 10) ?_); first|refine lVa rfl rfl (by first|exact pEv rfl|exact vLd rfl (by repeat constructor) rfl (by rfl)|fail) ?_|fail)
 refine r_callv rfl rfl rfl rfl rfl (fun W hW => hcl W bm (hW.own (bm, _) (by repeat constructor)).2) ?_
 cases q1 with
 | false =>
  have hz := hno hok
  repeat ((fail_if_success refine c_probe (id := 10) ?_); (fail_if_success refine c_probe1 (id := 10) ?_); first|refine lVa rfl rfl (by first|exact pEv rfl|fail) ?_|refine lNi ?_|refine cRg ?_|refine cSq ?_|refine xTh ?_|refine c_true rfl ?_|refine c_ret ?_|refine xTr ?_|refine xBr ?_|fail)
  exact x_ret rfl rfl (by repeat constructor) rfl (fun W hW => ⟨by rw [hz], hW.below⟩)
 | true =>
 have hnx : allR [] (-1) l = allR (l.take (k + 1)) x.no (l.drop (k + 1)) := by rw [hdr, hok]; rfl
 repeat ((fail_if_success refine c_probe (id := 10) ?_); (fail_if_success refine c_probe1 (id := 10) ?_); first|refine lVa rfl rfl (by first|exact pEv rfl|fail) ?_|refine lNi ?_|refine xTh ?_|refine c_false rfl ?_|refine cSk ?_|fail)
 refine c_new 3 0 [(6, .upd 2)] [(6, [2])] [] rfl (by decide +kernel) rfl ?_
 repeat ((fail_if_success refine c_probe (id := 11) ?_); (fail_if_success refine c_probe1 (id := 11) ?_); first|refine e_imPut (s := befL (l.take k)) (k := x.no) (v := .agg ⟨rgE x⟩) rfl rfl rfl rfl rfl rfl rfl rfl ?_|refine lVa rfl rfl (by first|exact v_add rfl rfl (by omega) (by omega)|exact pEv rfl|fail) ?_|refine lNi ?_|refine cRg ?_|refine xTh ?_|refine x_block ?_|refine e_val rfl rfl rfl rfl (by first|exact pEv rfl|exact vLd rfl (by repeat constructor) rfl (by rfl)|fail) ?_|refine e_nil rfl ?_|fail)
 rw [hput, <- htk]
 exact x_back (k + 1, x.no) ⟨hlt, fun _ => ⟨fun r hr => by
  rw [htk] at hr
  rcases List.mem_append.1 hr with hr | hr
  ·have := hle () r hr
   simp only; omega
  ·rw [List.mem_singleton.1 hr]; exact Int.le_refl _, hnx⟩⟩ (by simp only; omega) (by repeat (first|exact .nil|refine .cons rfl (by first|rfl|(congr 1; done)|exact congrArg _ (by omega)|(simp; done)) ?_)) (by repeat (first|exact .nil|refine .keep (by first|rfl|assumption) ?_|refine .drop ?_|exact MSub.refl _))
/-! ## What is asked -/
def askedV (l : List Rg) (day time : Int) : Int := if chkR l ≠ 0 then chkR l else if wiB day 0 73048 = true /\ wiB time 0 134217727 = true then 0 else 1
theorem asked38_calls (A : Option Addr) (cap : Nat) (l : List Rg) (day time : Int) (w : World) (hA : Kin.At w A 11 (l.map rgE)) (hl : l.length <= 9223372036854775807) : Calls Tryz.prog 38 ⟨[.slice A l.length cap, .int .i64 day, .int .i64 time]⟩ w fun e w' => e = .returned (.int .i64 (askedV l day time)) /\ Under w.heap.size w w' := by
 have hc := fun W (h : Under w.heap.size w W) => Check69_calls A cap l W (hA.later h) hl
 refine fEn Tryz.func38 rfl Tryz.ntmps38 rfl rfl (sWn w) ?_
 have hw1 := fun W => within39_calls day 0 73048 W
 have hw2 := fun W => within39_calls time 0 134217727 W
 have hv : askedV l day time = if chkR l ≠ 0 then chkR l else if wiB day 0 73048 = true /\ wiB time 0 134217727 = true then 0 else 1 := rfl
 generalize chkR l = z at *
 generalize wiB day 0 73048 = q0 at *
 generalize wiB time 0 134217727 = q1 at *
 repeat (first|refine lVa rfl rfl (by first|exact pEv rfl|fail) ?_|refine lNi ?_|refine cRg ?_|refine cSq ?_|refine xTh ?_|fail)
 refine r_call rfl rfl rfl (fun W hW => hc W hW.below) ?_
 by_cases hz : z = 0
 rotate_left
 ·rw [if_pos hz] at hv
  repeat (first|refine lVa rfl rfl (by first|exact pEv rfl|fail) ?_|refine lNi ?_|refine cRg ?_|refine cSq ?_|refine xTh ?_|refine c_dec_t rfl (by first|omega|fail) ?_|refine c_ret ?_|refine xTr ?_|fail)
  exact x_ret rfl rfl (by repeat constructor) rfl (fun W hW => ⟨by rw [hv], hW.below⟩)
 rw [if_neg (fun h => h hz)] at hv
 repeat (first|refine lVa rfl rfl (by first|exact pEv rfl|fail) ?_|refine lNi ?_|refine cRg ?_|refine cSq ?_|refine xTh ?_|refine c_dec_f rfl (by first|omega|exact fun h => h rfl|fail) ?_|refine cSk ?_|fail)
 refine r_call rfl rfl rfl (fun W hW => hw1 W) ?_
 cases q0 with
 | false =>
  repeat (first|refine lVa rfl rfl (by first|exact pEv rfl|fail) ?_|refine lNi ?_|refine cRg ?_|refine cSq ?_|refine xTh ?_|refine l_skip rfl rfl ?_|refine c_true rfl ?_|refine c_ret ?_|refine xTr ?_|fail)
  exact x_ret rfl rfl (by repeat constructor) rfl (fun W hW => ⟨by rw [hv]; rfl, hW.below⟩)
 | true =>
 repeat (first|refine lVa rfl rfl (by first|exact pEv rfl|fail) ?_|fail)
 refine r_call rfl rfl rfl (fun W hW => hw2 W) ?_
 cases q1 with
 | false =>
  repeat (first|refine lVa rfl rfl (by first|exact pEv rfl|fail) ?_|refine lNi ?_|refine cRg ?_|refine cSq ?_|refine xTh ?_|refine c_true rfl ?_|refine c_ret ?_|refine xTr ?_|fail)
  exact x_ret rfl rfl (by repeat constructor) rfl (fun W hW => ⟨by rw [hv]; rfl, hW.below⟩)
 | true =>
 repeat (first|refine lVa rfl rfl (by first|exact pEv rfl|fail) ?_|refine lNi ?_|refine cRg ?_|refine cSq ?_|refine xTh ?_|refine c_false rfl ?_|refine cSk ?_|refine c_ret ?_|fail)
 exact x_ret rfl rfl (by repeat constructor) rfl (fun W hW => ⟨by rw [hv]; rfl, hW.below⟩)
end R41
end Go.Proofs

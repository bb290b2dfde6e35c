/- Identity: the graph of two editions, walked. -/
import Derived.Test.YtajnkdgbpffinaaGreatIdJ
set_option maxRecDepth 100000
set_option maxHeartbeats 400000000
set_option linter.unusedSectionVars false
set_option linter.unusedVariables false
set_option linter.unusedSimpArgs false
namespace Go.Proofs
open Go.RowKit Go.Kin Go.Kin.Cl
namespace R41
def vF (v : Value) : List Value := [v]
theorem vF_rows (l : List Value) : ((l.map vF).flatten).length = l.length * 1 := by
 induction l with
 | nil => rfl
 | cons x l ih => rw [List.map_cons, List.flatten_cons, List.length_append, ih]; show 1 + l.length * 1 = (l.length + 1) * 1; omega
theorem ext_pre {W : World} {b : Nat} {cs rest : List Value} {T : TypeId} (h : W.heap[b]? = some (.cells ⟨cs ++ rest⟩ T (0, 0))) : Ext W (base W) b 0 cs :=
 ⟨(ext_heap h).dom, fun i v hi => (ext_heap h).cell i v (by rw [List.getElem?_append_left (List.getElem?_eq_some_iff.1 hi).1]; exact hi)⟩
theorem table34_bad (x y : Ed) (A : Option Addr) (cap : Nat) (limit : Int) (w : World) (hA : Kin.At w A 1 ([x, y].map Ed.v)) (hx : x.OK w) (hy : y.OK w) (hlim : ¬ (0 <= limit /\ limit <= 1000)) :
  Calls Tryz.prog 34 ⟨[.slice A 2 cap, .int .i64 limit]⟩ w fun e w' => e = .returned (.tuple ⟨[.slice none 0 0, .int .i64 450]⟩) /\ Under w.heap.size w w' := by
 refine fEn Tryz.func34 rfl Tryz.ntmps34 rfl rfl (sWn w) ?_
 repeat ((fail_if_success refine c_probe (id := 3) ?_); (fail_if_success refine c_probe1 (id := 3) ?_); first|refine lVa rfl rfl (by first|exact pEv rfl|fail) ?_|refine lNi ?_|refine cRg ?_|refine cSq ?_|refine xTh ?_|refine c_false rfl ?_|refine cSk ?_|fail)
 refine cSq ?_
 repeat (first|refine lVa rfl rfl (by first|exact pEv rfl|fail) ?_|refine cRg ?_|fail)
 refine l_callF (ι := Option Addr × Nat × List EsR) (v := fun _ => .tuple ⟨[.slice none 0 0, .int .i64 450]⟩) (mem' := []) (fun i W W' => EssR [x, y] i.1 i.2.2 W') rfl rfl rfl .nil (fun W hW => ?_) ?_
 ·have hB := hW.below
  have h := essences32_calls limit A cap [x, y] W (hA.later hB) (by simp) (fun z hz => by
   rcases List.mem_cons.1 hz with rfl | hz
   ·exact hx.later hB
   ·rw [List.mem_singleton.1 hz]; exact hy.later hB)
  simp only [if_neg hlim] at h
  exact h
 rintro ⟨X, cX, rows⟩ W W' hW hB hW' hE
 have hbl : ∀ {mem : List (Nat × Obj)} {V : World}, SatW W' (allBut W' (List.map (·.1) ([] : List (Nat × Obj)))) noJ mem V -> Under W'.heap.size W' V := fun hV => hV.same.below (Nat.le_refl _) fun k hk => ⟨hk, by simp⟩
 clear hE hA hx hy
 repeat (first|refine lVa rfl rfl (by first|exact pEv rfl|fail) ?_|refine lNi ?_|refine cRg ?_|refine cSq ?_|refine xTh ?_|refine c_true rfl ?_|refine c_ret ?_|refine xTr ?_|fail)
 exact x_ret rfl rfl (by repeat constructor) rfl (fun V hV => ⟨rfl, hW.below.trans ((hB.trans ((hbl hV).mono hB.size)).mono hW.below.size)⟩)
theorem table34_calls (x y : Ed) (A : Option Addr) (cap : Nat) (limit : Int) (w : World) (hA : Kin.At w A 1 ([x, y].map Ed.v)) (hx : x.OK w) (hy : y.OK w) (hlim : 0 <= limit /\ limit <= 1000) :
  Calls Tryz.prog 34 ⟨[.slice A 2 cap, .int .i64 limit]⟩ w fun e w' => ∃ i : Nat × Nat, e = .returned (.tuple ⟨[.slice (some ⟨i.1, 0, none⟩) 2 i.2, .int .i64 0]⟩) /\ Under w.heap.size w w' /\ GrOK w' i.1 0 (simB (essC x.l) (essC y.l) limit) := by
 refine fEn Tryz.func34 rfl Tryz.ntmps34 rfl rfl (sWn w) ?_
 repeat ((fail_if_success refine c_probe (id := 3) ?_); (fail_if_success refine c_probe1 (id := 3) ?_); first|refine lVa rfl rfl (by first|exact pEv rfl|fail) ?_|refine lNi ?_|refine cRg ?_|refine cSq ?_|refine xTh ?_|refine c_false rfl ?_|refine cSk ?_|fail)
 refine cSq ?_
 repeat (first|refine lVa rfl rfl (by first|exact pEv rfl|fail) ?_|refine cRg ?_|fail)
 refine l_callF (ι := Option Addr × Nat × List EsR) (v := fun i => .tuple ⟨[.slice i.1 2 i.2.1, .int .i64 0]⟩) (mem' := []) (fun i W W' => EssR [x, y] i.1 i.2.2 W') rfl rfl rfl .nil (fun W hW => ?_) ?_
 ·have hB := hW.below
  have h := essences32_calls limit A cap [x, y] W (hA.later hB) (by simp) (fun z hz => by
   rcases List.mem_cons.1 hz with rfl | hz
   ·exact hx.later hB
   ·rw [List.mem_singleton.1 hz]; exact hy.later hB)
  simp only [if_pos hlim] at h
  exact h
 rintro ⟨X, cX, rows⟩ W W' hW hB hW' hE
 simp only at hE ⊢
 have hbl : ∀ {mem : List (Nat × Obj)} {V : World}, SatW W' (allBut W' (List.map (·.1) ([] : List (Nat × Obj)))) noJ mem V -> Under W'.heap.size W' V := fun hV => hV.same.below (Nat.le_refl _) fun k hk => ⟨hk, by simp⟩
 obtain ⟨e1, e2, b, o, A1, A2, c1, c2, rfl, rfl, x1, x2, a1, a2⟩ := ess_two hE
 have hs := fun V (hV : Under W'.heap.size W' V) => simE_calls x.l y.l A1 A2 c1 c2 limit V hlim hx.form hy.form hx.len hy.len (a1.later hV) (a2.later hV)
 have y1 : Ext W' (allBut W' (List.map (·.1) ([] : List (Nat × Obj)))) _ _ _ := ⟨⟨x1.dom, by simp⟩, x1.cell⟩
 have y2 : Ext W' (allBut W' (List.map (·.1) ([] : List (Nat × Obj)))) _ _ _ := ⟨⟨x2.dom, by simp⟩, x2.cell⟩
 have hfin : ∀ V, SatW W' (allBut W' (List.map (·.1) ([] : List (Nat × Obj)))) noJ [] V -> Under w.heap.size w V := fun V hV => hW.below.trans ((hB.trans ((hbl hV).mono hB.size)).mono hW.below.size)
 generalize simB (essC x.l) (essC y.l) limit = q at hs ⊢
 clear x1 x2 hE hA hx hy a1 a2
 repeat ((fail_if_success refine c_probe (id := 6) ?_); (fail_if_success refine c_probe1 (id := 6) ?_); first|refine lVa rfl rfl (by first|exact pEv rfl|fail) ?_|refine lNi ?_|refine cRg ?_|refine cSq ?_|refine xTh ?_|refine c_false rfl ?_|refine cSk ?_|fail)
 repeat (first|refine lVa rfl rfl (by first|exact v_add rfl rfl (by omega) (by omega)|exact pEv rfl|exact vL0 rfl (by assumption) rfl (by rfl)|exact v_index rfl rfl rfl rfl (by omega) (by omega) (by with_reducible first|exact idx5 _|exact idx6 _ _|fail)|fail) ?_|refine lNi ?_|refine cRg ?_|refine cSq ?_|refine xTh ?_|refine l_skip rfl rfl ?_|refine rSt rfl rfl rfl rfl rfl rfl rfl (by repeat constructor) (by rfl) ?_|refine r_make rfl rfl rfl rfl rfl rfl (by first|rfl|fail) (by omega) (by omega) rfl rfl (by first|exact flat_bool|fail) (fun _ => ?_)|refine c_true rfl ?_|refine cBl ?_|refine cSk ?_|refine x_block ?_|refine l_dec_t rfl rfl rfl rfl rfl (by first|omega|fail) ?_|refine c_rounds 5 ?_|fail)
 refine r_call rfl rfl rfl (fun V hV => hs V (hbl hV)) ?_
 repeat (first|refine lVa rfl rfl (by first|exact v_add rfl rfl (by omega) (by omega)|exact pEv rfl|exact v_index rfl rfl rfl rfl (by omega) (by omega) (by with_reducible first|exact idx5 _|fail)|fail) ?_|refine lNi ?_|refine cRg ?_|refine cSq ?_|refine xTh ?_|refine rSt rfl rfl rfl rfl rfl rfl rfl (by repeat constructor) (by rfl) ?_|refine r_buildSlice rfl rfl rfl rfl rfl rfl (by rfl) (fun _ => ?_)|refine c_false rfl ?_|refine c_exit ?_|refine xTe ?_|refine x_block ?_|refine xBs ?_|fail)
 rename_i r0 _
 refine r_appendZ (f := vF) (e := 128) (sz := 1) (xs := []) (ys := [.slice (some ⟨r0, 0, none⟩) 2 2]) (m := 1) (b := 0) (cap := 0) (rest := []) rfl rfl rfl rfl rfl rfl rfl (.inr ⟨_, 0, rfl, news_own (by repeat constructor)⟩) (.refl _) (fun h => absurd rfl h) vF_rows rfl rfl (by decide) (by unfold maxLen; decide) (fun b8 c8 r8 hg8 => ?_)
 rw [List.nil_append] at hg8 ⊢
 have hg8' := fun (_ : Unit) => hg8
 clear hg8
 rw [gSl_ne (by simp), gM_ne (by simp)]
 simp only [List.cons_append, List.nil_append, List.length_cons, List.length_nil, List.map_cons, List.map_nil, List.flatten_cons, List.flatten_nil]
 repeat (first|refine lVa rfl rfl (by first|exact v_add rfl rfl (by omega) (by omega)|exact pEv rfl|exact vLd rfl (by repeat constructor) rfl (by rfl)|exact vL0 rfl (by assumption) rfl (by rfl)|exact v_index rfl rfl rfl rfl (by omega) (by omega) (by with_reducible first|exact idx5 _|exact idx6 _ _|fail)|fail) ?_|refine lNi ?_|refine cRg ?_|refine cSq ?_|refine xTh ?_|refine r_make rfl rfl rfl rfl rfl rfl (by first|rfl|fail) (by omega) (by omega) rfl rfl (by first|exact flat_bool|fail) (fun _ => ?_)|refine c_true rfl ?_|refine cBl ?_|refine cSk ?_|refine x_block ?_|refine c_rounds 5 ?_|fail)
 cases q
 ·repeat (first|refine lVa rfl rfl (by first|exact v_add rfl rfl (by omega) (by omega)|exact pEv rfl|exact vL0 rfl (by assumption) rfl (by rfl)|exact v_index rfl rfl rfl rfl (by omega) (by omega) (by with_reducible first|exact idx5 _|exact idx6 _ _|fail)|fail) ?_|refine lNi ?_|refine cRg ?_|refine cSq ?_|refine xTh ?_|refine l_skip rfl rfl ?_|refine rSt rfl rfl rfl rfl rfl rfl rfl (by repeat constructor) (by rfl) ?_|refine r_buildSlice rfl rfl rfl rfl rfl rfl (by rfl) (fun _ => ?_)|refine c_true rfl ?_|refine c_false rfl ?_|refine cBl ?_|refine cSk ?_|refine c_exit ?_|refine xTe ?_|refine x_block ?_|refine xBs ?_|fail)
  rename_i r1 bs1
  refine r_appendZ (f := vF) (e := 128) (sz := 1) (xs := [.slice (some ⟨r0, 0, none⟩) 2 2]) (ys := [.slice (some ⟨r1, 0, none⟩) 2 2]) (m := 1) (b := b8) (cap := c8) (rest := r8) rfl rfl rfl rfl rfl rfl rfl (.inr ⟨_, 0, rfl, news_own (by repeat constructor)⟩) (List.perm_append_comm_assoc [_, _] [(b8, _)] _) (hg8' ()) vF_rows rfl rfl (by simp) (by unfold maxLen; simp) (fun b9 c9 r9 hg9 => ?_)
  clear hg9
  rw [gSl_ne (by simp), gM_ne (by simp)]
  simp only [List.cons_append, List.nil_append, List.length_cons, List.length_nil, List.map_cons, List.map_nil, List.flatten_cons, List.flatten_nil]
  repeat (first|refine lVa rfl rfl (by first|exact v_add rfl rfl (by omega) (by omega)|exact pEv rfl|fail) ?_|refine lNi ?_|refine cRg ?_|refine cSq ?_|refine xTh ?_|refine c_false rfl ?_|refine c_ret ?_|refine c_exit ?_|refine xTe ?_|refine x_block ?_|refine xBs ?_|fail)
  exact x_ret rfl rfl (by repeat constructor) rfl (fun V hV => ⟨(b9, c9), rfl, hfin V (hV.mono (List.nil_sublist _)), ⟨r0, 0, 2, r1, 0, 2, ext_pre (cs := [_, _]) (hV.own (b9, _) (by repeat constructor)).2, ext_heap (hV.own (r0, _) (by repeat constructor)).2, ext_heap (hV.own (r1, _) (by repeat constructor)).2⟩⟩)
 ·repeat (first|refine lVa rfl rfl (by first|exact v_add rfl rfl (by omega) (by omega)|exact pEv rfl|exact vL0 rfl (by assumption) rfl (by rfl)|exact v_index rfl rfl rfl rfl (by omega) (by omega) (by with_reducible first|exact idx5 _|exact idx6 _ _|fail)|fail) ?_|refine lNi ?_|refine cRg ?_|refine cSq ?_|refine xTh ?_|refine l_skip rfl rfl ?_|refine rSt rfl rfl rfl rfl rfl rfl rfl (by repeat constructor) (by rfl) ?_|refine r_buildSlice rfl rfl rfl rfl rfl rfl (by rfl) (fun _ => ?_)|refine c_true rfl ?_|refine c_false rfl ?_|refine cBl ?_|refine cSk ?_|refine c_exit ?_|refine xTe ?_|refine x_block ?_|refine xBs ?_|fail)
  rename_i r1 bs1
  refine r_appendZ (f := vF) (e := 128) (sz := 1) (xs := [.slice (some ⟨r0, 0, none⟩) 2 2]) (ys := [.slice (some ⟨r1, 0, none⟩) 2 2]) (m := 1) (b := b8) (cap := c8) (rest := r8) rfl rfl rfl rfl rfl rfl rfl (.inr ⟨_, 0, rfl, news_own (by repeat constructor)⟩) (List.perm_append_comm_assoc [_, _] [(b8, _)] _) (hg8' ()) vF_rows rfl rfl (by simp) (by unfold maxLen; simp) (fun b9 c9 r9 hg9 => ?_)
  clear hg9
  rw [gSl_ne (by simp), gM_ne (by simp)]
  simp only [List.cons_append, List.nil_append, List.length_cons, List.length_nil, List.map_cons, List.map_nil, List.flatten_cons, List.flatten_nil]
  repeat (first|refine lVa rfl rfl (by first|exact v_add rfl rfl (by omega) (by omega)|exact pEv rfl|fail) ?_|refine lNi ?_|refine cRg ?_|refine cSq ?_|refine xTh ?_|refine c_false rfl ?_|refine c_ret ?_|refine c_exit ?_|refine xTe ?_|refine x_block ?_|refine xBs ?_|fail)
  exact x_ret rfl rfl (by repeat constructor) rfl (fun V hV => ⟨(b9, c9), rfl, hfin V (hV.mono (List.nil_sublist _)), ⟨r0, 0, 2, r1, 0, 2, ext_pre (cs := [_, _]) (hV.own (b9, _) (by repeat constructor)).2, ext_heap (hV.own (r0, _) (by repeat constructor)).2, ext_heap (hV.own (r1, _) (by repeat constructor)).2⟩⟩)
end R41
end Go.Proofs

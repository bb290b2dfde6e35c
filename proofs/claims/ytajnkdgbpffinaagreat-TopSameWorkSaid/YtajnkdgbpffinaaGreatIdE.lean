/- Identity: essences, walked. -/
import Derived.Test.YtajnkdgbpffinaaGreatIdD
import Derived.Test.YtajnkdgbpffinaaGreatPcF
set_option maxRecDepth 100000
set_option maxHeartbeats 400000000
set_option linter.unusedSectionVars false
set_option linter.unusedVariables false
set_option linter.unusedSimpArgs false
namespace Go.Proofs
open Go.RowKit Go.Kin Go.Kin.Cl
namespace R41
theorem Essence6_bad (A : Option Addr) (cap : Nat) (l : List Sg) (w : World) (hA : Kin.At w A 14 (l.map sgE)) (hwf : ∀ s ∈ l, s.wf) (hl : l.length <= 9223372036854775807) (hk : chkS l ≠ 0) :
  Calls Tryz.prog 6 ⟨[.slice A l.length cap]⟩ w fun e w' => e = .returned (.tuple ⟨[.slice none 0 0, .int .i64 (chkS l)]⟩) /\ Under w.heap.size w w' := by
 have hc := fun W (hB : Under w.heap.size w W) => Check18_calls A cap l W (hA.later hB) hwf hl
 generalize chkS l = q at *
 refine fEn Tryz.func6 rfl Tryz.ntmps6 rfl rfl (sWn w) ?_
 repeat ((fail_if_success refine c_probe (id := 1) ?_); (fail_if_success refine c_probe1 (id := 1) ?_); first|refine lVa rfl rfl (by first|exact pEv rfl|fail) ?_|refine lNi ?_|refine cRg ?_|refine cSq ?_|refine xTh ?_|fail)
 refine cSq ?_
 repeat (first|refine lVa rfl rfl (by first|exact pEv rfl|fail) ?_|refine cRg ?_|refine cSq ?_|fail)
 refine r_call rfl rfl rfl (fun W hW => hc W hW.below) ?_
 repeat ((fail_if_success refine c_probe (id := 4) ?_); (fail_if_success refine c_probe1 (id := 4) ?_); first|refine lVa rfl rfl (by first|exact pEv rfl|fail) ?_|refine lNi ?_|refine cRg ?_|refine cSq ?_|refine xTh ?_|refine c_dec_t rfl (by first|omega|fail) ?_|refine c_ret ?_|refine xTr ?_|fail)
 exact x_ret rfl rfl (by repeat constructor) rfl (fun W hW => ⟨rfl, hW.below⟩)
theorem satW_re {w W W' : World} {mem ms : List (Nat × Obj)} (h1 : SatW w (allBut w (List.map (·.1) ([] : List (Nat × Obj)))) noJ mem W) (h2 : SatW W (allBut W (List.map (·.1) ([] : List (Nat × Obj)))) noJ ms W') : SatW w (allBut w (List.map (·.1) ([] : List (Nat × Obj)))) noJ ms W' := by
 have hs := h1.same.size
 refine ⟨h1.same.trans (h2.same.mono fun k hk => ⟨Nat.lt_of_lt_of_le hk.1 hs, by simp⟩), fun k hk => hk.1, h2.nodup, fun p hp => ⟨fun hd => (h2.own p hp).1 ⟨Nat.lt_of_lt_of_le hd.1 hs, by simp⟩, (h2.own p hp).2⟩, closed_noJ, trivial⟩
structure EsS where
 k : Nat
 b : Nat
 c : Nat
 r : List Value
theorem Essence6_calls (A : Option Addr) (cap : Nat) (l : List Sg) (w : World) (hA : Kin.At w A 14 (l.map sgE)) (hwf : ∀ s ∈ l, s.wf) (hl : l.length <= 64) (hk : chkS l = 0) (hform : ∀ s ∈ l, formB s = true) (hid : idP l) :
  Calls Tryz.prog 6 ⟨[.slice A l.length cap]⟩ w (FrQ [] (fun x : Nat × Nat × List Value => .tuple ⟨[gSl (essC l) x.1 x.2.1, .int .i64 0]⟩) (fun x => gM inE 3 (essC l) x.1 x.2.2) w) := by
 have hsat := frQ_start (W := w) (pre := []) (by simp) fun p hp => by cases hp
 have hbl : ∀ {mem : List (Nat × Obj)} {W : World}, SatW w (allBut w (List.map (·.1) ([] : List (Nat × Obj)))) noJ mem W -> Under w.heap.size w W := fun hW => hW.same.below (Nat.le_refl _) fun k hk => ⟨hk, by simp⟩
 have hc := fun W (hB : Under w.heap.size w W) => Check18_calls A cap l W (hA.later hB) hwf (by omega)
 rw [hk] at hc
 obtain ⟨n, hn⟩ : ∃ n, l.length = n := ⟨_, rfl⟩
 have hfl : ∀ k, ((l.take k).filter isE).length <= n := fun k => Nat.le_trans (List.length_filter_le _ _) (by rw [List.length_take]; omega)
 rw [hn] at hl hc ⊢
 refine fEn Tryz.func6 rfl Tryz.ntmps6 rfl rfl hsat ?_
 repeat ((fail_if_success refine c_probe (id := 1) ?_); (fail_if_success refine c_probe1 (id := 1) ?_); first|refine lVa rfl rfl (by first|exact pEv rfl|fail) ?_|refine lNi ?_|refine cRg ?_|refine cSq ?_|refine xTh ?_|fail)
 refine cSq ?_
 repeat (first|refine lVa rfl rfl (by first|exact pEv rfl|fail) ?_|refine cRg ?_|refine cSq ?_|fail)
 refine r_call rfl rfl rfl (fun W hW => hc W (hbl hW)) ?_
 clear hc
 repeat ((fail_if_success refine c_probe (id := 6) ?_); (fail_if_success refine c_probe1 (id := 6) ?_); first|refine lVa rfl rfl (by first|exact pEv rfl|fail) ?_|refine lNi ?_|refine cRg ?_|refine cSq ?_|refine xTh ?_|refine c_false rfl ?_|refine cBl ?_|refine cSk ?_|fail)
 refine c_loop (ι := EsS) (fun s => s.k <= n /\ gOK sgE 14 ((l.take s.k).filter isE) s.c s.r) (fun s => [(2, .slice none 0 0), (3, .int .i64 0), (4, gSl ((l.take s.k).filter isE) s.b s.c), (16, .slice A n cap), (17, .int .i64 n), (18, .int .i64 s.k)]) (fun s => gM sgE 32 ((l.take s.k).filter isE) s.b s.r) (fun s => n - s.k) ⟨0, 0, 0, []⟩
  ⟨Nat.zero_le _, fun h => absurd rfl h⟩ (by repeat (first|exact .nil|refine .cons rfl (by first|rfl|(congr 1; done)|exact congrArg _ (by omega)|(simp; done)) ?_)) (by repeat (first|exact .nil|refine .keep (by first|rfl|assumption) ?_|refine .drop ?_|exact MSub.refl _)) ?_
 rintro ⟨k, b, c, r⟩ ⟨hkn, hg⟩
 simp only at hkn hg ⊢
 by_cases hlt : k < n
 ·obtain ⟨s, hs⟩ : ∃ s, l[k]? = some s := ⟨_, List.getElem?_eq_getElem (by omega)⟩
  obtain ⟨bb, o, hAb, hcS⟩ := hA k (sgE s) (by rw [List.getElem?_map, hs]; rfl)
  have x1 : Ext w (allBut w (List.map (·.1) ([] : List (Nat × Obj)))) _ _ _ := ⟨⟨(ext_of hcS).dom, by simp⟩, (ext_of hcS).cell⟩
  have htk : (l.take (k + 1)).filter isE = (l.take k).filter isE ++ if isE s then [s] else [] := by
   obtain ⟨h1, h2⟩ := List.getElem?_eq_some_iff.1 hs
   rw [List.take_succ_eq_append_getElem h1, h2, List.filter_append, List.filter_cons]; rfl
  have hl2 := hfl k
  obtain ⟨L, hL⟩ : ∃ L, (l.take k).filter isE = L := ⟨_, rfl⟩
  rw [hL] at htk hg hl2 ⊢
  have hg' := fun (_ : Unit) => hg
  clear hg
  rw [hAb]
  by_cases hm : s.mark = 1
  ·have he : isE s = true := decide_eq_true hm
   rw [he, if_pos rfl] at htk
   repeat ((fail_if_success refine c_probe (id := 9) ?_); (fail_if_success refine c_probe1 (id := 9) ?_); first|refine lVa rfl rfl (by first|exact pEv rfl|exact vLd rfl (by repeat constructor) rfl (by rfl)|exact vL0 rfl (by assumption) rfl (by rfl)|exact v_index rfl rfl rfl rfl (by omega) (by omega) (by with_reducible first|exact idx4 _ _ _|fail)|fail) ?_|refine lNi ?_|refine cRg ?_|refine cSq ?_|refine xTh ?_|refine r_alloc rfl rfl rfl (by first|exact aggL|fail) (fun _ => ?_)|refine rSt rfl rfl rfl rfl rfl rfl rfl (by repeat constructor) (by rfl) ?_|refine r_buildSlice rfl rfl rfl rfl rfl rfl (by rfl) (fun _ => ?_)|refine c_dec_t rfl (by first|omega|fail) ?_|refine cBl ?_|refine cSk ?_|fail)
   skip
   refine r_appendZ (f := sgE) (e := 32) (sz := 14) (xs := L) (ys := [s]) (m := 1) rfl rfl rfl rfl rfl rfl rfl (.inr ⟨_, 0, rfl, news_own (by repeat constructor)⟩) (perm_tl (X := [_, _]) (G := [])) (hg' ()) sgE_rows rfl rfl (by omega) (by unfold maxLen; omega) (fun b8 c8 r8 hg8 => ?_)
   have hg8' := fun (_ : Unit) => hg8
   clear hg8
   refine l_perm List.perm_append_comm ?_
   simp only [List.cons_append, List.nil_append, List.append_nil]
   repeat ((fail_if_success refine c_probe (id := 10) ?_); (fail_if_success refine c_probe1 (id := 10) ?_); first|refine lVa rfl rfl (by first|exact v_add rfl rfl (by omega) (by omega)|exact pEv rfl|fail) ?_|refine lNi ?_|refine cRg ?_|refine xTh ?_|refine x_block ?_|fail)
   refine x_back ⟨k + 1, b8, c8, r8⟩ ⟨hlt, by rw [htk]; exact hg8' ()⟩ (by simp only; omega) ?_ ?_
   ·simp only; rw [htk]; exact (by repeat (first|exact .nil|refine .cons rfl (by first|rfl|(congr 1; done)|exact congrArg _ (by omega)|(simp; done)) ?_))
   ·simp only; rw [htk]; exact (by repeat (first|exact .nil|refine .keep (by first|rfl|assumption) ?_|refine .drop ?_|exact MSub.refl _))
  ·have he : isE s = false := decide_eq_false hm
   rw [he, if_neg (by decide), List.append_nil] at htk
   repeat ((fail_if_success refine c_probe (id := 10) ?_); (fail_if_success refine c_probe1 (id := 10) ?_); first|refine lVa rfl rfl (by first|exact v_add rfl rfl (by omega) (by omega)|exact pEv rfl|exact vLd rfl (by repeat constructor) rfl (by rfl)|exact vL0 rfl (by assumption) rfl (by rfl)|exact v_index rfl rfl rfl rfl (by omega) (by omega) (by with_reducible first|exact idx4 _ _ _|fail)|fail) ?_|refine lNi ?_|refine cRg ?_|refine cSq ?_|refine xTh ?_|refine r_alloc rfl rfl rfl (by first|exact aggL|fail) (fun _ => ?_)|refine rSt rfl rfl rfl rfl rfl rfl rfl (by repeat constructor) (by rfl) ?_|refine c_dec_t rfl (by first|omega|fail) ?_|refine c_dec_f rfl (by first|omega|fail) ?_|refine cBl ?_|refine cSk ?_|refine x_block ?_|fail)
   refine x_back ⟨k + 1, b, c, r⟩ ⟨hlt, by rw [htk]; exact hg' ()⟩ (by simp only; omega) ?_ ?_
   ·simp only; rw [htk]; exact (by repeat (first|exact .nil|refine .cons rfl (by first|rfl|(congr 1; done)|exact congrArg _ (by omega)|(simp; done)) ?_))
   ·simp only; rw [htk]; exact (by repeat (first|exact .nil|refine .keep (by first|rfl|assumption) ?_|refine .drop ?_|exact MSub.refl _))
 rw [List.take_of_length_le (by omega)] at hg ⊢
 have hln : (l.filter isE).length <= n := by have := hfl n; rwa [List.take_of_length_le (by omega)] at this
 have hF : ∀ s ∈ l.filter isE, formB s = true /\ s.wf := fun s hs => ⟨hform s (List.mem_filter.1 hs).1, hwf s (List.mem_filter.1 hs).1⟩
 have hidF : idP (l.filter isE) := fun x hx y hy => hid x (List.mem_filter.1 hx).1 y (List.mem_filter.1 hy).1
 have hess : ∀ rs : List Sg, rs.Perm (l.filter isE) -> rs.Pairwise (fun x y => ¬ cmpS y x < 0) -> rs = essL l := fun rs h1 h2 => sort_uniq hidF h1 h2 (sortS_perm _) (sortS_sorted _ fun s hs => (hF s hs).1)
 have hel : (essL l).length = (l.filter isE).length := (sortS_perm _).length_eq
 have hef := essL_form hform
 obtain ⟨L, hL⟩ : ∃ L, l.filter isE = L := ⟨_, rfl⟩
 rw [hL] at hg hln hF hidF hess hel ⊢
 by_cases hne : L = []
 ·subst hne
  have he0 : essL l = [] := List.eq_nil_of_length_eq_zero hel
  have hc0 : essC l = [] := by unfold essC; rw [he0]; rfl
  rw [hc0]
  repeat ((fail_if_success refine c_probe (id := 13) ?_); (fail_if_success refine c_probe1 (id := 13) ?_); first|refine lVa rfl rfl (by first|exact pEv rfl|fail) ?_|refine lNi ?_|refine cRg ?_|refine cSq ?_|refine xTh ?_|refine c_false rfl ?_|refine c_dec_f rfl (by first|omega|fail) ?_|refine cSk ?_|refine c_exit ?_|refine xTe ?_|refine xBs ?_|fail)
  refine cSq ?_
  repeat (first|refine lVa rfl rfl (by first|exact pEv rfl|fail) ?_|refine cRg ?_|fail)
  refine r_call rfl rfl rfl (fun W hW => sort19_none none 0 20 W) ?_
  repeat ((fail_if_success refine c_probe (id := 15) ?_); (fail_if_success refine c_probe1 (id := 15) ?_); first|refine lVa rfl rfl (by first|exact pEv rfl|fail) ?_|refine lNi ?_|refine cRg ?_|refine cSq ?_|refine xTh ?_|refine cBl ?_|fail)
  refine c_loop (ι := Unit) (fun _ => True) (fun _ => [(2, .slice none 0 0), (35, .slice none 0 0), (36, .int .i64 (0 : Nat)), (37, .int .i64 (0 : Nat))]) (fun _ => []) (fun _ => 0) () trivial (by repeat (first|exact .nil|refine .cons rfl (by first|rfl|(congr 1; done)|exact congrArg _ (by omega)|(simp; done)) ?_)) (by repeat (first|exact .nil|refine .keep (by first|rfl|assumption) ?_|refine .drop ?_|exact MSub.refl _)) ?_
  rintro - -
  repeat ((fail_if_success refine c_probe (id := 20) ?_); (fail_if_success refine c_probe1 (id := 20) ?_); first|refine lVa rfl rfl (by first|exact pEv rfl|fail) ?_|refine lNi ?_|refine cRg ?_|refine cSq ?_|refine xTh ?_|refine c_false rfl ?_|refine c_exit ?_|refine xTe ?_|refine xBs ?_|fail)
  repeat (first|refine lVa rfl rfl (by first|exact pEv rfl|fail) ?_|refine lNi ?_|refine cRg ?_|refine cSq ?_|refine xTh ?_|refine c_ret ?_|fail)
  exact x_ret rfl rfl (by repeat constructor) rfl (fun W hW => ⟨(0, 0, []), rfl, hW⟩)
 have hsz := (hg hne).le
 rw [gSl_ne hne, gM_ne hne]
 clear hg
 repeat ((fail_if_success refine c_probe (id := 13) ?_); (fail_if_success refine c_probe1 (id := 13) ?_); first|refine lVa rfl rfl (by first|exact pEv rfl|fail) ?_|refine lNi ?_|refine cRg ?_|refine cSq ?_|refine xTh ?_|refine c_dec_f rfl (by first|omega|fail) ?_|refine cSk ?_|refine c_exit ?_|refine xTe ?_|refine xBs ?_|fail)
 refine cSq ?_
 repeat (first|refine lVa rfl rfl (by first|exact pEv rfl|fail) ?_|refine cRg ?_|fail)
 refine r_callF rfl rfl rfl (.refl _) (fun W hW _ hp => sort19_calls L b c r W 20 cmpS (swoS fun s hs => (hF s hs).1) (fun args w => Ent.ok args w) (fun x hx y hy W => compare20_calls x y W (hF x hx).2 (hF y hy).2 (hF x hx).1 (hF y hy).1) hne (by omega) (hp _ List.mem_cons_self)) (fun i => ?_)
 obtain ⟨rs, hrp, hrs⟩ := i
 have hrs' := hess rs hrp hrs
 subst hrs'
 simp only [List.nil_append, List.append_nil]
 rw [<- hel] at hln ⊢
 have hcd : ∀ s ∈ essL l, codA s = (codeV s, 0) := fun s hs => codA_t (formB_okS (hef s hs))
 have hec : essC l = (essL l).map codeV := rfl
 have hnE : essL l ≠ [] := fun e => hne (List.length_eq_zero_iff.1 (by rw [<- hel, e]; rfl))
 generalize essL l = E at *
 generalize essC l = EC at *
 subst hec
 clear hrs hrp hess hel hidF hF hfl
 repeat ((fail_if_success refine c_probe (id := 14) ?_); (fail_if_success refine c_probe1 (id := 14) ?_); first|refine lNi ?_|refine xTh ?_|fail)
 refine c_freeze (mem' := []) MSub.nil (fun W hW => ?_)
 have hA2 : Kin.At W (some ⟨b, 0, none⟩) 14 (E.map sgE) := at_own hW List.mem_cons_self sgE_len
 repeat ((fail_if_success refine c_probe (id := 15) ?_); (fail_if_success refine c_probe1 (id := 15) ?_); first|refine lVa rfl rfl (by first|exact pEv rfl|fail) ?_|refine lNi ?_|refine cRg ?_|refine cSq ?_|refine xTh ?_|refine cBl ?_|fail)
 refine c_loop (ι := EsS) (fun s => s.k <= E.length /\ gOK inE 1 ((E.take s.k).map codeV) s.c s.r) (fun s => [(2, gSl ((E.take s.k).map codeV) s.b s.c), (35, .slice (some ⟨b, 0, none⟩) E.length c), (36, .int .i64 E.length), (37, .int .i64 s.k)]) (fun s => gM inE 3 ((E.take s.k).map codeV) s.b s.r) (fun s => E.length - s.k) ⟨0, 0, 0, []⟩
  ⟨Nat.zero_le _, fun h => absurd rfl h⟩ (by repeat (first|exact .nil|refine .cons rfl (by first|rfl|(congr 1; done)|exact congrArg _ (by omega)|(simp; done)) ?_)) (by repeat (first|exact .nil|refine .keep (by first|rfl|assumption) ?_|refine .drop ?_|exact MSub.refl _)) ?_
 rintro ⟨k, b1, c1, r1⟩ ⟨hkn, hg⟩
 simp only at hkn hg ⊢
 by_cases hlt : k < E.length
 ·obtain ⟨s, hs⟩ : ∃ s, E[k]? = some s := ⟨_, List.getElem?_eq_getElem (by omega)⟩
  obtain ⟨bb, o, hAb, hcS⟩ := hA2 k (sgE s) (by rw [List.getElem?_map, hs]; rfl)
  cases hAb
  have x1 : Ext W (allBut W (List.map (·.1) ([] : List (Nat × Obj)))) _ _ _ := ⟨⟨(ext_of hcS).dom, by simp⟩, (ext_of hcS).cell⟩
  have htk : (E.take (k + 1)).map codeV = (E.take k).map codeV ++ [codeV s] := by
   obtain ⟨h1, h2⟩ := List.getElem?_eq_some_iff.1 hs
   rw [List.take_succ_eq_append_getElem h1, h2, List.map_append]; rfl
  have hl2 : ((E.take k).map codeV).length <= 64 := by rw [List.length_map, List.length_take]; omega
  have hcode := fun W => Code_calls s W
  rw [hcd s (List.mem_of_getElem? hs)] at hcode
  obtain ⟨L2, hL2⟩ : ∃ L2, (E.take k).map codeV = L2 := ⟨_, rfl⟩
  rw [hL2] at htk hg hl2 ⊢
  generalize codeV s = q at htk hcode
  have hg' := fun (_ : Unit) => hg
  clear hg hA2
  rw [Nat.zero_add] at x1
  repeat ((fail_if_success refine c_probe (id := 17) ?_); (fail_if_success refine c_probe1 (id := 17) ?_); first|refine lVa rfl rfl (by first|exact pEv rfl|exact vL0 rfl (by assumption) rfl (by rfl)|exact v_index rfl rfl rfl rfl (by omega) (by omega) (by with_reducible first|exact idx3 _ _|fail)|fail) ?_|refine lNi ?_|refine cRg ?_|refine cSq ?_|refine xTh ?_|refine r_alloc rfl rfl rfl (by first|exact aggL|fail) (fun _ => ?_)|refine rSt rfl rfl rfl rfl rfl rfl rfl (by repeat constructor) (by rfl) ?_|refine c_dec_t rfl (by first|omega|fail) ?_|refine cBl ?_|refine cSk ?_|fail)
  refine cSq ?_
  repeat (first|refine lVa rfl rfl (by first|exact vLd rfl (by repeat constructor) rfl (by rfl)|fail) ?_|refine cRg ?_|fail)
  refine r_call rfl rfl rfl (fun W hW => hcode W) ?_
  repeat ((fail_if_success refine c_probe (id := 18) ?_); (fail_if_success refine c_probe1 (id := 18) ?_); first|refine lVa rfl rfl (by first|exact pEv rfl|fail) ?_|refine lNi ?_|refine cRg ?_|refine xTh ?_|refine r_buildSlice rfl rfl rfl rfl rfl rfl (by rfl) (fun _ => ?_)|fail)
  skip
  refine r_appendZ (f := inE) (e := 3) (sz := 1) (xs := L2) (ys := [q]) (m := 1) rfl rfl rfl rfl rfl rfl rfl (.inr ⟨_, 0, rfl, news_own (by repeat constructor)⟩) (perm_tl (X := [_, _]) (G := [])) (hg' ()) inE_rows rfl rfl (by omega) (by unfold maxLen; omega) (fun b8 c8 r8 hg8 => ?_)
  have hg8' := fun (_ : Unit) => hg8
  clear hg8
  refine l_perm List.perm_append_comm ?_
  simp only [List.cons_append, List.nil_append, List.append_nil]
  repeat ((fail_if_success refine c_probe (id := 19) ?_); (fail_if_success refine c_probe1 (id := 19) ?_); first|refine lVa rfl rfl (by first|exact v_add rfl rfl (by omega) (by omega)|exact pEv rfl|fail) ?_|refine lNi ?_|refine cRg ?_|refine xTh ?_|refine x_block ?_|fail)
  refine x_back ⟨k + 1, b8, c8, r8⟩ ⟨hlt, by rw [htk]; exact hg8' ()⟩ (by simp only; omega) ?_ ?_
  ·simp only; rw [htk]; exact (by repeat (first|exact .nil|refine .cons rfl (by first|rfl|(congr 1; done)|exact congrArg _ (by omega)|(simp; done)) ?_))
  ·simp only; rw [htk]; exact (by repeat (first|exact .nil|refine .keep (by first|rfl|assumption) ?_|refine .drop ?_|exact MSub.refl _))
 rw [List.take_of_length_le (by omega)] at hg ⊢
 clear hg
 repeat ((fail_if_success refine c_probe (id := 20) ?_); (fail_if_success refine c_probe1 (id := 20) ?_); first|refine lVa rfl rfl (by first|exact pEv rfl|fail) ?_|refine lNi ?_|refine cRg ?_|refine cSq ?_|refine xTh ?_|refine c_dec_f rfl (by first|omega|fail) ?_|refine c_exit ?_|refine xTe ?_|refine xBs ?_|fail)
 repeat (first|refine lVa rfl rfl (by first|exact pEv rfl|fail) ?_|refine lNi ?_|refine cRg ?_|refine cSq ?_|refine xTh ?_|refine c_ret ?_|fail)
 exact x_ret rfl rfl (by repeat constructor) rfl (fun W' hW' => ⟨(b1, c1, r1), rfl, satW_re hW hW'⟩)
end R41
end Go.Proofs

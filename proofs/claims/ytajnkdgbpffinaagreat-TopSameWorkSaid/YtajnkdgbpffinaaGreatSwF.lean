/- The same work: run and merged, walked. -/
import Derived.Test.YtajnkdgbpffinaaGreatSwE
set_option maxRecDepth 100000
set_option maxHeartbeats 400000000
set_option linter.unusedSectionVars false
set_option linter.unusedVariables false
set_option linter.unusedSimpArgs false
namespace Go.Proofs
open Go.RowKit Go.Kin Go.Kin.Cl
namespace R41
theorem gSl_at2 {α : Type} {f : α -> List Value} {T : TypeId} {sz : Nat} {l : List α} {b cap : Nat} {rest : List Value} (hsz : ∀ x, (f x).length = sz) (hg : gOK f sz l cap rest) : ∃ A c, gSl l b cap = .slice A l.length c /\ l.length <= c /\ (l = [] -> A = none /\ c = 0) /\ ∀ {W w0 : World} {D : Nat -> Prop} {J : (Nat -> Prop) -> World -> Prop} {mem : List (Nat × Obj)}, SatW w0 D J mem W -> (∀ p ∈ gM f T l b rest, p ∈ mem) -> Kin.At W A sz (l.map f) := by
 cases l with
 | nil => exact ⟨none, 0, rfl, Nat.le_refl _, fun _ => ⟨rfl, rfl⟩, fun _ _ i cs hi => by simp at hi⟩
 | cons x l => exact ⟨_, _, rfl, (hg (by simp)).le, (fun h => by cases h), fun hW h => at_own hW (h _ List.mem_cons_self) hsz⟩
theorem inz_of {T : TypeId} {rest : List Value} (l : List Int) (b cap : Nat) : ∃ A c, gSl l b cap = .slice A l.length c /\ ∀ {W w0 : World} {D : Nat -> Prop} {J : (Nat -> Prop) -> World -> Prop} {mem : List (Nat × Obj)}, SatW w0 D J mem W -> (∀ p ∈ gM inE T l b rest, p ∈ mem) -> InZ W A c l := by
 cases l with
 | nil => exact ⟨none, 0, rfl, fun _ _ => ⟨fun i cs hi => by simp at hi, fun _ => ⟨rfl, rfl⟩⟩⟩
 | cons x l => exact ⟨_, _, rfl, fun hW h => ⟨at_own hW (h _ List.mem_cons_self) (fun x => rfl), fun h => by cases h⟩⟩
theorem msub_left : ∀ (a : List (Nat × Obj)) {m : List (Nat × Obj)}, MSub (a ++ m) a
 | [], _ => .nil
 | _ :: a, _ => .keep rfl (msub_left a)
structure MeT where
 k : Nat
 b : Nat
 c : Nat
 r : List Value
theorem sw_mid {w : World} {A A3 : Option Addr} {cap c3 : Nat} {l : List Sg} {l3 : List Rg} {limit ed day time : Int} {p : Nat -> Bool} (s : PaT) (hA : Kin.At w A 14 (l.map sgE)) (hz : A = none -> cap = 0) (hcap : l.length <= cap) (hwf : ∀ s ∈ l, s.wf) (hl : l.length <= 24) (hlim : I64 limit) (hA3 : Kin.At w A3 11 (l3.map rgE)) (hl3 : l3.length <= 1000)
  (g1 : gOK sgE 14 (sel (fun j => !p j) 0 l) s.ck s.rk) (g2 : gOK pE 19 (psF 0 (sel p 0 l)) s.cs s.rs) (g3 : gOK inE 1 ((psF 0 (sel p 0 l)).map (·.1)) s.ci s.ri) (g4 : gOK inE 1 (dropS (sel p 0 l)) s.cd s.rd) :
  RunC Tryz.prog Tryz.f3.ntmps ⟨Fence.wide, 0, [], w, base w, noJ⟩ (seqTl 7 ((Tryz.f3.body).getD .skip)) (bodyPostK Tryz.prog Tryz.f3 fun e w' => e = .returned (.bool true) /\ Under w.heap.size w w')
   [(0, .slice A l.length cap), (2, .int .i64 limit), (3, .slice A3 l3.length c3), (4, .int .i64 ed), (5, .int .i64 day), (6, .int .i64 time), (15, gSl (sel (fun j => !p j) 0 l) s.bk s.ck), (16, gSl (psF 0 (sel p 0 l)) s.bs s.cs), (17, gSl ((psF 0 (sel p 0 l)).map (·.1)) s.bi s.ci), (18, gSl (dropS (sel p 0 l)) s.bd s.cd)]
   (gM sgE 32 (sel (fun j => !p j) 0 l) s.bk s.rk ++ (gM pE 34 (psF 0 (sel p 0 l)) s.bs s.rs ++ (gM inE 3 ((psF 0 (sel p 0 l)).map (·.1)) s.bi s.ri ++ (gM inE 3 (dropS (sel p 0 l)) s.bd s.rd ++ [])))) := by
 obtain ⟨AK, cK, k1, _, _, k2⟩ := gSl_at2 (T := 32) (b := s.bk) sgE_len g1
 obtain ⟨AB, cB, b1, _, _, b2⟩ := gSl_at2 (f := pE) (sz := 19) (T := 34) (b := s.bs) (fun x => rfl) g2
 obtain ⟨AI, cI, i1, _, i3, i2⟩ := gSl_at2 (f := inE) (sz := 1) (T := 3) (b := s.bi) (fun x => rfl) g3
 obtain ⟨AD, cD, d1, d3, _, d2⟩ := gSl_at2 (f := inE) (sz := 1) (T := 3) (b := s.bd) (fun x => rfl) g4
 rw [k1, b1, i1, d1]
 refine c_freeze (mem' := []) MSub.nil (fun W1 hW1 => ?_)
 have hK1 := k2 hW1 fun q hq => List.mem_append_left _ hq
 have hB1 := b2 hW1 fun q hq => List.mem_append_right _ (List.mem_append_left _ hq)
 have hI1 := i2 hW1 fun q hq => List.mem_append_right _ (List.mem_append_right _ (List.mem_append_left _ hq))
 have hD1 := d2 hW1 fun q hq => List.mem_append_right _ (List.mem_append_right _ (List.mem_append_right _ (List.mem_append_left _ hq)))
 have hw1 := hW1.below
 have hA1 := hA.later hw1
 have hA31 := hA3.later hw1
 clear k1 k2 b1 b2 i1 i2 d1 d2 hA hA3 hW1 g1 g2 g3 g4
 have hbl : ∀ {mem : List (Nat × Obj)} {W0 V : World}, SatW W0 (allBut W0 (List.map (·.1) ([] : List (Nat × Obj)))) noJ mem V -> Under W0.heap.size W0 V := fun hV => hV.same.below (Nat.le_refl _) fun k hk => ⟨hk, by simp⟩
 by_cases hck : chkS l = 0
 rotate_left
 ·have hbad := fun V (h : Under W1.heap.size W1 V) => Essence6_bad A cap l V (hA1.later h) hwf (by omega) hck
  generalize chkS l = q at hck hbad
  refine cSq ?_
  repeat (first|refine lVa rfl rfl (by first|exact pEv rfl|fail) ?_|refine cRg ?_|fail)
  refine r_call rfl rfl rfl (fun V hV => hbad V (hbl hV)) ?_
  repeat (first|refine lVa rfl rfl (by first|exact pEv rfl|fail) ?_|refine lNi ?_|refine cRg ?_|refine cSq ?_|refine xTh ?_|refine c_dec_t rfl (by first|omega|fail) ?_|refine c_ret ?_|refine xTr ?_|fail)
  exact x_ret rfl rfl (by repeat constructor) rfl (fun V hV => ⟨rfl, hw1.trans ((hbl hV).mono hw1.size)⟩)
 obtain ⟨hf, hpw⟩ := chk_form (by omega) hck
 have hid := idP_of hpw
 have hr : ∀ x ∈ l, 0 <= x.id /\ x.id <= 1048576 := fun x hx => (of_decide_eq_true (hf x hx) : formP x).1
 have hCs := sel_sub p l 0
 have hKs := sel_sub (fun j => !p j) l 0
 have hP := sto_of hCs hl hr hpw
 have hDo := okD_drop hCs hl hr hpw
 have hdel := sel_del p l 0 hpw
 have hcnt := ess_count p l
 have hpsid := psF_id (sel p 0 l) 0
 have hsg := psF_sg (sel p 0 l) 0
 have hpl := psF_len (sel p 0 l) 0
 rw [<- hsg] at hdel
 have hins : ∀ q ∈ psF 0 (sel p 0 l), ∃ x ∈ l, x.id = q.2 := fun q hq => by
  have h1 : q.2 ∈ (psF 0 (sel p 0 l)).map (·.2) := List.mem_map.2 ⟨q, hq, rfl⟩
  rw [hsg] at h1
  obtain ⟨x, hx, e⟩ := List.mem_map.1 h1
  exact ⟨x, hCs.subset hx, e⟩
 have hplen : (psF 0 (sel p 0 l)).length <= 24 := by rw [hpl]; exact Nat.le_trans hCs.length_le hl
 clear hsg hpl hpsid
 generalize dropS (sel p 0 l) = D at *
 generalize sel (fun j => !p j) 0 l = K at *
 generalize psF 0 (sel p 0 l) = ps at *
 have hes := fun V (h : Under W1.heap.size W1 V) => Essence6_calls A cap l V (hA1.later h) hwf (by omega) hck hf hid
 refine cSq ?_
 repeat (first|refine lVa rfl rfl (by first|exact pEv rfl|fail) ?_|refine cRg ?_|fail)
 refine r_callF (pre := []) rfl rfl rfl (List.Perm.refl _) (fun V hV _ _ => hes V (hbl hV)) ?_
 rintro ⟨be, ce, re⟩
 simp only [List.append_nil]
 obtain ⟨AE, cE, e1, e2⟩ := gSl_at (f := inE) (T := 3) (sz := 1) (rest := re) (fun x => rfl) (essC l) be ce
 rw [e1]
 clear hes
 repeat ((fail_if_success refine c_probe (id := 21) ?_); (fail_if_success refine c_probe1 (id := 21) ?_); first|refine lVa rfl rfl (by first|exact pEv rfl|fail) ?_|refine lNi ?_|refine cRg ?_|refine cSq ?_|refine xTh ?_|refine c_false rfl ?_|refine cSk ?_|fail)
 refine c_freeze (mem' := []) MSub.nil (fun W2 hW2 => ?_)
 have h12 := hbl hW2
 have hE2 := e2 hW2 fun q hq => hq
 have hw2 : Under w.heap.size w W2 := hw1.trans (h12.mono hw1.size)
 have hrun := fun V (h : Under W2.heap.size W2 V) => Run7_calls A cap l AB cB ps V ((hA1.later h12).later h) hwf ((hB1.later h12).later h) (by omega) hcap hck hr (by omega) hP.pid hP.nd hins
 rw [hdel] at hrun
 clear e1 e2 hW2
 refine cSq ?_
 repeat (first|refine lVa rfl rfl (by first|exact pEv rfl|fail) ?_|refine cRg ?_|fail)
 refine l_callF (ι := Option Addr × Nat) (v := fun i => .tuple ⟨[.slice i.1 K.length i.2, .int .i64 0]⟩) (mem' := []) (fun i V V' => Kin.At V' i.1 14 (K.map sgE)) rfl rfl rfl .nil (fun V hV => (hrun V (hbl hV)).mono fun e V' ⟨i, q1, q2, q3, q4⟩ => ⟨i, q1, q2, q4⟩) ?_
 rintro ⟨AT, cT⟩ V W3 hV hBV hW3 hT
 simp only at hT ⊢
 have h23 : Under W2.heap.size W2 W3 := (hbl hV).trans (hBV.mono (hbl hV).size)
 have h13 : Under W1.heap.size W1 W3 := h12.trans (h23.mono h12.size)
 have hw3 : Under w.heap.size w W3 := hw2.trans (h23.mono hw2.size)
 have hA3' := hA1.later h13
 have hB3 := hB1.later h13
 have hI3 := hI1.later h13
 clear hrun hV hBV hW3
 obtain ⟨ids, hids⟩ : ∃ ids, ps.map (·.1) = ids := ⟨_, rfl⟩
 have hinc := hP.inc
 have hidl : ids.length = ps.length := by rw [<- hids, List.length_map]
 rw [hids] at hI3 hinc i3 ⊢
 obtain ⟨m, hm⟩ : ∃ m, ids.length = m := ⟨_, rfl⟩
 have hmp : ps.length = m := by rw [<- hidl, hm]
 rw [hm]
 rw [hmp]
 have hm24 : m <= 24 := by omega
 repeat ((fail_if_success refine c_probe (id := 24) ?_); (fail_if_success refine c_probe1 (id := 24) ?_); first|refine lVa rfl rfl (by first|exact pEv rfl|fail) ?_|refine lNi ?_|refine cRg ?_|refine cSq ?_|refine xTh ?_|refine cBl ?_|fail)
 refine c_loop (ι := MeT) (fun s => s.k <= m) (fun t => [(0, .slice A l.length cap), (2, .int .i64 limit), (3, .slice A3 l3.length c3), (4, .int .i64 ed), (5, .int .i64 day), (6, .int .i64 time), (15, .slice AK K.length cK), (16, .slice AB m cB), (18, .slice AD D.length cD), (22, .slice AE (essC l).length cE), (24, .slice AT K.length cT), (25, .int .i64 0), (26, gSl (ids.take t.k) t.b t.c), (124, .slice AI m cI), (125, .int .i64 m), (126, .int .i64 t.k)])
  (fun t => gM inE 3 (ids.take t.k) t.b t.r) (fun s => m - s.k) ⟨0, 0, 0, []⟩ (Nat.zero_le _) (by repeat (first|exact .nil|refine .cons rfl (by first|rfl|(congr 1; done)|exact congrArg _ (by omega)|(simp; done)) ?_)) .nil ?_
 rintro ⟨k, bm, cm, rm⟩ hk
 simp only at hk ⊢
 by_cases hlt : k < m
 ·obtain ⟨x, hx⟩ : ∃ x, ids[k]? = some x := ⟨_, List.getElem?_eq_getElem (by omega)⟩
  obtain ⟨b, o, hAb, hcS⟩ := hI3 k (inE x) (by rw [List.getElem?_map, hx]; rfl)
  have x0 := ext_of hcS
  rw [Nat.mul_one] at x0
  have x1 : Ext W3 (allBut W3 (List.map (·.1) ([] : List (Nat × Obj)))) _ _ _ := ⟨⟨x0.dom, by simp⟩, x0.cell⟩
  have htk : ids.take k ++ [x] = ids.take (k + 1) := by
   obtain ⟨q1, q2⟩ := List.getElem?_eq_some_iff.1 hx
   rw [List.take_succ_eq_append_getElem q1, q2]
  obtain ⟨Am, cm', m1, m2⟩ := inz_of (T := 3) (rest := rm) (ids.take k) bm cm
  rw [m1]
  have hmg := fun (bq : Nat) V (h : Under W3.heap.size W3 V) h1 h2 => Merge8_calls AB cB ps Am cm' (ids.take k) (some ⟨bq, 0, none⟩) 1 [x] V (hB3.later h) hP h1 h2 (by rw [List.length_take]; omega) (by simp) (by rw [htk]; exact hinc.sublist (List.take_sublist _ _)) (fun y hy => by rw [htk] at hy; rw [hids]; exact List.mem_of_mem_take hy)
  rw [htk, hmp] at hmg
  subst hAb
  obtain ⟨GM, hGM⟩ : ∃ GM, gM inE 3 (ids.take k) bm rm = GM := ⟨_, rfl⟩
  rw [hGM] at m2 ⊢
  clear hI3 hcS x0 hT hA3' hB3 hA1 hB1 hI1 hK1 hD1 hE2 hins
  repeat ((fail_if_success refine c_probe (id := 26) ?_); (fail_if_success refine c_probe1 (id := 26) ?_); first|refine lVa rfl rfl (by first|exact pEv rfl|exact vL0 rfl (by assumption) rfl (by rfl)|exact v_index rfl rfl rfl rfl (by omega) (by omega) (by with_reducible first|exact idx2 _ _|fail)|fail) ?_|refine lNi ?_|refine cRg ?_|refine cSq ?_|refine xTh ?_|refine c_dec_t rfl (by first|omega|fail) ?_|refine cBl ?_|refine cSk ?_|fail)
  refine cSq ?_
  repeat (first|refine lVa rfl rfl (by first|exact pEv rfl|fail) ?_|refine cRg ?_|refine r_buildSlice rfl rfl rfl rfl rfl rfl (by rfl) (fun _ => ?_)|fail)
  rename_i bq
  refine r_callF (pre := []) rfl rfl rfl (List.Perm.refl _) (fun V hV _ _ => hmg bq V (hbl hV) (m2 hV (fun q hq => List.mem_cons_of_mem _ hq)) ⟨at_own (l := [x]) (f := inE) (rest := []) hV List.mem_cons_self (fun x => rfl), fun h => by cases h⟩) ?_
  rintro ⟨b9, c9, r9⟩
  simp only
  repeat ((fail_if_success refine c_probe (id := 30) ?_); (fail_if_success refine c_probe1 (id := 30) ?_); first|refine lVa rfl rfl (by first|exact v_add rfl rfl (by omega) (by omega)|exact pEv rfl|fail) ?_|refine lNi ?_|refine cRg ?_|refine cSq ?_|refine xTh ?_|refine c_false rfl ?_|refine cSk ?_|refine x_block ?_|fail)
  exact x_back ⟨k + 1, b9, c9, r9⟩ hlt (by simp only; omega) (by repeat (first|exact .nil|refine .cons rfl (by first|rfl|(congr 1; done)|exact congrArg _ (by omega)|(simp; done)) ?_)) (msub_left _)
 rw [List.take_of_length_le (by omega)]
 obtain ⟨Am, cm', m1, m2⟩ := inz_of (T := 3) (rest := rm) ids bm cm
 rw [m1]
 repeat ((fail_if_success refine c_probe (id := 31) ?_); (fail_if_success refine c_probe1 (id := 31) ?_); first|refine lVa rfl rfl (by first|exact pEv rfl|fail) ?_|refine lNi ?_|refine cRg ?_|refine cSq ?_|refine xTh ?_|refine c_dec_f rfl (by first|omega|fail) ?_|refine c_exit ?_|refine xTe ?_|refine xBs ?_|fail)
 refine c_freeze (mem' := []) MSub.nil (fun W4 hW4 => ?_)
 have h34 := hbl hW4
 have hV4 := m2 hW4 fun q hq => hq
 have hw4 : Under w.heap.size w W4 := hw3.trans (h34.mono hw3.size)
 have hsi := fun V (h : Under W4.heap.size W4 V) => Signs9_calls AB cB ps A cap l Am cm' V ((hB3.later h34).later h) hP ((hA3'.later h34).later h) hz hwf (by omega) hck (by rw [hids]; exact hV4.later h) hins
 rw [hdel, hmp] at hsi
 rw [hm]
 clear m1 m2 hW4 hI3 hI1 hins
 refine cSq ?_
 repeat (first|refine lVa rfl rfl (by first|exact pEv rfl|fail) ?_|refine cRg ?_|fail)
 refine l_callF (ι := Option Addr × Nat) (v := fun i => .tuple ⟨[.slice i.1 K.length i.2, .int .i64 0]⟩) (mem' := []) (fun i V V' => Kin.At V' i.1 14 (K.map sgE)) rfl rfl rfl .nil (fun V hV => hsi V (hbl hV)) ?_
 rintro ⟨AU, cU⟩ V W5 hV hBV hW5 hU
 simp only at hU ⊢
 have h45 : Under W4.heap.size W4 W5 := (hbl hV).trans (hBV.mono (hbl hV).size)
 have h35 : Under W3.heap.size W3 W5 := h34.trans (h45.mono h34.size)
 have h15 : Under W1.heap.size W1 W5 := h13.trans (h35.mono h13.size)
 have h25 : Under W2.heap.size W2 W5 := h23.trans (h35.mono h23.size)
 have hw5 : Under w.heap.size w W5 := hw3.trans (h35.mono hw3.size)
 have htl := sw_near (ed := ed) (day := day) (time := time) (cap := cap) (cT := cT) (cK := cK) (cU := cU) (cE := cE) (c3 := c3) (hA1.later h15) (hT.later h35) (hK1.later h15) hU (hE2.later h25) hwf hl hck hKs hcnt hlim (hA31.later h15) hl3 (hD1.later h15) hDo d3 hw5
 clear hsi hV hBV hW5 hU
 repeat ((fail_if_success refine c_probe (id := 32) ?_); (fail_if_success refine c_probe1 (id := 32) ?_); first|refine lVa rfl rfl (by first|exact pEv rfl|fail) ?_|refine lNi ?_|refine xTh ?_|fail)
 refine c_keep [0, 2, 3, 4, 5, 6, 15, 18, 22, 24, 25, 31, 32] rfl ?_
 exact htl
end R41
end Go.Proofs

/- The same work: what the register says, walked. -/
import Derived.Test.YtajnkdgbpffinaaGreatSwA
import Derived.Test.YtajnkdgbpffinaaGreatRmJ
set_option maxRecDepth 100000
set_option maxHeartbeats 400000000
set_option linter.unusedSectionVars false
set_option linter.unusedVariables false
set_option linter.unusedSimpArgs false
namespace Go.Proofs
open Go.RowKit Go.Kin Go.Kin.Cl
namespace R41
@[reducible] def seqTl : Nat -> Code -> Code
  | 0, c => c
  | n + 1, .seq _ y => seqTl n y
  | _ + 1, c => c
theorem gSl_at {α : Type} {f : α -> List Value} {T : TypeId} {sz : Nat} {rest : List Value} (hsz : ∀ x, (f x).length = sz) (l : List α) (b cap : Nat) : ∃ A c, gSl l b cap = .slice A l.length c /\ ∀ {W w0 : World} {D : Nat -> Prop} {J : (Nat -> Prop) -> World -> Prop} {mem : List (Nat × Obj)}, SatW w0 D J mem W -> (∀ p ∈ gM f T l b rest, p ∈ mem) -> Kin.At W A sz (l.map f) := by
 cases l with
 | nil => exact ⟨none, 0, rfl, fun _ _ i cs hi => by simp at hi⟩
 | cons x l => exact ⟨_, _, rfl, fun hW h => at_own hW (h _ List.mem_cons_self) hsz⟩
theorem sw_tail {w W5 : World} {A3 : Option Addr} {c3 : Nat} {l3 : List Rg} {ed day time : Int} {AD : Option Addr} {cD : Nat} {D : List Int}
  (hA3 : Kin.At W5 A3 11 (l3.map rgE)) (hl3 : l3.length <= 1000) (hAD : Kin.At W5 AD 1 (D.map inE)) (hD : okD D) (hcD : D.length <= cD) (hend : Under w.heap.size w W5) :
  RunC Tryz.prog (Tryz.f3.ntmps) ⟨Fence.wide, 0, [], W5, allBut W5 (List.map (·.1) ([] : List (Nat × Obj))), noJ⟩ (seqTl 21 ((Tryz.f3.body).getD .skip)) (bodyPostK Tryz.prog Tryz.f3 fun e w' => e = .returned (.bool true) /\ Under w.heap.size w w')
   [(3, .slice A3 l3.length c3), (4, .int .i64 ed), (5, .int .i64 day), (6, .int .i64 time), (18, .slice AD D.length cD)] [] := by
 have hb5 : ∀ {mem : List (Nat × Obj)} {W : World}, SatW W5 (allBut W5 (List.map (·.1) ([] : List (Nat × Obj)))) noJ mem W -> Under W5.heap.size W5 W := fun hW => hW.same.below (Nat.le_refl _) fun k hk => ⟨hk, by simp⟩
 have hal := fun W (h : Under W5.heap.size W5 W) => Allowed14_calls A3 c3 l3 ed AD cD D day time W (hA3.later h) hl3 (hAD.later h) hD
 obtain ⟨n, hn⟩ : ∃ n, D.length = n := ⟨_, rfl⟩
 obtain ⟨m3, hm3⟩ : ∃ n, l3.length = n := ⟨_, rfl⟩
 have hn64 : n <= 64 := by rw [<- hn]; exact hD.1
 rw [hm3, hn] at hal
 rw [hm3] at hl3
 rw [hm3, hn]
 rw [hn] at hcD
 by_cases hask : askedV l3 day time = 0
 rotate_left
 ·obtain ⟨q1, q2⟩ := alw_no (ed := ed) (D := D) hask
  rw [q1, q2] at hal
  generalize askedV l3 day time = q at hal hask
  refine cSq ?_
  repeat (first|refine lVa rfl rfl (by first|exact pEv rfl|fail) ?_|refine cRg ?_|fail)
  refine r_callF (pre := []) rfl rfl rfl (List.Perm.refl _) (fun W hW _ _ => hal W (hb5 hW)) ?_
  rintro ⟨b1, c1, r1⟩
  show RunL _ _ _ _ _ _ ((279, .tuple ⟨[.bool false, .slice none 0 0, .int .i64 q]⟩) :: _) ([] ++ _)
  rw [List.nil_append]
  clear hal
  repeat (first|refine lVa rfl rfl (by first|exact pEv rfl|fail) ?_|refine lNi ?_|refine cRg ?_|refine cSq ?_|refine xTh ?_|refine c_dec_t rfl (by first|omega|fail) ?_|refine c_ret ?_|refine xTr ?_|fail)
  exact x_ret rfl rfl (by repeat constructor) rfl (fun W hW => ⟨rfl, hend.trans ((hb5 hW).mono hend.size)⟩)
 have e2 := alwR_ok (l := l3) (ed := ed) (day := day) (time := time) (D := D) hask
 have e3 := alwB_ok (l := l3) (ed := ed) (day := day) (time := time) (D := D) hask
 rw [e2, e3, hask] at hal
 have hmem : ∀ x ∈ alwM l3 ed D day time, x.1 ∈ D /\ x.2 ∈ hldO l3 ed x.1 day time := fun x hx => alw_mem hx
 have hlack : ∀ d, hldO l3 ed d day time = [] -> d ∉ (alwM l3 ed D day time).map (·.1) := fun d h => hld_lack h
 have htake : ∀ k, alwM l3 ed D day time = [] -> alwM l3 ed (D.take k) day time = [] := fun k h => alw_take h k
 have hlM : (alwM l3 ed D day time).length <= 100000 := by
  have h1 := misL_len (C := prtL 3 ed (stL day time l3)) (show (prtL 2 ed (stL day time l3)).length <= 1000 by have := prtL_len (kind := 2) (ed := ed) (day := day) (time := time) (l := l3); omega) D
  have h2 : (alwM l3 ed D day time).length <= D.length * 1000 := h1
  omega
 obtain ⟨M, hM⟩ : ∃ M, alwM l3 ed D day time = M := ⟨_, rfl⟩
 rw [hM] at hal hmem hlack htake hlM
 refine cSq ?_
 repeat (first|refine lVa rfl rfl (by first|exact pEv rfl|fail) ?_|refine cRg ?_|fail)
 refine r_callF (pre := []) rfl rfl rfl (List.Perm.refl _) (fun W hW _ _ => hal W (hb5 hW)) ?_
 rintro ⟨b1, c1, r1⟩
 simp only [List.append_nil]
 obtain ⟨A6, c6, h6, hat6⟩ := gSl_at (f := mpE) (T := 54) (sz := 2) (rest := r1) (fun x => rfl) M b1 c1
 rw [h6]
 clear hal
 repeat ((fail_if_success refine c_probe (id := 46) ?_); (fail_if_success refine c_probe1 (id := 46) ?_); first|refine lVa rfl rfl (by first|exact pEv rfl|fail) ?_|refine lNi ?_|refine cRg ?_|refine cSq ?_|refine xTh ?_|refine c_false rfl ?_|refine cSk ?_|fail)
 refine c_freeze (mem' := []) MSub.nil (fun W6 hW6 => ?_)
 have hB6 := hb5 hW6
 have hM6 := hat6 hW6 (fun p hp => hp)
 have hA36 := hA3.later hB6
 have hAD6 := hAD.later hB6
 have hend6 : Under w.heap.size w W6 := hend.trans (hB6.mono hend.size)
 clear hat6 h6 hW6 hA3 hAD hb5 hend
 have hb6 : ∀ {mem : List (Nat × Obj)} {W : World}, SatW W6 (allBut W6 (List.map (·.1) ([] : List (Nat × Obj)))) noJ mem W -> Under W6.heap.size W6 W := fun hW => hW.same.below (Nat.le_refl _) fun k hk => ⟨hk, by simp⟩
 have hho := fun (d : Int) (hd : d ∈ D) W (h : Under W6.heap.size W6 W) => Holders15_calls A3 c3 l3 ed d day time W (hA36.later h) (by omega)
 have hhR : ∀ d, d ∈ D -> hldR l3 ed d day time = hldO l3 ed d day time /\ hldE l3 d day time = 0 := fun d hd => ⟨hldR_ok hask (hD.2.1 d hd), hldE_ok hask (hD.2.1 d hd)⟩
 obtain ⟨mM, hmM⟩ : ∃ k, M.length = k := ⟨_, rfl⟩
 have hemp : M.isEmpty = decide (mM = 0) := by rw [<- hmM]; cases M <;> simp
 repeat ((fail_if_success refine c_probe (id := 47) ?_); (fail_if_success refine c_probe1 (id := 47) ?_); first|refine lVa rfl rfl (by first|exact pEv rfl|fail) ?_|refine lNi ?_|refine cRg ?_|refine cSq ?_|refine xTh ?_|refine cBl ?_|fail)
 refine c_loop (ι := Nat) (fun k => k <= n) (fun k => [(3, .slice A3 m3 c3), (4, .int .i64 ed), (5, .int .i64 day), (6, .int .i64 time), (18, .slice AD n cD), (43, .bool M.isEmpty), (44, .slice A6 M.length c6), (292, .slice AD n cD), (293, .int .i64 n), (294, .int .i64 k)]) (fun _ => []) (fun k => n - k) 0 (Nat.zero_le _) (by repeat (first|exact .nil|refine .cons rfl (by first|rfl|(congr 1; done)|exact congrArg _ (by omega)|(simp; done)) ?_)) (by repeat (first|exact .nil|refine .keep (by first|rfl|assumption) ?_|refine .drop ?_|exact MSub.refl _)) ?_
 intro k hk
 by_cases hlt : k < n
 ·obtain ⟨d, hd⟩ : ∃ d, D[k]? = some d := ⟨_, List.getElem?_eq_getElem (by omega)⟩
  have hdm := List.mem_of_getElem? hd
  obtain ⟨b, o, hAb, hcS⟩ := hAD6 k (inE d) (by rw [List.getElem?_map, hd]; rfl)
  have x0 := ext_of hcS
  rw [Nat.mul_one] at x0
  have x1 : Ext W6 (allBut W6 (List.map (·.1) ([] : List (Nat × Obj)))) _ _ _ := ⟨⟨x0.dom, by simp⟩, x0.cell⟩
  have hal2 := fun W (h : Under W6.heap.size W6 W) => Allowed14_calls A3 c3 l3 ed AD cD (D.take (k + 1)) day time W (hA36.later h) (by omega) (by
   intro i cs hi
   rw [List.map_take] at hi
   rw [List.getElem?_take] at hi
   by_cases hik : i < k + 1
   ·rw [if_pos hik] at hi
    exact (hAD6.later h) i cs hi
   ·rw [if_neg hik] at hi; cases hi) (okD_take hD (k + 1))
  rw [show (D.take (k + 1)).length = k + 1 by rw [List.length_take]; omega, hm3, hask, alwB_ok hask] at hal2
  obtain ⟨q1, q2⟩ := hhR d hdm
  have hho2 := hho d hdm
  rw [q1, q2, hm3] at hho2
  have hlk := fun W (h : Under W6.heap.size W6 W) => lacks16_calls A6 c6 M d W (hM6.later h) (by omega)
  have hok2 : M.isEmpty = true -> (alwM l3 ed (D.take (k + 1)) day time).isEmpty = true := fun h => by rw [htake (k + 1) (List.isEmpty_iff.1 h)]; rfl
  have hlk2 := hlack d
  generalize alwR l3 ed (D.take (k + 1)) day time = R2 at hal2
  generalize (alwM l3 ed (D.take (k + 1)) day time).isEmpty = ok2 at hal2 hok2
  generalize hldO l3 ed d day time = H2 at hho2 hlk2
  subst hAb
  clear hhR hho hAD6 hmem hlack htake q1 q2
  repeat ((fail_if_success refine c_probe (id := 49) ?_); (fail_if_success refine c_probe1 (id := 49) ?_); first|refine lVa rfl rfl (by first|exact pEv rfl|exact vL0 rfl (by assumption) rfl (by rfl)|exact v_index rfl rfl rfl rfl (by omega) (by omega) (by with_reducible first|exact idx2 _ _|fail)|fail) ?_|refine lNi ?_|refine cRg ?_|refine cSq ?_|refine xTh ?_|refine c_dec_t rfl (by first|omega|fail) ?_|refine cBl ?_|refine cSk ?_|fail)
  refine cSq ?_
  repeat (first|refine lVa rfl rfl (v_sliceH (h := k + 1) rfl rfl rfl rfl (by omega) (by omega)) ?_|refine lVa rfl rfl (by first|exact v_add rfl rfl (by omega) (by omega)|exact pEv rfl|fail) ?_|refine cRg ?_|fail)
  refine r_callF (pre := []) rfl rfl rfl (List.Perm.refl _) (fun W hW _ _ => hal2 W (hb6 hW)) ?_
  rintro ⟨b2, c2, r2⟩
  simp only [List.append_nil]
  generalize gSl R2 b2 c2 = V2
  generalize gM mpE 54 R2 b2 r2 = M2
  obtain ⟨E, hE⟩ : ∃ E, M.isEmpty = E := ⟨_, rfl⟩
  rw [hE] at hok2 ⊢
  clear hal2
  cases E with
  | false =>
   repeat ((fail_if_success refine c_probe (id := 52) ?_); (fail_if_success refine c_probe1 (id := 52) ?_); first|refine lVa rfl rfl (by first|exact pEv rfl|fail) ?_|refine lNi ?_|refine cRg ?_|refine cSq ?_|refine xTh ?_|refine l_skip rfl rfl ?_|refine c_false rfl ?_|refine cSk ?_|fail)
   refine cSq ?_
   repeat (first|refine lVa rfl rfl (by first|exact pEv rfl|fail) ?_|refine cRg ?_|fail)
   refine r_callF (pre := []) rfl rfl rfl (List.Perm.refl _) (fun W hW _ _ => hho2 W (hb6 hW)) ?_
   rintro ⟨b7, c7, r7⟩
   simp only
   obtain ⟨A7, c8, h7⟩ := gSl_len (l := H2) (b := b7) (cap := c7)
   rw [h7]
   generalize gM inE 3 H2 b7 r7 = M7
   by_cases hz : H2.length = 0
   ·have hl0 := hlk2 (List.length_eq_zero_iff.1 hz)
    rw [decide_eq_false hl0] at hlk
    rw [hz]
    repeat ((fail_if_success refine c_probe (id := 53) ?_); (fail_if_success refine c_probe1 (id := 53) ?_); first|refine lVa rfl rfl (by first|exact pEv rfl|fail) ?_|refine lNi ?_|refine xTh ?_|fail)
    refine cSq ?_
    repeat (first|refine lVa rfl rfl (by first|exact pEv rfl|fail) ?_|refine cRg ?_|refine l_dec_t rfl rfl rfl rfl rfl (by first|omega|fail) ?_|fail)
    refine r_call rfl rfl rfl (fun W hW => hlk W (hb6 hW)) ?_
    repeat ((fail_if_success refine c_probe (id := 55) ?_); (fail_if_success refine c_probe1 (id := 55) ?_); first|refine lVa rfl rfl (by first|exact v_add rfl rfl (by omega) (by omega)|exact pEv rfl|fail) ?_|refine lNi ?_|refine cRg ?_|refine xTh ?_|refine c_false rfl ?_|refine cSk ?_|refine x_block ?_|fail)
    exact x_back (k + 1) hlt (by omega) (by repeat (first|exact .nil|refine .cons rfl (by first|rfl|(congr 1; done)|exact congrArg _ (by omega)|(simp; done)) ?_)) .nil
   ·clear hlk
    repeat ((fail_if_success refine c_probe (id := 55) ?_); (fail_if_success refine c_probe1 (id := 55) ?_); first|refine lVa rfl rfl (by first|exact v_add rfl rfl (by omega) (by omega)|exact pEv rfl|fail) ?_|refine lNi ?_|refine cRg ?_|refine cSq ?_|refine xTh ?_|refine l_skip rfl rfl ?_|refine c_false rfl ?_|refine cSk ?_|refine x_block ?_|refine l_dec_f rfl rfl rfl rfl rfl (by first|omega|fail) ?_|fail)
    exact x_back (k + 1) hlt (by omega) (by repeat (first|exact .nil|refine .cons rfl (by first|rfl|(congr 1; done)|exact congrArg _ (by omega)|(simp; done)) ?_)) .nil
  | true =>
   have hk2 := hok2 rfl
   subst hk2
   repeat ((fail_if_success refine c_probe (id := 52) ?_); (fail_if_success refine c_probe1 (id := 52) ?_); first|refine lVa rfl rfl (by first|exact pEv rfl|fail) ?_|refine lNi ?_|refine cRg ?_|refine cSq ?_|refine xTh ?_|refine c_false rfl ?_|refine cSk ?_|fail)
   refine cSq ?_
   repeat (first|refine lVa rfl rfl (by first|exact pEv rfl|fail) ?_|refine cRg ?_|fail)
   refine r_callF (pre := []) rfl rfl rfl (List.Perm.refl _) (fun W hW _ _ => hho2 W (hb6 hW)) ?_
   rintro ⟨b7, c7, r7⟩
   simp only
   obtain ⟨A7, c8, h7⟩ := gSl_len (l := H2) (b := b7) (cap := c7)
   rw [h7]
   generalize gM inE 3 H2 b7 r7 = M7
   by_cases hz : H2.length = 0
   ·have hl0 := hlk2 (List.length_eq_zero_iff.1 hz)
    rw [decide_eq_false hl0] at hlk
    rw [hz]
    repeat ((fail_if_success refine c_probe (id := 53) ?_); (fail_if_success refine c_probe1 (id := 53) ?_); first|refine lVa rfl rfl (by first|exact pEv rfl|fail) ?_|refine lNi ?_|refine xTh ?_|fail)
    refine cSq ?_
    repeat (first|refine lVa rfl rfl (by first|exact pEv rfl|fail) ?_|refine cRg ?_|refine l_dec_t rfl rfl rfl rfl rfl (by first|omega|fail) ?_|fail)
    refine r_call rfl rfl rfl (fun W hW => hlk W (hb6 hW)) ?_
    repeat ((fail_if_success refine c_probe (id := 55) ?_); (fail_if_success refine c_probe1 (id := 55) ?_); first|refine lVa rfl rfl (by first|exact v_add rfl rfl (by omega) (by omega)|exact pEv rfl|fail) ?_|refine lNi ?_|refine cRg ?_|refine xTh ?_|refine c_false rfl ?_|refine cSk ?_|refine x_block ?_|fail)
    exact x_back (k + 1) hlt (by omega) (by repeat (first|exact .nil|refine .cons rfl (by first|rfl|(congr 1; done)|exact congrArg _ (by omega)|(simp; done)) ?_)) .nil
   ·clear hlk
    repeat ((fail_if_success refine c_probe (id := 55) ?_); (fail_if_success refine c_probe1 (id := 55) ?_); first|refine lVa rfl rfl (by first|exact v_add rfl rfl (by omega) (by omega)|exact pEv rfl|fail) ?_|refine lNi ?_|refine cRg ?_|refine cSq ?_|refine xTh ?_|refine l_skip rfl rfl ?_|refine c_false rfl ?_|refine cSk ?_|refine x_block ?_|refine l_dec_f rfl rfl rfl rfl rfl (by first|omega|fail) ?_|fail)
    exact x_back (k + 1) hlt (by omega) (by repeat (first|exact .nil|refine .cons rfl (by first|rfl|(congr 1; done)|exact congrArg _ (by omega)|(simp; done)) ?_)) .nil
 clear hlack htake
 repeat ((fail_if_success refine c_probe (id := 57) ?_); (fail_if_success refine c_probe1 (id := 57) ?_); first|refine lVa rfl rfl (by first|exact pEv rfl|fail) ?_|refine lNi ?_|refine cRg ?_|refine cSq ?_|refine xTh ?_|refine c_dec_f rfl (by first|omega|fail) ?_|refine cBl ?_|refine c_exit ?_|refine xTe ?_|refine xBs ?_|fail)
 refine c_loop (ι := Nat) (fun k => k <= mM) (fun k => [(3, .slice A3 m3 c3), (4, .int .i64 ed), (5, .int .i64 day), (6, .int .i64 time), (18, .slice AD n cD), (43, .bool M.isEmpty), (44, .slice A6 M.length c6), (343, .slice A6 M.length c6), (344, .int .i64 mM), (345, .int .i64 k)]) (fun _ => []) (fun k => mM - k) 0 (Nat.zero_le _) (by rw [hmM]; exact (by repeat (first|exact .nil|refine .cons rfl (by first|rfl|(congr 1; done)|exact congrArg _ (by omega)|(simp; done)) ?_))) (by repeat (first|exact .nil|refine .keep (by first|rfl|assumption) ?_|refine .drop ?_|exact MSub.refl _)) ?_
 intro k2 hk2
 by_cases hlt2 : k2 < mM
 ·obtain ⟨x, hx⟩ : ∃ x, M[k2]? = some x := ⟨_, List.getElem?_eq_getElem (by omega)⟩
  obtain ⟨g1, g2⟩ := hmem x (List.mem_of_getElem? hx)
  obtain ⟨b, o, hAb, hcS⟩ := hM6 k2 (mpE x) (by rw [List.getElem?_map, hx]; rfl)
  have x0 := ext_of hcS
  have x1 : Ext W6 (allBut W6 (List.map (·.1) ([] : List (Nat × Obj)))) _ _ _ := ⟨⟨x0.dom, by simp⟩, x0.cell⟩
  obtain ⟨q1, q2⟩ := hhR x.1 g1
  have hho2 := hho x.1 g1
  rw [q1, q2, hm3] at hho2
  have ham2 := fun W (h : Under W6.heap.size W6 W) => among17_calls AD cD D x.1 W (hAD6.later h) (by omega)
  rw [decide_eq_true g1, hn] at ham2
  have hH2l : (hldO l3 ed x.1 day time).length <= 100000 := by
   have h1 : (hldO l3 ed x.1 day time).length <= (prtL 2 ed (stL day time l3)).length := hldL_len _ _
   have := prtL_len (kind := 2) (ed := ed) (day := day) (time := time) (l := l3)
   omega
  generalize hldO l3 ed x.1 day time = H2 at hho2 g2 hH2l
  subst hAb
  clear hhR hho hAD6 hmem q1 q2 x0 hcS
  repeat ((fail_if_success refine c_probe (id := 59) ?_); (fail_if_success refine c_probe1 (id := 59) ?_); first|refine lVa rfl rfl (by first|exact pEv rfl|exact vL0 rfl (by assumption) rfl (by rfl)|exact v_index rfl rfl rfl rfl (by omega) (by omega) (by with_reducible first|exact idx4 _ _ _|fail)|fail) ?_|refine lNi ?_|refine cRg ?_|refine cSq ?_|refine xTh ?_|refine r_alloc rfl rfl rfl (by first|exact aggL|fail) (fun _ => ?_)|refine rSt rfl rfl rfl rfl rfl rfl rfl (by repeat constructor) (by rfl) ?_|refine c_dec_t rfl (by first|omega|fail) ?_|refine cBl ?_|refine cSk ?_|fail)
  refine cSq ?_
  repeat (first|refine lVa rfl rfl (by first|exact pEv rfl|exact vLd rfl (by repeat constructor) rfl (by rfl)|exact v_indexA rfl rfl rfl rfl (by omega) (by omega) (by with_reducible first|exact idx5 _|fail)|fail) ?_|refine cRg ?_|fail)
  refine r_callF (pre := []) rfl rfl rfl (List.Perm.refl _) (fun W hW _ _ => hho2 W (hb6 hW)) ?_
  rintro ⟨b7, c7, r7⟩
  simp only
  obtain ⟨A7, c8, h7, hat7⟩ := gSl_at (f := inE) (T := 3) (sz := 1) (rest := r7) (fun x => rfl) H2 b7 c7
  rw [h7]
  refine l_perm List.perm_append_comm ?_
  simp only [List.cons_append, List.nil_append]
  have ham1 := fun W hA => among17_calls A7 c8 H2 x.2 W hA hH2l
  rw [decide_eq_true g2] at ham1
  clear hho2
  repeat ((fail_if_success refine c_probe (id := 60) ?_); (fail_if_success refine c_probe1 (id := 60) ?_); first|refine lVa rfl rfl (by first|exact pEv rfl|fail) ?_|refine lNi ?_|refine xTh ?_|fail)
  refine cSq ?_
  repeat (first|refine lVa rfl rfl (by first|exact pEv rfl|exact vLd rfl (by repeat constructor) rfl (by rfl)|exact v_indexA rfl rfl rfl rfl (by omega) (by omega) (by with_reducible first|exact idx5 _|fail)|fail) ?_|refine cRg ?_|refine l_dec_f rfl rfl rfl rfl rfl (by first|omega|fail) ?_|fail)
  refine r_call rfl rfl rfl (fun W hW => ham1 W (hat7 hW (fun p hp => List.mem_cons_of_mem _ hp))) ?_
  repeat (first|refine lVa rfl rfl (by first|exact pEv rfl|exact vLd rfl (by repeat constructor) rfl (by rfl)|exact v_indexA rfl rfl rfl rfl (by omega) (by omega) (by with_reducible first|exact idx5 _|fail)|fail) ?_|fail)
  refine r_call rfl rfl rfl (fun W hW => ham2 W (hb6 hW)) ?_
  repeat ((fail_if_success refine c_probe (id := 62) ?_); (fail_if_success refine c_probe1 (id := 62) ?_); first|refine lVa rfl rfl (by first|exact v_add rfl rfl (by omega) (by omega)|exact pEv rfl|fail) ?_|refine lNi ?_|refine cRg ?_|refine xTh ?_|refine c_false rfl ?_|refine cSk ?_|refine x_block ?_|fail)
  exact x_back (k2 + 1) hlt2 (by omega) (by repeat (first|exact .nil|refine .cons rfl (by first|rfl|(congr 1; done)|exact congrArg _ (by omega)|(simp; done)) ?_)) .nil
 clear hhR hho hmem
 rw [hemp, hmM]
 repeat ((fail_if_success refine c_probe (id := 63) ?_); (fail_if_success refine c_probe1 (id := 63) ?_); first|refine lVa rfl rfl (by first|exact pEv rfl|fail) ?_|refine lNi ?_|refine cRg ?_|refine cSq ?_|refine xTh ?_|refine c_dec_f rfl (by first|omega|fail) ?_|refine c_exit ?_|refine xTe ?_|refine xBs ?_|fail)
 repeat (first|refine lVa rfl rfl (by first|exact pEv rfl|fail) ?_|refine lNi ?_|refine cRg ?_|refine cSq ?_|refine xTh ?_|refine c_ret ?_|fail)
 exact x_ret rfl rfl (by repeat constructor) rfl (fun W hW => ⟨by simp, hend6.trans ((hb6 hW).mono hend6.size)⟩)
end R41
end Go.Proofs

namespace Go
open Go.RowKit
namespace Kin
section
variable {P : Program} {N : Nat} {c : Cx} {env : List (Nat × Value)} {mem : List (Nat × Obj)} {t t' ty : TypeId} {pos : String} {af : Array Edge} {g : Option (Nat × Bool)} {dd : Option Tmp} {x y : Operand}
theorem v_shrU {k' : IntKind} {m : Int} {n : Nat} (hx : evOp env x = some (.int .u32 m)) (hy : evOp env y = some (.int k' n)) (h : n <= 32) : OpVal P N c env mem ⟨dd, .binOp .shr t x y t', ty, pos, af, g⟩ (.int .u32 (m / 2 ^ n)) :=
 ⟨rfl, fun a W ha _ => by
  have hmin : min n IntKind.u32.bits = n := by show min n 32 = n; omega
  simp [execOp, ha.eval hx, ha.eval hy, eqGuard, binOp, Op.shift, hmin, Sem.run, pure, bind, Sem.bind]⟩
theorem v_andU {m n : Int} (hx : evOp env x = some (.int .u32 m)) (hy : evOp env y = some (.int .u32 n)) : OpVal P N c env mem ⟨dd, .binOp .and t x y t', ty, pos, af, g⟩ (.int .u32 (bits .and .u32 m n)) :=
 ⟨rfl, fun a W ha _ => by
  simp only [execOp, ha.eval hx, ha.eval hy, eqGuard, binOp]; rfl⟩
end
end Kin
end Go

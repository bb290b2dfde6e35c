/- From witnesses to the edition: the law's loop over loci and what follows, walked. -/
import Derived.Test.YtdegengehbdelaaGreatDoorTeCa
import Derived.Test.YtdegengehbdelaaGreatDoorSfO
import Derived.Test.YtdegengehbdelaaGreatDoorSfM
import Derived.Test.YtdegengehbdelaaGreatDoorTeA
set_option maxRecDepth 100000
set_option maxHeartbeats 400000000
set_option linter.unusedSectionVars false
set_option linter.unusedVariables false
set_option linter.unusedSimpArgs false
namespace Go.Proofs
open Go.RowKit Go.Kin Go.Kin.Se Go.Kin.Cl
namespace R41
@[reducible] def seqTl : Nat -> Code -> Code
  | 0, c => c
  | n + 1, .seq _ y => seqTl n y
  | _ + 1, c => c
theorem te_tail {w W5 : World} {ws : List Wi} {rows : List RV} {rd : List Int} {sg : List Sg} {t : Tr} {m n bt ot tc b19 bm bw br cr : Nat} {rr : List Value} {v0 : RV} {Ad : Option Addr} {kd : Nat}
  (hT : TbOK ws rows m) (hlv1 : ∀ i ∈ t.lv, i < rows.length) (hnn : rows.length = n) (n1 : 1 <= n) (n4 : n < 5) (hm12 : ¬ m > 12) (hv0 : rows[0]? = some v0) (hrd : rdL rows t m = rd) (hrl : rd.length = m)
  (hTb5 : TabIn W5 (some ⟨bt, ot, none⟩) rows) (hRt5 : Kin.At W5 Ad 1 (rd.map inE)) (hx3 : Ext W5 (allBut W5 (List.map (·.1) ([] : List (Nat × Obj)))) b19 (0 + 3) [.slice Ad m kd]) (hZ : ZOK rd m sg) (hend : Below w.heap.size w W5) :
  RunC Tryz.prog (Tryz.f3.ntmps) ⟨Fence.wide, 0, [], W5, allBut W5 (List.map (·.1) ([] : List (Nat × Obj))), noJ⟩ (seqTl 22 ((Tryz.f3.body).getD .skip)) (bodyPostK Tryz.prog Tryz.f3 fun e w' => e = .returned (.bool true) /\ Below w.heap.size w w')
   [(9, .slice (some ⟨bt, ot, none⟩) n tc), (19, .pointer (some ⟨b19, 0, none⟩)), (22, .map (some bm)), (23, .pointer (some ⟨bw, 0, none⟩))]
   ((bw, .cells ⟨[.int .i64 1, .int .i64 0, gSl (sg.map rdZ) br cr]⟩ 48 (0, 0)) :: (bm, imO (hvL sg)) :: gM rdE 55 (sg.map rdZ) br rr) := by
 have hv0l := hT.len v0 (List.mem_of_getElem? hv0)
 have hsgl := zok_len hZ hrl
 have hcds := fun A c => edW_cds (A := A) (cap := c) hZ hrl
 have hchk := fun A c => edW_chk (A := A) (cap := c) hZ hrl (by omega)
 have hhv := fun k h => hv_at hZ (k := k) h
 obtain ⟨hvl, hvle⟩ : ∃ l, hvL sg = l := ⟨_, rfl⟩
 rw [hvle] at hhv ⊢
 obtain ⟨Aw, kw, hAw⟩ := gSl_len (l := sg.map rdZ) (b := br) (cap := cr)
 rw [hAw]
 have hlen0 : (sg.map rdZ).length = sg.length := List.length_map ..
 have hok5 : ∀ {b o : Nat} {cs : List Value}, b < W5.heap.size -> (∀ (j : Nat) (v : Value), cs[j]? = some v -> W5.cell? ⟨b, o + j, none⟩ = some v) -> Ext W5 (allBut W5 (List.map (·.1) ([] : List (Nat × Obj)))) b o cs := fun h1 h2 => ⟨⟨h1, by simp⟩, h2⟩
 have hb5 := fun (mem : List (Nat × Obj)) (W : World) (hW : SatW W5 (allBut W5 (List.map (·.1) ([] : List (Nat × Obj)))) noJ mem W) => (hW.same.below (Nat.le_refl _) fun k hk => ⟨hk, by simp⟩ : Below W5.heap.size W5 W)
 obtain ⟨b', o', hb', hct5⟩ := hTb5.ar 0 (rvE v0) (by rw [List.getElem?_map, hv0]; rfl)
 cases hb'
 have y0 : Ext W5 (allBut W5 (List.map (·.1) ([] : List (Nat × Obj)))) bt (ot + 0 * 1) [.slice v0.A m v0.cap] := by
  have := hok5 (ext_of hct5).dom (ext_of hct5).cell
  simp only [rvE, hv0l] at this
  exact this
 refine cSq ?_
 repeat (first|refine lVa rfl rfl (by first|exact pEv rfl|exact vL0 rfl (by assumption) rfl (by rfl)|exact v_index rfl rfl rfl rfl (by omega) (by omega) (by with_reducible first|exact idx6 _ _|fail)|fail) ?_|refine lNi ?_|refine cRg ?_|refine cSq ?_|refine xTh ?_|refine cBl ?_|fail)
 refine c_loop (ι := Nat) (fun k => k <= m) (fun k => [(9, .slice (some ⟨bt, ot, none⟩) n tc), (19, .pointer (some ⟨b19, 0, none⟩)), (22, .map (some bm)), (23, .pointer (some ⟨bw, 0, none⟩)), (230, .slice v0.A m v0.cap), (231, .int .i64 m), (232, .int .i64 k)])
  (fun _ => (bw, .cells ⟨[.int .i64 1, .int .i64 0, .slice Aw (sg.map rdZ).length kw]⟩ 48 (0, 0)) :: (bm, imO hvl) :: gM rdE 55 (sg.map rdZ) br rr) (fun k => m - k) 0 (Nat.zero_le _) (by repeat (first|exact .nil|refine .cons rfl (by first|rfl|(congr 1; done)|exact congrArg _ (by omega)|(simp; done)) ?_)) (by repeat (first|exact .nil|refine .keep (by first|rfl|assumption) ?_|refine .drop ?_|exact MSub.refl _)) ?_
 intro k hk
 by_cases hlt : k < m
 ·obtain ⟨n0, hn0⟩ : ∃ x, v0.l[k]? = some x := ⟨_, List.getElem?_eq_getElem (by omega)⟩
  obtain ⟨b0, o0, hA0, hc0⟩ := hTb5.row v0 (List.mem_of_getElem? hv0) k (inE n0) (by rw [List.getElem?_map, hn0]; rfl)
  have x0 := hok5 (ext_of hc0).dom (ext_of hc0).cell
  rw [Nat.mul_one] at x0
  rw [hA0]
  repeat ((fail_if_success refine c_probe (id := 41) ?_); (fail_if_success refine c_probe1 (id := 41) ?_); first|refine lVa rfl rfl (by first|exact pEv rfl|exact vL0 rfl (by assumption) rfl (by rfl)|exact v_index rfl rfl rfl rfl (by omega) (by omega) (by with_reducible first|exact idx2 _ _|fail)|fail) ?_|refine lNi ?_|refine cRg ?_|refine cSq ?_|refine xTh ?_|refine c_dec_t rfl (by first|omega|fail) ?_|refine cBl ?_|refine cSk ?_|fail)
  refine c_joinI (ι := Bool) (fun b => b = true -> n0 ≠ 0 /\ n0 ≠ 8589934592) (fun b => [(9, .slice (some ⟨bt, ot, none⟩) n tc), (19, .pointer (some ⟨b19, 0, none⟩)), (22, .map (some bm)), (23, .pointer (some ⟨bw, 0, none⟩)), (230, .slice (some ⟨b0, o0, none⟩) m v0.cap), (231, .int .i64 m), (232, .int .i64 k), (28, .int .i64 k), (29, .int .i64 n0), (30, .bool b)])
   (fun _ => (bw, .cells ⟨[.int .i64 1, .int .i64 0, .slice Aw (sg.map rdZ).length kw]⟩ 48 (0, 0)) :: (bm, imO hvl) :: gM rdE 55 (sg.map rdZ) br rr) ?_ (fun b hb30 => ?_)
  ·by_cases z0 : n0 = 0
   ·repeat (first|refine lVa rfl rfl (by first|exact pEv rfl|fail) ?_|refine lNi ?_|refine cRg ?_|refine l_skip rfl rfl ?_|refine l_dec_f rfl rfl rfl rfl rfl (by first|omega|fail) ?_|fail)
    exact x_midI false (fun h => nomatch h) (by repeat (first|exact .nil|refine .cons rfl (by first|rfl|(congr 1; done)|exact congrArg _ (by omega)|(simp; done)) ?_)) (MSub.refl _)
   repeat (first|refine lVa rfl rfl (by first|exact pEv rfl|fail) ?_|refine lNi ?_|refine cRg ?_|refine l_dec_t rfl rfl rfl rfl rfl (by first|omega|fail) ?_|fail)
   exact x_midI (decide (n0 ≠ 8589934592)) (fun h => ⟨z0, of_decide_eq_true h⟩) (by repeat (first|exact .nil|refine .cons rfl (by first|rfl|(congr 1; done)|exact congrArg _ (by omega)|(simp; done)) ?_)) (MSub.refl _)
  repeat ((fail_if_success refine c_probe (id := 43) ?_); (fail_if_success refine c_probe1 (id := 43) ?_); first|refine lVa rfl rfl (by first|exact pEv rfl|fail) ?_|refine lNi ?_|refine cRg ?_|refine cSq ?_|refine xTh ?_|refine cBl ?_|fail)
  refine c_loop (ι := Nat × Bool) (fun s => s.1 <= n /\ (s.2 = true -> n0 ≠ 0 /\ n0 ≠ 8589934592 /\ ∀ (i : Nat) (v : RV), i < s.1 -> rows[i]? = some v -> v.l[k]? = some n0)) (fun s => [(9, .slice (some ⟨bt, ot, none⟩) n tc), (19, .pointer (some ⟨b19, 0, none⟩)), (22, .map (some bm)), (23, .pointer (some ⟨bw, 0, none⟩)), (230, .slice (some ⟨b0, o0, none⟩) m v0.cap), (231, .int .i64 m), (232, .int .i64 k), (28, .int .i64 k), (29, .int .i64 n0), (30, .bool s.2), (243, .slice (some ⟨bt, ot, none⟩) n tc), (244, .int .i64 n), (245, .int .i64 s.1)])
   (fun _ => (bw, .cells ⟨[.int .i64 1, .int .i64 0, .slice Aw (sg.map rdZ).length kw]⟩ 48 (0, 0)) :: (bm, imO hvl) :: gM rdE 55 (sg.map rdZ) br rr) (fun s => n - s.1) (0, b) ⟨Nat.zero_le _, fun h => ⟨(hb30 h).1, (hb30 h).2, fun i v h => absurd h (Nat.not_lt_zero _)⟩⟩ (by repeat (first|exact .nil|refine .cons rfl (by first|rfl|(congr 1; done)|exact congrArg _ (by omega)|(simp; done)) ?_)) (by repeat (first|exact .nil|refine .keep (by first|rfl|assumption) ?_|refine .drop ?_|exact MSub.refl _)) ?_
  rintro ⟨j, b⟩ ⟨hj, hjb⟩
  simp only at hj hjb ⊢
  have hjb' := fun (_ : Unit) => hjb
  clear hjb hb30
  by_cases hjl : j < n
  ·obtain ⟨v, hv⟩ : ∃ v, rows[j]? = some v := ⟨_, List.getElem?_eq_getElem (by omega)⟩
   have hvm := List.mem_of_getElem? hv
   have hvl' := hT.len v hvm
   obtain ⟨n1', hn1'⟩ : ∃ x, v.l[k]? = some x := ⟨_, List.getElem?_eq_getElem (by omega)⟩
   obtain ⟨b1', o1', hA1', hc1'⟩ := hTb5.row v hvm k (inE n1') (by rw [List.getElem?_map, hn1']; rfl)
   have x1 := hok5 (ext_of hc1').dom (ext_of hc1').cell
   rw [Nat.mul_one] at x1
   obtain ⟨b', o', hb', hcv⟩ := hTb5.ar j (rvE v) (by rw [List.getElem?_map, hv]; rfl)
   cases hb'
   have x2 := hok5 (ext_of hcv).dom (ext_of hcv).cell
   simp only [rvE, hvl', hA1', Nat.mul_one] at x2
   cases b with
   | false =>
    repeat ((fail_if_success refine c_probe (id := 46) ?_); (fail_if_success refine c_probe1 (id := 46) ?_); first|refine lVa rfl rfl (by first|exact v_add rfl rfl (by omega) (by omega)|exact pEv rfl|exact vL0 rfl (by assumption) rfl (by rfl)|exact v_index rfl rfl rfl rfl (by omega) (by omega) (by with_reducible first|exact idx2 _ _|fail)|fail) ?_|refine lNi ?_|refine cRg ?_|refine cSq ?_|refine xTh ?_|refine l_skip rfl rfl ?_|refine c_dec_t rfl (by first|omega|fail) ?_|refine cBl ?_|refine cSk ?_|refine x_block ?_|fail)
    exact x_back (j + 1, false) ⟨hjl, fun h => nomatch h⟩ (by simp only; omega) (by repeat (first|exact .nil|refine .cons rfl (by first|rfl|(congr 1; done)|exact congrArg _ (by omega)|(simp; done)) ?_)) (MSub.refl _)
   | true =>
    repeat ((fail_if_success refine c_probe (id := 46) ?_); (fail_if_success refine c_probe1 (id := 46) ?_); first|refine lVa rfl rfl (by first|exact v_add rfl rfl (by omega) (by omega)|exact pEv rfl|exact vL0 rfl (by assumption) rfl (by rfl)|exact v_index rfl rfl rfl rfl (by omega) (by omega) (by with_reducible first|exact idx2 _ _|fail)|fail) ?_|refine lNi ?_|refine cRg ?_|refine cSq ?_|refine xTh ?_|refine c_dec_t rfl (by first|omega|fail) ?_|refine cBl ?_|refine cSk ?_|refine x_block ?_|fail)
    exact x_back (j + 1, decide (n1' = n0)) ⟨hjl, fun h => ⟨(hjb' () rfl).1, (hjb' () rfl).2.1, fun i v' hi hv' => by
     rcases Nat.lt_succ_iff_lt_or_eq.1 hi with hi | hi
     ·exact (hjb' () rfl).2.2 i v' hi hv'
     ·subst hi
      rw [hv] at hv'
      cases hv'
      rw [hn1', of_decide_eq_true h]⟩⟩ (by simp only; omega) (by repeat (first|exact .nil|refine .cons rfl (by first|rfl|(congr 1; done)|exact congrArg _ (by omega)|(simp; done)) ?_)) (MSub.refl _)
  have hjn : j = n := by omega
  obtain ⟨r, hr⟩ : ∃ r, rd.getD k 0 = r := ⟨_, rfl⟩
  have hrk : rd[k]? = some r := by
   rw [List.getElem?_eq_getElem (by omega), <- hr, List.getD_eq_getElem?_getD, List.getElem?_eq_getElem (by omega)]; rfl
  have hhk := hhv k hlt
  rw [hr] at hhk
  obtain ⟨bd, od, hAd5, hcd⟩ := hRt5 k (inE r) (by rw [List.getElem?_map, hrk]; rfl)
  have x3 := hok5 (ext_of hcd).dom (ext_of hcd).cell
  rw [Nat.mul_one] at x3
  rw [hAd5] at hx3
  have hagr : b = true -> r = n0 := fun h => by
   obtain ⟨q0, q1, q2⟩ := hjb' () h
   have := rdK_agree (t := t) (k := k) (c := n0) hT hlv1 (by omega) hlt q1 fun v hv => by
    obtain ⟨i, hi⟩ := List.getElem?_of_mem hv
    have hil := (List.getElem?_eq_some_iff.1 hi).1
    exact q2 i v (by omega) hi
   rw [<- hr, <- hrd, rdL_getD hlt, this]
  clear hjb' hhv
  cases b with
  | false =>
   repeat ((fail_if_success refine c_probe (id := 47) ?_); (fail_if_success refine c_probe1 (id := 47) ?_); first|refine lVa rfl rfl (by first|exact pEv rfl|fail) ?_|refine lNi ?_|refine cRg ?_|refine cSq ?_|refine xTh ?_|refine c_dec_f rfl (by first|omega|fail) ?_|refine c_exit ?_|refine xTe ?_|refine xBs ?_|fail)
   refine cSq ?_
   repeat ((fail_if_success refine c_probe (id := 48) ?_); (fail_if_success refine c_probe1 (id := 48) ?_); first|refine q_val rfl rfl (v_imGet rfl rfl rfl rfl rfl (by repeat constructor) hhk) ?_|refine lVa rfl rfl (by first|exact v_add rfl rfl (by omega) (by omega)|exact pEv rfl|fail) ?_|refine lNi ?_|refine cRg ?_|refine xTh ?_|refine c_dec_f rfl (by first|omega|fail) ?_|refine cSk ?_|refine x_block ?_|refine c_reads rfl (by decide +kernel) ?_|refine q_val rfl rfl (by first|exact pEv rfl|exact vL0 rfl (by assumption) rfl (by rfl)|exact v_index rfl rfl rfl rfl (by omega) (by omega) (by with_reducible first|exact idx2 _ _|fail)|fail) ?_|refine q_nil ?_|refine q_skip rfl rfl ?_|fail)
   exact x_back (k + 1) hlt (by omega) (by repeat (first|exact .nil|refine .cons rfl (by first|rfl|(congr 1; done)|exact congrArg _ (by omega)|(simp; done)) ?_)) (MSub.refl _)
  | true =>
   have := hagr rfl
   subst this
   repeat ((fail_if_success refine c_probe (id := 47) ?_); (fail_if_success refine c_probe1 (id := 47) ?_); first|refine lVa rfl rfl (by first|exact pEv rfl|fail) ?_|refine lNi ?_|refine cRg ?_|refine cSq ?_|refine xTh ?_|refine c_dec_f rfl (by first|omega|fail) ?_|refine c_exit ?_|refine xTe ?_|refine xBs ?_|fail)
   refine cSq ?_
   repeat ((fail_if_success refine c_probe (id := 48) ?_); (fail_if_success refine c_probe1 (id := 48) ?_); first|refine q_val rfl rfl (v_imGet rfl rfl rfl rfl rfl (by repeat constructor) hhk) ?_|refine lVa rfl rfl (by first|exact v_add rfl rfl (by omega) (by omega)|exact pEv rfl|fail) ?_|refine lNi ?_|refine cRg ?_|refine xTh ?_|refine c_dec_f rfl (by first|omega|fail) ?_|refine cSk ?_|refine x_block ?_|refine c_reads rfl (by decide +kernel) ?_|refine q_val rfl rfl (by first|exact pEv rfl|exact vL0 rfl (by assumption) rfl (by rfl)|exact v_index rfl rfl rfl rfl (by omega) (by omega) (by with_reducible first|exact idx2 _ _|fail)|fail) ?_|refine q_nil ?_|refine q_dec_f rfl rfl rfl rfl (by first|omega|fail) ?_|fail)
   exact x_back (k + 1) hlt (by omega) (by repeat (first|exact .nil|refine .cons rfl (by first|rfl|(congr 1; done)|exact congrArg _ (by omega)|(simp; done)) ?_)) (MSub.refl _)
 have hkm : k = m := by omega
 rw [hkm]
 clear hkm hk hlt hhv
 repeat ((fail_if_success refine c_probe (id := 50) ?_); (fail_if_success refine c_probe1 (id := 50) ?_); first|refine lVa rfl rfl (by first|exact pEv rfl|fail) ?_|refine lNi ?_|refine cRg ?_|refine cSq ?_|refine xTh ?_|refine c_dec_f rfl (by first|omega|fail) ?_|refine c_exit ?_|refine xTe ?_|refine xBs ?_|fail)
 have hwi : ∀ (mem : List (Nat × Obj)) (W : World), SatW W5 (allBut W5 (List.map (·.1) ([] : List (Nat × Obj)))) noJ mem W -> (∀ p ∈ gM rdE 55 (sg.map rdZ) br rr, p ∈ mem) -> WiOK W (edW Aw kw sg) := fun mem W hW hp => by
  obtain ⟨A', c', g1, g2⟩ := at_gM (sz := 15) (cap := cr) hW hp (fun _ => rfl)
  rw [hAw] at g1
  cases g1
  exact ⟨g2, fun r hr => by
   obtain ⟨s, hs, rfl⟩ := List.mem_map.1 hr
   obtain ⟨_, h⟩ := hZ.ok s hs
   exact ⟨h.fn, h.fd, h.tn, h.td⟩, by show (sg.map rdZ).length <= _; omega⟩
 refine cSq ?_
 repeat (first|refine l_callF (ι := Option Addr × Nat) (v := fun q => .tuple ⟨[.slice q.1 (nz rd).length q.2, .int .i64 0]⟩) (mem' := []) (fun q W W' => Kin.At W' q.1 1 ((nz rd).map inE) /\ (nz rd).length <= q.2) rfl rfl rfl (by repeat (first|exact .nil|refine .keep (by first|rfl|assumption) ?_|refine .drop ?_|exact MSub.refl _)) (fun W hW => ?_) ?_|refine lVa rfl rfl (by first|exact vLd rfl (by repeat constructor) rfl (by rfl)|fail) ?_|refine cRg ?_|fail)
 ·refine (CodesR_calls (edW Aw kw sg) W (hwi _ W hW (fun p hp => List.mem_cons_of_mem _ (List.mem_cons_of_mem _ hp)))).mono ?_
  rintro e W' ⟨A', c', q1, q2, q3, q4⟩
  rw [cosL_ok (hchk Aw kw), hcds] at q1 q3 q4
  rw [hchk] at q1
  exact ⟨(A', c'), q1, q2, q3.at', q4⟩
 rintro ⟨Aq, cq⟩ W W6 hV hB6 hW6 ⟨hAtQ, hcq⟩
 simp only at hAtQ hcq ⊢
 have hb56 : Below W5.heap.size W5 W6 := by
  have h1 := hb5 _ W hV
  exact h1.trans (hB6.mono h1.size)
 have hl6 : Later W5 W6 := hb56
 have x6 : Ext W6 (allBut W6 (List.map (·.1) ([] : List (Nat × Obj)))) b19 (0 + 3) [.slice Ad m kd] := ⟨⟨lt_of_cell (hl6.cell (hx3.cell 0 _ rfl)), by simp⟩, fun i v hi => hl6.cell (hx3.cell i v hi)⟩
 have hRt6 : Kin.At W6 Ad 1 (rd.map inE) := hRt5.later hb56
 have hb6 := fun (mem : List (Nat × Obj)) (W : World) (hW : SatW W6 (allBut W6 (List.map (·.1) ([] : List (Nat × Obj)))) noJ mem W) => (hW.same.below (Nat.le_refl _) fun k hk => ⟨hk, by simp⟩ : Below W6.heap.size W6 W)
 have hok6 : ∀ {b o : Nat} {cs : List Value}, b < W6.heap.size -> (∀ (j : Nat) (v : Value), cs[j]? = some v -> W6.cell? ⟨b, o + j, none⟩ = some v) -> Ext W6 (allBut W6 (List.map (·.1) ([] : List (Nat × Obj)))) b o cs := fun h1 h2 => ⟨⟨h1, by simp⟩, h2⟩
 clear hV hB6 hW6 hwi hx3 y0 hb5
 repeat ((fail_if_success refine c_probe (id := 54) ?_); (fail_if_success refine c_probe1 (id := 54) ?_); first|refine lVa rfl rfl (by first|exact pEv rfl|exact vL0 rfl (by assumption) rfl (by rfl)|fail) ?_|refine lNi ?_|refine cRg ?_|refine cSq ?_|refine xTh ?_|refine c_false rfl ?_|refine cBl ?_|refine cSk ?_|fail)
 refine c_loop (ι := Nat × Option Addr × Nat × List Int) (fun s => s.1 <= m /\ s.2.2.2 = (nz rd).drop (cnt rd s.1) /\ Kin.At W6 s.2.1 1 (s.2.2.2.map inE) /\ s.2.2.2.length <= s.2.2.1) (fun s => [(33, .slice s.2.1 s.2.2.2.length s.2.2.1), (287, .slice Ad m kd), (288, .int .i64 m), (289, .int .i64 s.1)]) (fun _ => []) (fun s => m - s.1) (0, Aq, cq, nz rd) ⟨Nat.zero_le _, rfl, hAtQ, hcq⟩ (by repeat (first|exact .nil|refine .cons rfl (by first|rfl|(congr 1; done)|exact congrArg _ (by omega)|(simp; done)) ?_)) (by repeat (first|exact .nil|refine .keep (by first|rfl|assumption) ?_|refine .drop ?_|exact MSub.refl _)) ?_
 clear hAtQ hcq
 rintro ⟨k, A, c, L⟩ ⟨hk, hL, hAL, hcL⟩
 simp only at hk hL hAL hcL ⊢
 have hL' := fun (_ : Unit) => hL
 clear hL
 by_cases hlt : k < m
 rotate_left
 ·have hkm : k = m := by omega
  have hl0 : L = [] := by
   rw [hL' (), hkm]
   unfold cnt
   rw [<- hrl, List.take_length, List.drop_length]
  subst hl0
  simp only [List.length_nil]
  repeat ((fail_if_success refine c_probe (id := 62) ?_); (fail_if_success refine c_probe1 (id := 62) ?_); first|refine lVa rfl rfl (by first|exact pEv rfl|fail) ?_|refine lNi ?_|refine cRg ?_|refine cSq ?_|refine xTh ?_|refine c_dec_f rfl (by first|omega|fail) ?_|refine c_ret ?_|refine c_exit ?_|refine xTe ?_|refine xBs ?_|fail)
  exact x_ret rfl rfl (by repeat constructor) rfl (fun W hW => ⟨rfl, hend.trans ((hb56.trans ((hb6 _ W hW).mono hb56.size)).mono hend.size)⟩)
 obtain ⟨s, hs⟩ : ∃ s, rd[k]? = some s := ⟨_, List.getElem?_eq_getElem (by omega)⟩
 obtain ⟨bd, od, hAd5, hcd⟩ := hRt6 k (inE s) (by rw [List.getElem?_map, hs]; rfl)
 have x3 := hok6 (ext_of hcd).dom (ext_of hcd).cell
 rw [Nat.mul_one] at x3
 rw [hAd5]
 by_cases hs0 : s = 0
 ·subst hs0
  repeat ((fail_if_success refine c_probe (id := 60) ?_); (fail_if_success refine c_probe1 (id := 60) ?_); first|refine lVa rfl rfl (by first|exact v_add rfl rfl (by omega) (by omega)|exact pEv rfl|exact vL0 rfl (by assumption) rfl (by rfl)|exact v_index rfl rfl rfl rfl (by omega) (by omega) (by with_reducible first|exact idx2 _ _|fail)|fail) ?_|refine lNi ?_|refine cRg ?_|refine cSq ?_|refine xTh ?_|refine c_true rfl ?_|refine c_dec_t rfl (by first|omega|fail) ?_|refine cBl ?_|refine cSk ?_|refine c_exit ?_|refine xTe ?_|refine xBs ?_|fail)
  exact x_back (k + 1, A, c, L) ⟨hlt, by rw [cnt_z hs]; exact hL' (), hAL, hcL⟩ (by simp only; omega) (by repeat (first|exact .nil|refine .cons rfl (by first|rfl|(congr 1; done)|exact congrArg _ (by omega)|(simp; done)) ?_)) (by repeat (first|exact .nil|refine .keep (by first|rfl|assumption) ?_|refine .drop ?_|exact MSub.refl _))
 obtain ⟨hc1, hc2⟩ := cnt_s hs hs0
 have hLs : L = s :: (nz rd).drop (cnt rd (k + 1)) := by
  rw [hL' (), hc1]
  obtain ⟨hlt', he⟩ := List.getElem?_eq_some_iff.1 hc2
  rw [<- he]
  exact List.drop_eq_getElem_cons hlt'
 obtain ⟨L2, hL2⟩ : ∃ l, (nz rd).drop (cnt rd (k + 1)) = l := ⟨_, rfl⟩
 rw [hL2] at hLs
 subst hLs
 have hL2' := fun (_ : Unit) => hL2
 clear hL2 hL'
 obtain ⟨ba, oa, hAa, hca⟩ := hAL 0 (inE s) rfl
 have x4 := hok6 (ext_of hca).dom (ext_of hca).cell
 rw [Nat.zero_mul] at x4
 simp only [List.length_cons] at hcL ⊢
 rw [hAa]
 by_cases hc1' : c = 1
 ·subst hc1'
  have hn : L2 = [] := List.length_eq_zero_iff.1 (by omega)
  subst hn
  repeat ((fail_if_success refine c_probe (id := 60) ?_); (fail_if_success refine c_probe1 (id := 60) ?_); first|refine lVa rfl rfl (v_sliceE (k0 := 1) rfl rfl rfl rfl rfl (by omega) rfl) ?_|refine lVa rfl rfl (by first|exact v_add rfl rfl (by omega) (by omega)|exact pEv rfl|exact vL0 rfl (by assumption) rfl (by rfl)|exact v_index rfl rfl rfl rfl (by omega) (by omega) (by with_reducible first|exact idx2 _ _|exact idx6 _ _|fail)|fail) ?_|refine lNi ?_|refine cRg ?_|refine cSq ?_|refine xTh ?_|refine c_dec_t rfl (by first|omega|fail) ?_|refine c_dec_f rfl (by first|omega|fail) ?_|refine cBl ?_|refine cSk ?_|refine x_block ?_|fail)
  exact x_back ((k + 1, some ⟨ba, oa, none⟩, 0, []) : Nat × Option Addr × Nat × List Int) ⟨hlt, (hL2' ()).symm, fun i r hi => by simp at hi, Nat.le_refl _⟩ (by simp only; omega) (by repeat (first|exact .nil|refine .cons rfl (by first|rfl|(congr 1; done)|exact congrArg _ (by omega)|(simp; done)) ?_)) (by repeat (first|exact .nil|refine .keep (by first|rfl|assumption) ?_|refine .drop ?_|exact MSub.refl _))
 repeat ((fail_if_success refine c_probe (id := 60) ?_); (fail_if_success refine c_probe1 (id := 60) ?_); first|refine lVa rfl rfl (v_sliceL (l := 1) rfl rfl rfl rfl rfl (by omega) (by omega)) ?_|refine lVa rfl rfl (by first|exact v_add rfl rfl (by omega) (by omega)|exact pEv rfl|exact vL0 rfl (by assumption) rfl (by rfl)|exact v_index rfl rfl rfl rfl (by omega) (by omega) (by with_reducible first|exact idx2 _ _|exact idx6 _ _|fail)|fail) ?_|refine lNi ?_|refine cRg ?_|refine cSq ?_|refine xTh ?_|refine c_dec_t rfl (by first|omega|fail) ?_|refine c_dec_f rfl (by first|omega|fail) ?_|refine cBl ?_|refine cSk ?_|refine x_block ?_|fail)
 exact x_back ((k + 1, some ⟨ba, oa + 1 * 1, none⟩, c - 1, L2) : Nat × Option Addr × Nat × List Int) ⟨hlt, (hL2' ()).symm, fun i r hi => by
  obtain ⟨b', o', hb', hc'⟩ := hAL (i + 1) r hi
  rw [hAa] at hb'
  cases hb'
  exact ⟨ba, oa + 1 * 1, rfl, fun j v hv => by
   have := hc' j v hv
   have e : oa + (i + 1) * 1 + j = oa + 1 * 1 + i * 1 + j := by omega
   rw [<- e]; exact this⟩, show L2.length <= c - 1 by omega⟩ (show m - (k + 1) < m - k by omega) (by repeat (first|exact .nil|refine .cons rfl (by first|rfl|(congr 1; done)|exact congrArg _ (by omega)|(simp; done)) ?_)) (by repeat (first|exact .nil|refine .keep (by first|rfl|assumption) ?_|refine .drop ?_|exact MSub.refl _))
end R41
end Go.Proofs

/- The same work: near, or not, walked. -/
import Derived.Test.YtajnkdgbpffinaaGreatSwD
set_option maxRecDepth 100000
set_option maxHeartbeats 400000000
set_option linter.unusedSectionVars false
set_option linter.unusedVariables false
set_option linter.unusedSimpArgs false
namespace Go.Proofs
open Go.RowKit Go.Kin Go.Kin.Cl
namespace R41
theorem allS_of : ∀ (l : List Sg) (o : Option Sg), (∀ s ∈ l, formB s = true) -> l.Pairwise (fun a b => a.id < b.id) -> (∀ t, o = some t -> ∀ s ∈ l, t.id < s.id) -> allS o l = true
 | [], _, _, _, _ => rfl
 | s :: l, o, h1, h2, h3 => by
  obtain ⟨g1, g2⟩ := List.pairwise_cons.1 h2
  rw [allS, allS_of l (some s) (fun x hx => h1 x (List.mem_cons_of_mem _ hx)) g2 (fun t ht x hx => by cases ht; exact g1 x hx), Bool.and_true]
  unfold R41.okN
  rw [h1 s List.mem_cons_self, Bool.true_and]
  cases o with
  | none => rfl
  | some t => exact decide_eq_true (h3 t rfl s List.mem_cons_self)
theorem chk_sub {l K : List Sg} (hl : l.length <= 24) (h : chkS l = 0) (hK : K.Sublist l) : chkS K = 0 := by
 obtain ⟨h1, h2⟩ := chk_form (by omega) h
 unfold chkS
 rw [if_neg (by have := hK.length_le; omega), if_pos (allS_of K none (fun s hs => h1 s (hK.subset hs)) (h2.sublist hK) (fun t ht => by cases ht))]
theorem ed_ok {w : World} {A : Option Addr} {c : Nat} {l : List Sg} (hA : Kin.At w A 14 (l.map sgE)) (hwf : ∀ s ∈ l, s.wf) (hl : l.length <= 24) (h : chkS l = 0) : Ed.OK w ⟨A, c, l⟩ :=
 ⟨hA, h, hwf, (chk_form (by show l.length <= 64; omega) h).1, idP_of (chk_form (by show l.length <= 64; omega) h).2, by show l.length <= 64; omega⟩
theorem sw_near {w W5 : World} {A AT AK AU AE AD A3 : Option Addr} {cap cT cK cU cE cD c3 : Nat} {l K : List Sg} {l3 : List Rg} {D : List Int} {limit ed day time : Int}
  (hA : Kin.At W5 A 14 (l.map sgE)) (hT : Kin.At W5 AT 14 (K.map sgE)) (hKp : Kin.At W5 AK 14 (K.map sgE)) (hU : Kin.At W5 AU 14 (K.map sgE)) (hE : Kin.At W5 AE 1 ((essC l).map inE)) (hwf : ∀ s ∈ l, s.wf) (hl : l.length <= 24) (hck : chkS l = 0) (hK : K.Sublist l)
  (hcnt : (essC l).length = (essC K).length + D.length) (hlim : I64 limit)
  (hA3 : Kin.At W5 A3 11 (l3.map rgE)) (hl3 : l3.length <= 1000) (hAD : Kin.At W5 AD 1 (D.map inE)) (hD : okD D) (hcD : D.length <= cD) (hend : Under w.heap.size w W5) :
  RunC Tryz.prog (Tryz.f3.ntmps) ⟨Fence.wide, 0, [], W5, allBut W5 (List.map (·.1) ([] : List (Nat × Obj))), noJ⟩ (seqTl 13 ((Tryz.f3.body).getD .skip)) (bodyPostK Tryz.prog Tryz.f3 fun e w' => e = .returned (.bool true) /\ Under w.heap.size w w')
   [(0, .slice A l.length cap), (2, .int .i64 limit), (3, .slice A3 l3.length c3), (4, .int .i64 ed), (5, .int .i64 day), (6, .int .i64 time), (15, .slice AK K.length cK), (18, .slice AD D.length cD), (22, .slice AE (essC l).length cE), (24, .slice AT K.length cT), (25, .int .i64 0), (31, .slice AU K.length cU), (32, .int .i64 0)] [] := by
 have hb5 : ∀ {mem : List (Nat × Obj)} {W : World}, SatW W5 (allBut W5 (List.map (·.1) ([] : List (Nat × Obj)))) noJ mem W -> Under W5.heap.size W5 W := fun hW => hW.same.below (Nat.le_refl _) fun k hk => ⟨hk, by simp⟩
 obtain ⟨hf, hpw⟩ := chk_form (by omega) hck
 have hKl := hK.length_le
 have hckK := chk_sub hl hck hK
 have hfK := fun s hs => hf s (hK.subset hs)
 have hwK := fun s hs => hwf s (hK.subset hs)
 have hx : Ed.OK W5 ⟨A, cap, l⟩ := ed_ok hA hwf hl hck
 have hy : Ed.OK W5 ⟨AT, cT, K⟩ := ed_ok hT hwK (by omega) hckK
 have hes := fun W (h : Under W5.heap.size W5 W) => Essence6_calls AT cT K W (hT.later h) hwK (by omega) hckK hfK (idP_of (hpw.sublist hK))
 have hs1 := fun W (h : Under W5.heap.size W5 W) => same11_calls AT AK cT cK K W (hT.later h) (hKp.later h) (by omega)
 have hs2 := fun W (h : Under W5.heap.size W5 W) => same11_calls AU AK cU cK K W (hU.later h) (hKp.later h) (by omega)
 have hac : ac (essC l) (essC K) = 2 * (D.length : Int) := by rw [ac_sub (ess_sub hf hpw hK), hcnt]; omega
 have hpr := essC_pr hf hfK (by omega) (by omega)
 have el := essC_len l
 have eK := essC_len K
 have hD64 := hD.1
 refine cSq ?_
 repeat (first|refine lVa rfl rfl (by first|exact pEv rfl|fail) ?_|refine cRg ?_|fail)
 refine r_callF (pre := []) rfl rfl rfl (List.Perm.refl _) (fun W hW _ _ => hes W (hb5 hW)) ?_
 rintro ⟨b1, c1, r1⟩
 simp only [List.append_nil]
 obtain ⟨AF, cF, h7, hat7⟩ := gSl_at (f := inE) (T := 3) (sz := 1) (rest := r1) (fun x => rfl) (essC K) b1 c1
 rw [h7]
 have hpair := fun W (h : Under W5.heap.size W5 W) (hF : Kin.At W AF 1 ((essC K).map inE)) => Pair_calls (essC l) (essC K) AE AF cE cF W (by omega) (by omega) (fun c hc => by have := essC_bd hf c hc; omega) (fun c hc => by have := essC_bd hfK c hc; omega) (hE.later h) hF
 clear hes
 repeat ((fail_if_success refine c_probe (id := 33) ?_); (fail_if_success refine c_probe1 (id := 33) ?_); first|refine lVa rfl rfl (by first|exact pEv rfl|fail) ?_|refine lNi ?_|refine xTh ?_|fail)
 refine cSq ?_
 repeat (first|refine lVa rfl rfl (by first|exact pEv rfl|fail) ?_|refine cRg ?_|fail)
 refine r_callB (ι := Option Addr × Nat × Nat) (v := fun q => .tuple ⟨[.int .i64 (ac (essC l) (essC K)), .slice q.1 q.2.1 q.2.2, .int .i64 0]⟩) rfl rfl rfl (fun W hW => (hpair W (hb5 hW) (hat7 hW (fun p hp => hp))).mono fun e W' h => h.ok hpr) ?_
 rintro ⟨q1, q2, q3⟩
 simp only
 rw [hac]
 clear hpair hat7
 repeat ((fail_if_success refine c_probe (id := 34) ?_); (fail_if_success refine c_probe1 (id := 34) ?_); first|refine lVa rfl rfl (by first|exact pEv rfl|fail) ?_|refine lNi ?_|refine xTh ?_|fail)
 refine c_drop (mem' := []) .nil ?_
 obtain ⟨d, hd⟩ : ∃ d, D.length = d := ⟨_, rfl⟩
 obtain ⟨ll, hll⟩ : ∃ d, l.length = d := ⟨_, rfl⟩
 obtain ⟨lk, hlk⟩ : ∃ d, K.length = d := ⟨_, rfl⟩
 obtain ⟨na, hna⟩ : ∃ d, (essC l).length = d := ⟨_, rfl⟩
 obtain ⟨nb, hnb⟩ : ∃ d, (essC K).length = d := ⟨_, rfl⟩
 have hnr := fun W (h : Under W5.heap.size W5 W) => Near12_calls ⟨A, cap, l⟩ ⟨AT, cT, K⟩ limit W (hx.later h) (hy.later h)
 simp only at hnr
 have hsim : simB (essC l) (essC K) limit = decide (1000 * (2 * (d : Int)) <= 2 * limit * ((na : Int) + (nb : Int))) := by
  unfold simB; rw [hac, hd, hna, hnb]
 have hnv : nearV l K limit = if 0 <= limit /\ limit <= 1000 then .tuple ⟨[.bool (simB (essC l) (essC K) limit), .int .i64 0]⟩ else .tuple ⟨[.bool false, .int .i64 450]⟩ := rfl
 have hwb := fun (b : Nat) W (h : Under W5.heap.size W5 W) hA hl => Works13_bad ⟨A, cap, l⟩ ⟨AT, cT, K⟩ (some ⟨b, 0, none⟩) 2 limit W hA (hx.later h) (hy.later h) hl
 have hwg := fun (b : Nat) W (h : Under W5.heap.size W5 W) hA hl => Works13_calls ⟨A, cap, l⟩ ⟨AT, cT, K⟩ (some ⟨b, 0, none⟩) 2 limit W hA (hx.later h) (hy.later h) hl
 simp only at hwg
 have hAl : ∀ (b : Nat) (rest : List (Nat × Obj)) (W : World), SatW W5 (allBut W5 (List.map (·.1) ([] : List (Nat × Obj)))) noJ ((b, .cells ⟨[.slice A ll cap, .slice AT lk cT]⟩ 22 (0, 0)) :: rest) W -> Kin.At W (some ⟨b, 0, none⟩) 1 (([⟨A, cap, l⟩, ⟨AT, cT, K⟩] : List Ed).map Ed.v) := fun b rest W hW =>
  at_own (l := ([⟨A, cap, l⟩, ⟨AT, cT, K⟩] : List Ed)) (f := Ed.v) (T := 22) (rest := []) hW (by rw [<- hll, <- hlk]; exact List.mem_cons_self) (fun x => rfl)
 rw [hll, hlk] at hnr
 rw [hlk] at hs1 hs2
 rw [hd] at hD64 hac
 rw [hna, hnb, hd] at hcnt
 rw [hna] at el
 rw [hnb] at eK
 rw [hll, hlk, hna, hnb, hd]
 have hl24 : ll <= 24 := by omega
 clear hx hy hpr h7 hac
 refine cSq ?_
 repeat (first|refine lVa rfl rfl (by first|exact pEv rfl|fail) ?_|refine cRg ?_|refine cSq ?_|refine l_dec_f rfl rfl rfl rfl rfl (by first|omega|exact fun h => h rfl|fail) ?_|fail)
 refine r_call rfl rfl rfl (fun W hW => hs1 W (hb5 hW)) ?_
 repeat (first|refine lVa rfl rfl (by first|exact pEv rfl|fail) ?_|fail)
 refine r_call rfl rfl rfl (fun W hW => hs2 W (hb5 hW)) ?_
 repeat ((fail_if_success refine c_probe (id := 36) ?_); (fail_if_success refine c_probe1 (id := 36) ?_); first|refine lVa rfl rfl (by first|exact v_sub rfl rfl (by omega) (by omega)|exact v_mul rfl rfl (by omega) (by omega)|exact pEv rfl|fail) ?_|refine lNi ?_|refine xTh ?_|refine c_dec_f rfl (by first|omega|exact fun h => h rfl|fail) ?_|refine cSk ?_|refine l_dec_f rfl rfl rfl rfl rfl (by first|omega|fail) ?_|fail)
 refine cSq ?_
 repeat (first|refine lVa rfl rfl (by first|exact pEv rfl|fail) ?_|refine cRg ?_|fail)
 refine r_call rfl rfl rfl (fun W hW => hnr W (hb5 hW)) ?_
 rw [hnv]
 by_cases h0 : 0 <= limit /\ limit <= 1000
 rotate_left
 ·rw [if_neg h0]
  have h00 : limit < 0 ∨ 1000 < limit := by omega
  repeat ((fail_if_success refine c_probe (id := 37) ?_); (fail_if_success refine c_probe1 (id := 37) ?_); first|refine lVa rfl rfl (by first|exact pEv rfl|fail) ?_|refine lNi ?_|refine xTh ?_|fail)
  refine cSq ?_
  repeat (first|refine lVa rfl rfl (by first|exact pEv rfl|fail) ?_|refine cRg ?_|refine r_buildSlice rfl rfl rfl rfl rfl rfl (by rfl) (fun _ => ?_)|fail)
  rename_i bq
  refine r_call rfl rfl rfl (fun W hW => hwb bq W (hb5 hW) (hAl bq _ W hW) h0) ?_
  rcases h00 with h00 | h00
  ·repeat (first|refine lVa rfl rfl (by first|exact pEv rfl|fail) ?_|refine lNi ?_|refine cRg ?_|refine cSq ?_|refine xTh ?_|refine l_skip rfl rfl ?_|refine c_true rfl ?_|refine c_ret ?_|refine xTr ?_|refine l_dec_t rfl rfl rfl rfl rfl (by first|omega|fail) ?_|fail)
   exact x_ret rfl rfl (by repeat constructor) rfl (fun W hW => ⟨by simp, hend.trans ((hb5 hW).mono hend.size)⟩)
  ·repeat (first|refine lVa rfl rfl (by first|exact pEv rfl|fail) ?_|refine lNi ?_|refine cRg ?_|refine cSq ?_|refine xTh ?_|refine c_dec_t rfl (by first|omega|fail) ?_|refine c_ret ?_|refine xTr ?_|refine l_dec_f rfl rfl rfl rfl rfl (by first|omega|fail) ?_|fail)
   exact x_ret rfl rfl (by repeat constructor) rfl (fun W hW => ⟨by simp, hend.trans ((hb5 hW).mono hend.size)⟩)
 rw [if_pos h0]
 have hp0 : 0 <= limit * 2 /\ limit * 2 <= 2000 := by omega
 have hp1 : 0 <= limit * 2 * ((na : Int) + (nb : Int)) := Int.mul_nonneg (by omega) (by omega)
 have hp2 : limit * 2 * ((na : Int) + (nb : Int)) <= 2000 * 2000 := Int.mul_le_mul (by omega) (by omega) (by omega) (by omega)
 have hwant : decide (2000 * (d : Int) <= limit * 2 * ((na : Int) + (nb : Int))) = simB (essC l) (essC K) limit := by
  rw [hsim]
  refine decide_eq_decide.2 ?_
  rw [Int.mul_comm 2 limit]
  omega
 have hwg' := fun (b : Nat) W h hA => hwg b W h hA h0
 generalize simB (essC l) (essC K) limit = q at hwg' hwant ⊢
 clear hwb hwg hnr hnv hsim hs1 hs2
 repeat ((fail_if_success refine c_probe (id := 37) ?_); (fail_if_success refine c_probe1 (id := 37) ?_); first|refine lVa rfl rfl (by first|exact pEv rfl|fail) ?_|refine lNi ?_|refine xTh ?_|fail)
 refine cSq ?_
 repeat (first|refine lVa rfl rfl (by first|exact pEv rfl|fail) ?_|refine cRg ?_|refine r_buildSlice rfl rfl rfl rfl rfl rfl (by rfl) (fun _ => ?_)|fail)
 rename_i bq
 refine l_callF (ι := Nat × Nat) (v := fun i => .tuple ⟨[.slice (some ⟨i.1, 0, none⟩) 2 i.2, .int .i64 0]⟩) (mem' := []) (fun i W W' => Ext W' (base W') i.1 0 [.int .i64 0, .int .i64 (if q then 0 else 1)]) rfl rfl rfl .nil (fun W hW => hwg' bq W (hb5 hW) (hAl bq _ W hW)) ?_
 rintro ⟨bz, cz⟩ W W6 hW hBW hW6 hz
 simp only at hz ⊢
 have hB6 : Under W5.heap.size W5 W6 := (hb5 hW).trans (hBW.mono (hb5 hW).size)
 have hend6 : Under w.heap.size w W6 := hend.trans (hB6.mono hend.size)
 have htail := sw_tail (w := w) (W5 := W6) (A3 := A3) (c3 := c3) (l3 := l3) (ed := ed) (day := day) (time := time) (AD := AD) (cD := cD) (D := D) (hA3.later hB6) hl3 (hAD.later hB6) hD hcD hend6
 rw [hd] at htail
 obtain ⟨m3, hm3⟩ : ∃ m, l3.length = m := ⟨_, rfl⟩
 rw [hm3] at htail ⊢
 have z1 : Ext W6 (allBut W6 (List.map (·.1) ([] : List (Nat × Obj)))) _ _ _ := ⟨⟨hz.dom, by simp⟩, hz.cell⟩
 have z2 : Ext W6 (allBut W6 (List.map (·.1) ([] : List (Nat × Obj)))) bz (Int.toNat 1) [.int .i64 (if q then 0 else 1)] := ⟨⟨hz.dom, by simp⟩, (hz.at (i := 1) rfl).cell⟩
 clear hz hwg' hAl hA hT hKp hU hE hA3 hAD hend hW hBW hW6 hB6 hb5
 repeat ((fail_if_success refine c_probe (id := 41) ?_); (fail_if_success refine c_probe1 (id := 41) ?_); first|refine lVa rfl rfl (by first|exact v_add rfl rfl (by omega) (by omega)|exact v_mul rfl rfl (by omega) (by omega)|exact pEv rfl|fail) ?_|refine lNi ?_|refine cRg ?_|refine cSq ?_|refine xTh ?_|refine c_dec_f rfl (by first|omega|exact fun h => h rfl|fail) ?_|refine cSk ?_|refine l_dec_f rfl rfl rfl rfl rfl (by first|omega|fail) ?_|fail)
 rw [hwant]
 cases q
 ·repeat ((fail_if_success refine c_probe (id := 43) ?_); (fail_if_success refine c_probe1 (id := 43) ?_); first|refine lVa rfl rfl (vL0 rfl z2 rfl (by rfl)) ?_|refine lVa rfl rfl (by first|exact pEv rfl|exact vL0 rfl (by assumption) rfl (by rfl)|exact v_index rfl rfl rfl rfl (by omega) (by omega) (by with_reducible first|exact idx5 _|fail)|fail) ?_|refine lNi ?_|refine cRg ?_|refine cSq ?_|refine xTh ?_|refine c_false rfl ?_|refine cSk ?_|fail)
  refine c_keep [3, 4, 5, 6, 18] rfl ?_
  exact htail
 ·repeat ((fail_if_success refine c_probe (id := 43) ?_); (fail_if_success refine c_probe1 (id := 43) ?_); first|refine lVa rfl rfl (vL0 rfl z2 rfl (by rfl)) ?_|refine lVa rfl rfl (by first|exact pEv rfl|exact vL0 rfl (by assumption) rfl (by rfl)|exact v_index rfl rfl rfl rfl (by omega) (by omega) (by with_reducible first|exact idx5 _|fail)|fail) ?_|refine lNi ?_|refine cRg ?_|refine cSq ?_|refine xTh ?_|refine c_false rfl ?_|refine cSk ?_|fail)
  refine c_keep [3, 4, 5, 6, 18] rfl ?_
  exact htail
end R41
end Go.Proofs

/- Collating: Table, in the specification. -/
import Derived.Test.YtobiefdkpiognaaClYa
import Derived.Test.YtobiefdkpiognaaClO
import Derived.Test.YtobiefdkpiognaaClH
set_option linter.unusedSectionVars false
set_option linter.unusedVariables false
set_option linter.unusedSimpArgs false
namespace Go.Proofs
open Go.RowKit Go.Kin Go.Kin.Cl
namespace R41
set_option maxRecDepth 100000 in
set_option maxHeartbeats 80000000 in
theorem rTable_calls (A : Option Addr) (cap : Nat) (ws : List Wi) (w : World) (hA : Kin.At w A 3 (ws.map wiE)) (hx : ∀ x ∈ ws, WiOK w x) (hl : ws.length ≤ 9223372036854775807) :
    Calls Try.prog 14 ⟨[.slice A ws.length cap]⟩ w (TabQ ws w) := by
  refine fun_enter Try.func14 rfl Try.ntmps14 rfl rfl (satW_nil w) ?_
  repeat (first | refine l_val rfl rfl (by first | exact pureEval_ok rfl ) ?_ | refine l_nil ?_ | refine c_region ?_ | refine c_seq ?_ | refine x_then ?_ )
  refine r_call rfl rfl rfl (fun W hW => rCheck_calls A cap ws W (hA.sat hW) (fun x hxm => (hx x hxm).later hW.below) hl) ?_
  by_cases hc : chkW ws = 0
  rotate_left
  · obtain ⟨t1, t2⟩ := tab_bad hc
    repeat (first | refine l_val rfl rfl (by first | exact pureEval_ok rfl ) ?_ | refine l_nil ?_ | refine c_region ?_ | refine c_seq ?_ | refine x_then ?_ | refine l_skip rfl rfl ?_ | refine c_true rfl ?_ | refine c_ret ?_ | refine x_then_ret ?_ | refine l_dec_t rfl rfl rfl rfl rfl (by first | omega ) ?_ )
    exact x_ret rfl rfl (by repeat (first | exact Res.nil | (apply Res.tmp; rfl) | (apply Res.cell; rfl; exact (by repeat (first | exact List.Mem.head _ | apply List.Mem.tail)); rfl; rfl))) rfl (fun W hW => ⟨none, 0, [], by rw [t1]; rfl, hW.below, by rw [t2]; rfl, rowsF_nil⟩)
  rw [hc]
  by_cases hne : ws = []
  · subst hne
    obtain ⟨t1, t2⟩ := tab_nil
    repeat (first | refine l_val rfl rfl (by first | exact pureEval_ok rfl ) ?_ | refine l_nil ?_ | refine c_region ?_ | refine c_seq ?_ | refine x_then ?_ | refine c_true rfl ?_ | refine c_ret ?_ | refine x_then_ret ?_ )
    exact x_ret rfl rfl (by repeat (first | exact Res.nil | (apply Res.tmp; rfl) | (apply Res.cell; rfl; exact (by repeat (first | exact List.Mem.head _ | apply List.Mem.tail)); rfl; rfl))) rfl (fun W hW => ⟨none, 0, [], by rw [t1]; rfl, hW.below, by rw [t2]; rfl, rowsF_nil⟩)
  have hpos : 1 ≤ ws.length := by cases ws with | nil => exact absurd rfl hne | cons x l => simp
  obtain ⟨x0, hx0⟩ : ∃ x0, ws[0]? = some x0 := ⟨_, List.getElem?_eq_getElem hpos⟩
  have h24 := (chkW_0 hc).1
  have hsh := short_lsW hc
  obtain ⟨ls, hls⟩ : ∃ ls, lsW ws = ls := ⟨_, rfl⟩
  have hlsl : ls.length = ws.length := by rw [← hls]; exact List.length_map ..
  have hli : Hid (∀ i x, ws[i]? = some x → li ls i = cds x) := Lib.hid fun i x h => by rw [← hls]; exact li_lsW h
  have hin : Hid (∀ i x, ws[i]? = some x → (cds x).all isC = true ∧ (∀ c ∈ cds x, c ≠ 0 ∧ -9223372036854775808 ≤ c ∧ c ≤ 9223372036854775807) ∧ (cds x).length ≤ 64) := Lib.hid fun i x h => cds_in hc (List.mem_of_getElem? h)
  have hwi : Hid (∀ x ∈ ws, WiOK w x) := Lib.hid hx
  rw [hls] at hsh
  have htx : txt ls = cds x0 := by rw [← li_0, hli.out 0 x0 hx0]
  have htl := hsh.txt
  obtain ⟨m, hm⟩ : ∃ m, (txt ls).length = m := ⟨_, rfl⟩
  rw [hm] at htl
  have hm0 : (cds x0).length = m := by rw [← htx, hm]
  clear hx
  obtain ⟨bA, oA, rfl, e0⟩ := ext_at hA hx0
  have g0 : Ext w (base w) bA (oA + (0 : Int).toNat * 3) (wiE x0) := ext_of e0
  have hrl : ∀ {i : Nat} {x : Wi}, ws[i]? = some x → x.rs.length ≤ 100000 := fun {i x} h => by have := (hin.out i x h).2.2; rw [cds_len] at this; omega
  repeat (first | refine l_val rfl rfl (by first | exact pureEval_ok rfl | exact v_load_ext0 rfl (by assumption) rfl (by rfl) | exact v_index rfl rfl rfl rfl (by omega) (by omega) (by with_reducible first | exact idx8 _ _ _  ) ) ?_ | refine l_nil ?_ | refine c_region ?_ | refine c_seq ?_ | refine x_then ?_ | refine c_dec_f rfl (by first | omega ) ?_ | refine c_skip ?_ )
  refine l_callF (ι := Option Addr × Nat) (v := fun q => .slice q.1 m q.2) (mem' := []) (fun q W W' => Fr W W' q.1 1 ((txt ls).map inE)) rfl rfl rfl (by repeat (first | exact MSub.nil | refine MSub.keep (by first | rfl | assumption) ?_ | refine MSub.drop ?_ | exact MSub.refl _)) (fun W hW => ?_) ?_
  · refine (rcodes_calls x0 W ((hwi.out x0 (List.mem_of_getElem? hx0)).later hW.below) (hrl hx0)).mono fun e W' h => ?_
    obtain ⟨A', c', h1, h2, h3⟩ := RowQ.fr h
    exact ⟨(A', c'), by rw [← hm0]; exact h1, h2, by rw [htx]; exact h3⟩
  rintro ⟨TA, tc⟩ W W1 hW hB1 hW1 hq
  simp only at hq ⊢
  have hS1 : Same (base w) w W1 := hW1.same
  have hD1 : ∀ k, base w k → allBut W1 (List.map (fun p => p.1) ([] : List (Nat × Obj))) k := hW1.allBut (MSub.refl _)
  have tx1 : Ar W1 (allBut W1 (List.map (fun p => p.1) ([] : List (Nat × Obj)))) TA 1 ((txt ls).map inE) := hq.ar (inE_ne _) (by simp)
  clear hq hW hB1 hW1 g0 e0
  repeat (first | refine l_val rfl rfl (by first | exact pureEval_ok rfl ) ?_ | refine l_nil ?_ | refine c_region ?_ | refine c_seq ?_ | refine x_then ?_ )
  refine r_make (n := ws.length) rfl rfl rfl rfl rfl rfl (by omega) (by omega) (by omega) rfl rfl flat_vec (fun bt => ?_)
  repeat (first | refine l_val rfl rfl (by first | exact pureEval_ok rfl ) ?_ | refine l_nil ?_ | refine c_region ?_ | refine c_seq ?_ | refine x_then ?_ | refine c_block ?_ )
  have e1 : [(bt, Obj.cells ⟨vec ws.length fun _ => Value.slice none 0 0⟩ 42 (0, 0))] = tops ls bt ls.length (fun _ => .zero) (fun j => stg ls j 0) := by
    unfold tops; rw [rowsM_zero, hlsl]; rfl
  refine c_loopW (ι := S0) (S0.ok ls w TA bt) (fun s => []) (fun s => s.W) (S0.D ls bt) (fun _ => noJ)
    (fun s => [(0, .slice (some ⟨bA, oA, none⟩) ws.length cap), (2, .slice none 0 0), (3, .int .i64 0), (5, .slice TA m tc), (6, .slice (some ⟨bt, 0, none⟩) ws.length ws.length), (7, .int .i64 s.k)])
    (S0.mem ls bt) (fun s => m + 1 - s.k) (fun a0 W ha hmm => ?_) ?_
  · have hM : MSub [(bt, Obj.cells ⟨vec ws.length fun _ => Value.slice none 0 0⟩ 42 (0, 0))] (S0.mem ls bt ⟨0, W, fun _ => .zero⟩) := by
      unfold S0.mem; simp only; rw [← e1]; exact MSub.refl _
    have hD := hmm.allBut hM
    exact ⟨⟨0, W, fun _ => .zero⟩, ⟨Nat.zero_le _, hS1.trans (hmm.same.mono hD1), fun k hk => hD k (hD1 k hk), tx1.move hmm.same hD, fun j _ => stg_0⟩,
      (show EnvSub _ [(0, .slice (some ⟨bA, oA, none⟩) ws.length cap), (2, .slice none 0 0), (3, .int .i64 0), (5, .slice TA m tc), (6, .slice (some ⟨bt, 0, none⟩) ws.length ws.length), (7, .int .i64 ((0 : Nat) : Int))] from (by repeat (first | exact EnvSub.nil | refine EnvSub.cons rfl (by first | rfl | (congr 1; done) | (exact congrArg (Value.int _) (by omega)) | (simp; done)) ?_))).sat ha, hmm.fresh0 hM⟩
  clear hS1 hD1 tx1 e1
  rintro ⟨k, W2, R⟩ ⟨k1, k2, k3, k4, k5⟩
  simp only at k1 k2 k3 k4 k5
  generalize hD2 : S0.D ls bt ⟨k, W2, R⟩ = D at *
  show RunC _ _ ⟨_, _, [], W2, D, noJ⟩ _ _ [(0, .slice (some ⟨bA, oA, none⟩) ws.length cap), (2, .slice none 0 0), (3, .int .i64 0), (5, .slice TA m tc), (6, .slice (some ⟨bt, 0, none⟩) ws.length ws.length), (7, .int .i64 k)] (tops ls bt ls.length R (fun j => stg ls j k))
  rw [hm] at k1
  by_cases hkm : k < m + 1
  rotate_left
  · have hke : k = m + 1 := by omega
    subst hke
    have hst : ∀ j, stg ls j (m + 1) = rowI ls j := fun j => stg_end (by omega)
    simp only [hst] at k5 ⊢
    rw [hlsl] at k5 ⊢
    obtain ⟨Lc, hLc⟩ : ∃ Lc, lociN ls = Lc := ⟨_, rfl⟩
    have hrl2 : ∀ j, j < ws.length → (rowI ls j).length = Lc := fun j hj => by rw [rowI_len (by rw [hlsl]; exact hj), hLc]
    have hLb : Lc ≤ 20000 := by rw [← hrl2 0 hpos, ← hst 0]; exact stg_len hsh (by rw [hlsl]; exact hpos)
    have hget : (vec ws.length fun j => (R j).sv (rowI ls j))[0]? = some (.slice (R 0).A Lc (R 0).cap) := by rw [vec_get hpos, RO.sv_eq (k5 0 hpos), hrl2 0 hpos]
    unfold tops
    by_cases hbig : 256 < Lc
    · obtain ⟨t1, t2⟩ := tab_wide hc hne (by rw [hls, hLc]; exact hbig)
      repeat (first | refine l_val rfl rfl (by first | exact pureEval_ok rfl | exact v_index rfl rfl rfl rfl (by omega) (by omega) (by with_reducible first | exact idx5 _  ) | exact v_load_at rfl (by repeat (first | exact List.Mem.head _ | apply List.Mem.tail)) rfl rfl (by first | assumption ) ) ?_ | refine l_nil ?_ | refine c_region ?_ | refine c_seq ?_ | refine x_then ?_ | refine c_dec_t rfl (by first | omega ) ?_ | refine c_dec_f rfl (by first | omega ) ?_ | refine c_ret ?_ | refine c_exit ?_ | refine x_then_ret ?_ | refine x_then_exit ?_ | refine x_block_same ?_ )
      exact x_ret rfl rfl (by repeat (first | exact Res.nil | (apply Res.tmp; rfl) | (apply Res.cell; rfl; exact (by repeat (first | exact List.Mem.head _ | apply List.Mem.tail)); rfl; rfl))) rfl (fun W hW => ⟨none, 0, [], by rw [t1]; rfl, (k2.trans (hW.same.mono k3)).base_later, by rw [t2]; rfl, rowsF_nil⟩)
    obtain ⟨t1, t2⟩ := tab_ok hc hne (by rw [hls, hLc]; omega)
    rw [hls] at t2
    repeat (first | refine l_val rfl rfl (by first | exact pureEval_ok rfl | exact v_index rfl rfl rfl rfl (by omega) (by omega) (by with_reducible first | exact idx5 _  ) | exact v_load_at rfl (by repeat (first | exact List.Mem.head _ | apply List.Mem.tail)) rfl rfl (by first | assumption ) ) ?_ | refine l_nil ?_ | refine c_region ?_ | refine c_seq ?_ | refine x_then ?_ | refine c_dec_f rfl (by first | omega ) ?_ | refine c_skip ?_ | refine c_ret ?_ | refine c_exit ?_ | refine x_then_exit ?_ | refine x_block_same ?_ )
    refine x_ret rfl rfl (by repeat (first | exact Res.nil | (apply Res.tmp; rfl) | (apply Res.cell; rfl; exact (by repeat (first | exact List.Mem.head _ | apply List.Mem.tail)); rfl; rfl))) rfl (fun W hW => ?_)
    have hS := k2.trans (hW.same.mono k3)
    have hb := hW.own (bt, _) (by repeat (first | exact List.Mem.head _ | apply List.Mem.tail))
    have hnb : w.heap.size ≤ bt := Nat.le_of_not_lt fun h => hb.1 (k3 bt h)
    refine ⟨some ⟨bt, 0, none⟩, ws.length, (List.range ws.length).map fun j => ⟨(R j).A, (R j).cap, rowI ls j⟩, by first | (rw [t1, List.length_map, List.length_range]; done) | (rw [t1, List.length_map, List.length_range]; rfl), hS.base_later, by rw [t2, List.map_map]; rfl, ⟨?_, fun v hv => ?_⟩⟩
    · refine fr_rows (rest := []) (T := 42) hnb (fun r hr => by obtain ⟨v, _, rfl⟩ := List.mem_map.1 hr; rfl) ?_
      have h9 := hb.2
      have hfl : (vec ws.length fun j => (R j).sv (rowI ls j)) = (((List.range ws.length).map fun j => (⟨(R j).A, (R j).cap, rowI ls j⟩ : RV)).map rvE).flatten := by
        have key : ∀ l : List Nat, (∀ j ∈ l, j < ws.length) → (l.map fun j => (R j).sv (rowI ls j)) = ((l.map fun j => (⟨(R j).A, (R j).cap, rowI ls j⟩ : RV)).map rvE).flatten := by
          intro l
          induction l with
          | nil => intro _; rfl
          | cons a l ih =>
            intro hl
            rw [List.map_cons, List.map_cons, List.map_cons, List.flatten_cons, ih fun j hj => hl j (List.mem_cons_of_mem _ hj), RO.sv_eq (k5 a (hl a List.mem_cons_self))]
            rfl
        exact key _ fun j hj => List.mem_range.1 hj
      rw [List.append_nil, ← hfl]
      exact h9
    · obtain ⟨j, hj, rfl⟩ := List.mem_map.1 hv
      have hj := List.mem_range.1 hj
      have hk5 := k5 j hj
      simp only
      cases hR : R j with
      | zero =>
        rw [hR] at hk5
        have hk5 : rowI ls j = [] := hk5
        rw [hk5]
        exact Fr.nil
      | more b c r =>
        have hbj := hW.own (b, .cells ⟨flatI (rowI ls j) ++ r⟩ 3 (0, 0)) (List.mem_cons_of_mem _ (rowsM_in (n := ws.length) hj (by rw [hR]; exact List.mem_singleton.2 rfl)))
        exact fr_rows (Nat.le_of_not_lt fun h => hbj.1 (k3 b h)) (in_len _) hbj.2
  have hkl : k ≤ m := by omega
  obtain ⟨l5, hl5⟩ : ∃ l5, tops ls bt ls.length R (fun j => stg ls j k) = l5 := ⟨_, rfl⟩
  rw [hl5]
  repeat (first | refine l_val rfl rfl (by first | exact pureEval_ok rfl ) ?_ | refine l_nil ?_ | refine c_region ?_ | refine c_seq ?_ | refine x_then ?_ | refine c_dec_t rfl (by first | omega ) ?_ | refine c_block ?_ | refine c_skip ?_ )
  have hS0 := hD2
  refine c_loopW (ι := S1) (S1.ok ls k w TA l5) (fun s => []) (fun s => s.W) (S1.D ls k l5) (fun _ => noJ)
    (fun s => [(0, .slice (some ⟨bA, oA, none⟩) ws.length cap), (2, .slice none 0 0), (3, .int .i64 0), (5, .slice TA m tc), (6, .slice (some ⟨bt, 0, none⟩) ws.length ws.length), (7, .int .i64 k), (8, .int .i64 (wdI ls s.i k : Nat)), (9, s.o.sv s.i), (10, s.o.sw s.i), (11, .int .i64 s.i)])
    (S1.mem ls k l5) (fun s => ws.length - s.i) (fun a0 W ha hmm => ?_) ?_
  · have hM : MSub l5 (S1.mem ls k l5 ⟨0, W, .zero, []⟩) := MSub.refl _
    have hD := hmm.allBut hM
    exact ⟨⟨0, W, .zero, []⟩, ⟨Nat.zero_le _, rfl, rfl, k2.trans (hmm.same.mono k3), fun k hk => hD k (k3 k hk), k4.move hmm.same hD, fun v hv => (by cases hv), rfl⟩,
      (show EnvSub _ [(0, .slice (some ⟨bA, oA, none⟩) ws.length cap), (2, .slice none 0 0), (3, .int .i64 0), (5, .slice TA m tc), (6, .slice (some ⟨bt, 0, none⟩) ws.length ws.length), (7, .int .i64 k), (8, .int .i64 (wdI ls 0 k : Nat)), (9, .slice none 0 0), (10, .slice none 0 0), (11, .int .i64 ((0 : Nat) : Int))] from (by repeat (first | exact EnvSub.nil | refine EnvSub.cons rfl (by first | rfl | (congr 1; done) | (exact congrArg (Value.int _) (by omega)) | (simp; done)) ?_))).sat ha, hmm.fresh0 hM⟩
  clear k2 k3 k4 hS0 hD2
  rintro ⟨i, W3, o, vs⟩ ⟨i1, i2, i3, i4, i5, i6, i7, i8⟩
  simp only at i1 i2 i3 i4 i5 i6 i7 i8
  generalize hD3 : S1.D ls k l5 ⟨i, W3, o, vs⟩ = D at *
  show RunC _ _ ⟨_, _, [], W3, D, noJ⟩ _ _ [(0, .slice (some ⟨bA, oA, none⟩) ws.length cap), (2, .slice none 0 0), (3, .int .i64 0), (5, .slice TA m tc), (6, .slice (some ⟨bt, 0, none⟩) ws.length ws.length), (7, .int .i64 k), (8, .int .i64 (wdI ls i k : Nat)), (9, o.sv i), (10, o.sw i), (11, .int .i64 i)] (o.mem vs (atL ls k i) ++ l5)
  rw [hlsl] at i1
  by_cases hlt : i < ws.length
  · obtain ⟨x, hwx⟩ : ∃ x, ws[i]? = some x := ⟨_, List.getElem?_eq_getElem hlt⟩
    have hlx : li ls i = cds x := hli.out i x hwx
    obtain ⟨c1, c2, c3⟩ := hin.out i x hwx
    obtain ⟨c4, c5, c6⟩ := hin.out 0 x0 hx0
    obtain ⟨b', o', hA', gx⟩ := (Ar.of hA (wiE_len ws) i4 i5).get hwx
    cases hA'
    have hpl : (prI ls i).length ≤ 100000 := by have := prI_len (ls := ls) i; have := hsh i; omega
    repeat (first | refine l_val rfl rfl (by first | exact pureEval_ok rfl | exact v_load_ext0 rfl (by assumption) rfl (by rfl) | exact v_index rfl rfl rfl rfl (by omega) (by omega) (by with_reducible first | exact idx4 _ _ _  ) ) ?_ | refine l_nil ?_ | refine c_region ?_ | refine c_seq ?_ | refine x_then ?_ | refine c_dec_t rfl (by first | omega ) ?_ | refine c_block ?_ | refine c_skip ?_ )
    refine l_callF (ι := Option Addr × Nat) (v := fun q => .slice q.1 (cds x).length q.2) (fun q W W' => Fr W W' q.1 1 ((cds x).map inE)) rfl rfl rfl (MSub.refl _) (fun W hW => ?_) ?_
    · refine (rcodes_calls x W ((hwi.out x (List.mem_of_getElem? hwx)).later (i4.trans (hW.same.mono i5)).base_later) (hrl hwx)).mono fun e W' h => ?_
      obtain ⟨A', c', h1, h2, h3⟩ := RowQ.fr h
      exact ⟨(A', c'), h1, h2, h3⟩
    rintro ⟨LA, lc⟩ W W4 hW hB4 hW4 hq
    refine l_gen fun D4 hD4 => ?_
    simp only at hq ⊢
    have hS4 := hW4.same
    have hDD : ∀ k, D k → D4 k := by rw [hD4]; exact hW4.allBut (MSub.refl _)
    have b4 : Ar W4 D4 LA 1 ((cds x).map inE) := by rw [hD4]; exact hq.ar (inE_ne _) (SatW.lts hW)
    have j4 := i4.trans (hS4.mono i5)
    have j5 : ∀ k, base w k → D4 k := fun k hk => hDD k (i5 k hk)
    have j6 := i6.move hS4 hDD
    have j7 := fun v hv => (i7 v hv).move hS4 hDD
    clear hq hW hB4 hW4 gx i4 i5 i6 i7 hS4 hDD hD3
    repeat (first | refine l_val rfl rfl (by first | exact pureEval_ok rfl ) ?_ | refine l_nil ?_ | refine c_region ?_ | refine c_seq ?_ | refine x_then ?_ )
    refine l_callF (ι := Option Addr × Nat) (v := fun q => .tuple ⟨[.int .i64 (ac (txt ls) (cds x)), .slice q.1 (pairL (txt ls) (cds x)).length q.2, .int .i64 0]⟩) (fun q W W' => Fr W W' q.1 2 ((pairL (txt ls) (cds x)).map pQ)) rfl rfl rfl (MSub.refl _) (fun W hW => ?_) ?_
    · have hcall := rPair_calls (txt ls) (cds x) TA LA tc lc W (by omega) (by omega) (j6.at hW) (b4.at hW)
      rw [hm] at hcall
      refine hcall.mono fun e W' h => ?_
      obtain ⟨A', c', h1, h2, h3⟩ := PairQ.fr h
      rw [parA_ok (by omega) c3 (by rw [htx]; exact c4) c1] at h1 h3
      exact ⟨(A', c'), h1, h2, h3⟩
    rintro ⟨P, pcp⟩ W W5 hW hB5 hW5 hq
    refine l_gen fun D5 hD5 => ?_
    simp only at hq ⊢
    have hS5 := hW5.same
    have hDD : ∀ k, D4 k → D5 k := by rw [hD5]; exact hW5.allBut (MSub.refl _)
    have p5 : Ar W5 D5 P 2 ((pairL (txt ls) (cds x)).map pQ) := by rw [hD5]; exact hq.ar (pQ_ne _) (SatW.lts hW)
    have q4 := j4.trans (hS5.mono j5)
    have q5 : ∀ k, base w k → D5 k := fun k hk => hDD k (j5 k hk)
    have q6 := j6.move hS5 hDD
    have q7 := fun v hv => (j7 v hv).move hS5 hDD
    have b5 := b4.move hS5 hDD
    clear hq hW hB5 hW5 j4 j5 j6 j7 b4 hS5 hDD hD4 hD5
    have hwdS : wdI ls (i + 1) k = max (wdI ls i k) (sgI ls i k).length := rfl
    have hsg := sgI_len hsh i k
    have hwl := wdI_len hsh i k
    have hps := psOK hsh i
    rcases o with _ | ⟨bo, co, ro, ba, ca, ra⟩
    · have hi0 : i = 0 := i8
      subst hi0
      have hvs : vs = [] := List.eq_nil_of_length_eq_zero i2
      subst hvs
      have hp0 : (prI ls 0).length = 0 := by rw [prI_0]; rfl
      simp only [O2.sv, O2.sw, O2.mem, List.nil_append]
      repeat (first | refine l_val rfl rfl (by first | exact pureEval_ok rfl ) ?_ | refine l_nil ?_ | refine c_region ?_ | refine c_seq ?_ | refine x_then ?_ | refine c_true rfl ?_ )
      refine l_callF (ι := Option Addr × Nat) (v := fun q => .slice q.1 (sgI ls 0 k).length q.2) (fun q W W' => Fr W W' q.1 1 ((sgI ls 0 k).map inE)) rfl rfl rfl (MSub.refl _) (fun W hW => ?_) ?_
      · have hcall := ralone_calls (prI ls 0) (cds x) k none LA 0 lc W (by rw [← hlx]; exact hps) hpl (by omega) (by rw [prI_0]; exact (Ar.nil (W := W5) (D := D5)).at hW) (b5.at hW)
        rw [hp0] at hcall
        refine hcall.mono fun e W' h => ?_
        rw [← hlx, sgI_ref] at h
        obtain ⟨A', c', h1, h2, h3⟩ := RowQ.fr h
        exact ⟨(A', c'), h1, h2, h3⟩
      rintro ⟨SA, sc⟩ W W6 hW hB6 hW6 hq
      refine l_gen fun D6 hD6 => ?_
      simp only at hq ⊢
      have hS6 := hW6.same
      have hDD : ∀ k, D5 k → D6 k := by rw [hD6]; exact hW6.allBut (MSub.refl _)
      have s6 : Ar W6 D6 SA 1 ((sgI ls 0 k).map inE) := by rw [hD6]; exact hq.ar (inE_ne _) (SatW.lts hW)
      have r4 := q4.trans (hS6.mono q5)
      have r5 : ∀ k, base w k → D6 k := fun k hk => hDD k (q5 k hk)
      have r6 := q6.move hS6 hDD
      have b6 := b5.move hS6 hDD
      clear hq hW hB6 hW6 q4 q5 q6 q7 b5 p5 hS6 hDD hD6
      repeat (first | refine r_buildSlice rfl rfl rfl rfl rfl rfl (by rfl) (fun _ => ?_) )
      refine r_append_nil (m := 1) (ys := [.slice SA (sgI ls 0 k).length sc]) rfl rfl rfl rfl rfl rfl (news_own (by repeat (first | exact List.Mem.head _ | apply List.Mem.tail))) rfl rfl (by decide) (by decide) (by decide) (fun bo co ro hgo => ?_)
      have hfl : flatV ([] ++ [⟨SA, sc, sgI ls 0 k⟩]) = [.slice SA (sgI ls 0 k).length sc] := rfl
      have hget : ([Value.slice SA (sgI ls 0 k).length sc] ++ ro)[0]? = some (.slice SA (sgI ls 0 k).length sc) := rfl
      repeat (first | refine l_val rfl rfl (by first | exact pureEval_ok rfl | exact v_load rfl (by repeat (first | exact List.Mem.head _ | apply List.Mem.tail)) rfl (by rfl) | exact v_index rfl rfl rfl rfl (by omega) (by omega) (by with_reducible first | exact idx1 _  ) ) ?_ | refine l_nil ?_ | refine c_region ?_ | refine c_seq ?_ | refine x_then ?_ )
      have hat : besF (cds x) k (prI ls 0) = atV ls k 0 := by rw [← hlx]; rfl
      have hbes : ∀ (mem : List (Nat × Obj)) (W : World), SatW W6 D6 noJ mem W → Calls Try.prog 39 ⟨[.slice none 0 0, .slice LA (cds x).length lc, .int .i64 k]⟩ W fun e w' => e = .returned (.int .i64 (atV ls k 0)) ∧ Below W.heap.size W w' := fun mem W hW => by
        have h := rbeside_calls (prI ls 0) (cds x) k none LA 0 lc W (by rw [← hlx]; exact hps) hpl (by omega) (by omega) (by rw [prI_0]; exact (Ar.nil (W := W6) (D := D6)).at hW) (b6.at hW)
        rw [hp0, hat] at h
        exact h
      refine r_call rfl rfl rfl (fun W hW => hbes _ W hW) ?_
      repeat (first | refine r_buildSlice rfl rfl rfl rfl rfl rfl (by rfl) (fun _ => ?_) )
      refine r_append_nil (m := 1) (ys := [.int .i64 (atV ls k 0)]) rfl rfl rfl rfl rfl rfl (news_own (by repeat (first | exact List.Mem.head _ | apply List.Mem.tail))) rfl rfl (by decide) (by decide) (by decide) (fun ba ca ra hga => ?_)
      repeat (first | refine l_val rfl rfl (by first | exact v_add rfl rfl (by omega) (by omega) | exact pureEval_ok rfl ) ?_ | refine l_nil ?_ | refine c_region ?_ | refine x_then ?_ | refine x_block ?_ )
      refine x_backW fun a0 W ha hmm => ?_
      have hfa : flatI (atL ls k (0 + 1)) = [.int .i64 (atV ls k 0)] := rfl
      have hm1 := hmm.mono (mem' := (ba, Obj.cells ⟨flatI (atL ls k (0 + 1)) ++ ra⟩ 3 (0, 0)) :: (bo, .cells ⟨flatV ([] ++ [⟨SA, sc, sgI ls 0 k⟩]) ++ ro⟩ 42 (0, 0)) :: l5) (MSub.sub (.keep rfl (.drop (.keep rfl (.drop (MSub.refl _))))))
      have hm2 := hm1.perm (List.Perm.swap _ _ _)
      have hDD : ∀ b, D6 b → S1.D ls k l5 ⟨0 + 1, W, .more bo co ro ba ca ra, [] ++ [⟨SA, sc, sgI ls 0 k⟩]⟩ b := hm2.allBut (MSub.refl _)
      refine ⟨⟨0 + 1, W, .more bo co ro ba ca ra, [] ++ [⟨SA, sc, sgI ls 0 k⟩]⟩, ⟨by simp only; omega, rfl, rfl, r4.trans (hmm.same.mono r5), fun b hb => hDD b (r5 b hb), r6.move hmm.same hDD, fun v hv => ?_, ⟨by simp, (show Grow 1 (0 + 1) (flatV ([] ++ [⟨SA, sc, sgI ls 0 k⟩])) co ro from hgo), (show Grow 1 (0 + 1) (flatI (atL ls k (0 + 1))) ca ra from hga)⟩⟩, by simp only; omega,
        (show EnvSub _ [(0, .slice (some ⟨bA, oA, none⟩) ws.length cap), (2, .slice none 0 0), (3, .int .i64 0), (5, .slice TA m tc), (6, .slice (some ⟨bt, 0, none⟩) ws.length ws.length), (7, .int .i64 k), (8, .int .i64 (wdI ls (0 + 1) k : Nat)), (9, .slice (some ⟨bo, 0, none⟩) (0 + 1) co), (10, .slice (some ⟨ba, 0, none⟩) (0 + 1) ca), (11, .int .i64 ((0 + 1 : Nat) : Int))] from (by repeat (first | exact EnvSub.nil | refine EnvSub.cons rfl (by first | rfl | (congr 1; done) | (exact congrArg (Value.int _) (by omega)) | (simp; done)) ?_))).sat ha, hm2.fresh0 (MSub.refl _)⟩
      rw [List.nil_append, List.mem_singleton] at hv
      rw [hv]
      exact s6.move hmm.same hDD
    · obtain ⟨hi0, g1, g2⟩ := i8
      have hpr : pairL (txt ls) (cds x) = prI ls i := by rw [prI_s hi0, hlx]; rfl
      rw [hpr] at p5 ⊢
      simp only [O2.sv, O2.sw, O2.mem, List.nil_append, List.cons_append]
      repeat (first | refine l_val rfl rfl (by first | exact pureEval_ok rfl ) ?_ | refine l_nil ?_ | refine c_region ?_ | refine c_seq ?_ | refine x_then ?_ | refine c_dec_f rfl (by first | omega ) ?_ | refine c_skip ?_ )
      refine l_callF (ι := Option Addr × Nat) (v := fun q => .slice q.1 (sgI ls i k).length q.2) (fun q W W' => Fr W W' q.1 1 ((sgI ls i k).map inE)) rfl rfl rfl (MSub.refl _) (fun W hW => ?_) ?_
      · have hcall := ralone_calls (prI ls i) (cds x) k P LA pcp lc W (by rw [← hlx]; exact hps) hpl (by omega) (p5.at hW) (b5.at hW)
        refine hcall.mono fun e W' h => ?_
        rw [← hlx, sgI_ref] at h
        obtain ⟨A', c', h1, h2, h3⟩ := RowQ.fr h
        exact ⟨(A', c'), h1, h2, h3⟩
      rintro ⟨SA, sc⟩ W W6 hW hB6 hW6 hq
      refine l_gen fun D6 hD6 => ?_
      simp only at hq ⊢
      have hS6 := hW6.same
      have hDD : ∀ k, D5 k → D6 k := by rw [hD6]; exact hW6.allBut (MSub.refl _)
      have s6 : Ar W6 D6 SA 1 ((sgI ls i k).map inE) := by rw [hD6]; exact hq.ar (inE_ne _) (SatW.lts hW)
      have r4 := q4.trans (hS6.mono q5)
      have r5 : ∀ k, base w k → D6 k := fun k hk => hDD k (q5 k hk)
      have r6 := q6.move hS6 hDD
      have r7 := fun v hv => (q7 v hv).move hS6 hDD
      have b6 := b5.move hS6 hDD
      have p6 := p5.move hS6 hDD
      clear hq hW hB6 hW6 q4 q5 q6 q7 b5 p5 hS6 hDD hD6
      repeat (first | refine r_buildSlice rfl rfl rfl rfl rfl rfl (by rfl) (fun _ => ?_) )
      refine r_append (m := 1) (ys := [.slice SA (sgI ls i k).length sc]) rfl rfl rfl rfl rfl rfl (news_own (by repeat (first | exact List.Mem.head _ | apply List.Mem.tail))) (by repeat (first | exact Rem.head | apply Rem.tail)) g1 rfl rfl (by decide) (by omega) (by unfold maxLen; omega) (fun bo' co' ro' hgo => ?_)
      have hfl : flatV (vs ++ [⟨SA, sc, sgI ls i k⟩]) = flatV vs ++ [.slice SA (sgI ls i k).length sc] := flatV_snoc _ _
      rw [← hfl] at hgo ⊢
      have hget : (flatV (vs ++ [⟨SA, sc, sgI ls i k⟩]) ++ ro')[i]? = some (.slice SA (sgI ls i k).length sc) := flatV_get (v := ⟨SA, sc, sgI ls i k⟩) (by rw [List.getElem?_append_right (Nat.le_of_eq i2), i2, Nat.sub_self]; rfl)
      repeat (first | refine l_val rfl rfl (by first | exact pureEval_ok rfl | exact v_index rfl rfl rfl rfl (by omega) (by omega) (by with_reducible first | exact idx1 _  ) | exact v_load_at rfl (by repeat (first | exact List.Mem.head _ | apply List.Mem.tail)) rfl rfl (by first | assumption ) ) ?_ | refine l_nil ?_ | refine c_region ?_ | refine c_seq ?_ | refine x_then ?_ )
      have hat : besF (cds x) k (prI ls i) = atV ls k i := by rw [← hlx]; rfl
      have hbes : ∀ (mem : List (Nat × Obj)) (W : World), SatW W6 D6 noJ mem W → Calls Try.prog 39 ⟨[.slice P (prI ls i).length pcp, .slice LA (cds x).length lc, .int .i64 k]⟩ W fun e w' => e = .returned (.int .i64 (atV ls k i)) ∧ Below W.heap.size W w' := fun mem W hW => by
        have h := rbeside_calls (prI ls i) (cds x) k P LA pcp lc W (by rw [← hlx]; exact hps) hpl (by omega) (by omega) (p6.at hW) (b6.at hW)
        rw [hat] at h
        exact h
      refine r_call rfl rfl rfl (fun W hW => hbes _ W hW) ?_
      repeat (first | refine r_buildSlice rfl rfl rfl rfl rfl rfl (by rfl) (fun _ => ?_) )
      refine r_append (m := 1) (ys := [.int .i64 (atV ls k i)]) rfl rfl rfl rfl rfl rfl (news_own (by repeat (first | exact List.Mem.head _ | apply List.Mem.tail))) (by repeat (first | exact Rem.head | apply Rem.tail)) g2 rfl rfl (by decide) (by omega) (by unfold maxLen; omega) (fun ba' ca' ra' hga => ?_)
      have hfa : flatI (atL ls k (i + 1)) = flatI (atL ls k i) ++ [.int .i64 (atV ls k i)] := by rw [atL_succ, flatI_snoc]
      rw [← hfa] at hga ⊢
      repeat (first | refine l_val rfl rfl (by first | exact v_add rfl rfl (by omega) (by omega) | exact pureEval_ok rfl ) ?_ | refine l_nil ?_ | refine c_region ?_ | refine x_then ?_ | refine x_block ?_ )
      refine x_backW fun a0 W ha hmm => ?_
      have hm1 := hmm.mono (mem' := (ba', Obj.cells ⟨flatI (atL ls k (i + 1)) ++ ra'⟩ 3 (0, 0)) :: (bo', .cells ⟨flatV (vs ++ [⟨SA, sc, sgI ls i k⟩]) ++ ro'⟩ 42 (0, 0)) :: l5) (MSub.sub (.keep rfl (.drop (.keep rfl (.drop (MSub.refl _))))))
      have hm2 := hm1.perm (List.Perm.swap _ _ _)
      have hDD : ∀ b, D6 b → S1.D ls k l5 ⟨i + 1, W, .more bo' co' ro' ba' ca' ra', vs ++ [⟨SA, sc, sgI ls i k⟩]⟩ b := hm2.allBut (MSub.refl _)
      refine ⟨⟨i + 1, W, .more bo' co' ro' ba' ca' ra', vs ++ [⟨SA, sc, sgI ls i k⟩]⟩, ⟨by simp only; omega, by simp only [List.length_append, i2, List.length_cons, List.length_nil], by simp only; rw [List.map_append, i3, List.range_succ, List.map_append]; rfl, r4.trans (hmm.same.mono r5), fun b hb => hDD b (r5 b hb), r6.move hmm.same hDD, fun v hv => ?_, ⟨by simp, hgo, hga⟩⟩, by simp only; omega,
        (show EnvSub _ [(0, .slice (some ⟨bA, oA, none⟩) ws.length cap), (2, .slice none 0 0), (3, .int .i64 0), (5, .slice TA m tc), (6, .slice (some ⟨bt, 0, none⟩) ws.length ws.length), (7, .int .i64 k), (8, .int .i64 (wdI ls (i + 1) k : Nat)), (9, .slice (some ⟨bo', 0, none⟩) (i + 1) co'), (10, .slice (some ⟨ba', 0, none⟩) (i + 1) ca'), (11, .int .i64 ((i + 1 : Nat) : Int))] from (by repeat (first | exact EnvSub.nil | refine EnvSub.cons rfl (by first | rfl | (congr 1; done) | (exact congrArg (Value.int _) (by omega)) | (simp; done)) ?_))).sat ha, hm2.fresh0 (MSub.refl _)⟩
      rcases List.mem_append.1 hv with hv | hv
      · exact (r7 v hv).move hmm.same hDD
      · rw [List.mem_singleton.1 hv]; exact s6.move hmm.same hDD
  have hie : i = ws.length := by omega
  subst hie
  rcases o with _ | ⟨bo, co, ro, ba, ca, ra⟩
  · exact absurd (show ws.length = 0 from i8) (by omega)
  obtain ⟨-, g1, g2⟩ := i8
  have hwdk : wdI ls ws.length k = wd ls k := by unfold wd; rw [hlsl]
  rw [hwdk, ← hl5, ← mix_0 (ls := ls) (k := k)]
  unfold tops
  simp only [O2.sv, O2.sw, O2.mem, List.nil_append, List.cons_append]
  clear hlt i1 hD3
  repeat (first | refine l_val rfl rfl (by first | exact pureEval_ok rfl ) ?_ | refine l_nil ?_ | refine c_region ?_ | refine c_seq ?_ | refine x_then ?_ | refine c_dec_f rfl (by first | omega ) ?_ | refine c_block ?_ | refine c_exit ?_ | refine x_then_exit ?_ | refine x_block_same ?_ )
  refine c_loop (ι := Nat × (Nat → RO)) (fun (i, R) => i ≤ ws.length ∧ ∀ j, j < ls.length → (R j).ok (mix ls k i j)) (fun (i, R) => [(0, .slice (some ⟨bA, oA, none⟩) ws.length cap), (2, .slice none 0 0), (3, .int .i64 0), (5, .slice TA m tc), (6, .slice (some ⟨bt, 0, none⟩) ws.length ws.length), (7, .int .i64 k), (8, .int .i64 (wd ls k : Nat)), (9, .slice (some ⟨bo, 0, none⟩) ws.length co), (10, .slice (some ⟨ba, 0, none⟩) ws.length ca), (16, .int .i64 i)])
    (fun (i, R') => (bo, .cells ⟨flatV vs ++ ro⟩ 42 (0, 0)) :: (ba, .cells ⟨flatI (atL ls k ws.length) ++ ra⟩ 3 (0, 0)) :: (bt, .cells ⟨vec ls.length fun j => (R' j).sv (mix ls k i j)⟩ 42 (0, 0)) :: rowsM ls.length R' (mix ls k i)) (fun (i, R) => ws.length - i) (0, R) ⟨Nat.zero_le _, fun j hj => by rw [mix_0]; exact k5 j hj⟩ (by repeat (first | exact EnvSub.nil | refine EnvSub.cons rfl (by first | rfl | (congr 1; done) | (exact congrArg (Value.int _) (by omega)) | (simp; done)) ?_)) (MSub.refl _) ?_
  rintro ⟨i, R'⟩ ⟨u1, u2⟩
  simp only at u1 u2 ⊢
  clear k5 hl5
  by_cases hlt : i < ws.length
  rotate_left
  · have hie : i = ws.length := by omega
    subst hie
    repeat (first | refine l_val rfl rfl (by first | exact v_add rfl rfl (by omega) (by omega) | exact pureEval_ok rfl ) ?_ | refine l_nil ?_ | refine c_region ?_ | refine c_seq ?_ | refine x_then ?_ | refine c_dec_f rfl (by first | omega ) ?_ | refine c_exit ?_ | refine x_then_exit ?_ | refine x_block ?_ | refine x_block_same ?_ )
    refine x_backW fun a0 W ha hmm => ?_
    have hm1 := hmm.mono (mem' := tops ls bt ls.length R' (mix ls k ws.length)) (MSub.sub (.drop (.drop (MSub.refl _))))
    have hT : tops ls bt ls.length R' (mix ls k ws.length) = S0.mem ls bt ⟨k + 1, W, R'⟩ := by rw [← hlsl]; exact tops_end
    rw [hT] at hm1
    have hDD : ∀ b, D b → S0.D ls bt ⟨k + 1, W, R'⟩ b := hm1.allBut (MSub.refl _)
    exact ⟨⟨k + 1, W, R'⟩, ⟨by simp only; omega, i4.trans (hmm.same.mono i5), fun b hb => hDD b (i5 b hb), i6.move hmm.same hDD, fun j hj => by have := u2 j hj; rw [mix_end (by omega)] at this; exact this⟩, by simp only; omega,
      (show EnvSub _ [(0, .slice (some ⟨bA, oA, none⟩) ws.length cap), (2, .slice none 0 0), (3, .int .i64 0), (5, .slice TA m tc), (6, .slice (some ⟨bt, 0, none⟩) ws.length ws.length), (7, .int .i64 ((k + 1 : Nat) : Int))] from (by repeat (first | exact EnvSub.nil | refine EnvSub.cons rfl (by first | rfl | (congr 1; done) | (exact congrArg (Value.int _) (by omega)) | (simp; done)) ?_))).sat ha, hm1.fresh0 (MSub.refl _)⟩
  obtain ⟨v, hv⟩ : ∃ v, vs[i]? = some v := ⟨_, List.getElem?_eq_getElem (by omega)⟩
  have hvl : v.l = sgI ls i k := by
    have h := congrArg (fun l : List (List Int) => l[i]?) i3
    simp only [List.getElem?_map, hv, List.getElem?_range hlt, Option.map_some, Option.some.injEq] at h
    exact h
  have hvA := i7 v (List.mem_of_getElem? hv)
  have hgt : (flatV vs ++ ro)[i]? = some (.slice v.A v.l.length v.cap) := flatV_get hv
  have hga : (flatI (atL ls k ws.length) ++ ra)[i]? = some (.int .i64 (atV ls k i)) := atL_get hlt
  have hui := u2 i (by omega)
  rw [mix_at] at hui
  have hgr : (vec ls.length fun j => (R' j).sv (mix ls k i j))[i]? = some ((R' i).sv (stg ls i k)) := by rw [vec_get (by omega), mix_at]
  obtain ⟨pad, hpad⟩ : ∃ p, padL (sgI ls i k) (wd ls k) = p := ⟨_, rfl⟩
  have hpl : pad.length = wd ls k := by rw [← hpad]; exact padL_len (sgI_le (by omega))
  have hwb : wd ls k ≤ 128 := wdI_len hsh _ k
  have hfill : ∀ (mem : List (Nat × Obj)) (W : World), SatW W3 D noJ mem W → Calls Try.prog 40 ⟨[.slice v.A v.l.length v.cap, .int .i64 (wd ls k : Nat)]⟩ W fun e' W' => ∃ b cap rest, e' = .returned (.slice (some ⟨b, 0, none⟩) pad.length cap) ∧ Grow 1 pad.length (flatI pad) cap rest ∧ Below W.heap.size W W' ∧ W.heap.size ≤ b ∧ W'.heap[b]? = some (.cells ⟨flatI pad ++ rest⟩ 3 (0, 0)) := fun mem W hW => by
    have h := filled_calls v.l (wd ls k) v.A v.cap W (by omega) (by rw [hvl]; exact sgI_le (by omega)) (hvA.at hW)
    rw [show padL v.l (wd ls k) = pad by rw [hvl, hpad]] at h
    exact h
  have hlen := stg_len hsh (j := i) (k := k) (by omega)
  repeat ((fail_if_success refine c_probe (id := 25) ?_); (fail_if_success refine c_probe1 (id := 25) ?_); first | refine l_val rfl rfl (by first | exact pureEval_ok rfl ) ?_ | refine l_nil ?_ | refine c_region ?_ | refine c_seq ?_ | refine x_then ?_ | refine c_dec_t rfl (by first | omega ) ?_ | refine c_block ?_ | refine c_skip ?_ )
  refine c_joinI (ι := RO) (fun r => r.ok (stg ls i k ++ pad)) (fun r => [(0, .slice (some ⟨bA, oA, none⟩) ws.length cap), (2, .slice none 0 0), (3, .int .i64 0), (5, .slice TA m tc), (6, .slice (some ⟨bt, 0, none⟩) ws.length ws.length), (7, .int .i64 k), (8, .int .i64 (wd ls k : Nat)), (9, .slice (some ⟨bo, 0, none⟩) ws.length co), (10, .slice (some ⟨ba, 0, none⟩) ws.length ca), (16, .int .i64 i)]) (fun r => r.mem (stg ls i k ++ pad) ++ ((bo, .cells ⟨flatV vs ++ ro⟩ 42 (0, 0)) :: (ba, .cells ⟨flatI (atL ls k ws.length) ++ ra⟩ 3 (0, 0)) :: (bt, .cells ⟨vec ls.length fun j => if j = i then r.sv (stg ls i k ++ pad) else (R' j).sv (mix ls k i j)⟩ 42 (0, 0)) :: rowsX ls.length i R' (mix ls k i))) ?_ ?_
  · refine c_perm (perm_in _ _ _ (rowsM_perm (i := i) (by omega) R' (mix ls k i))) ?_
    rw [mix_at]
    obtain ⟨r0, hr0⟩ : ∃ r, R' i = r := ⟨_, rfl⟩
    rw [hr0] at hgr hui ⊢
    rcases r0 with _ | ⟨b, c, r⟩
    · have hui : stg ls i k = [] := hui
      have hgr : (vec ls.length fun j => (R' j).sv (mix ls k i j))[i]? = some (.slice none 0 0) := hgr
      rw [hui]
      simp only [RO.mem, List.nil_append]
      rcases pad with _ | ⟨y, ys⟩
      · refine c_new 3 1 [(11, .calA 3 1 0 [] 3), (14, .sto 2 i 1)] [(11,[3]),(14,[2])] [(5,2)] rfl (by decide +kernel) rfl ?_; repeat (first | refine e_val rfl rfl rfl rfl (by first | exact pureEval_ok rfl | exact v_index rfl rfl rfl rfl (by omega) (by omega) (by with_reducible first | exact idx1 _  ) | exact v_load_at rfl (by repeat (first | exact List.Mem.head _ | apply List.Mem.tail)) rfl rfl (by first | assumption ) ) ?_ )
        refine e_callA rfl rfl rfl rfl rfl (by decide) rfl (by decide) rfl (fun W hW => hfill _ W hW) (fun bl lc lr hlg => ?_)
        skip
        refine e_val rfl rfl rfl rfl (v_append0 rfl rfl rfl rfl (Nat.le_refl 0)) ?_
        repeat (first | refine e_val rfl rfl rfl rfl (by first | exact v_index rfl rfl rfl rfl (by omega) (by omega) (by with_reducible first | exact idx1 _  ) ) ?_ )
        refine e_store rfl rfl rfl rfl rfl rfl rfl rfl (by omega) rfl rfl (by rw [vec_length]; omega) (splice_one (by rw [vec_length]; omega) vec_set) ?_
        repeat (first | refine e_nil rfl ?_ )
        exact x_midI .zero rfl (by repeat (first | exact EnvSub.nil | refine EnvSub.cons rfl (by first | rfl | (congr 1; done) | (exact congrArg (Value.int _) (by omega)) | (simp; done)) ?_)) (.keep rfl (.keep rfl (.keep rfl (.drop (MSub.refl _)))))
      · refine c_new 3 2 [(11, .calA 3 1 (y :: ys).length (flatI (y :: ys)) 3), (12, .app 4 none 1), (14, .sto 2 i 1)] [(11,[3]),(12,[4]),(14,[2])] [(5,2),(12,3)] rfl (by decide +kernel) rfl ?_; repeat (first | refine e_val rfl rfl rfl rfl (by first | exact pureEval_ok rfl | exact v_index rfl rfl rfl rfl (by omega) (by omega) (by with_reducible first | exact idx1 _  ) | exact v_load_at rfl (by repeat (first | exact List.Mem.head _ | apply List.Mem.tail)) rfl rfl (by first | assumption ) ) ?_ )
        refine e_callA rfl rfl rfl rfl rfl (by decide) (flatI_len _) (by unfold maxLen; omega) rfl (fun W hW => hfill _ W hW) (fun bl lc lr hlg => ?_)
        skip
        refine e_app0 (xs := flatI (y :: ys)) (n := (y :: ys).length) rfl rfl rfl rfl (by decide) (flatI_len _) (by unfold maxLen; omega) rfl (a_append_nil rfl rfl rfl rfl (news_pre (by repeat (first | exact List.Mem.head _ | apply List.Mem.tail))) (flatI_len _) rfl (by simp) (by omega) (by unfold maxLen; omega)) (fun b' c' r' hg' => ?_)
        repeat (first | refine e_val rfl rfl rfl rfl (by first | exact v_index rfl rfl rfl rfl (by omega) (by omega) (by with_reducible first | exact idx1 _  ) ) ?_ )
        refine e_store rfl rfl rfl rfl rfl rfl rfl rfl (by omega) rfl rfl (by rw [vec_length]; omega) (splice_one (by rw [vec_length]; omega) vec_set) ?_
        repeat (first | refine e_nil rfl ?_ )
        refine x_perm (perm4 _ _ _ _ _ _) ?_
        exact x_midI (.more b' c' r') hg' (by repeat (first | exact EnvSub.nil | refine EnvSub.cons rfl (by first | rfl | (congr 1; done) | (exact congrArg (Value.int _) (by omega)) | (simp; done)) ?_)) (.keep rfl (.keep rfl (.keep rfl (.keep rfl (.drop (MSub.refl _))))))
    · have hui : Grow 1 (stg ls i k).length (flatI (stg ls i k)) c r := hui
      have hgr : (vec ls.length fun j => (R' j).sv (mix ls k i j))[i]? = some (.slice (some ⟨b, 0, none⟩) (stg ls i k).length c) := hgr
      simp only [RO.mem, List.nil_append, List.cons_append]
      rcases pad with _ | ⟨y, ys⟩
      · refine c_new 4 1 [(11, .calA 4 1 0 [] 3), (14, .sto 3 i 1)] [(11,[4]),(14,[3])] [(5,3)] rfl (by decide +kernel) rfl ?_; repeat (first | refine e_val rfl rfl rfl rfl (by first | exact pureEval_ok rfl | exact v_index rfl rfl rfl rfl (by omega) (by omega) (by with_reducible first | exact idx1 _  ) | exact v_load_at rfl (by repeat (first | exact List.Mem.head _ | apply List.Mem.tail)) rfl rfl (by first | assumption ) ) ?_ )
        refine e_callA rfl rfl rfl rfl rfl (by decide) rfl (by decide) rfl (fun W hW => hfill _ W hW) (fun bl lc lr hlg => ?_)
        skip
        refine e_val rfl rfl rfl rfl (v_append0 rfl rfl rfl rfl hui.le) ?_
        repeat (first | refine e_val rfl rfl rfl rfl (by first | exact v_index rfl rfl rfl rfl (by omega) (by omega) (by with_reducible first | exact idx1 _  ) ) ?_ )
        refine e_store rfl rfl rfl rfl rfl rfl rfl rfl (by omega) rfl rfl (by rw [vec_length]; omega) (splice_one (by rw [vec_length]; omega) vec_set) ?_
        repeat (first | refine e_nil rfl ?_ )
        exact x_midI (.more b c r) (by rw [List.append_nil]; exact hui) (by repeat (first | exact EnvSub.nil | refine EnvSub.cons rfl (by first | rfl | (congr 1; done) | (exact congrArg (Value.int _) (by omega)) | (simp; done)) ?_)) (.keep (by rw [List.append_nil]) (.keep rfl (.keep rfl (.keep (by rw [List.append_nil]; rfl) (.drop (MSub.refl _))))))
      · have hla : (stg ls i k).length + (y :: ys).length = (stg ls i k ++ (y :: ys)).length := by rw [List.length_append]
        refine c_new 4 2 [(11, .calA 4 1 (y :: ys).length (flatI (y :: ys)) 3), (12, .app 5 (some 0) 1), (14, .sto 3 i 1)] [(11,[4]),(12,[5,0]),(14,[3])] [(5,3),(12,4),(12,0)] rfl (by decide +kernel) rfl ?_; repeat (first | refine e_val rfl rfl rfl rfl (by first | exact pureEval_ok rfl | exact v_index rfl rfl rfl rfl (by omega) (by omega) (by with_reducible first | exact idx1 _  ) | exact v_load_at rfl (by repeat (first | exact List.Mem.head _ | apply List.Mem.tail)) rfl rfl (by first | assumption ) ) ?_ )
        refine e_callA rfl rfl rfl rfl rfl (by decide) (flatI_len _) (by unfold maxLen; omega) rfl (fun W hW => hfill _ W hW) (fun bl lc lr hlg => ?_)
        skip
        refine e_app (xs := flatI (stg ls i k) ++ flatI (y :: ys)) (n := (stg ls i k ++ (y :: ys)).length) rfl rfl rfl rfl rfl (by decide) (by rw [← flatI_app]; exact flatI_len _) (by unfold maxLen; omega) rfl (a_append rfl rfl rfl rfl (news_pre (by repeat (first | exact List.Mem.head _ | apply List.Mem.tail))) (by repeat (first | exact List.Mem.head _ | apply List.Mem.tail)) hui (flatI_len _) (allOne_mem (flatI_one _)) rfl hla (by omega) (by unfold maxLen; omega)) (fun b' c' r' hg' => ?_)
        repeat (first | refine e_val rfl rfl rfl rfl (by first | exact v_index rfl rfl rfl rfl (by omega) (by omega) (by with_reducible first | exact idx1 _  ) ) ?_ )
        refine e_store rfl rfl rfl rfl rfl rfl rfl rfl (by omega) rfl rfl (by rw [vec_length]; omega) (splice_one (by rw [vec_length]; omega) vec_set) ?_
        repeat (first | refine e_nil rfl ?_ )
        refine x_perm (perm4 _ _ _ _ _ _) ?_
        exact x_midI (.more b' c' r') (by rw [← flatI_app] at hg'; exact hg') (by repeat (first | exact EnvSub.nil | refine EnvSub.cons rfl (by first | rfl | (congr 1; done) | (exact congrArg (Value.int _) (by omega)) | (simp; done)) ?_)) (.keep (by rw [flatI_app]) (.keep rfl (.keep rfl (.keep rfl (.drop (MSub.refl _))))))
  intro r1 hr1
  obtain ⟨l1, hl1⟩ : ∃ l, stg ls i k ++ pad = l := ⟨_, rfl⟩
  have hl1b : l1.length ≤ 20128 := by rw [← hl1, List.length_append]; omega
  rw [hl1] at hr1 ⊢
  clear hfill hgr hui hvA hgt
  by_cases hkm2 : k < m
  rotate_left
  · have hst : stg ls i (k + 1) = l1 := by rw [stg_last (by omega), hpad, hl1]
    repeat (first | refine l_val rfl rfl (by first | exact v_add rfl rfl (by omega) (by omega) | exact pureEval_ok rfl ) ?_ | refine l_nil ?_ | refine c_region ?_ | refine c_seq ?_ | refine x_then ?_ | refine l_skip rfl rfl ?_ | refine c_false rfl ?_ | refine c_skip ?_ | refine x_block ?_ | refine l_dec_f rfl rfl rfl rfl rfl (by first | omega ) ?_ )
    refine x_perm (back_perm (by omega) hst) ?_
    exact x_back (i + 1, updR R' i r1) ⟨hlt, rok_upd u2 (by rw [hst]; exact hr1)⟩ (by simp only; omega) (by repeat (first | exact EnvSub.nil | refine EnvSub.cons rfl (by first | rfl | (congr 1; done) | (exact congrArg (Value.int _) (by omega)) | (simp; done)) ?_)) (MSub.refl _)
  by_cases hi0 : i = 0
  · obtain ⟨t, ht⟩ : ∃ t, (txt ls)[k]? = some t := ⟨_, List.getElem?_eq_getElem (by omega)⟩
    have htp : tpI ls i k = t := by rw [hi0, tpI_0, List.getD_eq_getElem?_getD, ht]; rfl
    have hst : stg ls i (k + 1) = l1 ++ [t] := by rw [stg_mid (by omega), hpad, hl1, htp]
    obtain ⟨bT, oT, hTA, gT⟩ := i6.get ht
    rw [Nat.mul_one] at gT
    rw [hTA]
    rcases r1 with _ | ⟨b, c, r⟩
    · have hr1 : l1 = [] := hr1
      subst hr1
      have hgr : (vec ls.length fun j => if j = i then RO.zero.sv [] else (R' j).sv (mix ls k i j))[i]? = some (.slice none 0 0) := by rw [vec_get (by omega), if_pos rfl]; rfl
      simp only [RO.mem, List.nil_append]
      repeat ((fail_if_success refine c_probe (id := 27) ?_); (fail_if_success refine c_probe1 (id := 27) ?_); first | refine l_val rfl rfl (by first | exact pureEval_ok rfl ) ?_ | refine l_nil ?_ | refine c_region ?_ | refine c_seq ?_ | refine x_then ?_ | refine c_dec_t rfl (by first | omega ) ?_ | refine l_dec_t rfl rfl rfl rfl rfl (by first | omega ) ?_ )
      refine c_new 3 2 [(10, .new 3), (11, .app 4 none 1), (13, .sto 2 i 1)] [(10,[3]),(11,[4]),(13,[2])] [(5,2),(11,3)] rfl (by decide +kernel) rfl ?_; repeat (first | refine e_val rfl rfl rfl rfl (by first | exact pureEval_ok rfl | exact v_load_ext0 rfl (by assumption) rfl (by rfl) | exact v_index rfl rfl rfl rfl (by omega) (by omega) (by with_reducible first | exact idx1 _  | exact idx2 _ _  ) | exact v_load_at rfl (by repeat (first | exact List.Mem.head _ | apply List.Mem.tail)) rfl rfl (by first | assumption ) ) ?_ | refine e_new rfl rfl rfl rfl (by first | exact n_buildSlice rfl rfl rfl rfl (by rfl) ) (fun _ => ?_) )
      refine e_app0 (xs := [.int .i64 t]) (n := 1) rfl rfl rfl rfl (by decide) rfl (by decide) rfl (a_append_nil rfl rfl rfl rfl (news_own (by repeat (first | exact List.Mem.head _ | apply List.Mem.tail))) rfl rfl (by decide) (by decide) (by decide)) (fun b' c' r' hg' => ?_)
      repeat (first | refine e_val rfl rfl rfl rfl (by first | exact v_index rfl rfl rfl rfl (by omega) (by omega) (by with_reducible first | exact idx1 _  ) ) ?_ )
      refine e_store rfl rfl rfl rfl rfl rfl rfl rfl (by omega) rfl rfl (by rw [vec_length]; omega) (splice_one (by rw [vec_length]; omega) vec_set) ?_
      repeat (first | refine l_val rfl rfl (by first | exact v_add rfl rfl (by omega) (by omega) | exact pureEval_ok rfl ) ?_ | refine l_nil ?_ | refine c_region ?_ | refine c_seq ?_ | refine x_then ?_ | refine c_dec_f rfl (by first | omega ) ?_ | refine c_skip ?_ | refine x_block ?_ | refine l_dec_t rfl rfl rfl rfl rfl (by first | omega ) ?_ | refine e_nil rfl ?_ )
      refine x_perm (perm4 _ _ _ _ _ _) ?_
      refine x_drop (mem' := RO.mem ([] ++ [t]) (.more b' c' r') ++ ((bo, .cells ⟨flatV vs ++ ro⟩ 42 (0, 0)) :: (ba, .cells ⟨flatI (atL ls k ws.length) ++ ra⟩ 3 (0, 0)) :: (bt, .cells ⟨vec ls.length fun j => if j = i then (RO.more b' c' r').sv ([] ++ [t]) else (R' j).sv (mix ls k i j)⟩ 42 (0, 0)) :: rowsX ls.length i R' (mix ls k i))) (.keep rfl (.keep rfl (.keep rfl (.keep (svs_two _) (.drop (MSub.refl _)))))) ?_
      refine x_perm (back_perm (by omega) hst) ?_
      exact x_back (i + 1, updR R' i (.more b' c' r')) ⟨hlt, rok_upd u2 (by rw [hst]; exact hg')⟩ (by simp only; omega) (by repeat (first | exact EnvSub.nil | refine EnvSub.cons rfl (by first | rfl | (congr 1; done) | (exact congrArg (Value.int _) (by omega)) | (simp; done)) ?_)) (MSub.refl _)
    · have hr1 : Grow 1 l1.length (flatI l1) c r := hr1
      have hgr : (vec ls.length fun j => if j = i then (RO.more b c r).sv l1 else (R' j).sv (mix ls k i j))[i]? = some (.slice (some ⟨b, 0, none⟩) l1.length c) := by rw [vec_get (by omega), if_pos rfl]; rfl
      have hla : l1.length + 1 = (l1 ++ [t]).length := by rw [List.length_append]; rfl
      simp only [RO.mem, List.nil_append, List.cons_append]
      repeat ((fail_if_success refine c_probe (id := 27) ?_); (fail_if_success refine c_probe1 (id := 27) ?_); first | refine l_val rfl rfl (by first | exact pureEval_ok rfl ) ?_ | refine l_nil ?_ | refine c_region ?_ | refine c_seq ?_ | refine x_then ?_ | refine c_dec_t rfl (by first | omega ) ?_ | refine l_dec_t rfl rfl rfl rfl rfl (by first | omega ) ?_ )
      refine c_new 4 2 [(10, .new 4), (11, .app 5 (some 0) 1), (13, .sto 3 i 1)] [(10,[4]),(11,[5,0]),(13,[3])] [(5,3),(11,4),(11,0)] rfl (by decide +kernel) rfl ?_; repeat (first | refine e_val rfl rfl rfl rfl (by first | exact pureEval_ok rfl | exact v_load_ext0 rfl (by assumption) rfl (by rfl) | exact v_index rfl rfl rfl rfl (by omega) (by omega) (by with_reducible first | exact idx1 _  | exact idx2 _ _  ) | exact v_load_at rfl (by repeat (first | exact List.Mem.head _ | apply List.Mem.tail)) rfl rfl (by first | assumption ) ) ?_ | refine e_new rfl rfl rfl rfl (by first | exact n_buildSlice rfl rfl rfl rfl (by rfl) ) (fun _ => ?_) )
      refine e_app (xs := flatI l1 ++ [.int .i64 t]) (n := (l1 ++ [t]).length) rfl rfl rfl rfl rfl (by decide) (by rw [← flatI_snoc]; exact flatI_len _) (by unfold maxLen; omega) rfl (a_append rfl rfl rfl rfl (news_own (by repeat (first | exact List.Mem.head _ | apply List.Mem.tail))) (by repeat (first | exact List.Mem.head _ | apply List.Mem.tail)) hr1 rfl (allOne_mem rfl) rfl hla (by omega) (by unfold maxLen; omega)) (fun b' c' r' hg' => ?_)
      repeat (first | refine e_val rfl rfl rfl rfl (by first | exact v_index rfl rfl rfl rfl (by omega) (by omega) (by with_reducible first | exact idx1 _  ) ) ?_ )
      refine e_store rfl rfl rfl rfl rfl rfl rfl rfl (by omega) rfl rfl (by rw [vec_length]; omega) (splice_one (by rw [vec_length]; omega) vec_set) ?_
      repeat (first | refine l_val rfl rfl (by first | exact v_add rfl rfl (by omega) (by omega) | exact pureEval_ok rfl ) ?_ | refine l_nil ?_ | refine c_region ?_ | refine c_seq ?_ | refine x_then ?_ | refine c_dec_f rfl (by first | omega ) ?_ | refine c_skip ?_ | refine x_block ?_ | refine l_dec_t rfl rfl rfl rfl rfl (by first | omega ) ?_ | refine e_nil rfl ?_ )
      refine x_perm (perm4 _ _ _ _ _ _) ?_
      refine x_drop (mem' := RO.mem (l1 ++ [t]) (.more b' c' r') ++ ((bo, .cells ⟨flatV vs ++ ro⟩ 42 (0, 0)) :: (ba, .cells ⟨flatI (atL ls k ws.length) ++ ra⟩ 3 (0, 0)) :: (bt, .cells ⟨vec ls.length fun j => if j = i then (RO.more b' c' r').sv (l1 ++ [t]) else (R' j).sv (mix ls k i j)⟩ 42 (0, 0)) :: rowsX ls.length i R' (mix ls k i))) (.keep (by rw [flatI_snoc]) (.keep rfl (.keep rfl (.keep (svs_two _) (.drop (MSub.refl _)))))) ?_
      refine x_perm (back_perm (by omega) hst) ?_
      exact x_back (i + 1, updR R' i (.more b' c' r')) ⟨hlt, rok_upd u2 (by rw [hst]; rw [← flatI_snoc] at hg'; exact hg')⟩ (by simp only; omega) (by repeat (first | exact EnvSub.nil | refine EnvSub.cons rfl (by first | rfl | (congr 1; done) | (exact congrArg (Value.int _) (by omega)) | (simp; done)) ?_)) (MSub.refl _)
  · have htp : tpI ls i k = atV ls k i := (tpI_ref hi0 k).symm
    have hst : stg ls i (k + 1) = l1 ++ [atV ls k i] := by rw [stg_mid (by omega), hpad, hl1, htp]
    rcases r1 with _ | ⟨b, c, r⟩
    · have hr1 : l1 = [] := hr1
      subst hr1
      have hgr : (vec ls.length fun j => if j = i then RO.zero.sv [] else (R' j).sv (mix ls k i j))[i]? = some (.slice none 0 0) := by rw [vec_get (by omega), if_pos rfl]; rfl
      simp only [RO.mem, List.nil_append]
      repeat ((fail_if_success refine c_probe (id := 29) ?_); (fail_if_success refine c_probe1 (id := 29) ?_); first | refine l_val rfl rfl (by first | exact pureEval_ok rfl ) ?_ | refine l_nil ?_ | refine c_region ?_ | refine c_seq ?_ | refine x_then ?_ | refine c_dec_t rfl (by first | omega ) ?_ | refine c_dec_f rfl (by first | omega ) ?_ | refine c_skip ?_ | refine l_dec_t rfl rfl rfl rfl rfl (by first | omega ) ?_ )
      refine c_new 3 2 [(10, .new 3), (11, .app 4 none 1), (13, .sto 2 i 1)] [(10,[3]),(11,[4]),(13,[2])] [(5,2),(11,3)] rfl (by decide +kernel) rfl ?_; repeat (first | refine e_val rfl rfl rfl rfl (by first | exact pureEval_ok rfl | exact v_index rfl rfl rfl rfl (by omega) (by omega) (by with_reducible first | exact idx1 _  ) | exact v_load_at rfl (by repeat (first | exact List.Mem.head _ | apply List.Mem.tail)) rfl rfl (by first | assumption ) ) ?_ | refine e_new rfl rfl rfl rfl (by first | exact n_buildSlice rfl rfl rfl rfl (by rfl) ) (fun _ => ?_) )
      refine e_app0 (xs := [.int .i64 (atV ls k i)]) (n := 1) rfl rfl rfl rfl (by decide) rfl (by decide) rfl (a_append_nil rfl rfl rfl rfl (news_own (by repeat (first | exact List.Mem.head _ | apply List.Mem.tail))) rfl rfl (by decide) (by decide) (by decide)) (fun b' c' r' hg' => ?_)
      repeat (first | refine e_val rfl rfl rfl rfl (by first | exact v_index rfl rfl rfl rfl (by omega) (by omega) (by with_reducible first | exact idx1 _  ) ) ?_ )
      refine e_store rfl rfl rfl rfl rfl rfl rfl rfl (by omega) rfl rfl (by rw [vec_length]; omega) (splice_one (by rw [vec_length]; omega) vec_set) ?_
      repeat (first | refine l_val rfl rfl (by first | exact v_add rfl rfl (by omega) (by omega) | exact pureEval_ok rfl ) ?_ | refine l_nil ?_ | refine c_region ?_ | refine x_then ?_ | refine x_block ?_ | refine e_nil rfl ?_ )
      refine x_perm (perm4 _ _ _ _ _ _) ?_
      refine x_drop (mem' := RO.mem ([] ++ [(atV ls k i)]) (.more b' c' r') ++ ((bo, .cells ⟨flatV vs ++ ro⟩ 42 (0, 0)) :: (ba, .cells ⟨flatI (atL ls k ws.length) ++ ra⟩ 3 (0, 0)) :: (bt, .cells ⟨vec ls.length fun j => if j = i then (RO.more b' c' r').sv ([] ++ [(atV ls k i)]) else (R' j).sv (mix ls k i j)⟩ 42 (0, 0)) :: rowsX ls.length i R' (mix ls k i))) (.keep rfl (.keep rfl (.keep rfl (.keep (svs_two _) (.drop (MSub.refl _)))))) ?_
      refine x_perm (back_perm (by omega) hst) ?_
      exact x_back (i + 1, updR R' i (.more b' c' r')) ⟨hlt, rok_upd u2 (by rw [hst]; exact hg')⟩ (by simp only; omega) (by repeat (first | exact EnvSub.nil | refine EnvSub.cons rfl (by first | rfl | (congr 1; done) | (exact congrArg (Value.int _) (by omega)) | (simp; done)) ?_)) (MSub.refl _)
    · have hr1 : Grow 1 l1.length (flatI l1) c r := hr1
      have hgr : (vec ls.length fun j => if j = i then (RO.more b c r).sv l1 else (R' j).sv (mix ls k i j))[i]? = some (.slice (some ⟨b, 0, none⟩) l1.length c) := by rw [vec_get (by omega), if_pos rfl]; rfl
      have hla : l1.length + 1 = (l1 ++ [(atV ls k i)]).length := by rw [List.length_append]; rfl
      simp only [RO.mem, List.nil_append, List.cons_append]
      repeat ((fail_if_success refine c_probe (id := 29) ?_); (fail_if_success refine c_probe1 (id := 29) ?_); first | refine l_val rfl rfl (by first | exact pureEval_ok rfl ) ?_ | refine l_nil ?_ | refine c_region ?_ | refine c_seq ?_ | refine x_then ?_ | refine c_dec_t rfl (by first | omega ) ?_ | refine c_dec_f rfl (by first | omega ) ?_ | refine c_skip ?_ | refine l_dec_t rfl rfl rfl rfl rfl (by first | omega ) ?_ )
      refine c_new 4 2 [(10, .new 4), (11, .app 5 (some 0) 1), (13, .sto 3 i 1)] [(10,[4]),(11,[5,0]),(13,[3])] [(5,3),(11,4),(11,0)] rfl (by decide +kernel) rfl ?_; repeat (first | refine e_val rfl rfl rfl rfl (by first | exact pureEval_ok rfl | exact v_index rfl rfl rfl rfl (by omega) (by omega) (by with_reducible first | exact idx1 _  ) | exact v_load_at rfl (by repeat (first | exact List.Mem.head _ | apply List.Mem.tail)) rfl rfl (by first | assumption ) ) ?_ | refine e_new rfl rfl rfl rfl (by first | exact n_buildSlice rfl rfl rfl rfl (by rfl) ) (fun _ => ?_) )
      refine e_app (xs := flatI l1 ++ [.int .i64 (atV ls k i)]) (n := (l1 ++ [(atV ls k i)]).length) rfl rfl rfl rfl rfl (by decide) (by rw [← flatI_snoc]; exact flatI_len _) (by unfold maxLen; omega) rfl (a_append rfl rfl rfl rfl (news_own (by repeat (first | exact List.Mem.head _ | apply List.Mem.tail))) (by repeat (first | exact List.Mem.head _ | apply List.Mem.tail)) hr1 rfl (allOne_mem rfl) rfl hla (by omega) (by unfold maxLen; omega)) (fun b' c' r' hg' => ?_)
      repeat (first | refine e_val rfl rfl rfl rfl (by first | exact v_index rfl rfl rfl rfl (by omega) (by omega) (by with_reducible first | exact idx1 _  ) ) ?_ )
      refine e_store rfl rfl rfl rfl rfl rfl rfl rfl (by omega) rfl rfl (by rw [vec_length]; omega) (splice_one (by rw [vec_length]; omega) vec_set) ?_
      repeat (first | refine l_val rfl rfl (by first | exact v_add rfl rfl (by omega) (by omega) | exact pureEval_ok rfl ) ?_ | refine l_nil ?_ | refine c_region ?_ | refine x_then ?_ | refine x_block ?_ | refine e_nil rfl ?_ )
      refine x_perm (perm4 _ _ _ _ _ _) ?_
      refine x_drop (mem' := RO.mem (l1 ++ [(atV ls k i)]) (.more b' c' r') ++ ((bo, .cells ⟨flatV vs ++ ro⟩ 42 (0, 0)) :: (ba, .cells ⟨flatI (atL ls k ws.length) ++ ra⟩ 3 (0, 0)) :: (bt, .cells ⟨vec ls.length fun j => if j = i then (RO.more b' c' r').sv (l1 ++ [(atV ls k i)]) else (R' j).sv (mix ls k i j)⟩ 42 (0, 0)) :: rowsX ls.length i R' (mix ls k i))) (.keep (by rw [flatI_snoc]) (.keep rfl (.keep rfl (.keep (svs_two _) (.drop (MSub.refl _)))))) ?_
      refine x_perm (back_perm (by omega) hst) ?_
      exact x_back (i + 1, updR R' i (.more b' c' r')) ⟨hlt, rok_upd u2 (by rw [hst]; rw [← flatI_snoc] at hg'; exact hg')⟩ (by simp only; omega) (by repeat (first | exact EnvSub.nil | refine EnvSub.cons rfl (by first | rfl | (congr 1; done) | (exact congrArg (Value.int _) (by omega)) | (simp; done)) ?_)) (MSub.refl _)
end R41
end Go.Proofs

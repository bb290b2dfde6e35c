/- Collating: rows are the codes of the witnesses, and cost as much as Pair says. Printed by gen_rows.py. -/
import Derived.Test.YtobiefdkpiognaaClV
import Derived.Test.YtobiefdkpiognaaClTc
set_option linter.unusedSectionVars false
set_option linter.unusedVariables false
set_option linter.unusedSimpArgs false
namespace Go.Proofs
open Go.RowKit Go.Kin Go.Kin.Cl
namespace R41
theorem witB_each {last : Int} {x : Wi} (h0 : 0 ≤ last) (h : witB last x = true) : chkW [x] = if 64 < x.rs.length then 2 else 0 := by
  by_cases h64 : 64 < x.rs.length
  · rw [if_pos h64]; exact chkW_l (List.mem_singleton.2 rfl) h64
  rw [if_neg h64, chkW_in (by simp) (fun y hy => by rw [List.mem_singleton.1 hy]; omega)]
  unfold witB at h
  rw [Bool.and_eq_true, decide_eq_true_eq] at h
  refine if_pos ?_
  rw [allW, Bool.and_eq_true]
  exact ⟨(witB_yes ⟨by omega, h.1.2.1, h.1.2.2.1, h.1.2.2.2⟩).trans h.2, rfl⟩
theorem allW_each : ∀ {ws : List Wi} {last : Int}, 0 ≤ last → allW last ws = true → ∀ x ∈ ws, ∃ l, 0 ≤ l ∧ witB l x = true
  | [], _, _, _, x, hx => by cases hx
  | y :: l, last, h0, h, x, hx => by
    rw [allW, Bool.and_eq_true] at h
    rcases List.mem_cons.1 hx with rfl | hx
    · exact ⟨last, h0, h.1⟩
    · have h1 := h.1
      unfold witB at h1
      rw [Bool.and_eq_true, decide_eq_true_eq] at h1
      exact allW_each (by omega) h.2 x hx
theorem chk_each {ws : List Wi} (h : chkW ws = 0) {x : Wi} (hx : x ∈ ws) : chkW [x] = 0 := by
  obtain ⟨h1, h2, h3⟩ := chkW_0 h
  obtain ⟨l, h4, h5⟩ := allW_each (Int.le_refl 0) h3 x hx
  rw [witB_each h4 h5, if_neg (by have := h2 x hx; omega)]
theorem fewW_bd {ws : List Wi} (h : fewW ws = true) : ws.length ≤ 100 ∧ ∀ x ∈ ws, x.rs.length ≤ 200 := by
  unfold fewW at h
  rw [Bool.and_eq_true, Bool.and_eq_true, decide_eq_true_eq] at h
  exact ⟨h.1.1, fun x hx => of_decide_eq_true (List.all_eq_true.1 h.1.2 x hx)⟩
theorem tabE_n {ws : List Wi} (h : tabE ws ≠ 0) : tabR ws = [] := by
  refine if_neg fun g => h ?_
  unfold tabE
  rw [if_pos g.1, if_neg g.2.1, if_neg (by omega)]
theorem tabE_0 {ws : List Wi} (h : tabE ws = 0) (h2 : ws ≠ []) : chkW ws = 0 ∧ lociN (lsW ws) ≤ 256 := by
  unfold tabE at h
  by_cases hc : chkW ws = 0
  · rw [if_pos hc, if_neg h2] at h
    refine ⟨hc, ?_⟩
    by_cases g : 256 < lociN (lsW ws)
    · rw [if_pos g] at h; cases h
    · omega
  · rw [if_neg hc] at h; exact absurd h hc
theorem nz_take {l : List Int} {k : Nat} {c : Int} (h : l[k]? = some c) : nz (l.take (k + 1)) = nz (l.take k) ++ (if c ≠ 0 then [c] else []) := by
  rw [List.take_add_one, h, nz_app]
  congr 1
  unfold nz
  by_cases g : c = 0
  · simp [g]
  · simp [g]
theorem cR_take {l l' : List Int} {k : Nat} {x c : Int} (h1 : l[k]? = some x) (h2 : l'[k]? = some c) : cR (l.take (k + 1)) (l'.take (k + 1)) = cR (l.take k) (l'.take k) + lcC x c := by
  have g1 := (List.getElem?_eq_some_iff.1 h1).1
  have g2 := (List.getElem?_eq_some_iff.1 h2).1
  rw [List.take_add_one, List.take_add_one, h1, h2, cR_app (by rw [List.length_take, List.length_take]; omega)]
  show _ + (lcC x c + 0) = _
  omega
theorem lcC_bd (x c : Int) : 0 ≤ lcC x c ∧ lcC x c ≤ 3 := by
  unfold lcC
  have := bes_bd x c
  split
  · exact this
  · split <;> omega
theorem lcC_2 {x c : Int} (h1 : ¬ (x ≠ 0 ∧ c ≠ 0)) (h2 : x ≠ 0 ∨ c ≠ 0) : lcC x c = 2 := by unfold lcC; rw [if_neg h1, if_pos h2]
theorem lcC_0 {x c : Int} (h1 : x = 0) (h2 : c = 0) : lcC x c = 0 := by unfold lcC; rw [if_neg (fun h => h.1 h1), if_neg (fun h => by rcases h with h | h; exact h h1; exact h h2)]
structure R9 where
  i : Nat
  W : World

set_option maxRecDepth 100000 in
set_option maxHeartbeats 80000000 in
theorem collateRows_calls (A : Option Addr) (cap : Nat) (ws : List Wi) (w : World) (hA : Kin.At w A 3 (ws.map wiE)) (hx : ∀ x ∈ ws, WiOK w x) (hl : ws.length ≤ 9223372036854775807) :
    Calls Try.prog 9 ⟨[.slice A ws.length cap]⟩ w fun e w' => e = .returned (.bool true) ∧ Below w.heap.size w w' := by
  refine fun_enter Try.func9 rfl Try.ntmps9 rfl rfl (satW_nil w) ?_
  repeat (first | refine l_val rfl rfl (by first | exact pureEval_ok rfl ) ?_ | refine l_nil ?_ | refine c_region ?_ | refine c_seq ?_ | refine x_then ?_ )
  refine r_call rfl rfl rfl (fun W hW => sane_calls W) ?_
  repeat (first | refine l_val rfl rfl (by first | exact pureEval_ok rfl ) ?_ | refine l_nil ?_ | refine c_region ?_ | refine c_seq ?_ | refine x_then ?_ | refine c_false rfl ?_ | refine c_skip ?_ )
  refine r_call rfl rfl rfl (fun W hW => Few_calls A cap ws W (hA.sat hW) (fun x hxm => (hx x hxm).len)) ?_
  cases hf : fewW ws with
  | false =>
    repeat (first | refine l_val rfl rfl (by first | exact pureEval_ok rfl ) ?_ | refine l_nil ?_ | refine c_region ?_ | refine c_seq ?_ | refine x_then ?_ | refine c_true rfl ?_ | refine c_ret ?_ | refine x_then_ret ?_ )
    exact x_ret rfl rfl (by repeat (first | exact Res.nil | (apply Res.tmp; rfl) | (apply Res.cell; rfl; exact (by repeat (first | exact List.Mem.head _ | apply List.Mem.tail)); rfl; rfl))) rfl (fun W hW => ⟨rfl, hW.below⟩)
  | true =>
  obtain ⟨h100, h200⟩ := fewW_bd hf
  repeat (first | refine l_val rfl rfl (by first | exact pureEval_ok rfl ) ?_ | refine l_nil ?_ | refine c_region ?_ | refine c_seq ?_ | refine x_then ?_ | refine c_false rfl ?_ | refine c_skip ?_ )
  refine l_callF (ι := Option Addr × Nat × List RV) (v := fun q => .tuple ⟨[.slice q.1 q.2.2.length q.2.1, .int .i64 (tabE ws)]⟩) (mem' := []) (fun q W W' => q.2.2.map RV.l = tabR ws ∧ RowsF W W' q.1 q.2.2) rfl rfl rfl (by repeat (first | exact MSub.nil | refine MSub.keep (by first | rfl | assumption) ?_ | refine MSub.drop ?_ | exact MSub.refl _)) (fun W hW => ?_) ?_
  · refine (Table_calls A cap ws W (hA.sat hW) (fun x hxm => (hx x hxm).later hW.below) hl).mono ?_
    rintro e W' ⟨TA, tc, rows, h1, h2, h3, h4⟩
    exact ⟨(TA, tc, rows), h1, h2, h3, h4⟩
  rintro ⟨TA, tc, rows⟩ W W1 hV hB1 hW1 ⟨hr1, hr2⟩
  refine l_gen fun D1 hDe1 => ?_
  simp only at hr1 hr2 ⊢
  have hS1 : Same (base w) w W1 := hW1.same
  have hD1 : ∀ k, base w k → D1 k := by rw [hDe1]; exact hW1.allBut (MSub.refl _)
  have top1 : Ar W1 D1 TA 1 (rows.map rvE) := by rw [hDe1]; exact hr2.top.ar (rvE_ne _) (SatW.lts (mem := []) (hV.mono (List.nil_sublist _)))
  have rws1 : ∀ v ∈ rows, Ar W1 D1 v.A 1 (v.l.map inE) := fun v hv => by rw [hDe1]; exact (hr2.row v hv).ar (inE_ne _) (SatW.lts (mem := []) (hV.mono (List.nil_sublist _)))
  have hlen1 := congrArg List.length hr1
  rw [List.length_map] at hlen1
  clear hV hB1 hr2
  by_cases hE : tabE ws = 0
  rotate_left
  · have hn : rows.length = 0 := by rw [hlen1, tabE_n hE]; rfl
    generalize tabE ws = z at *
    repeat (first | refine l_val rfl rfl (by first | exact pureEval_ok rfl ) ?_ | refine l_nil ?_ | refine c_region ?_ | refine c_seq ?_ | refine x_then ?_ | refine c_dec_t rfl (by first | omega ) ?_ | refine c_ret ?_ | refine x_then_ret ?_ )
    exact x_ret rfl rfl (by repeat (first | exact Res.nil | (apply Res.tmp; rfl) | (apply Res.cell; rfl; exact (by repeat (first | exact List.Mem.head _ | apply List.Mem.tail)); rfl; rfl))) rfl (fun W hW => ⟨by simp [hn], (hS1.trans (hW.same.mono hD1)).base_later⟩)
  rw [hE]
  by_cases hne : ws = []
  · subst hne
    have hn : rows.length = 0 := by rw [hlen1, tab_nil.2]; rfl
    obtain rfl : rows = [] := List.eq_nil_of_length_eq_zero hn
    repeat (first | refine l_val rfl rfl (by first | exact pureEval_ok rfl ) ?_ | refine l_nil ?_ | refine c_region ?_ | refine c_seq ?_ | refine x_then ?_ | refine c_false rfl ?_ | refine c_block ?_ | refine c_skip ?_ )
    refine c_loop (ι := Unit) (fun _ => True) (fun _ => [(3, .slice TA 0 tc), (43, .slice TA 0 tc), (44, .int .i64 0), (45, .int .i64 0)]) (fun _ => []) (fun _ => 0) () trivial (by repeat (first | exact EnvSub.nil | refine EnvSub.cons rfl (by first | rfl | (congr 1; done) | (exact congrArg (Value.int _) (by omega)) | (simp; done)) ?_)) (by repeat (first | exact MSub.nil | refine MSub.keep (by first | rfl | assumption) ?_ | refine MSub.drop ?_ | exact MSub.refl _)) ?_
    intro _ _
    repeat (first | refine l_val rfl rfl (by first | exact pureEval_ok rfl ) ?_ | refine l_nil ?_ | refine c_region ?_ | refine c_seq ?_ | refine x_then ?_ | refine c_true rfl ?_ | refine c_false rfl ?_ | refine c_ret ?_ | refine c_exit ?_ | refine x_then_ret ?_ | refine x_then_exit ?_ | refine x_block_same ?_ )
    exact x_ret rfl rfl (by repeat (first | exact Res.nil | (apply Res.tmp; rfl) | (apply Res.cell; rfl; exact (by repeat (first | exact List.Mem.head _ | apply List.Mem.tail)); rfl; rfl))) rfl (fun W hW => ⟨rfl, (hS1.trans (hW.same.mono hD1)).base_later⟩)
  obtain ⟨hc, hL256⟩ := tabE_0 hE hne
  obtain ⟨-, t2⟩ := tab_ok hc hne hL256
  obtain ⟨ls, hls⟩ : ∃ ls, lsW ws = ls := ⟨_, rfl⟩
  have hlsl : ls.length = ws.length := by rw [← hls]; exact List.length_map ..
  have hli : Hid (∀ i x, ws[i]? = some x → li ls i = cds x) := Lib.hid fun i x h => by rw [← hls]; exact li_lsW h
  have hin : Hid (∀ i x, ws[i]? = some x → (cds x).all isC = true ∧ (∀ c ∈ cds x, c ≠ 0 ∧ -9223372036854775808 ≤ c ∧ c ≤ 9223372036854775807) ∧ (cds x).length ≤ 64) := Lib.hid fun i x h => cds_in hc (List.mem_of_getElem? h)
  have hck : Hid (∀ x ∈ ws, chkW [x] = 0) := Lib.hid fun x h => chk_each hc h
  have hwi : Hid (∀ x ∈ ws, WiOK w x) := Lib.hid hx
  have hpos : 1 ≤ ws.length := by cases ws with | nil => exact absurd rfl hne | cons x l => simp
  have hnz : Hid (∀ i, ∀ c ∈ li ls i, c ≠ 0) := Lib.hid fun i c hcm => by
    cases hwx : ws[i]? with
    | none => rw [← hls, li_out hwx] at hcm; cases hcm
    | some x => rw [hli.out i x hwx] at hcm; exact ((hin.out i x hwx).2.1 c hcm).1
  rw [hls] at t2 hL256
  rw [t2] at hr1
  have hrl : rows.length = ws.length := by rw [hlen1, hls] at *; rw [t2]; simp
  have hrow : Hid (∀ i v, rows[i]? = some v → v.l = rowI ls i) := Lib.hid fun i v hv => by
    have h1 : (rows.map RV.l)[i]? = some v.l := by rw [List.getElem?_map, hv]; rfl
    rw [hr1, List.getElem?_map] at h1
    have hi : i < ws.length := by have := (List.getElem?_eq_some_iff.1 hv).1; omega
    rw [List.getElem?_range hi] at h1
    simpa using h1.symm
  obtain ⟨Lc, hLc⟩ : ∃ Lc, lociN ls = Lc := ⟨_, rfl⟩
  rw [hLc] at hL256
  have hrLen : Hid (∀ i, i < ws.length → (rowI ls i).length = Lc) := Lib.hid fun i hi => by rw [rowI_len (by rw [hlsl]; exact hi), hLc]
  obtain ⟨x0, hx0⟩ : ∃ x0, ws[0]? = some x0 := ⟨_, List.getElem?_eq_getElem hpos⟩
  obtain ⟨v0, hv0⟩ : ∃ v0, rows[0]? = some v0 := ⟨_, List.getElem?_eq_getElem (by omega)⟩
  have htx : txt ls = cds x0 := by rw [← li_0, hli.out 0 x0 hx0]
  have hv0l : v0.l = rowI ls 0 := hrow.out 0 v0 hv0
  have hv0n : v0.l.length = Lc := by rw [hv0l]; exact hrLen.out 0 hpos
  clear hx hr1 hlen1 h200
  obtain ⟨bA, oA, rfl, e0⟩ := ext_at hA hx0
  rw [hDe1] at *
  clear hDe1
  repeat (first | refine l_val rfl rfl (by first | exact pureEval_ok rfl ) ?_ | refine l_nil ?_ | refine c_region ?_ | refine c_seq ?_ | refine x_then ?_ | refine c_false rfl ?_ | refine c_dec_f rfl (by first | omega ) ?_ | refine c_block ?_ | refine c_skip ?_ )
  refine c_loopW (ι := R9) (fun s => s.i ≤ ws.length ∧ Same (base w) w s.W ∧ (∀ k, base w k → allBut s.W [] k) ∧ Ar s.W (allBut s.W []) TA 1 (rows.map rvE) ∧ (∀ v ∈ rows, Ar s.W (allBut s.W []) v.A 1 (v.l.map inE))) (fun _ => []) (fun s => s.W) (fun s => allBut s.W []) (fun _ => noJ)
    (fun s => [(0, .slice (some ⟨bA, oA, none⟩) ws.length cap), (3, .slice TA rows.length tc), (43, .slice TA rows.length tc), (44, .int .i64 rows.length), (45, .int .i64 s.i)]) (fun _ => []) (fun s => ws.length - s.i) (fun a0 W ha hmm => ?_) ?_
  · have hD := hmm.allBut (MSub.refl [])
    exact ⟨⟨0, W⟩, ⟨Nat.zero_le _, hS1.trans (hmm.same.mono hD1), fun k hk => hD k (hD1 k hk), top1.move hmm.same hD, fun v hv => (rws1 v hv).move hmm.same hD⟩, (show EnvSub _ [(0, .slice (some ⟨bA, oA, none⟩) ws.length cap), (3, .slice TA rows.length tc), (43, .slice TA rows.length tc), (44, .int .i64 rows.length), (45, .int .i64 ((0 : Nat) : Int))] from (by repeat (first | exact EnvSub.nil | refine EnvSub.cons rfl (by first | rfl | (congr 1; done) | (exact congrArg (Value.int _) (by omega)) | (simp; done)) ?_))).sat ha, hmm.fresh0 (MSub.refl [])⟩
  rintro ⟨i, W2⟩ ⟨i1, i2, i3, i4, i5⟩
  simp only at i1 i2 i3 i4 i5
  generalize hD2 : allBut W2 [] = D at *
  show RunC _ _ ⟨_, _, [], W2, D, noJ⟩ _ _ [(0, .slice (some ⟨bA, oA, none⟩) ws.length cap), (3, .slice TA rows.length tc), (43, .slice TA rows.length tc), (44, .int .i64 rows.length), (45, .int .i64 i)] []
  obtain ⟨bT, oT, hTA, gT0⟩ := i4.get hv0
  cases hTA
  by_cases hlt : i < ws.length
  rotate_left
  · have hie : i = ws.length := by omega
    subst hie
    clear hlt
    have gT0' : Ext W2 D bT (oT + (0 : Int).toNat * 1) (rvE v0) := gT0
    repeat (first | refine l_val rfl rfl (by first | exact pureEval_ok rfl | exact v_load_ext0 rfl (by assumption) rfl (by rfl) | exact v_index rfl rfl rfl rfl (by omega) (by omega) (by with_reducible first | exact idx6 _ _  ) ) ?_ | refine l_nil ?_ | refine c_region ?_ | refine c_seq ?_ | refine x_then ?_ | refine c_dec_f rfl (by first | omega ) ?_ | refine c_block ?_ | refine c_skip ?_ | refine c_exit ?_ | refine x_then_exit ?_ | refine x_block_same ?_ )
    refine c_loop (ι := Nat) (fun k => k ≤ Lc) (fun k => [(3, .slice (some ⟨bT, oT, none⟩) rows.length tc), (153, .int .i64 Lc), (154, .int .i64 k)]) (fun _ => []) (fun k => Lc - k) 0 (Nat.zero_le _) ?_ (by repeat (first | exact MSub.nil | refine MSub.keep (by first | rfl | assumption) ?_ | refine MSub.drop ?_ | exact MSub.refl _)) ?_
    · rw [hv0n]; exact (by repeat (first | exact EnvSub.nil | refine EnvSub.cons rfl (by first | rfl | (congr 1; done) | (exact congrArg (Value.int _) (by omega)) | (simp; done)) ?_))
    intro k hk
    by_cases hkl : k < Lc
    rotate_left
    · have : k = Lc := by omega
      subst this
      repeat (first | refine l_val rfl rfl (by first | exact pureEval_ok rfl ) ?_ | refine l_nil ?_ | refine c_region ?_ | refine c_seq ?_ | refine x_then ?_ | refine c_dec_f rfl (by first | omega ) ?_ | refine c_ret ?_ | refine c_exit ?_ | refine x_then_exit ?_ | refine x_block_same ?_ )
      exact x_ret rfl rfl (by repeat (first | exact Res.nil | (apply Res.tmp; rfl) | (apply Res.cell; rfl; exact (by repeat (first | exact List.Mem.head _ | apply List.Mem.tail)); rfl; rfl))) rfl (fun W hW => ⟨rfl, (i2.trans (hW.same.mono i3)).base_later⟩)
    have hfl : Hid (rows.any (fun v => decide (v.l.getD k 0 ≠ 0)) = true) := Lib.hid (by
      obtain ⟨j, c, h1, h2, h3⟩ := row_filled (ls := ls) (p := k) (by omega) hnz.out (by rw [hLc]; exact hkl)
      rw [hlsl] at h1
      obtain ⟨v, hv⟩ : ∃ v, rows[j]? = some v := ⟨_, List.getElem?_eq_getElem (by omega)⟩
      refine List.any_eq_true.2 ⟨v, List.mem_of_getElem? hv, ?_⟩
      rw [hrow.out j v hv, List.getD_eq_getElem?_getD, h2]
      exact decide_eq_true h3)
    repeat (first | refine l_val rfl rfl (by first | exact pureEval_ok rfl ) ?_ | refine l_nil ?_ | refine c_region ?_ | refine c_seq ?_ | refine x_then ?_ | refine c_dec_t rfl (by first | omega ) ?_ | refine c_block ?_ | refine c_skip ?_ )
    refine c_loop (ι := Nat × Bool) (fun (t, fl) => t ≤ rows.length ∧ (Unit → fl = (rows.take t).any fun v => decide (v.l.getD k 0 ≠ 0))) (fun (t, fl) => [(3, .slice (some ⟨bT, oT, none⟩) rows.length tc), (153, .int .i64 Lc), (154, .int .i64 k), (19, .int .i64 k), (20, .bool fl), (157, .slice (some ⟨bT, oT, none⟩) rows.length tc), (158, .int .i64 rows.length), (159, .int .i64 t)]) (fun _ => []) (fun (t, fl) => rows.length - t) (0, false) ⟨Nat.zero_le _, fun _ => rfl⟩ (by repeat (first | exact EnvSub.nil | refine EnvSub.cons rfl (by first | rfl | (congr 1; done) | (exact congrArg (Value.int _) (by omega)) | (simp; done)) ?_)) (by repeat (first | exact MSub.nil | refine MSub.keep (by first | rfl | assumption) ?_ | refine MSub.drop ?_ | exact MSub.refl _)) ?_
    rintro ⟨t, fl⟩ ⟨ht, hM⟩
    simp only at ht hM ⊢
    by_cases htl : t < rows.length
    · obtain ⟨v, hv⟩ : ∃ v, rows[t]? = some v := ⟨_, List.getElem?_eq_getElem htl⟩
      have hvl : v.l.length = Lc := by rw [hrow.out t v hv]; exact hrLen.out t (by omega)
      obtain ⟨c, hcc⟩ : ∃ c, v.l[k]? = some c := ⟨_, List.getElem?_eq_getElem (by omega)⟩
      obtain ⟨b', o', e', gv⟩ := i4.get hv
      cases e'
      obtain ⟨bv, ov', hvA, gc⟩ := (i5 v (List.mem_of_getElem? hv)).get hcc
      rw [Nat.mul_one] at gv gc
      rw [show rvE v = [.slice v.A v.l.length v.cap] from rfl, hvA] at gv
      have hM' : ∀ fl', fl' = (fl || decide (c ≠ 0)) → (Unit → fl' = (rows.take (t + 1)).any fun v => decide (v.l.getD k 0 ≠ 0)) := fun fl' e _ => by
        rw [e, hM (), List.take_add_one, hv, List.any_append]
        simp [hcc]
      have hM' := Lib.hid hM'
      clear hM
      cases fl with
      | true =>
        have hM' := hM'.out true rfl
        repeat (first | refine l_val rfl rfl (by first | exact v_add rfl rfl (by omega) (by omega) | exact pureEval_ok rfl | exact v_load_ext0 rfl (by assumption) rfl (by rfl) | exact v_index rfl rfl rfl rfl (by omega) (by omega) (by with_reducible first | exact idx2 _ _  ) ) ?_ | refine l_nil ?_ | refine c_region ?_ | refine c_seq ?_ | refine x_then ?_ | refine l_skip rfl rfl ?_ | refine c_dec_t rfl (by first | omega ) ?_ | refine c_block ?_ | refine c_skip ?_ | refine x_block ?_ )
        exact x_back (t + 1, true) ⟨htl, hM'⟩ (by simp only; omega) (by repeat (first | exact EnvSub.nil | refine EnvSub.cons rfl (by first | rfl | (congr 1; done) | (exact congrArg (Value.int _) (by omega)) | (simp; done)) ?_)) (by repeat (first | exact MSub.nil | refine MSub.keep (by first | rfl | assumption) ?_ | refine MSub.drop ?_ | exact MSub.refl _))
      | false =>
        have hM' := hM'.out (decide (c ≠ 0)) rfl
        repeat (first | refine l_val rfl rfl (by first | exact v_add rfl rfl (by omega) (by omega) | exact pureEval_ok rfl | exact v_load_ext0 rfl (by assumption) rfl (by rfl) | exact v_index rfl rfl rfl rfl (by omega) (by omega) (by with_reducible first | exact idx2 _ _  ) ) ?_ | refine l_nil ?_ | refine c_region ?_ | refine c_seq ?_ | refine x_then ?_ | refine c_dec_t rfl (by first | omega ) ?_ | refine c_block ?_ | refine c_skip ?_ | refine x_block ?_ )
        exact x_back (t + 1, decide (c ≠ 0)) ⟨htl, hM'⟩ (by simp only; omega) (.cons rfl rfl (.cons rfl rfl (.cons rfl rfl (.cons rfl rfl (.cons rfl (by first | rfl | (congr 1; simp)) (.cons rfl rfl (.cons rfl rfl (.cons rfl rfl .nil)))))))) (by repeat (first | exact MSub.nil | refine MSub.keep (by first | rfl | assumption) ?_ | refine MSub.drop ?_ | exact MSub.refl _))
    · have hte : t = rows.length := by omega
      subst hte
      have hfin := hM ()
      rw [List.take_length, hfl.out] at hfin
      subst hfin
      clear hM
      repeat (first | refine l_val rfl rfl (by first | exact v_add rfl rfl (by omega) (by omega) | exact pureEval_ok rfl ) ?_ | refine l_nil ?_ | refine c_region ?_ | refine c_seq ?_ | refine x_then ?_ | refine c_false rfl ?_ | refine c_dec_f rfl (by first | omega ) ?_ | refine c_skip ?_ | refine c_exit ?_ | refine x_then_exit ?_ | refine x_block ?_ | refine x_block_same ?_ )
      exact x_back (k + 1) hkl (by omega) (by repeat (first | exact EnvSub.nil | refine EnvSub.cons rfl (by first | rfl | (congr 1; done) | (exact congrArg (Value.int _) (by omega)) | (simp; done)) ?_)) (by repeat (first | exact MSub.nil | refine MSub.keep (by first | rfl | assumption) ?_ | refine MSub.drop ?_ | exact MSub.refl _))
  obtain ⟨x, hwx⟩ : ∃ x, ws[i]? = some x := ⟨_, List.getElem?_eq_getElem hlt⟩
  have hxm := List.mem_of_getElem? hwx
  obtain ⟨v, hv⟩ : ∃ v, rows[i]? = some v := ⟨_, List.getElem?_eq_getElem (by omega)⟩
  have hvm := List.mem_of_getElem? hv
  have hvl := hrow.out i v hv
  have hvn : v.l.length = Lc := by rw [hvl]; exact hrLen.out i hlt
  obtain ⟨c1, c2, c3⟩ := hin.out i x hwx
  obtain ⟨c4, c5, c6⟩ := hin.out 0 x0 hx0
  have hlx := hli.out i x hwx
  have hfn : Hid (nz v.l = cds x) := Lib.hid (by rw [hvl, rowI_nz (hnz.out i), hlx])
  have hfc : Hid (cR v0.l v.l = ac (cds x0) (cds x)) := Lib.hid (by rw [hv0l, hvl, rowI_cost (by rw [hlsl]; exact hlt) (hnz.out i) (by rw [← li_0]; exact hnz.out 0), htx, hlx])
  obtain ⟨b', o', e', gT⟩ := i4.get hv
  cases e'
  rw [Nat.mul_one] at gT gT0
  have gT0' : Ext W2 D bT (oT + (0 : Int).toNat) (rvE v0) := gT0
  have i50 := i5 v0 (List.mem_of_getElem? hv0)
  have i5v := i5 v hvm
  repeat (first | refine l_val rfl rfl (by first | exact pureEval_ok rfl | exact v_load_ext0 rfl (by assumption) rfl (by rfl) | exact v_index rfl rfl rfl rfl (by omega) (by omega) (by with_reducible first | exact idx2 _ _  | exact idx6 _ _  ) ) ?_ | refine l_nil ?_ | refine c_region ?_ | refine c_seq ?_ | refine x_then ?_ | refine c_dec_t rfl (by first | omega ) ?_ | refine c_dec_f rfl (by first | omega ) ?_ | refine c_block ?_ | refine c_skip ?_ | refine l_dec_f rfl rfl rfl rfl rfl (by first | omega ) ?_ )
  refine c_loop (ι := Nat × IS × Int) (fun (k, s, cost) => k ≤ Lc ∧ s.ok ∧ s.l.length ≤ k ∧ (0 ≤ cost ∧ cost ≤ 3 * k) ∧ (Unit → s.l = nz (v.l.take k) ∧ cost = cR (v0.l.take k) (v.l.take k)))
    (fun (k, s, cost) => [(0, .slice (some ⟨bA, oA, none⟩) ws.length cap), (3, .slice (some ⟨bT, oT, none⟩) rows.length tc), (43, .slice (some ⟨bT, oT, none⟩) rows.length tc), (44, .int .i64 rows.length), (45, .int .i64 i), (5, .int .i64 i), (7, s.sv), (8, .int .i64 cost), (62, .slice v.A v.l.length v.cap), (63, .int .i64 v.l.length), (64, .int .i64 k)]) (fun (k, s, cost) => s.mem) (fun (k, s, cost) => Lc - k) (0, .zero, 0) ⟨Nat.zero_le _, trivial, Nat.le_refl _, ⟨Int.le_refl _, Int.le_refl _⟩, fun _ => ⟨rfl, rfl⟩⟩ (by repeat (first | exact EnvSub.nil | refine EnvSub.cons rfl (by first | rfl | (congr 1; done) | (exact congrArg (Value.int _) (by omega)) | (simp; done)) ?_)) (by repeat (first | exact MSub.nil | refine MSub.keep (by first | rfl | assumption) ?_ | refine MSub.drop ?_ | exact MSub.refl _)) ?_
  rintro ⟨k, s, cost⟩ ⟨k1, k2, k3, k4, k5⟩
  simp only at k1 k2 k3 k4 k5 ⊢
  by_cases hkl : k < Lc
  · obtain ⟨c, hcc⟩ : ∃ c, v.l[k]? = some c := ⟨_, List.getElem?_eq_getElem (by omega)⟩
    obtain ⟨y, hyy⟩ : ∃ y, v0.l[k]? = some y := ⟨_, List.getElem?_eq_getElem (by omega)⟩
    obtain ⟨bv, ov', hvA, gc⟩ := i5v.get hcc
    obtain ⟨b0, o0, hv0A, gy⟩ := i50.get hyy
    rw [Nat.mul_one] at gc gy
    rw [show rvE v0 = [.slice v0.A v0.l.length v0.cap] from rfl, hv0A] at gT0'
    have hlb := lcC_bd y c
    have hn := nz_take hcc
    have hcr := cR_take hyy hcc
    have hst : Hid (∀ s' : IS, ∀ cost' : Int, s'.l = s.l ++ (if c ≠ 0 then [c] else []) → cost' = cost + lcC y c → (Unit → s'.l = nz (v.l.take (k + 1)) ∧ cost' = cR (v0.l.take (k + 1)) (v.l.take (k + 1)))) := Lib.hid fun s' cost' h1 h2 _ => by
      rw [hn, hcr, ← (k5 ()).1, ← (k5 ()).2]; exact ⟨h1, h2⟩
    clear hn hcr k5
    rw [hvA]
    by_cases hc0 : c = 0
    · by_cases hy0 : y = 0
      · rcases s with _ | ⟨n, bp, cp, rr, l⟩
        · simp only [IS.l] at hst
          simp only [IS.sv, IS.mem, List.cons_append, List.nil_append]
          have hlc : lcC y c = 0 := lcC_0 hy0 hc0
          have hM' := hst.out (.zero) (cost) (by rw [if_neg (fun h => h hc0)]; exact (List.append_nil _).symm) (by rw [hlc, Int.add_zero])
          have hM' := Lib.hid hM'
          clear hst
          repeat (first | refine l_val rfl rfl (by first | exact v_add rfl rfl (by omega) (by omega) | exact pureEval_ok rfl | exact v_load_ext0 rfl (by assumption) rfl (by rfl) | exact v_index rfl rfl rfl rfl (by omega) (by omega) (by with_reducible first | exact idx2 _ _  | exact idx6 _ _  ) ) ?_ | refine l_nil ?_ | refine c_region ?_ | refine c_seq ?_ | refine x_then ?_ | refine l_skip rfl rfl ?_ | refine c_false rfl ?_ | refine c_dec_t rfl (by first | omega ) ?_ | refine c_dec_f rfl (by first | omega ) ?_ | refine c_block ?_ | refine c_skip ?_ | refine x_block ?_ | refine l_dec_f rfl rfl rfl rfl rfl (by first | omega ) ?_ )
          exact x_back (k + 1, .zero, cost) ⟨hkl, trivial, Nat.zero_le _, ⟨by simp only; omega, by simp only; omega⟩, hM'.out⟩ (by simp only; omega) (by repeat (first | exact EnvSub.nil | refine EnvSub.cons rfl (by first | rfl | (congr 1; done) | (exact congrArg (Value.int _) (by omega)) | (simp; done)) ?_)) (by repeat (first | exact MSub.nil | refine MSub.keep (by first | rfl | assumption) ?_ | refine MSub.drop ?_ | exact MSub.refl _))
        · obtain ⟨q1, q2, q3⟩ := k2
          simp only [IS.l] at k3 hst
          simp only [IS.sv, IS.mem, List.cons_append, List.nil_append]
          have hlc : lcC y c = 0 := lcC_0 hy0 hc0
          have hM' := hst.out (.more n bp cp rr l) (cost) (by rw [if_neg (fun h => h hc0)]; exact (List.append_nil _).symm) (by rw [hlc, Int.add_zero])
          have hM' := Lib.hid hM'
          clear hst
          repeat (first | refine l_val rfl rfl (by first | exact v_add rfl rfl (by omega) (by omega) | exact pureEval_ok rfl | exact v_load_ext0 rfl (by assumption) rfl (by rfl) | exact v_index rfl rfl rfl rfl (by omega) (by omega) (by with_reducible first | exact idx2 _ _  | exact idx6 _ _  ) ) ?_ | refine l_nil ?_ | refine c_region ?_ | refine c_seq ?_ | refine x_then ?_ | refine l_skip rfl rfl ?_ | refine c_false rfl ?_ | refine c_dec_t rfl (by first | omega ) ?_ | refine c_dec_f rfl (by first | omega ) ?_ | refine c_block ?_ | refine c_skip ?_ | refine x_block ?_ | refine l_dec_f rfl rfl rfl rfl rfl (by first | omega ) ?_ )
          exact x_back (k + 1, .more n bp cp rr l, cost) ⟨hkl, ⟨q1, q2, q3⟩, Nat.le_succ_of_le k3, ⟨by simp only; omega, by simp only; omega⟩, hM'.out⟩ (by simp only; omega) (by repeat (first | exact EnvSub.nil | refine EnvSub.cons rfl (by first | rfl | (congr 1; done) | (exact congrArg (Value.int _) (by omega)) | (simp; done)) ?_)) (by repeat (first | exact MSub.nil | refine MSub.keep (by first | rfl | assumption) ?_ | refine MSub.drop ?_ | exact MSub.refl _))
      · rcases s with _ | ⟨n, bp, cp, rr, l⟩
        · simp only [IS.l] at hst
          simp only [IS.sv, IS.mem, List.cons_append, List.nil_append]
          have hlc : lcC y c = 2 := lcC_2 (fun h => h.2 hc0) (.inl hy0)
          have hM' := hst.out (.zero) (cost + 2) (by rw [if_neg (fun h => h hc0)]; exact (List.append_nil _).symm) (by rw [hlc])
          have hM' := Lib.hid hM'
          clear hst
          repeat (first | refine l_val rfl rfl (by first | exact v_add rfl rfl (by omega) (by omega) | exact pureEval_ok rfl | exact v_load_ext0 rfl (by assumption) rfl (by rfl) | exact v_index rfl rfl rfl rfl (by omega) (by omega) (by with_reducible first | exact idx2 _ _  | exact idx6 _ _  ) ) ?_ | refine l_nil ?_ | refine c_region ?_ | refine c_seq ?_ | refine x_then ?_ | refine l_skip rfl rfl ?_ | refine c_true rfl ?_ | refine c_dec_t rfl (by first | omega ) ?_ | refine c_dec_f rfl (by first | omega ) ?_ | refine c_block ?_ | refine c_skip ?_ | refine x_block ?_ | refine l_dec_t rfl rfl rfl rfl rfl (by first | omega ) ?_ )
          exact x_back (k + 1, .zero, cost + 2) ⟨hkl, trivial, Nat.zero_le _, ⟨by simp only; omega, by simp only; omega⟩, hM'.out⟩ (by simp only; omega) (by repeat (first | exact EnvSub.nil | refine EnvSub.cons rfl (by first | rfl | (congr 1; done) | (exact congrArg (Value.int _) (by omega)) | (simp; done)) ?_)) (by repeat (first | exact MSub.nil | refine MSub.keep (by first | rfl | assumption) ?_ | refine MSub.drop ?_ | exact MSub.refl _))
        · obtain ⟨q1, q2, q3⟩ := k2
          simp only [IS.l] at k3 hst
          simp only [IS.sv, IS.mem, List.cons_append, List.nil_append]
          have hlc : lcC y c = 2 := lcC_2 (fun h => h.2 hc0) (.inl hy0)
          have hM' := hst.out (.more n bp cp rr l) (cost + 2) (by rw [if_neg (fun h => h hc0)]; exact (List.append_nil _).symm) (by rw [hlc])
          have hM' := Lib.hid hM'
          clear hst
          repeat (first | refine l_val rfl rfl (by first | exact v_add rfl rfl (by omega) (by omega) | exact pureEval_ok rfl | exact v_load_ext0 rfl (by assumption) rfl (by rfl) | exact v_index rfl rfl rfl rfl (by omega) (by omega) (by with_reducible first | exact idx2 _ _  | exact idx6 _ _  ) ) ?_ | refine l_nil ?_ | refine c_region ?_ | refine c_seq ?_ | refine x_then ?_ | refine l_skip rfl rfl ?_ | refine c_true rfl ?_ | refine c_dec_t rfl (by first | omega ) ?_ | refine c_dec_f rfl (by first | omega ) ?_ | refine c_block ?_ | refine c_skip ?_ | refine x_block ?_ | refine l_dec_t rfl rfl rfl rfl rfl (by first | omega ) ?_ )
          exact x_back (k + 1, .more n bp cp rr l, cost + 2) ⟨hkl, ⟨q1, q2, q3⟩, Nat.le_succ_of_le k3, ⟨by simp only; omega, by simp only; omega⟩, hM'.out⟩ (by simp only; omega) (by repeat (first | exact EnvSub.nil | refine EnvSub.cons rfl (by first | rfl | (congr 1; done) | (exact congrArg (Value.int _) (by omega)) | (simp; done)) ?_)) (by repeat (first | exact MSub.nil | refine MSub.keep (by first | rfl | assumption) ?_ | refine MSub.drop ?_ | exact MSub.refl _))
    · by_cases hy0 : y = 0
      · rcases s with _ | ⟨n, bp, cp, rr, l⟩
        · simp only [IS.l] at hst
          simp only [IS.sv, IS.mem, List.cons_append, List.nil_append]
          have hlc : lcC y c = 2 := lcC_2 (fun h => h.1 hy0) (.inr hc0)
          have hM' : ∀ n b7 c7 r7, (Unit → (IS.more n b7 c7 r7 ([c])).l = nz (v.l.take (k + 1)) ∧ cost + 2 = cR (v0.l.take (k + 1)) (v.l.take (k + 1))) := fun n b7 c7 r7 => hst.out (.more n b7 c7 r7 ([c])) (cost + 2) (by rw [if_pos hc0] <;> rfl) (by rw [hlc])
          have hM' := Lib.hid hM'
          clear hst
          repeat (first | refine l_val rfl rfl (by first | exact pureEval_ok rfl | exact v_load_ext0 rfl (by assumption) rfl (by rfl) | exact v_index rfl rfl rfl rfl (by omega) (by omega) (by with_reducible first | exact idx2 _ _  ) ) ?_ | refine l_nil ?_ | refine c_region ?_ | refine c_seq ?_ | refine x_then ?_ | refine r_buildSlice rfl rfl rfl rfl rfl rfl (by rfl) (fun _ => ?_) | refine c_dec_t rfl (by first | omega ) ?_ | refine c_block ?_ | refine c_skip ?_ )
          refine r_append_nil (m := 1) (ys := [.int .i64 c]) rfl rfl rfl rfl rfl rfl (news_own (by repeat (first | exact List.Mem.head _ | apply List.Mem.tail))) rfl rfl (by decide) (by decide) (by decide) (fun b7 c7 r7 hg7 => ?_)
          repeat (first | refine l_val rfl rfl (by first | exact v_add rfl rfl (by omega) (by omega) | exact pureEval_ok rfl | exact v_load_ext0 rfl (by assumption) rfl (by rfl) | exact v_index rfl rfl rfl rfl (by omega) (by omega) (by with_reducible first | exact idx2 _ _  | exact idx6 _ _  ) ) ?_ | refine l_nil ?_ | refine c_region ?_ | refine c_seq ?_ | refine x_then ?_ | refine l_skip rfl rfl ?_ | refine c_false rfl ?_ | refine c_dec_t rfl (by first | omega ) ?_ | refine c_block ?_ | refine x_block ?_ | refine l_dec_f rfl rfl rfl rfl rfl (by first | omega ) ?_ )
          exact x_back (k + 1, .more 1 b7 c7 r7 [c], cost + 2) ⟨hkl, ⟨by decide, rfl, hg7⟩, by simp only [IS.l, List.length_cons, List.length_nil]; omega, ⟨by simp only; omega, by simp only; omega⟩, hM'.out 1 b7 c7 r7⟩ (by simp only; omega) (by repeat (first | exact EnvSub.nil | refine EnvSub.cons rfl (by first | rfl | (congr 1; done) | (exact congrArg (Value.int _) (by omega)) | (simp; done)) ?_)) (by repeat (first | exact MSub.nil | refine MSub.keep (by first | rfl | assumption) ?_ | refine MSub.drop ?_ | exact MSub.refl _))
        · obtain ⟨q1, q2, q3⟩ := k2
          simp only [IS.l] at k3 hst
          simp only [IS.sv, IS.mem, List.cons_append, List.nil_append]
          have hlc : lcC y c = 2 := lcC_2 (fun h => h.1 hy0) (.inr hc0)
          have hM' : ∀ n b7 c7 r7, (Unit → (IS.more n b7 c7 r7 (l ++ [c])).l = nz (v.l.take (k + 1)) ∧ cost + 2 = cR (v0.l.take (k + 1)) (v.l.take (k + 1))) := fun n b7 c7 r7 => hst.out (.more n b7 c7 r7 (l ++ [c])) (cost + 2) (by rw [if_pos hc0] <;> rfl) (by rw [hlc])
          have hM' := Lib.hid hM'
          clear hst
          repeat (first | refine l_val rfl rfl (by first | exact pureEval_ok rfl | exact v_load_ext0 rfl (by assumption) rfl (by rfl) | exact v_index rfl rfl rfl rfl (by omega) (by omega) (by with_reducible first | exact idx2 _ _  ) ) ?_ | refine l_nil ?_ | refine c_region ?_ | refine c_seq ?_ | refine x_then ?_ | refine r_buildSlice rfl rfl rfl rfl rfl rfl (by rfl) (fun _ => ?_) | refine c_dec_t rfl (by first | omega ) ?_ | refine c_block ?_ | refine c_skip ?_ )
          refine r_append (m := 1) (ys := [.int .i64 c]) rfl rfl rfl rfl rfl rfl (news_own (by repeat (first | exact List.Mem.head _ | apply List.Mem.tail))) (by repeat (first | exact Rem.head | apply Rem.tail)) q3 rfl rfl (by decide) (by omega) (by unfold maxLen; omega) (fun b7 c7 r7 hg7 => ?_)
          rw [← flatI_snoc] at hg7 ⊢
          repeat (first | refine l_val rfl rfl (by first | exact v_add rfl rfl (by omega) (by omega) | exact pureEval_ok rfl | exact v_load_ext0 rfl (by assumption) rfl (by rfl) | exact v_index rfl rfl rfl rfl (by omega) (by omega) (by with_reducible first | exact idx2 _ _  | exact idx6 _ _  ) ) ?_ | refine l_nil ?_ | refine c_region ?_ | refine c_seq ?_ | refine x_then ?_ | refine l_skip rfl rfl ?_ | refine c_false rfl ?_ | refine c_dec_t rfl (by first | omega ) ?_ | refine c_block ?_ | refine x_block ?_ | refine l_dec_f rfl rfl rfl rfl rfl (by first | omega ) ?_ )
          exact x_back (k + 1, .more (n + 1) b7 c7 r7 (l ++ [c]), cost + 2) ⟨hkl, ⟨by omega, by rw [List.length_append, q2]; rfl, hg7⟩, by simp only [IS.l, List.length_append, List.length_cons, List.length_nil]; omega, ⟨by simp only; omega, by simp only; omega⟩, hM'.out (n + 1) b7 c7 r7⟩ (by simp only; omega) (by repeat (first | exact EnvSub.nil | refine EnvSub.cons rfl (by first | rfl | (congr 1; done) | (exact congrArg (Value.int _) (by omega)) | (simp; done)) ?_)) (by repeat (first | exact MSub.nil | refine MSub.keep (by first | rfl | assumption) ?_ | refine MSub.drop ?_ | exact MSub.refl _))
      · rcases s with _ | ⟨n, bp, cp, rr, l⟩
        · simp only [IS.l] at hst
          simp only [IS.sv, IS.mem, List.cons_append, List.nil_append]
          have hlc : lcC y c = bes y c := if_pos ⟨hy0, hc0⟩
          have hM' : ∀ n b7 c7 r7, (Unit → (IS.more n b7 c7 r7 ([c])).l = nz (v.l.take (k + 1)) ∧ cost + lcC y c = cR (v0.l.take (k + 1)) (v.l.take (k + 1))) := fun n b7 c7 r7 => hst.out (.more n b7 c7 r7 ([c])) (cost + lcC y c) (by rw [if_pos hc0] <;> rfl) rfl
          have hM' := Lib.hid hM'
          clear hst
          repeat (first | refine l_val rfl rfl (by first | exact pureEval_ok rfl | exact v_load_ext0 rfl (by assumption) rfl (by rfl) | exact v_index rfl rfl rfl rfl (by omega) (by omega) (by with_reducible first | exact idx2 _ _  ) ) ?_ | refine l_nil ?_ | refine c_region ?_ | refine c_seq ?_ | refine x_then ?_ | refine r_buildSlice rfl rfl rfl rfl rfl rfl (by rfl) (fun _ => ?_) | refine c_dec_t rfl (by first | omega ) ?_ | refine c_block ?_ | refine c_skip ?_ )
          refine r_append_nil (m := 1) (ys := [.int .i64 c]) rfl rfl rfl rfl rfl rfl (news_own (by repeat (first | exact List.Mem.head _ | apply List.Mem.tail))) rfl rfl (by decide) (by decide) (by decide) (fun b7 c7 r7 hg7 => ?_)
          repeat (first | refine l_val rfl rfl (by first | exact pureEval_ok rfl | exact v_load_ext0 rfl (by assumption) rfl (by rfl) | exact v_index rfl rfl rfl rfl (by omega) (by omega) (by with_reducible first | exact idx2 _ _  | exact idx6 _ _  ) ) ?_ | refine l_nil ?_ | refine c_region ?_ | refine c_seq ?_ | refine x_then ?_ | refine c_dec_t rfl (by first | omega ) ?_ | refine c_block ?_ | refine l_dec_t rfl rfl rfl rfl rfl (by first | omega ) ?_ )
          refine r_call rfl rfl rfl (fun W hW => Beside_calls y c W) ?_
          rw [← hlc]
          repeat (first | refine l_val rfl rfl (by first | exact v_add rfl rfl (by omega) (by omega) | exact pureEval_ok rfl ) ?_ | refine l_nil ?_ | refine c_region ?_ | refine x_then ?_ | refine x_block ?_ )
          exact x_back (k + 1, .more 1 b7 c7 r7 [c], cost + lcC y c) ⟨hkl, ⟨by decide, rfl, hg7⟩, by simp only [IS.l, List.length_cons, List.length_nil]; omega, ⟨by simp only; omega, by simp only; omega⟩, hM'.out 1 b7 c7 r7⟩ (by simp only; omega) (by repeat (first | exact EnvSub.nil | refine EnvSub.cons rfl (by first | rfl | (congr 1; done) | (exact congrArg (Value.int _) (by omega)) | (simp; done)) ?_)) (by repeat (first | exact MSub.nil | refine MSub.keep (by first | rfl | assumption) ?_ | refine MSub.drop ?_ | exact MSub.refl _))
        · obtain ⟨q1, q2, q3⟩ := k2
          simp only [IS.l] at k3 hst
          simp only [IS.sv, IS.mem, List.cons_append, List.nil_append]
          have hlc : lcC y c = bes y c := if_pos ⟨hy0, hc0⟩
          have hM' : ∀ n b7 c7 r7, (Unit → (IS.more n b7 c7 r7 (l ++ [c])).l = nz (v.l.take (k + 1)) ∧ cost + lcC y c = cR (v0.l.take (k + 1)) (v.l.take (k + 1))) := fun n b7 c7 r7 => hst.out (.more n b7 c7 r7 (l ++ [c])) (cost + lcC y c) (by rw [if_pos hc0] <;> rfl) rfl
          have hM' := Lib.hid hM'
          clear hst
          repeat (first | refine l_val rfl rfl (by first | exact pureEval_ok rfl | exact v_load_ext0 rfl (by assumption) rfl (by rfl) | exact v_index rfl rfl rfl rfl (by omega) (by omega) (by with_reducible first | exact idx2 _ _  ) ) ?_ | refine l_nil ?_ | refine c_region ?_ | refine c_seq ?_ | refine x_then ?_ | refine r_buildSlice rfl rfl rfl rfl rfl rfl (by rfl) (fun _ => ?_) | refine c_dec_t rfl (by first | omega ) ?_ | refine c_block ?_ | refine c_skip ?_ )
          refine r_append (m := 1) (ys := [.int .i64 c]) rfl rfl rfl rfl rfl rfl (news_own (by repeat (first | exact List.Mem.head _ | apply List.Mem.tail))) (by repeat (first | exact Rem.head | apply Rem.tail)) q3 rfl rfl (by decide) (by omega) (by unfold maxLen; omega) (fun b7 c7 r7 hg7 => ?_)
          rw [← flatI_snoc] at hg7 ⊢
          repeat (first | refine l_val rfl rfl (by first | exact pureEval_ok rfl | exact v_load_ext0 rfl (by assumption) rfl (by rfl) | exact v_index rfl rfl rfl rfl (by omega) (by omega) (by with_reducible first | exact idx2 _ _  | exact idx6 _ _  ) ) ?_ | refine l_nil ?_ | refine c_region ?_ | refine c_seq ?_ | refine x_then ?_ | refine c_dec_t rfl (by first | omega ) ?_ | refine c_block ?_ | refine l_dec_t rfl rfl rfl rfl rfl (by first | omega ) ?_ )
          refine r_call rfl rfl rfl (fun W hW => Beside_calls y c W) ?_
          rw [← hlc]
          repeat (first | refine l_val rfl rfl (by first | exact v_add rfl rfl (by omega) (by omega) | exact pureEval_ok rfl ) ?_ | refine l_nil ?_ | refine c_region ?_ | refine x_then ?_ | refine x_block ?_ )
          exact x_back (k + 1, .more (n + 1) b7 c7 r7 (l ++ [c]), cost + lcC y c) ⟨hkl, ⟨by omega, by rw [List.length_append, q2]; rfl, hg7⟩, by simp only [IS.l, List.length_append, List.length_cons, List.length_nil]; omega, ⟨by simp only; omega, by simp only; omega⟩, hM'.out (n + 1) b7 c7 r7⟩ (by simp only; omega) (by repeat (first | exact EnvSub.nil | refine EnvSub.cons rfl (by first | rfl | (congr 1; done) | (exact congrArg (Value.int _) (by omega)) | (simp; done)) ?_)) (by repeat (first | exact MSub.nil | refine MSub.keep (by first | rfl | assumption) ?_ | refine MSub.drop ?_ | exact MSub.refl _))
  have hke : k = Lc := by omega
  subst hke
  obtain ⟨u1, u2⟩ := k5 ()
  have e1 : v.l.take k = v.l := by rw [← hvn, List.take_length]
  have e2 : v0.l.take k = v0.l := by rw [← hv0n, List.take_length]
  rw [e1, hfn.out] at u1
  rw [e1, e2, hfc.out] at u2
  clear k5 e1 e2
  rw [hvn]
  subst u2
  rcases s with _ | ⟨n, bp, cp, rr, l⟩
  · have hnil : cds x = [] := u1.symm
    refine c_freeze (mem' := []) MSub.nil fun W3 hV3 => ?_
    generalize hDe3 : allBut W3 (List.map (fun p => p.1) ([] : List (Nat × Obj))) = D3
    have hDe3 := hDe3.symm
    obtain ⟨SA, hSA⟩ : ∃ SA : Option Addr, SA = none := ⟨_, rfl⟩
    obtain ⟨sc, hsc⟩ : ∃ sc : Nat, sc = 0 := ⟨_, rfl⟩
    have s3 : Ar W3 D3 SA 1 ((cds x).map inE) := by rw [hnil]; exact Ar.nil
    have hsv : IS.sv .zero = .slice SA (cds x).length sc := by rw [hSA, hsc, hnil]; rfl
    rw [hsv]
    clear hsv hSA hsc hnil u1
    have hD3 : ∀ k, D k → D3 k := by rw [hDe3]; exact hV3.allBut (MSub.nil)
    have j2 := i2.trans (hV3.same.mono i3)
    have j3 : ∀ k, base w k → D3 k := fun k hk => hD3 k (i3 k hk)
    have j4 := i4.move hV3.same hD3
    have j5 := fun v hv => (i5 v hv).move hV3.same hD3
    clear i2 i3 i4 i5 i50 i5v gT gT0 gT0' hV3 hD3 hDe3
    obtain ⟨b9, o9, e9, gx⟩ := (Ar.of hA (wiE_len ws) j2 j3).get hwx
    cases e9
    repeat (first | refine l_val rfl rfl (by first | exact pureEval_ok rfl | exact v_load_ext0 rfl (by assumption) rfl (by rfl) | exact v_index rfl rfl rfl rfl (by omega) (by omega) (by with_reducible first | exact idx4 _ _ _  ) ) ?_ | refine l_nil ?_ | refine c_region ?_ | refine c_seq ?_ | refine x_then ?_ | refine c_dec_f rfl (by first | omega ) ?_ | refine c_exit ?_ | refine x_then_exit ?_ | refine x_block_same ?_ )
    refine l_callF (ι := Option Addr × Nat) (v := fun q => .tuple ⟨[.slice q.1 (cds x).length q.2, .int .i64 0]⟩) (mem' := []) (fun q W W' => Fr W W' q.1 1 ((cds x).map inE)) rfl rfl rfl (by repeat (first | exact MSub.nil | refine MSub.keep (by first | rfl | assumption) ?_ | refine MSub.drop ?_ | exact MSub.refl _)) (fun W hW => ?_) ?_
    · refine (Codes_calls x W ((hwi.out x hxm).later (j2.trans (hW.same.mono j3)).base_later)).mono fun e W' h => ?_
      obtain ⟨A', c', h1, h2, h3⟩ := CosQ.fr h
      rw [cosL_ok (hck.out x hxm), hck.out x hxm] at h1
      rw [cosL_ok (hck.out x hxm)] at h3
      exact ⟨(A', c'), h1, h2, h3⟩
    rintro ⟨LA, lc⟩ W W4 hV4 hB4 hW4 hq4
    refine l_gen fun D4 hDe4 => ?_
    simp only at hq4 ⊢
    have hD4 : ∀ k, D3 k → D4 k := by rw [hDe4]; exact hW4.allBut (MSub.refl _)
    have l4 : Ar W4 D4 LA 1 ((cds x).map inE) := by rw [hDe4]; exact hq4.ar (inE_ne _) (by simp)
    have k2 := j2.trans (hW4.same.mono j3)
    have k3 : ∀ k, base w k → D4 k := fun k hk => hD4 k (j3 k hk)
    have k4 := j4.move hW4.same hD4
    have k5 := fun v hv => (j5 v hv).move hW4.same hD4
    have s4 := s3.move hW4.same hD4
    clear hV4 hB4 hq4 hDe4 j2 j3 j4 j5 s3
    obtain ⟨b9, o9, e9, gx0⟩ := (Ar.of hA (wiE_len ws) k2 k3).get hx0
    cases e9
    have gx0 : Ext W4 D4 bA (oA + (0 : Int).toNat * 3) (wiE x0) := gx0
    repeat (first | refine l_val rfl rfl (by first | exact pureEval_ok rfl | exact v_load_ext0 rfl (by assumption) rfl (by rfl) | exact v_index rfl rfl rfl rfl (by omega) (by omega) (by with_reducible first | exact idx8 _ _ _  ) ) ?_ | refine l_nil ?_ | refine c_region ?_ | refine c_seq ?_ | refine x_then ?_ )
    refine l_callF (ι := Option Addr × Nat) (v := fun q => .tuple ⟨[.slice q.1 (cds x0).length q.2, .int .i64 0]⟩) (mem' := []) (fun q W W' => Fr W W' q.1 1 ((cds x0).map inE)) rfl rfl rfl (by repeat (first | exact MSub.nil | refine MSub.keep (by first | rfl | assumption) ?_ | refine MSub.drop ?_ | exact MSub.refl _)) (fun W hW => ?_) ?_
    · have hxm0 := List.mem_of_getElem? hx0
      refine (Codes_calls x0 W ((hwi.out x0 hxm0).later (k2.trans (hW.same.mono k3)).base_later)).mono fun e W' h => ?_
      obtain ⟨A', c', h1, h2, h3⟩ := CosQ.fr h
      rw [cosL_ok (hck.out x0 hxm0), hck.out x0 hxm0] at h1
      rw [cosL_ok (hck.out x0 hxm0)] at h3
      exact ⟨(A', c'), h1, h2, h3⟩
    rintro ⟨TB, tb⟩ W W5 hV5 hB5 hW5 hq5
    refine l_gen fun D5 hDe5 => ?_
    simp only at hq5 ⊢
    have hD5 : ∀ k, D4 k → D5 k := by rw [hDe5]; exact hW5.allBut (MSub.refl _)
    have t5 : Ar W5 D5 TB 1 ((cds x0).map inE) := by rw [hDe5]; exact hq5.ar (inE_ne _) (by simp)
    have m2 := k2.trans (hW5.same.mono k3)
    have m3 : ∀ k, base w k → D5 k := fun k hk => hD5 k (k3 k hk)
    have m4 := k4.move hW5.same hD5
    have m5 := fun v hv => (k5 v hv).move hW5.same hD5
    have s5 := s4.move hW5.same hD5
    have l5 := l4.move hW5.same hD5
    clear hV5 hB5 hq5 hDe5 k2 k3 k4 k5 s4 l4 gx0
    repeat (first | refine l_val rfl rfl (by first | exact pureEval_ok rfl ) ?_ | refine l_nil ?_ | refine c_region ?_ | refine c_seq ?_ | refine x_then ?_ )
    refine l_callF (ι := Option Addr × Nat) (v := fun q => .tuple ⟨[.int .i64 (ac (cds x0) (cds x)), .slice q.1 (pairL (cds x0) (cds x)).length q.2, .int .i64 0]⟩) (mem' := []) (fun q W W' => True) rfl rfl rfl (by repeat (first | exact MSub.nil | refine MSub.keep (by first | rfl | assumption) ?_ | refine MSub.drop ?_ | exact MSub.refl _)) (fun W hW => ?_) ?_
    · refine (Pair_any (cds x0) (cds x) TB LA tb lc W (fun c hc => (c5 c hc).2) (fun c hc => (c2 c hc).2) (t5.at hW) (l5.at hW)).mono fun e W' h => ?_
      obtain ⟨A', c', h1, h2, h3⟩ := PairQ.fr h
      rw [parA_ok c6 c3 c4 c1] at h1
      exact ⟨(A', c'), h1, h2, trivial⟩
    rintro ⟨P6, p6⟩ W W6 hV6 hB6 hW6 -
    refine l_gen fun D6 hDe6 => ?_
    simp only
    have hD6 : ∀ k, D5 k → D6 k := by rw [hDe6]; exact hW6.allBut (MSub.refl _)
    have n2 := m2.trans (hW6.same.mono m3)
    have n3 : ∀ k, base w k → D6 k := fun k hk => hD6 k (m3 k hk)
    have n4 := m4.move hW6.same hD6
    have n5 := fun v hv => (m5 v hv).move hW6.same hD6
    have s6 := s5.move hW6.same hD6
    have l6 := l5.move hW6.same hD6
    clear hV6 hB6 hDe6 m2 m3 m4 m5 s5 l5 t5
    repeat (first | refine l_val rfl rfl (by first | exact pureEval_ok rfl ) ?_ | refine l_nil ?_ | refine c_region ?_ | refine c_seq ?_ | refine x_then ?_ | refine l_dec_f rfl rfl rfl rfl rfl (by first | omega ) ?_ )
    refine r_call rfl rfl rfl (fun W hW => SameInts_calls SA LA sc lc (cds x) (cds x) W (by omega) (by omega) (s6.at hW) (l6.at hW)) ?_
    rw [decide_eq_true (rfl : cds x = cds x)]
    repeat (first | refine l_val rfl rfl (by first | exact v_add rfl rfl (by omega) (by omega) | exact pureEval_ok rfl ) ?_ | refine l_nil ?_ | refine c_region ?_ | refine x_then ?_ | refine c_dec_f rfl (by first | omega ) ?_ | refine c_skip ?_ | refine x_block ?_ )
    refine x_backW fun a0 W ha hmm => ?_
    have hD := hmm.allBut (MSub.refl [])
    exact ⟨⟨i + 1, W⟩, ⟨hlt, n2.trans (hmm.same.mono n3), fun k hk => hD k (n3 k hk), n4.move hmm.same hD, fun v hv => (n5 v hv).move hmm.same hD⟩, (by simp only; omega), (show EnvSub _ [(0, .slice (some ⟨bA, oA, none⟩) ws.length cap), (3, .slice (some ⟨bT, oT, none⟩) rows.length tc), (43, .slice (some ⟨bT, oT, none⟩) rows.length tc), (44, .int .i64 rows.length), (45, .int .i64 ((i + 1 : Nat) : Int))] from (by repeat (first | exact EnvSub.nil | refine EnvSub.cons rfl (by first | rfl | (congr 1; done) | (exact congrArg (Value.int _) (by omega)) | (simp; done)) ?_))).sat ha, hmm.fresh0 (MSub.refl [])⟩
  · obtain ⟨q1, q2, q3⟩ := k2
    have hll : l = cds x := u1
    refine c_freeze (mem' := []) MSub.nil fun W3 hV3 => ?_
    generalize hDe3 : allBut W3 (List.map (fun p => p.1) ([] : List (Nat × Obj))) = D3
    have hDe3 := hDe3.symm
    obtain ⟨SA, hSA⟩ : ∃ SA : Option Addr, SA = some ⟨bp, 0, none⟩ := ⟨_, rfl⟩
    have s3 : Ar W3 D3 SA 1 ((cds x).map inE) := by rw [hSA, hDe3, ← hll]; exact Ar.own hV3 (b := bp) (r := rr) (by repeat (first | exact List.Mem.head _ | apply List.Mem.tail)) (in_len _) (by simp)
    have hsv : IS.sv (.more n bp cp rr l) = .slice SA (cds x).length cp := by rw [hSA, ← hll, q2]; rfl
    rw [hsv]
    clear hsv hSA hll u1 q1 q2 q3
    obtain ⟨sc, hsc⟩ : ∃ sc : Nat, cp = sc := ⟨_, rfl⟩
    rw [hsc]
    have hD3 : ∀ k, D k → D3 k := by rw [hDe3]; exact hV3.allBut (MSub.nil)
    have j2 := i2.trans (hV3.same.mono i3)
    have j3 : ∀ k, base w k → D3 k := fun k hk => hD3 k (i3 k hk)
    have j4 := i4.move hV3.same hD3
    have j5 := fun v hv => (i5 v hv).move hV3.same hD3
    clear i2 i3 i4 i5 i50 i5v gT gT0 gT0' hV3 hD3 hDe3
    obtain ⟨b9, o9, e9, gx⟩ := (Ar.of hA (wiE_len ws) j2 j3).get hwx
    cases e9
    repeat (first | refine l_val rfl rfl (by first | exact pureEval_ok rfl | exact v_load_ext0 rfl (by assumption) rfl (by rfl) | exact v_index rfl rfl rfl rfl (by omega) (by omega) (by with_reducible first | exact idx4 _ _ _  ) ) ?_ | refine l_nil ?_ | refine c_region ?_ | refine c_seq ?_ | refine x_then ?_ | refine c_dec_f rfl (by first | omega ) ?_ | refine c_exit ?_ | refine x_then_exit ?_ | refine x_block_same ?_ )
    refine l_callF (ι := Option Addr × Nat) (v := fun q => .tuple ⟨[.slice q.1 (cds x).length q.2, .int .i64 0]⟩) (mem' := []) (fun q W W' => Fr W W' q.1 1 ((cds x).map inE)) rfl rfl rfl (by repeat (first | exact MSub.nil | refine MSub.keep (by first | rfl | assumption) ?_ | refine MSub.drop ?_ | exact MSub.refl _)) (fun W hW => ?_) ?_
    · refine (Codes_calls x W ((hwi.out x hxm).later (j2.trans (hW.same.mono j3)).base_later)).mono fun e W' h => ?_
      obtain ⟨A', c', h1, h2, h3⟩ := CosQ.fr h
      rw [cosL_ok (hck.out x hxm), hck.out x hxm] at h1
      rw [cosL_ok (hck.out x hxm)] at h3
      exact ⟨(A', c'), h1, h2, h3⟩
    rintro ⟨LA, lc⟩ W W4 hV4 hB4 hW4 hq4
    refine l_gen fun D4 hDe4 => ?_
    simp only at hq4 ⊢
    have hD4 : ∀ k, D3 k → D4 k := by rw [hDe4]; exact hW4.allBut (MSub.refl _)
    have l4 : Ar W4 D4 LA 1 ((cds x).map inE) := by rw [hDe4]; exact hq4.ar (inE_ne _) (by simp)
    have k2 := j2.trans (hW4.same.mono j3)
    have k3 : ∀ k, base w k → D4 k := fun k hk => hD4 k (j3 k hk)
    have k4 := j4.move hW4.same hD4
    have k5 := fun v hv => (j5 v hv).move hW4.same hD4
    have s4 := s3.move hW4.same hD4
    clear hV4 hB4 hq4 hDe4 j2 j3 j4 j5 s3
    obtain ⟨b9, o9, e9, gx0⟩ := (Ar.of hA (wiE_len ws) k2 k3).get hx0
    cases e9
    have gx0 : Ext W4 D4 bA (oA + (0 : Int).toNat * 3) (wiE x0) := gx0
    repeat (first | refine l_val rfl rfl (by first | exact pureEval_ok rfl | exact v_load_ext0 rfl (by assumption) rfl (by rfl) | exact v_index rfl rfl rfl rfl (by omega) (by omega) (by with_reducible first | exact idx8 _ _ _  ) ) ?_ | refine l_nil ?_ | refine c_region ?_ | refine c_seq ?_ | refine x_then ?_ )
    refine l_callF (ι := Option Addr × Nat) (v := fun q => .tuple ⟨[.slice q.1 (cds x0).length q.2, .int .i64 0]⟩) (mem' := []) (fun q W W' => Fr W W' q.1 1 ((cds x0).map inE)) rfl rfl rfl (by repeat (first | exact MSub.nil | refine MSub.keep (by first | rfl | assumption) ?_ | refine MSub.drop ?_ | exact MSub.refl _)) (fun W hW => ?_) ?_
    · have hxm0 := List.mem_of_getElem? hx0
      refine (Codes_calls x0 W ((hwi.out x0 hxm0).later (k2.trans (hW.same.mono k3)).base_later)).mono fun e W' h => ?_
      obtain ⟨A', c', h1, h2, h3⟩ := CosQ.fr h
      rw [cosL_ok (hck.out x0 hxm0), hck.out x0 hxm0] at h1
      rw [cosL_ok (hck.out x0 hxm0)] at h3
      exact ⟨(A', c'), h1, h2, h3⟩
    rintro ⟨TB, tb⟩ W W5 hV5 hB5 hW5 hq5
    refine l_gen fun D5 hDe5 => ?_
    simp only at hq5 ⊢
    have hD5 : ∀ k, D4 k → D5 k := by rw [hDe5]; exact hW5.allBut (MSub.refl _)
    have t5 : Ar W5 D5 TB 1 ((cds x0).map inE) := by rw [hDe5]; exact hq5.ar (inE_ne _) (by simp)
    have m2 := k2.trans (hW5.same.mono k3)
    have m3 : ∀ k, base w k → D5 k := fun k hk => hD5 k (k3 k hk)
    have m4 := k4.move hW5.same hD5
    have m5 := fun v hv => (k5 v hv).move hW5.same hD5
    have s5 := s4.move hW5.same hD5
    have l5 := l4.move hW5.same hD5
    clear hV5 hB5 hq5 hDe5 k2 k3 k4 k5 s4 l4 gx0
    repeat (first | refine l_val rfl rfl (by first | exact pureEval_ok rfl ) ?_ | refine l_nil ?_ | refine c_region ?_ | refine c_seq ?_ | refine x_then ?_ )
    refine l_callF (ι := Option Addr × Nat) (v := fun q => .tuple ⟨[.int .i64 (ac (cds x0) (cds x)), .slice q.1 (pairL (cds x0) (cds x)).length q.2, .int .i64 0]⟩) (mem' := []) (fun q W W' => True) rfl rfl rfl (by repeat (first | exact MSub.nil | refine MSub.keep (by first | rfl | assumption) ?_ | refine MSub.drop ?_ | exact MSub.refl _)) (fun W hW => ?_) ?_
    · refine (Pair_any (cds x0) (cds x) TB LA tb lc W (fun c hc => (c5 c hc).2) (fun c hc => (c2 c hc).2) (t5.at hW) (l5.at hW)).mono fun e W' h => ?_
      obtain ⟨A', c', h1, h2, h3⟩ := PairQ.fr h
      rw [parA_ok c6 c3 c4 c1] at h1
      exact ⟨(A', c'), h1, h2, trivial⟩
    rintro ⟨P6, p6⟩ W W6 hV6 hB6 hW6 -
    refine l_gen fun D6 hDe6 => ?_
    simp only
    have hD6 : ∀ k, D5 k → D6 k := by rw [hDe6]; exact hW6.allBut (MSub.refl _)
    have n2 := m2.trans (hW6.same.mono m3)
    have n3 : ∀ k, base w k → D6 k := fun k hk => hD6 k (m3 k hk)
    have n4 := m4.move hW6.same hD6
    have n5 := fun v hv => (m5 v hv).move hW6.same hD6
    have s6 := s5.move hW6.same hD6
    have l6 := l5.move hW6.same hD6
    clear hV6 hB6 hDe6 m2 m3 m4 m5 s5 l5 t5
    repeat (first | refine l_val rfl rfl (by first | exact pureEval_ok rfl ) ?_ | refine l_nil ?_ | refine c_region ?_ | refine c_seq ?_ | refine x_then ?_ | refine l_dec_f rfl rfl rfl rfl rfl (by first | omega ) ?_ )
    refine r_call rfl rfl rfl (fun W hW => SameInts_calls SA LA sc lc (cds x) (cds x) W (by omega) (by omega) (s6.at hW) (l6.at hW)) ?_
    rw [decide_eq_true (rfl : cds x = cds x)]
    repeat (first | refine l_val rfl rfl (by first | exact v_add rfl rfl (by omega) (by omega) | exact pureEval_ok rfl ) ?_ | refine l_nil ?_ | refine c_region ?_ | refine x_then ?_ | refine c_dec_f rfl (by first | omega ) ?_ | refine c_skip ?_ | refine x_block ?_ )
    refine x_backW fun a0 W ha hmm => ?_
    have hD := hmm.allBut (MSub.refl [])
    exact ⟨⟨i + 1, W⟩, ⟨hlt, n2.trans (hmm.same.mono n3), fun k hk => hD k (n3 k hk), n4.move hmm.same hD, fun v hv => (n5 v hv).move hmm.same hD⟩, (by simp only; omega), (show EnvSub _ [(0, .slice (some ⟨bA, oA, none⟩) ws.length cap), (3, .slice (some ⟨bT, oT, none⟩) rows.length tc), (43, .slice (some ⟨bT, oT, none⟩) rows.length tc), (44, .int .i64 rows.length), (45, .int .i64 ((i + 1 : Nat) : Int))] from (by repeat (first | exact EnvSub.nil | refine EnvSub.cons rfl (by first | rfl | (congr 1; done) | (exact congrArg (Value.int _) (by omega)) | (simp; done)) ?_))).sat ha, hmm.fresh0 (MSub.refl [])⟩
end R41
end Go.Proofs

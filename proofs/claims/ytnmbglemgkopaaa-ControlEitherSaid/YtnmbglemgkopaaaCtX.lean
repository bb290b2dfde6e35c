/- Uncertain networks: the law Either. -/
import Derived.Test.YtnmbglemgkopaaaCtW
import Derived.Test.YtnmbglemgkopaaaCtI
set_option linter.unusedSectionVars false
set_option linter.unusedVariables false
set_option linter.unusedSimpArgs false
namespace Go.Proofs
open Go.RowKit Go.Kin Go.Kin.St Go.Kin.Ct
open R22
namespace R23
set_option maxRecDepth 100000 in
set_option maxHeartbeats 40000000 in
theorem law9 (u : Un) (D U : Option Addr) (cd capU : Nat) (d : List Int) (us : List Us) (w : World) (hA : u.In w) (hDd : Kin.At w D 1 (d.map inE)) (hU : Kin.At w U 2 (us.map usE)) (hdl : d.length ≤ 9223372036854775807) (hul : us.length ≤ 9223372036854775807) :
    Calls Try.prog 9 ⟨[.agg ⟨u.v⟩, .slice D d.length cd, .slice U us.length capU]⟩ w fun e w' => e = .returned (.bool true) ∧ Below w.heap.size w w' := by
  have hfe : ∀ (W : World), Calls Try.prog 13 ⟨[.agg ⟨u.v⟩]⟩ W fun e w' => e = .returned (.bool (fewB u.n u.L.length u.C.length)) ∧ Below W.heap.size W w' := fun W => Few_calls u W
  have hfw : fewB u.n u.L.length u.C.length = true → chkU u.n u.L u.C = 0 → u.L.length ≤ 30 ∧ u.C.length ≤ 30 := fun hf h0 => by have := (few_yes hf).2.2 h0; exact ⟨this.1, this.2.1⟩
  have h16 : ∀ (mem : List (Nat × Obj)) (W : World), fewB u.n u.L.length u.C.length = true → SatW w (base w) noJ mem W → Calls Try.prog 16 ⟨[.agg ⟨u.v⟩]⟩ W fun e w' => e = .returned (.int .i64 (chkU u.n u.L u.C)) ∧ Below W.heap.size W w' := fun mem W hf hW => Check_calls u W (hA.sat hW) (by have := (few_yes hf).1; omega)
  have h22 : ∀ (mem : List (Nat × Obj)) (W : World), fewB u.n u.L.length u.C.length = true → SatW w (base w) noJ mem W → Calls Try.prog 22 ⟨[.agg ⟨u.v⟩]⟩ W (StrQ u.n u.L u.C W) := fun mem W hf hW => Strong_calls u W (hA.sat hW) (by have := (few_yes hf).1; omega) (hfw hf)
  have h24 : ∀ (mem : List (Nat × Obj)) (W : World), fewB u.n u.L.length u.C.length = true → SatW w (base w) noJ mem W → Calls Try.prog 24 ⟨[.agg ⟨u.v⟩]⟩ W (RftQ u.n u.L u.C W) := fun mem W hf hW => Refute_calls u W (hA.sat hW) (by have := (few_yes hf).1; omega) (hfw hf)
  have h27 : ∀ (U : Option Addr) (capU : Nat) (us : List Us) (mem : List (Nat × Obj)) (W : World), fewB u.n u.L.length u.C.length = true → us.length ≤ 300 → Kin.At W U 2 (us.map usE) → SatW w (base w) noJ mem W → Calls Try.prog 27 ⟨[.agg ⟨u.v⟩, .slice U us.length capU]⟩ W fun e w' => e = .returned (acV u.n u.L u.C us) ∧ Below W.heap.size W w' := fun U capU us mem W hf hl hU hW => Accepts_calls u U capU us W (hA.sat hW) (by have := (few_yes hf).1; omega) hU (by omega)
  have h19 : ∀ (T : Option Addr) (ct : Nat) (t : List Int) (mem : List (Nat × Obj)) (W : World), fewB u.n u.L.length u.C.length = true → t.length ≤ 1000 → Kin.At W T 1 (t.map inE) → SatW w (base w) noJ mem W → Calls Try.prog 19 ⟨[.agg ⟨u.v⟩, .slice T t.length ct, .slice D d.length cd]⟩ W (PlayQ u.n u.L u.C t d W) := fun T ct t mem W hf ht hT hW => Play_calls u T D ct cd t d W (hA.sat hW) (by have := (few_yes hf).1; omega) hT (hDd.sat hW) (by omega) hdl
  have h29 : ∀ (mem : List (Nat × Obj)) (W : World), fewB u.n u.L.length u.C.length = true → SatW w (base w) noJ mem W → Calls Try.prog 29 ⟨[.agg ⟨u.v⟩, .slice D d.length cd]⟩ W fun e w' => e = .returned (.bool (@decide (Dur u.C d) (Classical.propDecidable _))) ∧ Below W.heap.size W w' := fun mem W hf hW => fine_calls u D cd d W (hA.sat hW) (by have := (few_yes hf).2.1; omega) (hDd.sat hW) hdl
  have h30 : ∀ (T : Option Addr) (ct : Nat) (t : List Int) (mem : List (Nat × Obj)) (W : World), fewB u.n u.L.length u.C.length = true → t.length ≤ 1000 → Kin.At W T 1 (t.map inE) → SatW w (base w) noJ mem W → Calls Try.prog 30 ⟨[.agg ⟨[.int .i64 u.n, .slice u.A u.L.length u.cap]⟩, .slice T t.length ct]⟩ W fun e w' => e = .returned (mtV u.n u.L t) ∧ Below W.heap.size W w' := fun T ct t mem W hf ht hT hW => Meets_calls u.n u.A T u.cap ct u.L t W (by have := (few_yes hf).1; omega) ht (hA.sat hW).l hT
  obtain ⟨n, A, cap, L, B, cab, C⟩ := u
  simp only [Un.v] at hfe hfw h16 h22 h24 h27 h19 h29 h30 ⊢
  refine fun_enter Try.func9 rfl Try.ntmps9 rfl rfl (satW_nil w) ?_
  repeat (first | refine l_val rfl rfl (by first | exact pureEval_ok rfl  | fail) ?_ | refine l_nil ?_ | refine c_region ?_ | refine c_seq ?_ | refine x_then ?_ | refine r_box rfl rfl rfl rfl (fun _ => ?_)  | fail)
  refine r_call rfl rfl rfl (fun W hW => sane_calls W) ?_
  repeat (first | refine l_val rfl rfl (by first | exact pureEval_ok rfl | exact v_load rfl (by repeat (first | exact List.Mem.head _ | apply List.Mem.tail)) rfl (by rfl)  | fail) ?_ | refine l_nil ?_ | refine c_region ?_ | refine c_seq ?_ | refine x_then ?_ | refine c_false rfl ?_ | refine c_skip ?_  | fail)
  refine r_call rfl rfl rfl (fun W hW => hfe W) ?_
  cases hf : fewB n L.length C.length with
  | false =>
    repeat (first | refine l_val rfl rfl (by first | exact pureEval_ok rfl | exact v_load rfl (by repeat (first | exact List.Mem.head _ | apply List.Mem.tail)) rfl (by rfl)  | fail) ?_ | refine l_nil ?_ | refine c_region ?_ | refine c_seq ?_ | refine x_then ?_ | refine l_skip rfl rfl ?_ | refine c_true rfl ?_ | refine c_ret ?_ | refine x_then_ret ?_  | fail)
    exact x_ret rfl rfl (by repeat (first | exact Res.nil | (apply Res.tmp; rfl) | (apply Res.cell; rfl; exact (by repeat (first | exact List.Mem.head _ | apply List.Mem.tail)); rfl; rfl))) rfl (fun W hW => ⟨rfl, hW.below⟩)
  | true =>
    by_cases hl : us.length ≤ 300
    rotate_left
    · repeat (first | refine l_val rfl rfl (by first | exact pureEval_ok rfl | exact v_load rfl (by repeat (first | exact List.Mem.head _ | apply List.Mem.tail)) rfl (by rfl)  | fail) ?_ | refine l_nil ?_ | refine c_region ?_ | refine c_seq ?_ | refine x_then ?_ | refine l_skip rfl rfl ?_ | refine c_true rfl ?_ | refine c_ret ?_ | refine x_then_ret ?_ | refine l_dec_t rfl rfl rfl rfl rfl (by first | omega  | fail) ?_  | fail)
      exact x_ret rfl rfl (by repeat (first | exact Res.nil | (apply Res.tmp; rfl) | (apply Res.cell; rfl; exact (by repeat (first | exact List.Mem.head _ | apply List.Mem.tail)); rfl; rfl))) rfl (fun W hW => ⟨rfl, hW.below⟩)
    repeat (first | refine l_val rfl rfl (by first | exact pureEval_ok rfl | exact v_load rfl (by repeat (first | exact List.Mem.head _ | apply List.Mem.tail)) rfl (by rfl)  | fail) ?_ | refine l_dec_f rfl rfl rfl rfl rfl (by first | omega | exact fun h => h rfl  | fail) ?_  | fail)
    refine r_call rfl rfl rfl (fun W hW => h16 _ W hf hW) ?_
    by_cases h0 : chkU n L C = 0
    rotate_left
    · repeat (first | refine l_val rfl rfl (by first | exact pureEval_ok rfl  | fail) ?_ | refine l_nil ?_ | refine c_region ?_ | refine c_seq ?_ | refine x_then ?_ | refine c_dec_t rfl (by first | omega  | fail) ?_ | refine c_ret ?_ | refine x_then_ret ?_  | fail)
      exact x_ret rfl rfl (by repeat (first | exact Res.nil | (apply Res.tmp; rfl) | (apply Res.cell; rfl; exact (by repeat (first | exact List.Mem.head _ | apply List.Mem.tail)); rfl; rfl))) rfl (fun W hW => ⟨rfl, hW.below⟩)
    rw [h0]
    cases hs : str n L C with
    | some t =>
      obtain ⟨n1, n2, -⟩ := chkU_ok h0
      obtain ⟨N, rfl⟩ : ∃ N : Nat, n = N := ⟨n.toNat, by omega⟩
      have hyes : ∀ {W W' : World} {e : Ending}, StrQ N L C W e W' → ∃ b : Nat, e = .returned (yesV N b) ∧ Below W.heap.size W W' ∧ W.heap.size ≤ b ∧ W'.heap[b]? = some (.cells ⟨ivec N t⟩ 3 (0, 0)) := fun {W W' e} hq => by
        rcases hq with ⟨g, _⟩ | ⟨t', b, g1, g2, g3, g4, g5⟩
        · rw [hs] at g; cases g
        · rw [hs] at g1
          cases g1
          rw [Int.toNat_natCast] at g2 g5
          exact ⟨b, g2, g3, g4, g5⟩
      have hiv : ∀ {W : World} {J : (Nat → Prop) → World → Prop} {mem : List (Nat × Obj)} {b : Nat}, SatW w (base w) J mem W → (b, Obj.cells ⟨ivec N t⟩ 3 (0, 0)) ∈ mem → Kin.At W (some ⟨b, 0, none⟩) 1 ((tmL N t).map inE) := fun {W J mem b} hW hm => SatW.rows (rest := []) hW hm (by rw [List.append_nil]; exact flatI_ivec.symm) (in_len _)
      have hfy := (few_yes hf).2.2 h0
      obtain ⟨hTm, hSol⟩ := str_times hs (by omega) hfy.2.1
      have hna : accU N L C us = false := by
        by_cases hc : chkU N L C = 0 ∧ 1 ≤ us.length ∧ us.length ≤ 256
        · rw [accU_is hc, Int.toNat_natCast]
          cases hac : accepts (net C N L) us with
          | false => rfl
          | true => exact absurd hSol (accepts_none (by intro e; rw [e] at hc; simp at hc) hac _)
        · exact accU_no hc
      have h19t := fun b mem W h => h19 (some ⟨b, 0, none⟩) N (tmL N t) mem W hf (by rw [tmL_len]; omega) h
      rw [tmL_len] at h19t
      repeat (first | refine l_val rfl rfl (by first | exact pureEval_ok rfl | exact v_load rfl (by repeat (first | exact List.Mem.head _ | apply List.Mem.tail)) rfl (by rfl)  | fail) ?_ | refine l_nil ?_ | refine c_region ?_ | refine c_seq ?_ | refine x_then ?_ | refine c_false rfl ?_ | refine c_skip ?_  | fail)
      refine r_call1 (ι := Nat) (bk := fun b => b) (v := fun b => yesV N b) (o := fun b => .cells ⟨ivec N t⟩ 3 (0, 0)) rfl rfl rfl (fun W hW => (h22 _ W hf hW).mono fun e W' hq => hyes hq) (fun b1 => ?_)
      unfold yesV
      repeat (first | refine l_val rfl rfl (by first | exact pureEval_ok rfl | exact v_load rfl (by repeat (first | exact List.Mem.head _ | apply List.Mem.tail)) rfl (by rfl)  | fail) ?_ | refine l_nil ?_ | refine c_region ?_ | refine c_seq ?_ | refine x_then ?_  | fail)
      refine r_call (v := noV 0) rfl rfl rfl (fun W hW => (h24 _ W hf hW).mono fun e W' hq => ?_) ?_
      · rcases hq with ⟨_, g2, g3⟩ | ⟨_, g, _⟩
        · rw [h0] at g2; exact ⟨g2, g3⟩
        · rw [hs] at g; cases g
      unfold noV
      repeat (first | refine l_val rfl rfl (by first | exact pureEval_ok rfl | exact v_load rfl (by repeat (first | exact List.Mem.head _ | apply List.Mem.tail)) rfl (by rfl)  | fail) ?_ | refine l_nil ?_ | refine c_region ?_ | refine c_seq ?_ | refine x_then ?_ | refine c_false rfl ?_ | refine c_skip ?_  | fail)
      refine r_call rfl rfl rfl (fun W hW => h27 U capU us _ W hf hl (hU.sat hW) hW) ?_
      unfold acV
      rw [hna, h0]
      repeat (first | refine l_val rfl rfl (by first | exact pureEval_ok rfl | exact v_load rfl (by repeat (first | exact List.Mem.head _ | apply List.Mem.tail)) rfl (by rfl)  | fail) ?_ | refine l_nil ?_ | refine c_region ?_ | refine c_seq ?_ | refine x_then ?_  | fail)
      by_cases hk : PlayOK N L C (tmL N t) d
      · have hlen := plL_len (C := C) (N := N) (t := tmL N t) (d := d)
        obtain ⟨hm1, hm2⟩ := play_meets hk hSol
        refine r_call1 (ι := Nat × Nat × List Value) (v := fun i => .tuple ⟨[.slice (some ⟨i.1, 0, none⟩) (plL C N (tmL N t) d).length i.2.1, .int .i64 0]⟩) (bk := fun i => i.1) (o := fun i => .cells ⟨flatI (plL C N (tmL N t) d) ++ i.2.2⟩ 3 (0, 0)) rfl rfl rfl (fun W hW => (h19t _ _ W (hiv hW (by repeat (first | exact List.Mem.head _ | apply List.Mem.tail))) hW).mono fun e W' hq => hq.ok hk) ?_
        rintro ⟨b2, c2, r2⟩
        simp only
        repeat (first | refine l_val rfl rfl (by first | exact pureEval_ok rfl | exact v_load rfl (by repeat (first | exact List.Mem.head _ | apply List.Mem.tail)) rfl (by rfl) | exact v_build rfl rfl (by rfl)  | fail) ?_ | refine l_nil ?_ | refine c_region ?_ | refine c_seq ?_ | refine x_then ?_ | refine c_false rfl ?_ | refine c_skip ?_  | fail)
        refine r_call rfl rfl rfl (fun W hW => h30 (some ⟨b2, 0, none⟩) c2 (plL C N (tmL N t) d) _ W hf (by omega) (SatW.rows (b := b2) (rest := r2) (rows := (plL C N (tmL N t) d).map inE) hW (by repeat (first | exact List.Mem.head _ | apply List.Mem.tail)) rfl (in_len _)) hW) ?_
        unfold mtV
        rw [hm1, hm2]
        repeat (first | refine l_val rfl rfl (by first | exact pureEval_ok rfl  | fail) ?_ | refine l_nil ?_ | refine c_region ?_ | refine c_seq ?_ | refine x_then ?_ | refine c_ret ?_  | fail)
        exact x_ret rfl rfl (by repeat (first | exact Res.nil | (apply Res.tmp; rfl) | (apply Res.cell; rfl; exact (by repeat (first | exact List.Mem.head _ | apply List.Mem.tail)); rfl; rfl))) rfl (fun W hW => ⟨rfl, hW.below⟩)
      · have he1 : plE N L C (tmL N t) d = 1 := by unfold plE; rw [if_neg hk, if_pos h0]
        have hnd : @decide (Dur C d) (Classical.propDecidable _) = false := @decide_eq_false _ (Classical.propDecidable _) fun h => hk ⟨h0, by rw [tmL_len], hTm, h⟩
        refine r_callI (ι := Option Addr × Nat) (v := fun i => .tuple ⟨[.slice i.1 ([] : List Int).length i.2, .int .i64 (plE N L C (tmL N t) d)]⟩) rfl rfl rfl (fun W hW => (h19t _ _ W (hiv hW (by repeat (first | exact List.Mem.head _ | apply List.Mem.tail))) hW).mono fun e W' hq => hq.no hk) ?_
        rintro ⟨A1, c1⟩
        simp only
        rw [he1]
        repeat (first | refine l_val rfl rfl (by first | exact pureEval_ok rfl | exact v_load rfl (by repeat (first | exact List.Mem.head _ | apply List.Mem.tail)) rfl (by rfl)  | fail) ?_ | refine l_nil ?_ | refine c_region ?_ | refine c_seq ?_ | refine x_then ?_ | refine c_true rfl ?_ | refine c_false rfl ?_ | refine c_skip ?_ | refine l_dec_t rfl rfl rfl rfl rfl (by first | omega  | fail) ?_  | fail)
        refine r_call rfl rfl rfl (fun W hW => h29 _ W hf hW) ?_
        rw [hnd]
        repeat (first | refine l_val rfl rfl (by first | exact pureEval_ok rfl  | fail) ?_ | refine l_nil ?_ | refine x_then ?_ | refine c_ret ?_ | refine x_then_ret ?_  | fail)
        exact x_ret rfl rfl (by repeat (first | exact Res.nil | (apply Res.tmp; rfl) | (apply Res.cell; rfl; exact (by repeat (first | exact List.Mem.head _ | apply List.Mem.tail)); rfl; rfl))) rfl (fun W hW => ⟨rfl, hW.below⟩)
    | none =>
      have hno : ∀ {W W' : World} {e : Ending}, StrQ n L C W e W' → e = .returned (noV 0) ∧ Below W.heap.size W W' := fun {W W' e} hq => by
        rcases hq with ⟨_, g2, g3⟩ | ⟨t', b, g1, _⟩
        · rw [h0] at g2; exact ⟨g2, g3⟩
        · rw [hs] at g1; cases g1
      repeat (first | refine l_val rfl rfl (by first | exact pureEval_ok rfl | exact v_load rfl (by repeat (first | exact List.Mem.head _ | apply List.Mem.tail)) rfl (by rfl)  | fail) ?_ | refine l_nil ?_ | refine c_region ?_ | refine c_seq ?_ | refine x_then ?_ | refine c_false rfl ?_ | refine c_skip ?_  | fail)
      refine r_call rfl rfl rfl (fun W hW => (h22 _ W hf hW).mono fun e W' hq => hno hq) ?_
      unfold noV
      repeat (first | refine l_val rfl rfl (by first | exact pureEval_ok rfl | exact v_load rfl (by repeat (first | exact List.Mem.head _ | apply List.Mem.tail)) rfl (by rfl)  | fail) ?_ | refine l_nil ?_ | refine c_region ?_ | refine c_seq ?_ | refine x_then ?_  | fail)
      refine r_call1 (ι := {p : List Us × Nat × Nat × List Value // p.1 ≠ [] ∧ p.1.length ≤ 64 ∧ accepts (net C n.toNat L) p.1 = true}) (v := fun p => .tuple ⟨[.slice (some ⟨p.1.2.1, 0, none⟩) p.1.1.length p.1.2.2.1, .bool true, .int .i64 0]⟩) (bk := fun p => p.1.2.1) (o := fun p => .cells ⟨flat p.1.1.length (fun j => usE (p.1.1.getD j ⟨0, false⟩)) ++ p.1.2.2.2⟩ 52 (0, 0)) rfl rfl rfl (fun W hW => (h24 _ W hf hW).mono fun e W' hq => ?_) ?_
      · rcases hq with ⟨g | ⟨t, g⟩, _⟩ | ⟨_, _, us, b, cap, rest, g1, g2, g3, g4, g5, g6, g7⟩
        · exact absurd h0 g
        · rw [hs] at g; cases g
        · exact ⟨⟨(us, b, cap, rest), g1, g2, g3⟩, g4, g5, g6, g7⟩
      rintro ⟨⟨vs, b, cap', rest⟩, hne, hlu, hac⟩
      simp only at hne hlu hac ⊢
      have hflat : flat vs.length (fun j => usE (vs.getD j ⟨0, false⟩)) = (vs.map usE).flatten := by
        rw [flat_flatten]
        congr 1
        apply List.ext_getElem?
        intro j
        by_cases hj : j < vs.length
        · rw [List.getElem?_map, List.getElem?_range hj, List.getElem?_map, List.getElem?_eq_getElem hj, Option.map_some, Option.map_some, List.getD_eq_getElem?_getD, List.getElem?_eq_getElem hj]; rfl
        · rw [List.getElem?_eq_none (by simp; omega), List.getElem?_eq_none (by simp; omega)]
      rw [hflat]
      have hacU : accU n L C vs = true := by rw [accU_is ⟨h0, by have := List.length_pos_iff.2 hne; omega, by omega⟩]; exact hac
      repeat (first | refine l_val rfl rfl (by first | exact pureEval_ok rfl | exact v_load rfl (by repeat (first | exact List.Mem.head _ | apply List.Mem.tail)) rfl (by rfl)  | fail) ?_ | refine l_nil ?_ | refine c_region ?_ | refine c_seq ?_ | refine x_then ?_ | refine c_true rfl ?_ | refine c_false rfl ?_ | refine c_skip ?_  | fail)
      refine r_call rfl rfl rfl (fun W hW => h27 (some ⟨b, 0, none⟩) cap' vs _ W hf (by omega) (SatW.rows (b := b) (rest := rest) (rows := vs.map usE) hW (by repeat (first | exact List.Mem.head _ | apply List.Mem.tail)) rfl (us_len _)) hW) ?_
      unfold acV
      rw [hacU, h0]
      repeat (first | refine l_val rfl rfl (by first | exact pureEval_ok rfl  | fail) ?_ | refine l_nil ?_ | refine c_region ?_ | refine c_seq ?_ | refine x_then ?_ | refine c_ret ?_ | refine x_then_ret ?_  | fail)
      exact x_ret rfl rfl (by repeat (first | exact Res.nil | (apply Res.tmp; rfl) | (apply Res.cell; rfl; exact (by repeat (first | exact List.Mem.head _ | apply List.Mem.tail)); rfl; rfl))) rfl (fun W hW => ⟨rfl, hW.below⟩)
end R23
end Go.Proofs

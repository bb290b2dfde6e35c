/- Uncertain networks: the laws on Play, Strong and Accepts against the specification. -/
import Derived.Test.YtnmbglemgkopaaaCtSan
import Derived.Test.YtnmbglemgkopaaaCtL
import Derived.Test.YtnmbglemgkopaaaCtO
set_option linter.unusedSectionVars false
set_option linter.unusedVariables false
set_option linter.unusedSimpArgs false
namespace Go.Proofs
open Go.RowKit Go.Kin Go.Kin.St Go.Kin.Ct
open R22
namespace R23
theorem flatI_ivec {N : Nat} {t : Nat → Int} : flatI ((List.range N).map t) = ivec N t := by rw [flatI_map, List.map_map]; rfl
theorem us_len (l : List Us) : ∀ r ∈ l.map usE, r.length = 2 := fun r hr => by obtain ⟨x, _, rfl⟩ := List.mem_map.1 hr; rfl
theorem at_nil0 {w : World} (A : Option Addr) : Kin.At w A 1 (([] : List Int).map inE) := fun i r h => by simp at h
theorem PlayQ.ok {N : Nat} {L C : List Lk} {t d : List Int} {w w' : World} {e : Ending} (h : PlayOK N L C t d) (hq : PlayQ N L C t d w e w') :
    ∃ i : Nat × Nat × List Value, e = .returned (.tuple ⟨[.slice (some ⟨i.1, 0, none⟩) (plL C N t d).length i.2.1, .int .i64 0]⟩) ∧ Below w.heap.size w w' ∧ w.heap.size ≤ i.1 ∧ w'.heap[i.1]? = some (.cells ⟨flatI (plL C N t d) ++ i.2.2⟩ 3 (0, 0)) := by
  obtain ⟨v, h1, h2, h3⟩ := hq
  obtain ⟨p1, p2⟩ := plE_ok h
  rw [Int.toNat_natCast] at p2
  rw [p1] at h1
  rw [p2] at h2
  rcases h2 with ⟨g, _⟩ | ⟨b, cap, rest, g1, g2, g3, g4⟩
  · have := congrArg List.length g
    rw [plL_len] at this
    obtain ⟨n1, _⟩ := chkU_ok h.1
    simp at this; omega
  · exact ⟨(b, cap, rest), by rw [h1, g1], h3, g3, g4⟩
theorem PlayQ.no {n : Int} {L C : List Lk} {t d : List Int} {w w' : World} {e : Ending} (h : ¬ PlayOK n L C t d) (hq : PlayQ n L C t d w e w') :
    ∃ i : Option Addr × Nat, e = .returned (.tuple ⟨[.slice i.1 ([] : List Int).length i.2, .int .i64 (plE n L C t d)]⟩) ∧ Below w.heap.size w w' := by
  obtain ⟨v, h1, h2, h3⟩ := hq
  have p2 : plR n L C t d = [] := if_neg h
  rw [p2] at h2
  obtain ⟨A, cap, g, -⟩ := h2.fr
  exact ⟨(A, cap), by rw [h1, g], h3⟩
theorem law4 (u : Un) (T D : Option Addr) (ct cd : Nat) (t d : List Int) (w : World) (hA : u.In w) (hTt : Kin.At w T 1 (t.map inE)) (hDd : Kin.At w D 1 (d.map inE)) (htl : t.length ≤ 9223372036854775807) (hdl : d.length ≤ 9223372036854775807) :
    Calls Try.prog 4 ⟨[.agg ⟨u.v⟩, .slice T t.length ct, .slice D d.length cd]⟩ w fun e w' => e = .returned (.bool true) ∧ Below w.heap.size w w' := by
  have hfe : ∀ (W : World), Calls Try.prog 13 ⟨[.agg ⟨u.v⟩]⟩ W fun e w' => e = .returned (.bool (fewB u.n u.L.length u.C.length)) ∧ Below W.heap.size W w' := fun W => Few_calls u W
  have hp : ∀ (mem : List (Nat × Obj)) (W : World), fewB u.n u.L.length u.C.length = true → SatW w (base w) noJ mem W → Calls Try.prog 19 ⟨[.agg ⟨u.v⟩, .slice T t.length ct, .slice D d.length cd]⟩ W (PlayQ u.n u.L u.C t d W) := fun mem W hf hW => Play_calls u T D ct cd t d W (hA.sat hW) (by have := (few_yes hf).1; omega) (hTt.sat hW) (hDd.sat hW) htl hdl
  have hr : ∀ (mem : List (Nat × Obj)) (W : World), fewB u.n u.L.length u.C.length = true → SatW w (base w) noJ mem W → Calls Try.prog 20 ⟨[.agg ⟨u.v⟩, .slice T t.length ct, .slice D d.length cd]⟩ W (PlayQ u.n u.L u.C t d W) := fun mem W hf hW => rPlay_calls u T D ct cd t d W (hA.sat hW) (by have := (few_yes hf).1; omega) (by have := (few_yes hf).2.1; omega) (hTt.sat hW) (hDd.sat hW) htl hdl
  obtain ⟨n, A, cap, L, B, cab, C⟩ := u
  simp only [Un.v] at hfe hp hr ⊢
  refine fun_enter Try.func4 rfl Try.ntmps4 rfl rfl (satW_nil w) ?_
  repeat (first | refine l_val rfl rfl (by first | exact pureEval_ok rfl  | fail) ?_ | refine l_nil ?_ | refine c_region ?_ | refine c_seq ?_ | refine x_then ?_ | refine r_box rfl rfl rfl rfl (fun _ => ?_)  | fail)
  refine r_call rfl rfl rfl (fun W hW => sane_calls W) ?_
  repeat (first | refine l_val rfl rfl (by first | exact pureEval_ok rfl | exact v_load rfl (by repeat (first | exact List.Mem.head _ | apply List.Mem.tail)) rfl (by rfl)  | fail) ?_ | refine l_nil ?_ | refine c_region ?_ | refine c_seq ?_ | refine x_then ?_ | refine c_false rfl ?_ | refine c_skip ?_  | fail)
  refine r_call rfl rfl rfl (fun W hW => hfe W) ?_
  cases hf : fewB n L.length C.length with
  | false =>
    repeat (first | refine l_val rfl rfl (by first | exact pureEval_ok rfl  | fail) ?_ | refine l_nil ?_ | refine c_region ?_ | refine c_seq ?_ | refine x_then ?_ | refine c_true rfl ?_ | refine c_ret ?_ | refine x_then_ret ?_  | fail)
    exact x_ret rfl rfl (by repeat (first | exact Res.nil | (apply Res.tmp; rfl) | (apply Res.cell; rfl; exact (by repeat (first | exact List.Mem.head _ | apply List.Mem.tail)); rfl; rfl))) rfl (fun W hW => ⟨rfl, hW.below⟩)
  | true =>
    by_cases hk : PlayOK n L C t d
    · obtain ⟨N, rfl⟩ : ∃ N : Nat, n = N := ⟨n.toNat, by have := (chkU_ok hk.1).1; omega⟩
      have hlen := plL_len (C := C) (N := N) (t := t) (d := d)
      have hN := (chkU_ok hk.1).2.1
      repeat (first | refine l_val rfl rfl (by first | exact pureEval_ok rfl | exact v_load rfl (by repeat (first | exact List.Mem.head _ | apply List.Mem.tail)) rfl (by rfl)  | fail) ?_ | refine l_nil ?_ | refine c_region ?_ | refine c_seq ?_ | refine x_then ?_ | refine c_false rfl ?_ | refine c_skip ?_  | fail)
      refine r_call1 (ι := Nat × Nat × List Value) (v := fun i => .tuple ⟨[.slice (some ⟨i.1, 0, none⟩) (plL C N t d).length i.2.1, .int .i64 0]⟩) (bk := fun i => i.1) (o := fun i => .cells ⟨flatI (plL C N t d) ++ i.2.2⟩ 3 (0, 0)) rfl rfl rfl (fun W hW => (hp _ W hf hW).mono fun e W' hq => hq.ok hk) ?_
      rintro ⟨b1, c1, r1⟩
      simp only
      repeat (first | refine l_val rfl rfl (by first | exact pureEval_ok rfl | exact v_load rfl (by repeat (first | exact List.Mem.head _ | apply List.Mem.tail)) rfl (by rfl)  | fail) ?_ | refine l_nil ?_ | refine c_region ?_ | refine c_seq ?_ | refine x_then ?_  | fail)
      refine r_call1 (ι := Nat × Nat × List Value) (v := fun i => .tuple ⟨[.slice (some ⟨i.1, 0, none⟩) (plL C N t d).length i.2.1, .int .i64 0]⟩) (bk := fun i => i.1) (o := fun i => .cells ⟨flatI (plL C N t d) ++ i.2.2⟩ 3 (0, 0)) rfl rfl rfl (fun W hW => (hr _ W hf hW).mono fun e W' hq => hq.ok hk) ?_
      rintro ⟨b2, c2, r2⟩
      simp only
      repeat (first | refine l_val rfl rfl (by first | exact pureEval_ok rfl  | fail) ?_ | refine l_nil ?_ | refine c_region ?_ | refine c_seq ?_ | refine x_then ?_ | refine l_dec_t rfl rfl rfl rfl rfl (by first | omega  | fail) ?_  | fail)
      refine r_call rfl rfl rfl (fun W hW => sameI_calls _ _ c1 c2 (plL C N t d) (plL C N t d) W (SatW.rows (b := b1) (rest := r1) (rows := (plL C N t d).map inE) hW (by repeat (first | exact List.Mem.head _ | apply List.Mem.tail)) rfl (in_len _)) (SatW.rows (b := b2) (rest := r2) (rows := (plL C N t d).map inE) hW (by repeat (first | exact List.Mem.head _ | apply List.Mem.tail)) rfl (in_len _)) (by omega) (by omega)) ?_
      rw [decide_eq_true rfl]
      repeat (first | refine l_val rfl rfl (by first | exact pureEval_ok rfl  | fail) ?_ | refine l_nil ?_ | refine x_then ?_ | refine c_ret ?_  | fail)
      exact x_ret rfl rfl (by repeat (first | exact Res.nil | (apply Res.tmp; rfl) | (apply Res.cell; rfl; exact (by repeat (first | exact List.Mem.head _ | apply List.Mem.tail)); rfl; rfl))) rfl (fun W hW => ⟨rfl, hW.below⟩)
    · repeat (first | refine l_val rfl rfl (by first | exact pureEval_ok rfl | exact v_load rfl (by repeat (first | exact List.Mem.head _ | apply List.Mem.tail)) rfl (by rfl)  | fail) ?_ | refine l_nil ?_ | refine c_region ?_ | refine c_seq ?_ | refine x_then ?_ | refine c_false rfl ?_ | refine c_skip ?_  | fail)
      refine r_callI (ι := Option Addr × Nat) (v := fun i => .tuple ⟨[.slice i.1 ([] : List Int).length i.2, .int .i64 (plE n L C t d)]⟩) rfl rfl rfl (fun W hW => (hp _ W hf hW).mono fun e W' hq => hq.no hk) ?_
      rintro ⟨A1, c1⟩
      simp only
      repeat (first | refine l_val rfl rfl (by first | exact pureEval_ok rfl | exact v_load rfl (by repeat (first | exact List.Mem.head _ | apply List.Mem.tail)) rfl (by rfl)  | fail) ?_ | refine l_nil ?_ | refine c_region ?_ | refine c_seq ?_ | refine x_then ?_  | fail)
      refine r_callI (ι := Option Addr × Nat) (v := fun i => .tuple ⟨[.slice i.1 ([] : List Int).length i.2, .int .i64 (plE n L C t d)]⟩) rfl rfl rfl (fun W hW => (hr _ W hf hW).mono fun e W' hq => hq.no hk) ?_
      rintro ⟨A2, c2⟩
      simp only
      repeat (first | refine l_val rfl rfl (by first | exact pureEval_ok rfl  | fail) ?_ | refine l_nil ?_ | refine c_region ?_ | refine c_seq ?_ | refine x_then ?_ | refine l_dec_t rfl rfl rfl rfl rfl (by first | omega  | fail) ?_  | fail)
      refine r_call rfl rfl rfl (fun W hW => sameI_calls A1 A2 c1 c2 [] [] W (at_nil0 _) (at_nil0 _) (by simp) (by simp)) ?_
      rw [decide_eq_true rfl]
      repeat (first | refine l_val rfl rfl (by first | exact pureEval_ok rfl  | fail) ?_ | refine l_nil ?_ | refine x_then ?_ | refine c_ret ?_  | fail)
      exact x_ret rfl rfl (by repeat (first | exact Res.nil | (apply Res.tmp; rfl) | (apply Res.cell; rfl; exact (by repeat (first | exact List.Mem.head _ | apply List.Mem.tail)); rfl; rfl))) rfl (fun W hW => ⟨rfl, hW.below⟩)
theorem law6 (u : Un) (U : Option Addr) (capU : Nat) (us : List Us) (w : World) (hA : u.In w) (hU : Kin.At w U 2 (us.map usE)) (hul : us.length ≤ 9223372036854775807) :
    Calls Try.prog 6 ⟨[.agg ⟨u.v⟩, .slice U us.length capU]⟩ w fun e w' => e = .returned (.bool true) ∧ Below w.heap.size w w' := by
  have hfe : ∀ (W : World), Calls Try.prog 13 ⟨[.agg ⟨u.v⟩]⟩ W fun e w' => e = .returned (.bool (fewB u.n u.L.length u.C.length)) ∧ Below W.heap.size W w' := fun W => Few_calls u W
  have hp : ∀ (mem : List (Nat × Obj)) (W : World), fewB u.n u.L.length u.C.length = true → us.length ≤ 300 → SatW w (base w) noJ mem W → Calls Try.prog 27 ⟨[.agg ⟨u.v⟩, .slice U us.length capU]⟩ W fun e w' => e = .returned (acV u.n u.L u.C us) ∧ Below W.heap.size W w' := fun mem W hf hl hW => Accepts_calls u U capU us W (hA.sat hW) (by have := (few_yes hf).1; omega) (hU.sat hW) (by omega)
  have hr : ∀ (mem : List (Nat × Obj)) (W : World), fewB u.n u.L.length u.C.length = true → us.length ≤ 300 → SatW w (base w) noJ mem W → Calls Try.prog 26 ⟨[.agg ⟨u.v⟩, .slice U us.length capU]⟩ W fun e w' => e = .returned (acV u.n u.L u.C us) ∧ Below W.heap.size W w' := fun mem W hf hl hW => rAccepts_calls u U capU us W (hA.sat hW) (by have := (few_yes hf).1; omega) (by have := (few_yes hf).2.1; omega) (hU.sat hW) (by omega)
  obtain ⟨n, A, cap, L, B, cab, C⟩ := u
  simp only [Un.v] at hfe hp hr ⊢
  refine fun_enter Try.func6 rfl Try.ntmps6 rfl rfl (satW_nil w) ?_
  repeat (first | refine l_val rfl rfl (by first | exact pureEval_ok rfl  | fail) ?_ | refine l_nil ?_ | refine c_region ?_ | refine c_seq ?_ | refine x_then ?_ | refine r_box rfl rfl rfl rfl (fun _ => ?_)  | fail)
  refine r_call rfl rfl rfl (fun W hW => sane_calls W) ?_
  repeat (first | refine l_val rfl rfl (by first | exact pureEval_ok rfl | exact v_load rfl (by repeat (first | exact List.Mem.head _ | apply List.Mem.tail)) rfl (by rfl)  | fail) ?_ | refine l_nil ?_ | refine c_region ?_ | refine c_seq ?_ | refine x_then ?_ | refine c_false rfl ?_ | refine c_skip ?_  | fail)
  refine r_call rfl rfl rfl (fun W hW => hfe W) ?_
  cases hf : fewB n L.length C.length with
  | false =>
    repeat (first | refine l_val rfl rfl (by first | exact pureEval_ok rfl  | fail) ?_ | refine l_nil ?_ | refine c_region ?_ | refine c_seq ?_ | refine x_then ?_ | refine l_skip rfl rfl ?_ | refine c_true rfl ?_ | refine c_ret ?_ | refine x_then_ret ?_  | fail)
    exact x_ret rfl rfl (by repeat (first | exact Res.nil | (apply Res.tmp; rfl) | (apply Res.cell; rfl; exact (by repeat (first | exact List.Mem.head _ | apply List.Mem.tail)); rfl; rfl))) rfl (fun W hW => ⟨rfl, hW.below⟩)
  | true =>
    by_cases hl : us.length ≤ 300
    rotate_left
    · repeat (first | refine l_val rfl rfl (by first | exact pureEval_ok rfl  | fail) ?_ | refine l_nil ?_ | refine c_region ?_ | refine c_seq ?_ | refine x_then ?_ | refine c_dec_t rfl (by first | omega  | fail) ?_ | refine c_ret ?_ | refine x_then_ret ?_  | fail)
      exact x_ret rfl rfl (by repeat (first | exact Res.nil | (apply Res.tmp; rfl) | (apply Res.cell; rfl; exact (by repeat (first | exact List.Mem.head _ | apply List.Mem.tail)); rfl; rfl))) rfl (fun W hW => ⟨rfl, hW.below⟩)
    repeat (first | refine l_val rfl rfl (by first | exact pureEval_ok rfl | exact v_load rfl (by repeat (first | exact List.Mem.head _ | apply List.Mem.tail)) rfl (by rfl)  | fail) ?_ | refine l_nil ?_ | refine c_region ?_ | refine c_seq ?_ | refine x_then ?_ | refine c_dec_f rfl (by first | omega | exact fun h => h rfl  | fail) ?_ | refine c_skip ?_  | fail)
    refine r_call rfl rfl rfl (fun W hW => hp _ W hf hl hW) ?_
    unfold acV
    repeat (first | refine l_val rfl rfl (by first | exact pureEval_ok rfl | exact v_load rfl (by repeat (first | exact List.Mem.head _ | apply List.Mem.tail)) rfl (by rfl)  | fail) ?_ | refine l_nil ?_ | refine c_region ?_ | refine c_seq ?_ | refine x_then ?_  | fail)
    refine r_call rfl rfl rfl (fun W hW => hr _ W hf hl hW) ?_
    unfold acV
    generalize accU n L C us = bb
    generalize chkU n L C = ee
    cases bb
    all_goals
      repeat (first | refine l_val rfl rfl (by first | exact pureEval_ok rfl  | fail) ?_ | refine l_nil ?_ | refine c_region ?_ | refine c_seq ?_ | refine x_then ?_ | refine c_ret ?_  | fail)
      exact x_ret rfl rfl (by repeat (first | exact Res.nil | (apply Res.tmp; rfl) | (apply Res.cell; rfl; exact (by repeat (first | exact List.Mem.head _ | apply List.Mem.tail)); rfl; rfl))) rfl (fun W hW => ⟨by rw [decide_eq_true rfl], hW.below⟩)
set_option maxRecDepth 100000 in
set_option maxHeartbeats 40000000 in
theorem law5 (u : Un) (w : World) (hA : u.In w) :
    Calls Try.prog 5 ⟨[.agg ⟨u.v⟩]⟩ w fun e w' => e = .returned (.bool true) ∧ Below w.heap.size w w' := by
  have hfe : ∀ (W : World), Calls Try.prog 13 ⟨[.agg ⟨u.v⟩]⟩ W fun e w' => e = .returned (.bool (fewB u.n u.L.length u.C.length)) ∧ Below W.heap.size W w' := fun W => Few_calls u W
  have hfw : fewB u.n u.L.length u.C.length = true → chkU u.n u.L u.C = 0 → u.L.length ≤ 30 ∧ u.C.length ≤ 30 := fun hf h0 => by have := (few_yes hf).2.2 h0; exact ⟨this.1, this.2.1⟩
  have h22 : ∀ (mem : List (Nat × Obj)) (W : World), fewB u.n u.L.length u.C.length = true → SatW w (base w) noJ mem W → Calls Try.prog 22 ⟨[.agg ⟨u.v⟩]⟩ W (StrQ u.n u.L u.C W) := fun mem W hf hW => Strong_calls u W (hA.sat hW) (by have := (few_yes hf).1; omega) (hfw hf)
  have h23 : ∀ (mem : List (Nat × Obj)) (W : World), fewB u.n u.L.length u.C.length = true → SatW w (base w) noJ mem W → Calls Try.prog 23 ⟨[.agg ⟨u.v⟩]⟩ W (StrQ u.n u.L u.C W) := fun mem W hf hW => rStrong_calls u W (hA.sat hW) (by have := (few_yes hf).1; omega) (by have := (few_yes hf).2.1; omega) (hfw hf)
  have h24 : ∀ (mem : List (Nat × Obj)) (W : World), fewB u.n u.L.length u.C.length = true → SatW w (base w) noJ mem W → Calls Try.prog 24 ⟨[.agg ⟨u.v⟩]⟩ W (RftQ u.n u.L u.C W) := fun mem W hf hW => Refute_calls u W (hA.sat hW) (by have := (few_yes hf).1; omega) (hfw hf)
  have h25 : ∀ (mem : List (Nat × Obj)) (W : World), fewB u.n u.L.length u.C.length = true → SatW w (base w) noJ mem W → Calls Try.prog 25 ⟨[.agg ⟨u.v⟩]⟩ W fun e w' => e = .returned (.tuple ⟨[.bool (rfB u.n u.L u.C), .int .i64 (chkU u.n u.L u.C)]⟩) ∧ Below W.heap.size W w' := fun mem W hf hW => Refuted_calls u W (hA.sat hW) (by have := (few_yes hf).1; omega) (by have := (few_yes hf).2.1; omega) (hfw hf)
  have h26 : ∀ (U : Option Addr) (capU : Nat) (us : List Us) (mem : List (Nat × Obj)) (W : World), fewB u.n u.L.length u.C.length = true → us.length ≤ 300 → Kin.At W U 2 (us.map usE) → SatW w (base w) noJ mem W → Calls Try.prog 26 ⟨[.agg ⟨u.v⟩, .slice U us.length capU]⟩ W fun e w' => e = .returned (acV u.n u.L u.C us) ∧ Below W.heap.size W w' := fun U capU us mem W hf hl hU hW => rAccepts_calls u U capU us W (hA.sat hW) (by have := (few_yes hf).1; omega) (by have := (few_yes hf).2.1; omega) hU (by omega)
  obtain ⟨n, A, cap, L, B, cab, C⟩ := u
  simp only [Un.v] at hfe hfw h22 h23 h24 h25 h26 ⊢
  refine fun_enter Try.func5 rfl Try.ntmps5 rfl rfl (satW_nil w) ?_
  repeat (first | refine l_val rfl rfl (by first | exact pureEval_ok rfl  | fail) ?_ | refine l_nil ?_ | refine c_region ?_ | refine c_seq ?_ | refine x_then ?_ | refine r_box rfl rfl rfl rfl (fun _ => ?_)  | fail)
  refine r_call rfl rfl rfl (fun W hW => sane_calls W) ?_
  repeat (first | refine l_val rfl rfl (by first | exact pureEval_ok rfl | exact v_load rfl (by repeat (first | exact List.Mem.head _ | apply List.Mem.tail)) rfl (by rfl)  | fail) ?_ | refine l_nil ?_ | refine c_region ?_ | refine c_seq ?_ | refine x_then ?_ | refine c_false rfl ?_ | refine c_skip ?_  | fail)
  refine r_call rfl rfl rfl (fun W hW => hfe W) ?_
  cases hf : fewB n L.length C.length with
  | false =>
    repeat (first | refine l_val rfl rfl (by first | exact pureEval_ok rfl  | fail) ?_ | refine l_nil ?_ | refine c_region ?_ | refine c_seq ?_ | refine x_then ?_ | refine c_true rfl ?_ | refine c_ret ?_ | refine x_then_ret ?_  | fail)
    exact x_ret rfl rfl (by repeat (first | exact Res.nil | (apply Res.tmp; rfl) | (apply Res.cell; rfl; exact (by repeat (first | exact List.Mem.head _ | apply List.Mem.tail)); rfl; rfl))) rfl (fun W hW => ⟨rfl, hW.below⟩)
  | true =>
    cases hs : str n L C with
    | some t =>
      have h0 := (str_least hs).1
      obtain ⟨n1, n2, -⟩ := chkU_ok h0
      have hb : rfB n L C = false := @decide_eq_false _ (Classical.propDecidable _) (fun h => by rw [hs] at h; cases h.2)
      obtain ⟨N, rfl⟩ : ∃ N : Nat, n = N := ⟨n.toNat, by omega⟩
      have hyes : ∀ {W W' : World} {e : Ending}, StrQ N L C W e W' → ∃ b : Nat, e = .returned (yesV N b) ∧ Below W.heap.size W W' ∧ W.heap.size ≤ b ∧ W'.heap[b]? = some (.cells ⟨ivec N t⟩ 3 (0, 0)) := fun {W W' e} hq => by
        rcases hq with ⟨g, _⟩ | ⟨t', b, g1, g2, g3, g4, g5⟩
        · rw [hs] at g; cases g
        · rw [hs] at g1
          cases g1
          rw [Int.toNat_natCast] at g2 g5
          exact ⟨b, g2, g3, g4, g5⟩
      have hiv : ∀ {W : World} {J : (Nat → Prop) → World → Prop} {mem : List (Nat × Obj)} {b : Nat}, SatW w (base w) J mem W → (b, Obj.cells ⟨ivec N t⟩ 3 (0, 0)) ∈ mem → Kin.At W (some ⟨b, 0, none⟩) 1 (((List.range N).map t).map inE) := fun {W J mem b} hW hm => SatW.rows (rest := []) hW hm (by rw [List.append_nil]; exact flatI_ivec.symm) (in_len _)
      have hlr : ((List.range N).map t).length = N := by simp
      repeat (first | refine l_val rfl rfl (by first | exact pureEval_ok rfl | exact v_load rfl (by repeat (first | exact List.Mem.head _ | apply List.Mem.tail)) rfl (by rfl)  | fail) ?_ | refine l_nil ?_ | refine c_region ?_ | refine c_seq ?_ | refine x_then ?_ | refine c_false rfl ?_ | refine c_skip ?_  | fail)
      refine r_call1 (ι := Nat) (bk := fun b => b) (v := fun b => yesV N b) (o := fun b => .cells ⟨ivec N t⟩ 3 (0, 0)) rfl rfl rfl (fun W hW => (h22 _ W hf hW).mono fun e W' hq => hyes hq) (fun b1 => ?_)
      unfold yesV
      repeat (first | refine l_val rfl rfl (by first | exact pureEval_ok rfl | exact v_load rfl (by repeat (first | exact List.Mem.head _ | apply List.Mem.tail)) rfl (by rfl)  | fail) ?_ | refine l_nil ?_ | refine c_region ?_ | refine c_seq ?_ | refine x_then ?_  | fail)
      refine r_call1 (ι := Nat) (bk := fun b => b) (v := fun b => yesV N b) (o := fun b => .cells ⟨ivec N t⟩ 3 (0, 0)) rfl rfl rfl (fun W hW => (h23 _ W hf hW).mono fun e W' hq => hyes hq) (fun b2 => ?_)
      unfold yesV
      repeat (first | refine l_val rfl rfl (by first | exact pureEval_ok rfl | exact v_load rfl (by repeat (first | exact List.Mem.head _ | apply List.Mem.tail)) rfl (by rfl)  | fail) ?_ | refine l_nil ?_ | refine c_region ?_ | refine c_seq ?_ | refine x_then ?_  | fail)
      refine r_call (v := noV 0) rfl rfl rfl (fun W hW => (h24 _ W hf hW).mono fun e W' hq => ?_) ?_
      · rcases hq with ⟨_, g2, g3⟩ | ⟨_, g, _⟩
        · rw [h0] at g2; exact ⟨g2, g3⟩
        · rw [hs] at g; cases g
      unfold noV
      repeat (first | refine l_val rfl rfl (by first | exact pureEval_ok rfl | exact v_load rfl (by repeat (first | exact List.Mem.head _ | apply List.Mem.tail)) rfl (by rfl)  | fail) ?_ | refine l_nil ?_ | refine c_region ?_ | refine c_seq ?_ | refine x_then ?_  | fail)
      refine r_call rfl rfl rfl (fun W hW => h25 _ W hf hW) ?_
      rw [hb, h0]
      repeat (first | refine l_val rfl rfl (by first | exact pureEval_ok rfl  | fail) ?_ | refine l_nil ?_ | refine c_region ?_ | refine c_seq ?_ | refine x_then ?_ | refine l_dec_f rfl rfl rfl rfl rfl (by first | omega | exact fun h => h rfl  | fail) ?_  | fail)
      refine r_call rfl rfl rfl (fun W hW => by
        have h := sameI_calls (some ⟨b1, 0, none⟩) (some ⟨b2, 0, none⟩) N N ((List.range N).map t) ((List.range N).map t) W (hiv hW (by repeat (first | exact List.Mem.head _ | apply List.Mem.tail))) (hiv hW (by repeat (first | exact List.Mem.head _ | apply List.Mem.tail))) (by rw [hlr]; omega) (by rw [hlr]; omega)
        rw [hlr] at h
        exact h) ?_
      rw [decide_eq_true rfl]
      repeat (first | refine l_val rfl rfl (by first | exact pureEval_ok rfl  | fail) ?_ | refine l_nil ?_ | refine c_region ?_ | refine c_seq ?_ | refine x_then ?_ | refine c_true rfl ?_ | refine c_false rfl ?_ | refine c_skip ?_ | refine c_ret ?_ | refine x_then_ret ?_  | fail)
      exact x_ret rfl rfl (by repeat (first | exact Res.nil | (apply Res.tmp; rfl) | (apply Res.cell; rfl; exact (by repeat (first | exact List.Mem.head _ | apply List.Mem.tail)); rfl; rfl))) rfl (fun W hW => ⟨rfl, hW.below⟩)
    | none =>
      have hno : ∀ {W W' : World} {e : Ending}, StrQ n L C W e W' → e = .returned (noV (chkU n L C)) ∧ Below W.heap.size W W' := fun {W W' e} hq => by
        rcases hq with ⟨_, g2, g3⟩ | ⟨t', b, g1, _⟩
        · exact ⟨g2, g3⟩
        · rw [hs] at g1; cases g1
      repeat (first | refine l_val rfl rfl (by first | exact pureEval_ok rfl | exact v_load rfl (by repeat (first | exact List.Mem.head _ | apply List.Mem.tail)) rfl (by rfl)  | fail) ?_ | refine l_nil ?_ | refine c_region ?_ | refine c_seq ?_ | refine x_then ?_ | refine c_false rfl ?_ | refine c_skip ?_  | fail)
      refine r_call rfl rfl rfl (fun W hW => (h22 _ W hf hW).mono fun e W' hq => hno hq) ?_
      unfold noV
      repeat (first | refine l_val rfl rfl (by first | exact pureEval_ok rfl | exact v_load rfl (by repeat (first | exact List.Mem.head _ | apply List.Mem.tail)) rfl (by rfl)  | fail) ?_ | refine l_nil ?_ | refine c_region ?_ | refine c_seq ?_ | refine x_then ?_  | fail)
      refine r_call rfl rfl rfl (fun W hW => (h23 _ W hf hW).mono fun e W' hq => hno hq) ?_
      unfold noV
      by_cases h0 : chkU n L C = 0
      · have hb : rfB n L C = true := @decide_eq_true _ (Classical.propDecidable _) ⟨h0, hs⟩
        rw [h0]
        repeat (first | refine l_val rfl rfl (by first | exact pureEval_ok rfl | exact v_load rfl (by repeat (first | exact List.Mem.head _ | apply List.Mem.tail)) rfl (by rfl)  | fail) ?_ | refine l_nil ?_ | refine c_region ?_ | refine c_seq ?_ | refine x_then ?_  | fail)
        refine r_call1 (ι := {p : List Us × Nat × Nat × List Value // p.1 ≠ [] ∧ p.1.length ≤ 64 ∧ accepts (net C n.toNat L) p.1 = true}) (v := fun p => .tuple ⟨[.slice (some ⟨p.1.2.1, 0, none⟩) p.1.1.length p.1.2.2.1, .bool true, .int .i64 0]⟩) (bk := fun p => p.1.2.1) (o := fun p => .cells ⟨flat p.1.1.length (fun j => usE (p.1.1.getD j ⟨0, false⟩)) ++ p.1.2.2.2⟩ 52 (0, 0)) rfl rfl rfl (fun W hW => (h24 _ W hf hW).mono fun e W' hq => ?_) ?_
        · rcases hq with ⟨g | ⟨t, g⟩, _⟩ | ⟨_, _, us, b, cap, rest, g1, g2, g3, g4, g5, g6, g7⟩
          · exact absurd h0 g
          · rw [hs] at g; cases g
          · exact ⟨⟨(us, b, cap, rest), g1, g2, g3⟩, g4, g5, g6, g7⟩
        rintro ⟨⟨us, b, cap', rest⟩, hne, hlu, hac⟩
        simp only at hne hlu hac ⊢
        have hflat : flat us.length (fun j => usE (us.getD j ⟨0, false⟩)) = (us.map usE).flatten := by
          rw [flat_flatten]
          congr 1
          apply List.ext_getElem?
          intro j
          by_cases hj : j < us.length
          · rw [List.getElem?_map, List.getElem?_range hj, List.getElem?_map, List.getElem?_eq_getElem hj, Option.map_some, Option.map_some, List.getD_eq_getElem?_getD, List.getElem?_eq_getElem hj]; rfl
          · rw [List.getElem?_eq_none (by simp; omega), List.getElem?_eq_none (by simp; omega)]
        rw [hflat]
        have hacU : accU n L C us = true := by rw [accU_is ⟨h0, by have := List.length_pos_iff.2 hne; omega, by omega⟩]; exact hac
        repeat (first | refine l_val rfl rfl (by first | exact pureEval_ok rfl | exact v_load rfl (by repeat (first | exact List.Mem.head _ | apply List.Mem.tail)) rfl (by rfl)  | fail) ?_ | refine l_nil ?_ | refine c_region ?_ | refine c_seq ?_ | refine x_then ?_  | fail)
        refine r_call rfl rfl rfl (fun W hW => h25 _ W hf hW) ?_
        rw [hb, h0]
        repeat (first | refine l_val rfl rfl (by first | exact pureEval_ok rfl  | fail) ?_ | refine l_nil ?_ | refine c_region ?_ | refine c_seq ?_ | refine x_then ?_ | refine l_dec_f rfl rfl rfl rfl rfl (by first | omega  | fail) ?_  | fail)
        refine r_call rfl rfl rfl (fun W hW => sameI_calls none none 0 0 [] [] W (at_nil0 _) (at_nil0 _) (by simp) (by simp)) ?_
        rw [decide_eq_true rfl]
        repeat (first | refine l_val rfl rfl (by first | exact pureEval_ok rfl | exact v_load rfl (by repeat (first | exact List.Mem.head _ | apply List.Mem.tail)) rfl (by rfl)  | fail) ?_ | refine l_nil ?_ | refine c_region ?_ | refine c_seq ?_ | refine x_then ?_ | refine c_false rfl ?_ | refine c_skip ?_  | fail)
        refine r_call rfl rfl rfl (fun W hW => h26 (some ⟨b, 0, none⟩) cap' us _ W hf (by omega) (SatW.rows (b := b) (rest := rest) (rows := us.map usE) hW (by repeat (first | exact List.Mem.head _ | apply List.Mem.tail)) rfl (us_len _)) hW) ?_
        unfold acV
        rw [hacU]
        repeat (first | refine l_val rfl rfl (by first | exact pureEval_ok rfl  | fail) ?_ | refine l_nil ?_ | refine c_region ?_ | refine c_seq ?_ | refine x_then ?_ | refine c_ret ?_  | fail)
        exact x_ret rfl rfl (by repeat (first | exact Res.nil | (apply Res.tmp; rfl) | (apply Res.cell; rfl; exact (by repeat (first | exact List.Mem.head _ | apply List.Mem.tail)); rfl; rfl))) rfl (fun W hW => ⟨rfl, hW.below⟩)
      · have hb : rfB n L C = false := @decide_eq_false _ (Classical.propDecidable _) (fun h => h0 h.1)
        obtain ⟨ee, hee⟩ : ∃ e, chkU n L C = e := ⟨_, rfl⟩
        rw [hee] at h0
        repeat (first | refine l_val rfl rfl (by first | exact pureEval_ok rfl | exact v_load rfl (by repeat (first | exact List.Mem.head _ | apply List.Mem.tail)) rfl (by rfl)  | fail) ?_ | refine l_nil ?_ | refine c_region ?_ | refine c_seq ?_ | refine x_then ?_  | fail)
        refine r_call (v := noV (chkU n L C)) rfl rfl rfl (fun W hW => (h24 _ W hf hW).mono fun e W' hq => ?_) ?_
        · rcases hq with ⟨_, g2, g3⟩ | ⟨g, _⟩
          · exact ⟨g2, g3⟩
          · rw [hee] at g; exact absurd g h0
        unfold noV
        repeat (first | refine l_val rfl rfl (by first | exact pureEval_ok rfl | exact v_load rfl (by repeat (first | exact List.Mem.head _ | apply List.Mem.tail)) rfl (by rfl)  | fail) ?_ | refine l_nil ?_ | refine c_region ?_ | refine c_seq ?_ | refine x_then ?_  | fail)
        refine r_call rfl rfl rfl (fun W hW => h25 _ W hf hW) ?_
        rw [hb, hee]
        repeat (first | refine l_val rfl rfl (by first | exact pureEval_ok rfl  | fail) ?_ | refine l_nil ?_ | refine c_region ?_ | refine c_seq ?_ | refine x_then ?_ | refine l_dec_f rfl rfl rfl rfl rfl (by first | omega  | fail) ?_  | fail)
        refine r_call rfl rfl rfl (fun W hW => sameI_calls none none 0 0 [] [] W (at_nil0 _) (at_nil0 _) (by simp) (by simp)) ?_
        rw [decide_eq_true rfl]
        repeat (first | refine l_val rfl rfl (by first | exact pureEval_ok rfl  | fail) ?_ | refine l_nil ?_ | refine c_region ?_ | refine c_seq ?_ | refine x_then ?_ | refine c_true rfl ?_ | refine c_dec_f rfl (by first | omega  | fail) ?_ | refine c_skip ?_ | refine c_ret ?_ | refine x_then_ret ?_  | fail)
        exact x_ret rfl rfl (by repeat (first | exact Res.nil | (apply Res.tmp; rfl) | (apply Res.cell; rfl; exact (by repeat (first | exact List.Mem.head _ | apply List.Mem.tail)); rfl; rfl))) rfl (fun W hW => ⟨rfl, hW.below⟩)
end R23
end Go.Proofs

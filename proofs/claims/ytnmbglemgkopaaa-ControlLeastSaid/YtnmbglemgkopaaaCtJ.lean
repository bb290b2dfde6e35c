/- Uncertain networks: Strong and Refute, as the program has them. -/
import Derived.Test.YtnmbglemgkopaaaCtS
import Derived.Test.YtnmbglemgkopaaaEng31
set_option linter.unusedSectionVars false
set_option linter.unusedVariables false
set_option linter.unusedSimpArgs false
namespace Go.Proofs
open Go.RowKit Go.Kin Go.Kin.St Go.Kin.Ct
open R22
namespace R23
/-- what Refute answers -/
def RftQ (n : Int) (L C : List Lk) (w : World) (e : Ending) (w' : World) : Prop :=
  ((chkU n L C ≠ 0 ∨ ∃ t, str n L C = some t) ∧ e = .returned (noV (chkU n L C)) ∧ Below w.heap.size w w') ∨
  (chkU n L C = 0 ∧ str n L C = none ∧ ∃ (us : List Us) (b cap : Nat) (rest : List Value), us ≠ [] ∧ us.length ≤ 64 ∧ accepts (net C n.toNat L) us = true ∧ e = .returned (.tuple ⟨[.slice (some ⟨b, 0, none⟩) us.length cap, .bool true, .int .i64 0]⟩) ∧ Below w.heap.size w w' ∧ w.heap.size ≤ b ∧ w'.heap[b]? = some (.cells ⟨flat us.length (fun j => usE (us.getD j ⟨0, false⟩)) ++ rest⟩ 52 (0, 0)))
/-- solve, of what is checked -/
theorem solve_calls' (u : Un) (N : Nat) (w : World) (hn : u.n = N) (hA : u.In w) (h0 : chkU u.n u.L u.C = 0) (hl : u.L.length ≤ 30) (hc : u.C.length ≤ 30) :
    Calls Try.prog 46 ⟨[.agg ⟨u.v⟩, .agg ⟨theTree u.C N⟩]⟩ w (SolQ N u.C u.L w) := by
  obtain ⟨n1, n2, l1, l2, hF, hT⟩ := chkU_ok h0
  rw [hn] at n1 n2 hF hT
  rw [Int.toNat_natCast] at hT
  exact solve_calls u N w hn (by omega) (by omega) hA hc hl hT hF
theorem acc_str {n : Int} {L C : List Lk} {us : List Us} (h : us ≠ []) (ha : accepts (net C n.toNat L) us = true) : str n L C = none := str_no fun s => accepts_none h ha s
theorem sol_some {N : Nat} {L C : List Lk} {t : Nat → Int} {w w' : World} {e : Ending} (h : str N L C = some t) (hq : SolQ N C L w e w') : ∃ b : Nat, e = .returned (.tuple ⟨[.slice (some ⟨b, 0, none⟩) N N, .slice none 0 0]⟩) ∧ Below w.heap.size w w' ∧ w.heap.size ≤ b ∧ w'.heap[b]? = some (.cells ⟨ivec N t⟩ 3 (0, 0)) := by
  obtain ⟨h0, hL⟩ := str_least h
  rw [Int.toNat_natCast] at hL
  rcases hq with ⟨s, b, g1, g2, g3, g4, g5⟩ | ⟨us, b, cap, rest, g1, g2, g3, -⟩
  · rw [ivec_congr (g1.uniq hL)] at g5
    exact ⟨b, g2, g3, g4, g5⟩
  · have := acc_str (n := N) g1 (by rw [Int.toNat_natCast]; exact g3)
    rw [h] at this; cases this
theorem sol_none {N : Nat} {L C : List Lk} {w w' : World} {e : Ending} (h0 : chkU N L C = 0) (h : str N L C = none) (hq : SolQ N C L w e w') : ∃ p : {p : List Us × Nat × Nat × List Value // p.1 ≠ [] ∧ p.1.length ≤ 64 ∧ accepts (net C N L) p.1 = true}, e = .returned (.tuple ⟨[.slice none 0 0, .slice (some ⟨p.1.2.1, 0, none⟩) p.1.1.length p.1.2.2.1]⟩) ∧ Below w.heap.size w w' ∧ w.heap.size ≤ p.1.2.1 ∧
    w'.heap[p.1.2.1]? = some (.cells ⟨flat p.1.1.length (fun j => usE (p.1.1.getD j ⟨0, false⟩)) ++ p.1.2.2.2⟩ 52 (0, 0)) := by
  rcases hq with ⟨s, b, g1, -⟩ | ⟨us, b, cap, rest, g1, g2, g3, g4, g5, g6, g7⟩
  · exact absurd g1.sol (by have := str_none h h0 s; rw [Int.toNat_natCast] at this; exact this)
  · exact ⟨⟨(us, b, cap, rest), g1, g2, g3⟩, g4, g5, g6, g7⟩
set_option maxRecDepth 100000 in
set_option maxHeartbeats 40000000 in
theorem Strong_calls (u : Un) (w : World) (hA : u.In w) (hl : u.L.length ≤ 1000) (hf : chkU u.n u.L u.C = 0 → u.L.length ≤ 30 ∧ u.C.length ≤ 30) :
    Calls Try.prog 22 ⟨[.agg ⟨u.v⟩]⟩ w (StrQ u.n u.L u.C w) := by
  have hck : ∀ (mem : List (Nat × Obj)) (W : World), SatW w (base w) noJ mem W → Calls Try.prog 39 ⟨[.agg ⟨u.v⟩]⟩ W (ChkQ u.n u.L u.C W) := fun mem W hW => check_calls' u W (hA.sat hW) hl
  have hsv : ∀ (N : Nat) (mem : List (Nat × Obj)) (W : World), u.n = N → chkU u.n u.L u.C = 0 → SatW w (base w) noJ mem W → Calls Try.prog 46 ⟨[.agg ⟨u.v⟩, .agg ⟨theTree u.C N⟩]⟩ W (SolQ N u.C u.L W) := fun N mem W h1 h2 hW => solve_calls' u N W h1 (hA.sat hW) h2 (hf h2).1 (hf h2).2
  obtain ⟨n, A, cap, L, B, cab, C⟩ := u
  simp only [Un.v] at hl hck hsv hf ⊢
  refine fun_enter Try.func22 rfl Try.ntmps22 rfl rfl (satW_nil w) ?_
  by_cases h0 : chkU n L C = 0
  rotate_left
  · repeat (first | refine l_val rfl rfl (by first | exact pureEval_ok rfl | exact v_load rfl (by repeat (first | exact List.Mem.head _ | apply List.Mem.tail)) rfl (by rfl)  | fail) ?_ | refine l_nil ?_ | refine c_region ?_ | refine c_seq ?_ | refine x_then ?_ | refine r_box rfl rfl rfl rfl (fun _ => ?_)  | fail)
    refine r_callI (ι := (Nat → Int) × (Nat → Int) × (Nat → Nat)) (v := fun i => .tuple ⟨[.agg ⟨treeL i.1 i.2.1 i.2.2⟩, .int .i64 (chkU n L C)]⟩) rfl rfl rfl (fun W hW => (hck _ W hW).mono fun e W' ⟨g1, g2⟩ => ?_) ?_
    · rcases g2 with ⟨g2, g3⟩ | ⟨_, f, g, h, g2⟩
      · exact absurd g2 h0
      · exact ⟨(f, g, h), g2, g1⟩
    rintro ⟨f, g, h⟩
    simp only
    repeat (first | refine r_alloc rfl rfl rfl (treeZ rfl) (fun b2 => ?_) | refine r_store (vs := treeL _ _ _) rfl rfl rfl rfl rfl treeL_beq treeL_one (by repeat (first | exact Upd.head | apply Upd.tail)) (putK_all (treeL_len.trans treeL_len.symm)) ?_ | refine l_val rfl rfl (by first | exact pureEval_ok rfl  | fail) ?_ | refine l_nil ?_ | refine c_region ?_ | refine c_seq ?_ | refine x_then ?_ | refine c_dec_t rfl (by first | omega  | fail) ?_ | refine c_ret ?_ | refine x_then_ret ?_  | fail)
    exact x_ret rfl rfl (by repeat (first | exact Res.nil | (apply Res.tmp; rfl) | (apply Res.cell; rfl; exact (by repeat (first | exact List.Mem.head _ | apply List.Mem.tail)); rfl; rfl))) rfl (fun W hW => .inl ⟨str_bad h0, rfl, hW.below⟩)
  obtain ⟨n1, n2, -, -, -, -⟩ := chkU_ok h0
  obtain ⟨N, rfl⟩ : ∃ N : Nat, n = N := ⟨n.toNat, by omega⟩
  repeat (first | refine l_val rfl rfl (by first | exact pureEval_ok rfl | exact v_load rfl (by repeat (first | exact List.Mem.head _ | apply List.Mem.tail)) rfl (by rfl)  | fail) ?_ | refine l_nil ?_ | refine c_region ?_ | refine c_seq ?_ | refine x_then ?_ | refine r_box rfl rfl rfl rfl (fun _ => ?_)  | fail)
  refine r_call (v := .tuple ⟨[.agg ⟨theTree C N⟩, .int .i64 0]⟩) rfl rfl rfl (fun W hW => (hck _ W hW).mono fun e W' ⟨g1, g2⟩ => ?_) ?_
  · rcases g2 with ⟨_, g3⟩ | ⟨g2, _⟩
    · rw [Int.toNat_natCast] at g3
      exact ⟨g3, g1⟩
    · exact absurd h0 g2
  unfold theTree
  repeat (first | refine r_alloc rfl rfl rfl (treeZ rfl) (fun b2 => ?_) | refine r_store (vs := treeL _ _ _) rfl rfl rfl rfl rfl treeL_beq treeL_one (by repeat (first | exact Upd.head | apply Upd.tail)) (putK_all (treeL_len.trans treeL_len.symm)) ?_ | refine l_val rfl rfl (v_loadW rfl (by repeat (first | exact List.Mem.head _ | apply List.Mem.tail)) rfl rfl treeL_len) ?_ | refine l_val rfl rfl (by first | exact pureEval_ok rfl | exact v_load rfl (by repeat (first | exact List.Mem.head _ | apply List.Mem.tail)) rfl (by rfl)  | fail) ?_ | refine l_nil ?_ | refine c_region ?_ | refine c_seq ?_ | refine x_then ?_ | refine c_false rfl ?_ | refine c_skip ?_  | fail)
  cases hst : str N L C with
  | some t =>
    refine r_call1 (ι := Nat) (v := fun b => .tuple ⟨[.slice (some ⟨b, 0, none⟩) N N, .slice none 0 0]⟩) (bk := fun b => b) (o := fun b => .cells ⟨ivec N t⟩ 3 (0, 0)) rfl rfl rfl (fun W hW => (hsv N _ W rfl h0 hW).mono fun e W' hq => sol_some hst hq) (fun b => ?_)
    repeat (first | refine l_val rfl rfl (v_neNilS0 rfl rfl) ?_ | refine l_val rfl rfl (by first | exact pureEval_ok rfl  | fail) ?_ | refine l_nil ?_ | refine c_region ?_ | refine c_seq ?_ | refine x_then ?_ | refine c_false rfl ?_ | refine c_skip ?_ | refine c_ret ?_  | fail)
    exact x_ret rfl rfl (by repeat (first | exact Res.nil | (apply Res.tmp; rfl) | (apply Res.cell; rfl; exact (by repeat (first | exact List.Mem.head _ | apply List.Mem.tail)); rfl; rfl))) rfl (fun W hW => .inr ⟨t, b, hst, rfl, hW.below, Nat.le_of_not_lt (hW.own (b, _) (by repeat (first | exact List.Mem.head _ | apply List.Mem.tail))).1, (hW.own (b, _) (by repeat (first | exact List.Mem.head _ | apply List.Mem.tail))).2⟩)
  | none =>
    refine r_call1 (ι := {p : List Us × Nat × Nat × List Value // p.1 ≠ [] ∧ p.1.length ≤ 64 ∧ accepts (net C N L) p.1 = true}) (v := fun p => .tuple ⟨[.slice none 0 0, .slice (some ⟨p.1.2.1, 0, none⟩) p.1.1.length p.1.2.2.1]⟩) (bk := fun p => p.1.2.1) (o := fun p => .cells ⟨flat p.1.1.length (fun j => usE (p.1.1.getD j ⟨0, false⟩)) ++ p.1.2.2.2⟩ 52 (0, 0)) rfl rfl rfl (fun W hW => (hsv N _ W rfl h0 hW).mono fun e W' hq => sol_none h0 hst hq) ?_
    rintro ⟨⟨us, b, cap, rest⟩, hne, hlu, hac⟩
    simp only at hne hlu hac ⊢
    repeat (first | refine l_val rfl rfl (v_neNilS rfl rfl) ?_ | refine l_val rfl rfl (by first | exact pureEval_ok rfl  | fail) ?_ | refine l_nil ?_ | refine c_region ?_ | refine c_seq ?_ | refine x_then ?_ | refine c_true rfl ?_ | refine c_ret ?_ | refine x_then_ret ?_  | fail)
    exact x_ret rfl rfl (by repeat (first | exact Res.nil | (apply Res.tmp; rfl) | (apply Res.cell; rfl; exact (by repeat (first | exact List.Mem.head _ | apply List.Mem.tail)); rfl; rfl))) rfl (fun W hW => .inl ⟨hst, by rw [h0]; rfl, hW.below⟩)
set_option maxRecDepth 100000 in
set_option maxHeartbeats 40000000 in
theorem Refute_calls (u : Un) (w : World) (hA : u.In w) (hl : u.L.length ≤ 1000) (hf : chkU u.n u.L u.C = 0 → u.L.length ≤ 30 ∧ u.C.length ≤ 30) :
    Calls Try.prog 24 ⟨[.agg ⟨u.v⟩]⟩ w (RftQ u.n u.L u.C w) := by
  have hck : ∀ (mem : List (Nat × Obj)) (W : World), SatW w (base w) noJ mem W → Calls Try.prog 39 ⟨[.agg ⟨u.v⟩]⟩ W (ChkQ u.n u.L u.C W) := fun mem W hW => check_calls' u W (hA.sat hW) hl
  have hsv : ∀ (N : Nat) (mem : List (Nat × Obj)) (W : World), u.n = N → chkU u.n u.L u.C = 0 → SatW w (base w) noJ mem W → Calls Try.prog 46 ⟨[.agg ⟨u.v⟩, .agg ⟨theTree u.C N⟩]⟩ W (SolQ N u.C u.L W) := fun N mem W h1 h2 hW => solve_calls' u N W h1 (hA.sat hW) h2 (hf h2).1 (hf h2).2
  obtain ⟨n, A, cap, L, B, cab, C⟩ := u
  simp only [Un.v] at hl hck hsv hf ⊢
  refine fun_enter Try.func24 rfl Try.ntmps24 rfl rfl (satW_nil w) ?_
  by_cases h0 : chkU n L C = 0
  rotate_left
  · repeat (first | refine l_val rfl rfl (by first | exact pureEval_ok rfl | exact v_load rfl (by repeat (first | exact List.Mem.head _ | apply List.Mem.tail)) rfl (by rfl)  | fail) ?_ | refine l_nil ?_ | refine c_region ?_ | refine c_seq ?_ | refine x_then ?_ | refine r_box rfl rfl rfl rfl (fun _ => ?_)  | fail)
    refine r_callI (ι := (Nat → Int) × (Nat → Int) × (Nat → Nat)) (v := fun i => .tuple ⟨[.agg ⟨treeL i.1 i.2.1 i.2.2⟩, .int .i64 (chkU n L C)]⟩) rfl rfl rfl (fun W hW => (hck _ W hW).mono fun e W' ⟨g1, g2⟩ => ?_) ?_
    · rcases g2 with ⟨g2, g3⟩ | ⟨_, f, g, h, g2⟩
      · exact absurd g2 h0
      · exact ⟨(f, g, h), g2, g1⟩
    rintro ⟨f, g, h⟩
    simp only
    repeat (first | refine r_alloc rfl rfl rfl (treeZ rfl) (fun b2 => ?_) | refine r_store (vs := treeL _ _ _) rfl rfl rfl rfl rfl treeL_beq treeL_one (by repeat (first | exact Upd.head | apply Upd.tail)) (putK_all (treeL_len.trans treeL_len.symm)) ?_ | refine l_val rfl rfl (by first | exact pureEval_ok rfl  | fail) ?_ | refine l_nil ?_ | refine c_region ?_ | refine c_seq ?_ | refine x_then ?_ | refine c_dec_t rfl (by first | omega  | fail) ?_ | refine c_ret ?_ | refine x_then_ret ?_  | fail)
    exact x_ret rfl rfl (by repeat (first | exact Res.nil | (apply Res.tmp; rfl) | (apply Res.cell; rfl; exact (by repeat (first | exact List.Mem.head _ | apply List.Mem.tail)); rfl; rfl))) rfl (fun W hW => .inl ⟨.inl h0, rfl, hW.below⟩)
  obtain ⟨n1, n2, -, -, -, -⟩ := chkU_ok h0
  obtain ⟨N, rfl⟩ : ∃ N : Nat, n = N := ⟨n.toNat, by omega⟩
  repeat (first | refine l_val rfl rfl (by first | exact pureEval_ok rfl | exact v_load rfl (by repeat (first | exact List.Mem.head _ | apply List.Mem.tail)) rfl (by rfl)  | fail) ?_ | refine l_nil ?_ | refine c_region ?_ | refine c_seq ?_ | refine x_then ?_ | refine r_box rfl rfl rfl rfl (fun _ => ?_)  | fail)
  refine r_call (v := .tuple ⟨[.agg ⟨theTree C N⟩, .int .i64 0]⟩) rfl rfl rfl (fun W hW => (hck _ W hW).mono fun e W' ⟨g1, g2⟩ => ?_) ?_
  · rcases g2 with ⟨_, g3⟩ | ⟨g2, _⟩
    · rw [Int.toNat_natCast] at g3
      exact ⟨g3, g1⟩
    · exact absurd h0 g2
  unfold theTree
  repeat (first | refine r_alloc rfl rfl rfl (treeZ rfl) (fun b2 => ?_) | refine r_store (vs := treeL _ _ _) rfl rfl rfl rfl rfl treeL_beq treeL_one (by repeat (first | exact Upd.head | apply Upd.tail)) (putK_all (treeL_len.trans treeL_len.symm)) ?_ | refine l_val rfl rfl (v_loadW rfl (by repeat (first | exact List.Mem.head _ | apply List.Mem.tail)) rfl rfl treeL_len) ?_ | refine l_val rfl rfl (by first | exact pureEval_ok rfl | exact v_load rfl (by repeat (first | exact List.Mem.head _ | apply List.Mem.tail)) rfl (by rfl)  | fail) ?_ | refine l_nil ?_ | refine c_region ?_ | refine c_seq ?_ | refine x_then ?_ | refine c_false rfl ?_ | refine c_skip ?_  | fail)
  cases hst : str N L C with
  | some t =>
    refine r_call1 (ι := Nat) (v := fun b => .tuple ⟨[.slice (some ⟨b, 0, none⟩) N N, .slice none 0 0]⟩) (bk := fun b => b) (o := fun b => .cells ⟨ivec N t⟩ 3 (0, 0)) rfl rfl rfl (fun W hW => (hsv N _ W rfl h0 hW).mono fun e W' hq => sol_some hst hq) (fun b => ?_)
    repeat (first | refine l_val rfl rfl (v_neNilS0 rfl rfl) ?_ | refine l_val rfl rfl (by first | exact pureEval_ok rfl  | fail) ?_ | refine l_nil ?_ | refine c_region ?_ | refine c_seq ?_ | refine x_then ?_ | refine c_ret ?_  | fail)
    exact x_ret rfl rfl (by repeat (first | exact Res.nil | (apply Res.tmp; rfl) | (apply Res.cell; rfl; exact (by repeat (first | exact List.Mem.head _ | apply List.Mem.tail)); rfl; rfl))) rfl (fun W hW => .inl ⟨.inr ⟨t, hst⟩, by rw [h0]; rfl, hW.below⟩)
  | none =>
    refine r_call1 (ι := {p : List Us × Nat × Nat × List Value // p.1 ≠ [] ∧ p.1.length ≤ 64 ∧ accepts (net C N L) p.1 = true}) (v := fun p => .tuple ⟨[.slice none 0 0, .slice (some ⟨p.1.2.1, 0, none⟩) p.1.1.length p.1.2.2.1]⟩) (bk := fun p => p.1.2.1) (o := fun p => .cells ⟨flat p.1.1.length (fun j => usE (p.1.1.getD j ⟨0, false⟩)) ++ p.1.2.2.2⟩ 52 (0, 0)) rfl rfl rfl (fun W hW => (hsv N _ W rfl h0 hW).mono fun e W' hq => sol_none h0 hst hq) ?_
    rintro ⟨⟨us, b, cap, rest⟩, hne, hlu, hac⟩
    simp only at hne hlu hac ⊢
    repeat (first | refine l_val rfl rfl (v_neNilS rfl rfl) ?_ | refine l_val rfl rfl (by first | exact pureEval_ok rfl  | fail) ?_ | refine l_nil ?_ | refine c_region ?_ | refine c_seq ?_ | refine x_then ?_ | refine c_ret ?_  | fail)
    exact x_ret rfl rfl (by repeat (first | exact Res.nil | (apply Res.tmp; rfl) | (apply Res.cell; rfl; exact (by repeat (first | exact List.Mem.head _ | apply List.Mem.tail)); rfl; rfl))) rfl (fun W hW => .inr ⟨h0, hst, us, b, cap, rest, hne, hlu, by rw [Int.toNat_natCast]; exact hac, rfl, hW.below, Nat.le_of_not_lt (hW.own (b, _) (by repeat (first | exact List.Mem.head _ | apply List.Mem.tail))).1, (hW.own (b, _) (by repeat (first | exact List.Mem.head _ | apply List.Mem.tail))).2⟩)
end R23
end Go.Proofs

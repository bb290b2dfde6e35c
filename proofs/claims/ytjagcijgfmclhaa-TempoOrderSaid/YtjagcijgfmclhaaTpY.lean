/- Clocks: the chapter's examples. -/
import Derived.Test.YtjagcijgfmclhaaTpX
import Derived.Test.YtjagcijgfmclhaaTpT
set_option linter.unusedSectionVars false
set_option linter.unusedVariables false
set_option linter.unusedSimpArgs false
namespace Go.Proofs
open Go.RowKit Go.Kin Go.Kin.Tm
namespace R13
/-! ## The examples -/
def exC (A : Option Addr) : Clk := ⟨7, [⟨0, 1000, 0⟩, ⟨4, 900, -50⟩], [], [], A, none, none, 2, 0, 0⟩
def exT (A B : Option Addr) : Clk := ⟨2, [⟨0, 10, 0⟩], [⟨0, 2, 3, 5⟩], [], A, B, none, 1, 1, 0⟩
def exO (A : Option Addr) : Clk := ⟨1, [⟨0, 10, 0⟩], [], [], A, none, none, 1, 0, 0⟩
def exE : Clk := ⟨0, [], [], [], none, none, none, 0, 0, 0⟩
def exL (A : Option Addr) : Clk := ⟨1, [⟨0, 65537, 0⟩], [], [], A, none, none, 1, 0, 0⟩
def exM (A : Option Addr) : Clk := ⟨3, [⟨0, 100, -50⟩], [], [], A, none, none, 1, 0, 0⟩
theorem sm_of {c : Clk} (h1 : c.ts.length ≤ 5) (h2 : c.ps.length ≤ 5) (h3 : c.sp.length ≤ 5) : c.Sm := ⟨by omega, by omega, by omega⟩
theorem tC3 (A : Option Addr) : v2 (tkA (exC A) 3) = .tuple ⟨[.int .i64 1000, .int .i64 0]⟩ := by
  have h : tkA (exC A) 3 = tkA (exC none) 3 := rfl
  rw [h, show tkA (exC none) 3 = (1000, 0) by decide +kernel]; rfl
theorem tC4 (A : Option Addr) : v2 (tkA (exC A) 4) = .tuple ⟨[.int .i64 900, .int .i64 0]⟩ := by
  have h : tkA (exC A) 4 = tkA (exC none) 4 := rfl
  rw [h, show tkA (exC none) 4 = (900, 0) by decide +kernel]; rfl
theorem tC6 (A : Option Addr) : v2 (tkA (exC A) 6) = .tuple ⟨[.int .i64 800, .int .i64 0]⟩ := by
  have h : tkA (exC A) 6 = tkA (exC none) 6 := rfl
  rw [h, show tkA (exC none) 6 = (800, 0) by decide +kernel]; rfl
theorem aC0 (A : Option Addr) : v3 (atA (exC A) 0 1 3) = .tuple ⟨[.int .i64 333, .int .i64 334, .int .i64 0]⟩ := by
  have h : atA (exC A) 0 1 3 = atA (exC none) 0 1 3 := rfl
  rw [h, show atA (exC none) 0 1 3 = (333, 334, 0) by decide +kernel]; rfl
theorem aC3 (A : Option Addr) : v3 (atA (exC A) 3 1 4) = .tuple ⟨[.int .i64 250, .int .i64 250, .int .i64 0]⟩ := by
  have h : atA (exC A) 3 1 4 = atA (exC none) 3 1 4 := rfl
  rw [h, show atA (exC none) 3 1 4 = (250, 250, 0) by decide +kernel]; rfl
theorem bT1 (A B : Option Addr) : vB (bgA (exT A B) 1) = .tuple ⟨[.agg ⟨[.int .i64 13, .int .i64 15]⟩, .int .i64 0]⟩ := by
  have h : bgA (exT A B) 1 = bgA (exT none none) 1 := rfl
  rw [h, show bgA (exT none none) 1 = ((13, 15), 0) by decide +kernel]; rfl
theorem lT5 (A B : Option Addr) : v2 (lnA (exT A B) [5]) = .tuple ⟨[.int .i64 25, .int .i64 0]⟩ := by
  have h : lnA (exT A B) [5] = lnA (exT none none) [5] := rfl
  rw [h, show lnA (exT none none) [5] = (25, 0) by decide +kernel]; rfl
theorem cT12 (A B : Option Addr) : v4 (lcA (exT A B) [5] 12) = .tuple ⟨[.int .i64 0, .int .i64 2, .bool false, .int .i64 0]⟩ := by
  have h : lcA (exT A B) [5] 12 = lcA (exT none none) [5] 12 := rfl
  rw [h, show lcA (exT none none) [5] 12 = ((0, 2, false), 0) by decide +kernel]; rfl
theorem cT15 (A B : Option Addr) : v4 (lcA (exT A B) [5] 15) = .tuple ⟨[.int .i64 1, .int .i64 0, .bool true, .int .i64 0]⟩ := by
  have h : lcA (exT A B) [5] 15 = lcA (exT none none) [5] 15 := rfl
  rw [h, show lcA (exT none none) [5] 15 = ((1, 0, true), 0) by decide +kernel]; rfl
theorem cO10 (A : Option Addr) : v4 (lcA (exO A) [] 10) = .tuple ⟨[.int .i64 0, .int .i64 0, .bool false, .int .i64 1]⟩ := by
  have h : lcA (exO A) [] 10 = lcA (exO none) [] 10 := rfl
  rw [h, show lcA (exO none) [] 10 = ((0, 0, false), 1) by decide +kernel]; rfl
theorem kE : exE.k = 130 := by decide +kernel
theorem kL (A : Option Addr) : (exL A).k = 130 := by
  have h : (exL A).k = (exL none).k := rfl
  rw [h]; decide +kernel
theorem kM (A : Option Addr) : (exM A).k = 130 := by
  have h : (exM A).k = (exM none).k := rfl
  rw [h]; decide +kernel

set_option maxRecDepth 100000 in
set_option maxHeartbeats 4000000 in
theorem sane_calls (w : World) : Calls Try.prog 10 ⟨[]⟩ w fun e w' => e = .returned (.bool true) ∧ Below w.heap.size w w' := by
  refine fun_enter Try.func10 rfl Try.ntmps10 rfl rfl (satW_nil w) ?_
  repeat ((fail_if_success refine c_probe (id := 2) ?_); (fail_if_success refine c_probe1 (id := 2) ?_); first | refine l_val rfl rfl (by first | exact pureEval_ok rfl | exact v_build rfl rfl (by rfl) ) ?_ | refine l_nil ?_ | refine c_region ?_ | refine c_seq ?_ | refine x_then ?_ | refine r_alloc rfl rfl rfl (by first | exact aggL ) (fun _ => ?_) | refine r_store rfl rfl rfl rfl rfl rfl rfl (by repeat (first | exact Upd.head | apply Upd.tail)) (by rfl) ?_ | refine r_buildSlice rfl rfl rfl rfl rfl rfl (by rfl) (fun _ => ?_) )
  rename_i bA b1
  have hC : ∀ {mem : List (Nat × Obj)}, (bA, Obj.cells ⟨[.int .i64 0, .int .i64 1000, .int .i64 0, .int .i64 4, .int .i64 900, .int .i64 (-50)]⟩ 57 (0, 0)) ∈ mem → ∀ W, SatW w (base w) noJ mem W → (exC (some ⟨bA, 0, none⟩)).In W :=
    fun hm W hW => ⟨hW.rows hm (rest := []) rfl (tp_len _), at_nil _ _, at_nil _ _⟩
  have sC : (exC (some ⟨bA, 0, none⟩)).Sm := sm_of (Nat.le_of_ble_eq_true rfl) (Nat.le_of_ble_eq_true rfl) (Nat.le_of_ble_eq_true rfl)
  repeat (first | refine l_val rfl rfl (by first | exact v_load rfl (by repeat (first | exact List.Mem.head _ | apply List.Mem.tail)) rfl (by rfl) ) ?_ | refine c_region ?_ | refine c_seq ?_ )
  refine r_call rfl rfl rfl (fun W hW => tC3 (some ⟨bA, 0, none⟩) ▸ Ticks_calls (exC (some ⟨bA, 0, none⟩)) 3 W sC (hC (by repeat (first | exact List.Mem.head _ | apply List.Mem.tail)) W hW)) ?_
  repeat (first | refine l_val rfl rfl (by first | exact pureEval_ok rfl | exact v_load rfl (by repeat (first | exact List.Mem.head _ | apply List.Mem.tail)) rfl (by rfl) ) ?_ | refine l_nil ?_ | refine c_region ?_ | refine c_seq ?_ | refine x_then ?_ )
  refine r_call rfl rfl rfl (fun W hW => tC4 (some ⟨bA, 0, none⟩) ▸ Ticks_calls (exC (some ⟨bA, 0, none⟩)) 4 W sC (hC (by repeat (first | exact List.Mem.head _ | apply List.Mem.tail)) W hW)) ?_
  repeat (first | refine l_val rfl rfl (by first | exact pureEval_ok rfl | exact v_load rfl (by repeat (first | exact List.Mem.head _ | apply List.Mem.tail)) rfl (by rfl) ) ?_ | refine l_nil ?_ | refine c_region ?_ | refine c_seq ?_ | refine x_then ?_ )
  refine r_call rfl rfl rfl (fun W hW => tC6 (some ⟨bA, 0, none⟩) ▸ Ticks_calls (exC (some ⟨bA, 0, none⟩)) 6 W sC (hC (by repeat (first | exact List.Mem.head _ | apply List.Mem.tail)) W hW)) ?_
  repeat (first | refine l_val rfl rfl (by first | exact pureEval_ok rfl | exact v_load rfl (by repeat (first | exact List.Mem.head _ | apply List.Mem.tail)) rfl (by rfl) | exact v_build rfl rfl (by rfl) ) ?_ | refine l_nil ?_ | refine c_region ?_ | refine c_seq ?_ | refine x_then ?_ )
  refine r_call rfl rfl rfl (fun W hW => aC0 (some ⟨bA, 0, none⟩) ▸ At_calls (exC (some ⟨bA, 0, none⟩)) 0 1 3 W sC (hC (by repeat (first | exact List.Mem.head _ | apply List.Mem.tail)) W hW) (by decide) (by decide)) ?_
  repeat (first | refine l_val rfl rfl (by first | exact pureEval_ok rfl | exact v_load rfl (by repeat (first | exact List.Mem.head _ | apply List.Mem.tail)) rfl (by rfl) | exact v_build rfl rfl (by rfl) ) ?_ | refine l_nil ?_ | refine c_region ?_ | refine c_seq ?_ | refine x_then ?_ )
  refine r_call rfl rfl rfl (fun W hW => aC3 (some ⟨bA, 0, none⟩) ▸ At_calls (exC (some ⟨bA, 0, none⟩)) 3 1 4 W sC (hC (by repeat (first | exact List.Mem.head _ | apply List.Mem.tail)) W hW) (by decide) (by decide)) ?_
  repeat (first | refine l_val rfl rfl (by first | exact pureEval_ok rfl | exact v_build rfl rfl (by rfl) ) ?_ | refine l_nil ?_ | refine c_region ?_ | refine c_seq ?_ | refine x_then ?_ | refine r_buildSlice rfl rfl rfl rfl rfl rfl (by rfl) (fun _ => ?_) )
  rename_i bP
  refine r_call1 (ι := Nat) (bk := fun b => b) rfl rfl rfl (fun W hW => plain_calls 2 (some ⟨bP, 0, none⟩) 1 1 W) (fun bQ => ?_)
  repeat ((fail_if_success refine c_probe (id := 8) ?_); (fail_if_success refine c_probe1 (id := 8) ?_); first | refine l_nil ?_ | refine x_then ?_ | refine r_alloc rfl rfl rfl (by first | exact aggL ) (fun _ => ?_) | refine r_store rfl rfl rfl rfl rfl rfl rfl (by repeat (first | exact Upd.head | apply Upd.tail)) (by rfl) ?_ )
  have hT : ∀ {mem : List (Nat × Obj)}, (bQ, Obj.cells ⟨[.int .i64 0, .int .i64 10, .int .i64 0]⟩ 57 (0, 0)) ∈ mem → (bP, Obj.cells ⟨[.int .i64 0, .int .i64 2, .int .i64 3, .int .i64 5]⟩ 53 (0, 0)) ∈ mem → ∀ W, SatW w (base w) noJ mem W → (exT (some ⟨bQ, 0, none⟩) (some ⟨bP, 0, none⟩)).In W :=
    fun hm hm2 W hW => ⟨hW.rows hm (rest := []) rfl (tp_len _), hW.rows hm2 (rest := []) rfl (ps_len _), at_nil _ _⟩
  have sT : (exT (some ⟨bQ, 0, none⟩) (some ⟨bP, 0, none⟩)).Sm := sm_of (Nat.le_of_ble_eq_true rfl) (Nat.le_of_ble_eq_true rfl) (Nat.le_of_ble_eq_true rfl)
  repeat (first | refine l_val rfl rfl (by first | exact v_load rfl (by repeat (first | exact List.Mem.head _ | apply List.Mem.tail)) rfl (by rfl) ) ?_ | refine c_region ?_ | refine c_seq ?_ )
  refine r_call rfl rfl rfl (fun W hW => bT1 (some ⟨bQ, 0, none⟩) (some ⟨bP, 0, none⟩) ▸ Begin_calls (exT (some ⟨bQ, 0, none⟩) (some ⟨bP, 0, none⟩)) 1 W sT (hT (by repeat (first | exact List.Mem.head _ | apply List.Mem.tail)) (by repeat (first | exact List.Mem.head _ | apply List.Mem.tail)) W hW)) ?_
  repeat ((fail_if_success refine c_probe (id := 9) ?_); (fail_if_success refine c_probe1 (id := 9) ?_); first | refine l_val rfl rfl (by first | exact pureEval_ok rfl ) ?_ | refine l_nil ?_ | refine x_then ?_ | refine r_alloc rfl rfl rfl (by first | exact aggL ) (fun _ => ?_) | refine r_store rfl rfl rfl rfl rfl rfl rfl (by repeat (first | exact Upd.head | apply Upd.tail)) (by rfl) ?_ )
  repeat (first | refine l_val rfl rfl (by first | exact v_load rfl (by repeat (first | exact List.Mem.head _ | apply List.Mem.tail)) rfl (by rfl) ) ?_ | refine c_region ?_ | refine c_seq ?_ | refine r_buildSlice rfl rfl rfl rfl rfl rfl (by rfl) (fun _ => ?_) )
  rename_i b5
  refine r_call rfl rfl rfl (fun W hW => lT5 (some ⟨bQ, 0, none⟩) (some ⟨bP, 0, none⟩) ▸ Length_calls (exT (some ⟨bQ, 0, none⟩) (some ⟨bP, 0, none⟩)) (some ⟨b5, 0, none⟩) 1 [5] W sT (by decide) (hT (by repeat (first | exact List.Mem.head _ | apply List.Mem.tail)) (by repeat (first | exact List.Mem.head _ | apply List.Mem.tail)) W hW) (hW.rows (b := b5) (by repeat (first | exact List.Mem.head _ | apply List.Mem.tail)) (rest := []) rfl (in_len _))) ?_
  repeat ((fail_if_success refine c_probe (id := 10) ?_); (fail_if_success refine c_probe1 (id := 10) ?_); first | refine l_val rfl rfl (by first | exact pureEval_ok rfl ) ?_ | refine l_nil ?_ | refine x_then ?_ )
  repeat (first | refine l_val rfl rfl (by first | exact v_load rfl (by repeat (first | exact List.Mem.head _ | apply List.Mem.tail)) rfl (by rfl) ) ?_ | refine c_region ?_ | refine c_seq ?_ | refine r_buildSlice rfl rfl rfl rfl rfl rfl (by rfl) (fun _ => ?_) )
  rename_i b6
  refine r_call rfl rfl rfl (fun W hW => cT12 (some ⟨bQ, 0, none⟩) (some ⟨bP, 0, none⟩) ▸ Locate_calls (exT (some ⟨bQ, 0, none⟩) (some ⟨bP, 0, none⟩)) (some ⟨b6, 0, none⟩) 1 [5] 12 W sT (by decide) (hT (by repeat (first | exact List.Mem.head _ | apply List.Mem.tail)) (by repeat (first | exact List.Mem.head _ | apply List.Mem.tail)) W hW) (hW.rows (b := b6) (by repeat (first | exact List.Mem.head _ | apply List.Mem.tail)) (rest := []) rfl (in_len _)) (by decide)) ?_
  repeat ((fail_if_success refine c_probe (id := 11) ?_); (fail_if_success refine c_probe1 (id := 11) ?_); first | refine l_val rfl rfl (by first | exact pureEval_ok rfl ) ?_ | refine l_nil ?_ | refine x_then ?_ )
  repeat (first | refine l_val rfl rfl (by first | exact v_load rfl (by repeat (first | exact List.Mem.head _ | apply List.Mem.tail)) rfl (by rfl) ) ?_ | refine c_region ?_ | refine c_seq ?_ | refine r_buildSlice rfl rfl rfl rfl rfl rfl (by rfl) (fun _ => ?_) )
  rename_i b7
  refine r_call rfl rfl rfl (fun W hW => cT15 (some ⟨bQ, 0, none⟩) (some ⟨bP, 0, none⟩) ▸ Locate_calls (exT (some ⟨bQ, 0, none⟩) (some ⟨bP, 0, none⟩)) (some ⟨b7, 0, none⟩) 1 [5] 15 W sT (by decide) (hT (by repeat (first | exact List.Mem.head _ | apply List.Mem.tail)) (by repeat (first | exact List.Mem.head _ | apply List.Mem.tail)) W hW) (hW.rows (b := b7) (by repeat (first | exact List.Mem.head _ | apply List.Mem.tail)) (rest := []) rfl (in_len _)) (by decide)) ?_
  repeat (first | refine l_val rfl rfl (by first | exact pureEval_ok rfl ) ?_ | refine l_nil ?_ | refine c_region ?_ | refine c_seq ?_ | refine x_then ?_ )
  refine r_call1 (ι := Nat) (bk := fun b => b) rfl rfl rfl (fun W hW => plain_calls 1 none 0 0 W) (fun b8 => ?_)
  skip
  refine r_call rfl rfl rfl (fun W hW => cO10 (some ⟨b8, 0, none⟩) ▸ Locate_calls (exO (some ⟨b8, 0, none⟩)) none 0 [] 10 W (sm_of (Nat.le_of_ble_eq_true rfl) (Nat.le_of_ble_eq_true rfl) (Nat.le_of_ble_eq_true rfl)) (by decide) ⟨hW.rows (b := b8) (by repeat (first | exact List.Mem.head _ | apply List.Mem.tail)) (rest := []) rfl (tp_len _), at_nil _ _, at_nil _ _⟩ (at_nil _ _) (by decide)) ?_
  repeat (first | refine l_val rfl rfl (by first | exact pureEval_ok rfl | exact v_build rfl rfl (by rfl) ) ?_ | refine l_nil ?_ | refine c_region ?_ | refine c_seq ?_ | refine x_then ?_ | refine c_false rfl ?_ | refine c_skip ?_ )
  refine r_call rfl rfl rfl (fun W hW => kE ▸ check_k exE W (sm_of (Nat.le_of_ble_eq_true rfl) (Nat.le_of_ble_eq_true rfl) (Nat.le_of_ble_eq_true rfl)) ⟨at_nil _ _, at_nil _ _, at_nil _ _⟩) ?_
  repeat (first | refine l_val rfl rfl (by first | exact pureEval_ok rfl | exact v_build rfl rfl (by rfl) ) ?_ | refine r_buildSlice rfl rfl rfl rfl rfl rfl (by rfl) (fun _ => ?_) | refine l_dec_f rfl rfl rfl rfl rfl (by first | omega | exact fun h => h rfl ) ?_ )
  rename_i b9
  refine r_call rfl rfl rfl (fun W hW => kL (some ⟨b9, 0, none⟩) ▸ check_k (exL (some ⟨b9, 0, none⟩)) W (sm_of (Nat.le_of_ble_eq_true rfl) (Nat.le_of_ble_eq_true rfl) (Nat.le_of_ble_eq_true rfl)) ⟨hW.rows (b := b9) (by repeat (first | exact List.Mem.head _ | apply List.Mem.tail)) (rest := []) rfl (tp_len _), at_nil _ _, at_nil _ _⟩) ?_
  repeat (first | refine l_val rfl rfl (by first | exact pureEval_ok rfl | exact v_build rfl rfl (by rfl) ) ?_ | refine r_buildSlice rfl rfl rfl rfl rfl rfl (by rfl) (fun _ => ?_) | refine l_dec_f rfl rfl rfl rfl rfl (by first | omega | exact fun h => h rfl ) ?_ )
  rename_i b10
  refine r_call rfl rfl rfl (fun W hW => kM (some ⟨b10, 0, none⟩) ▸ check_k (exM (some ⟨b10, 0, none⟩)) W (sm_of (Nat.le_of_ble_eq_true rfl) (Nat.le_of_ble_eq_true rfl) (Nat.le_of_ble_eq_true rfl)) ⟨hW.rows (b := b10) (by repeat (first | exact List.Mem.head _ | apply List.Mem.tail)) (rest := []) rfl (tp_len _), at_nil _ _, at_nil _ _⟩) ?_
  repeat (first | refine l_val rfl rfl (by first | exact pureEval_ok rfl | exact v_load rfl (by repeat (first | exact List.Mem.head _ | apply List.Mem.tail)) rfl (by rfl) | exact v_build rfl rfl (by rfl) | exact v_eqS rfl rfl rfl rfl ) ?_ | refine l_nil ?_ | refine c_region ?_ | refine c_seq ?_ | refine x_then ?_ | refine c_false rfl ?_ | refine c_skip ?_ | refine c_ret ?_ )
  exact x_ret rfl rfl (by repeat (first | exact Res.nil | (apply Res.tmp; rfl) | (apply Res.cell; rfl; exact (by repeat (first | exact List.Mem.head _ | apply List.Mem.tail)); rfl; rfl))) rfl (fun W hW => ⟨by first | rfl | (simp; done), hW.below⟩)
end R13
end Go.Proofs

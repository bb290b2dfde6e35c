/- Uncertain networks: the program's check, and its uses. -/
import Derived.Test.YtnmbglemgkopaaaCtG
import Derived.Test.YtnmbglemgkopaaaCtH
import Derived.Test.YtnmbglemgkopaaaEng31
set_option linter.unusedSectionVars false
set_option linter.unusedVariables false
set_option linter.unusedSimpArgs false
namespace Go.Proofs
open Go.RowKit Go.Kin Go.Kin.St Go.Kin.Ct
open R22
namespace R23
/-- what check answers -/
def ChkQ (n : Int) (L C : List Lk) (w : World) (e : Ending) (w' : World) : Prop :=
  Below w.heap.size w w' ∧ ((chkU n L C = 0 ∧ e = .returned (.tuple ⟨[.agg ⟨theTree C n.toNat⟩, .int .i64 0]⟩)) ∨ (chkU n L C ≠ 0 ∧ ∃ f g h, e = .returned (.tuple ⟨[.agg ⟨treeL f g h⟩, .int .i64 (chkU n L C)]⟩)))
set_option maxRecDepth 100000 in
set_option maxHeartbeats 80000000 in
theorem check_calls' (u : Un) (w : World) (hA : u.In w) (hl : u.L.length ≤ 1000) :
    Calls Try.prog 39 ⟨[.agg ⟨u.v⟩]⟩ w (ChkQ u.n u.L u.C w) := by
  have hck : ∀ (mem : List (Nat × Obj)) (W : World), SatW w (base w) noJ mem W → Calls Try.prog 54 ⟨[.agg ⟨netCells u.n u.A u.L.length u.cap⟩]⟩ W fun e w' => e = .returned (.int .i64 (chk u.n u.L)) ∧ Below W.heap.size W w' := fun mem W hW => check_calls u.n u.A u.cap u.L W hl (hA.l.sat hW)
  have hgr : ∀ (mem : List (Nat × Obj)) (W : World) (N : Nat), u.n = N → N ≤ 64 → u.C.length ≤ 256 → SatW w (base w) noJ mem W → Calls Try.prog 68 ⟨[.agg ⟨u.v⟩]⟩ W (GrowQ u.n u.C W) := fun mem W N h1 h2 h3 hW => grow_calls u N W h1 h2 (hA.sat hW) h3
  obtain ⟨n, A, cap, L, B, cab, C⟩ := u
  simp only [Un.v] at hl hck hgr ⊢
  refine fun_enter Try.func39 rfl Try.ntmps39 rfl rfl (satW_nil w) ?_
  repeat (first | refine r_alloc rfl rfl rfl (treeZ rfl) (fun b2 => ?_) | refine l_val rfl rfl (by first | exact pureEval_ok rfl | exact v_load rfl (by repeat (first | exact List.Mem.head _ | apply List.Mem.tail)) rfl (by rfl) | exact v_build rfl rfl (by rfl)  | fail) ?_ | refine l_nil ?_ | refine c_region ?_ | refine c_seq ?_ | refine x_then ?_ | refine r_box rfl rfl rfl rfl (fun _ => ?_)  | fail)
  refine r_call rfl rfl rfl (fun W hW => hck _ W hW) ?_
  by_cases h1 : chk n L = 0
  rotate_left
  · have hc := chkU_a (C := C) h1
    have hc0 : chkU n L C ≠ 0 := by rw [hc]; exact h1
    repeat (first | refine l_val rfl rfl (v_loadW rfl (by repeat (first | exact List.Mem.head _ | apply List.Mem.tail)) rfl rfl treeL_len) ?_ | refine r_store (vs := treeL _ _ _) rfl rfl rfl rfl rfl treeL_beq treeL_one (by repeat (first | exact Upd.head | apply Upd.tail)) (putK_all (treeL_len.trans treeL_len.symm)) ?_ | refine l_val rfl rfl (by first | exact pureEval_ok rfl  | fail) ?_ | refine l_nil ?_ | refine c_region ?_ | refine c_seq ?_ | refine x_then ?_ | refine c_dec_t rfl (by first | omega  | fail) ?_ | refine c_ret ?_ | refine x_then_ret ?_  | fail)
    exact x_ret rfl rfl (res_tree rfl (by repeat (first | exact List.Mem.head _ | apply List.Mem.tail)) rfl) rfl (fun W hW => ⟨hW.below, .inr ⟨hc0, _, _, _, by rw [hc]⟩⟩)
  rw [h1]
  obtain ⟨n1, n2, l1, hF⟩ := chk_ok h1
  obtain ⟨N, rfl⟩ : ∃ N : Nat, n = N := ⟨n.toNat, by omega⟩
  by_cases h2 : 256 < C.length
  · have hc := chkU_2 (C := C) h1 h2
    have hc0 : chkU N L C ≠ 0 := by rw [hc]; decide
    repeat (first | refine l_val rfl rfl (v_loadW rfl (by repeat (first | exact List.Mem.head _ | apply List.Mem.tail)) rfl rfl treeL_len) ?_ | refine r_store (vs := treeL _ _ _) rfl rfl rfl rfl rfl treeL_beq treeL_one (by repeat (first | exact Upd.head | apply Upd.tail)) (putK_all (treeL_len.trans treeL_len.symm)) ?_ | refine l_val rfl rfl (by first | exact pureEval_ok rfl | exact v_load rfl (by repeat (first | exact List.Mem.head _ | apply List.Mem.tail)) rfl (by rfl)  | fail) ?_ | refine l_nil ?_ | refine c_region ?_ | refine c_seq ?_ | refine x_then ?_ | refine c_false rfl ?_ | refine c_dec_t rfl (by first | omega  | fail) ?_ | refine c_skip ?_ | refine c_ret ?_ | refine x_then_ret ?_  | fail)
    exact x_ret rfl rfl (res_tree rfl (by repeat (first | exact List.Mem.head _ | apply List.Mem.tail)) rfl) rfl (fun W hW => ⟨hW.below, .inr ⟨hc0, _, _, _, by rw [hc]⟩⟩)
  by_cases h3 : Ends N C ∧ okT ((N : Int).toNat) C
  · have hc := chkU_0 (L := L) h1 h2 h3
    repeat (first | refine l_val rfl rfl (by first | exact pureEval_ok rfl | exact v_load rfl (by repeat (first | exact List.Mem.head _ | apply List.Mem.tail)) rfl (by rfl)  | fail) ?_ | refine l_nil ?_ | refine c_region ?_ | refine c_seq ?_ | refine x_then ?_ | refine c_false rfl ?_ | refine c_dec_f rfl (by first | omega  | fail) ?_ | refine c_skip ?_  | fail)
    refine r_call (v := .tuple ⟨[.agg ⟨theTree C N⟩, .bool true]⟩) rfl rfl rfl (fun W hW => (hgr _ W N rfl (by omega) (by omega) hW).mono fun e W' ⟨g1, g2⟩ => ?_) ?_
    · rcases g2 with ⟨_, _, g2⟩ | ⟨g2, _⟩
      · rw [Int.toNat_natCast] at g2
        exact ⟨g2, g1⟩
      · exact absurd h3 g2
    unfold theTree
    repeat (first | refine l_val rfl rfl (v_loadW rfl (by repeat (first | exact List.Mem.head _ | apply List.Mem.tail)) rfl rfl treeL_len) ?_ | refine r_store (vs := treeL _ _ _) rfl rfl rfl rfl rfl treeL_beq treeL_one (by repeat (first | exact Upd.head | apply Upd.tail)) (putK_all (treeL_len.trans treeL_len.symm)) ?_ | refine l_val rfl rfl (by first | exact pureEval_ok rfl  | fail) ?_ | refine l_nil ?_ | refine c_region ?_ | refine c_seq ?_ | refine x_then ?_ | refine c_false rfl ?_ | refine c_skip ?_ | refine c_ret ?_  | fail)
    exact x_ret rfl rfl (res_tree rfl (by repeat (first | exact List.Mem.head _ | apply List.Mem.tail)) rfl) rfl (fun W hW => ⟨hW.below, .inl ⟨hc, by rw [Int.toNat_natCast]; rfl⟩⟩)
  · have hc := chkU_230 (L := L) h1 h2 h3
    have hc0 : chkU N L C ≠ 0 := by rw [hc]; decide
    repeat (first | refine l_val rfl rfl (by first | exact pureEval_ok rfl | exact v_load rfl (by repeat (first | exact List.Mem.head _ | apply List.Mem.tail)) rfl (by rfl)  | fail) ?_ | refine l_nil ?_ | refine c_region ?_ | refine c_seq ?_ | refine x_then ?_ | refine c_false rfl ?_ | refine c_dec_f rfl (by first | omega  | fail) ?_ | refine c_skip ?_  | fail)
    refine r_callI (ι := (Nat → Int) × (Nat → Int) × (Nat → Nat)) (v := fun i => .tuple ⟨[.agg ⟨treeL i.1 i.2.1 i.2.2⟩, .bool false]⟩) rfl rfl rfl (fun W hW => (hgr _ W N rfl (by omega) (by omega) hW).mono fun e W' ⟨g1, g2⟩ => ?_) ?_
    · rcases g2 with ⟨g2, g3, _⟩ | ⟨_, f, g, h, g2⟩
      · exact absurd ⟨g2, g3⟩ h3
      · exact ⟨(f, g, h), g2, g1⟩
    rintro ⟨f, g, h⟩
    simp only
    repeat (first | refine l_val rfl rfl (v_loadW rfl (by repeat (first | exact List.Mem.head _ | apply List.Mem.tail)) rfl rfl treeL_len) ?_ | refine r_store (vs := treeL _ _ _) rfl rfl rfl rfl rfl treeL_beq treeL_one (by repeat (first | exact Upd.head | apply Upd.tail)) (putK_all (treeL_len.trans treeL_len.symm)) ?_ | refine l_val rfl rfl (by first | exact pureEval_ok rfl  | fail) ?_ | refine l_nil ?_ | refine c_region ?_ | refine c_seq ?_ | refine x_then ?_ | refine c_true rfl ?_ | refine c_ret ?_ | refine x_then_ret ?_  | fail)
    exact x_ret rfl rfl (res_tree rfl (by repeat (first | exact List.Mem.head _ | apply List.Mem.tail)) rfl) rfl (fun W hW => ⟨hW.below, .inr ⟨hc0, _, _, _, by rw [hc]⟩⟩)
theorem Check_calls (u : Un) (w : World) (hA : u.In w) (hl : u.L.length ≤ 1000) :
    Calls Try.prog 16 ⟨[.agg ⟨u.v⟩]⟩ w fun e w' => e = .returned (.int .i64 (chkU u.n u.L u.C)) ∧ Below w.heap.size w w' := by
  have hck : ∀ (mem : List (Nat × Obj)) (W : World), SatW w (base w) noJ mem W → Calls Try.prog 39 ⟨[.agg ⟨u.v⟩]⟩ W (ChkQ u.n u.L u.C W) := fun mem W hW => check_calls' u W (hA.sat hW) hl
  obtain ⟨n, A, cap, L, B, cab, C⟩ := u
  simp only [Un.v] at hl hck ⊢
  refine fun_enter Try.func16 rfl Try.ntmps16 rfl rfl (satW_nil w) ?_
  repeat (first | refine l_val rfl rfl (by first | exact pureEval_ok rfl | exact v_load rfl (by repeat (first | exact List.Mem.head _ | apply List.Mem.tail)) rfl (by rfl)  | fail) ?_ | refine l_nil ?_ | refine c_region ?_ | refine c_seq ?_ | refine x_then ?_ | refine r_box rfl rfl rfl rfl (fun _ => ?_)  | fail)
  refine r_callI (ι := (Nat → Int) × (Nat → Int) × (Nat → Nat)) (v := fun i => .tuple ⟨[.agg ⟨treeL i.1 i.2.1 i.2.2⟩, .int .i64 (chkU n L C)]⟩) rfl rfl rfl (fun W hW => (hck _ W hW).mono fun e W' ⟨g1, g2⟩ => ?_) ?_
  · rcases g2 with ⟨g2, g3⟩ | ⟨_, f, g, h, g2⟩
    · exact ⟨(fI C C.length, gT C n.toNat n.toNat, hT C n.toNat n.toNat), by rw [g2]; exact g3, g1⟩
    · exact ⟨(f, g, h), g2, g1⟩
  rintro ⟨f, g, h⟩
  simp only
  repeat (first | refine l_val rfl rfl (by first | exact pureEval_ok rfl  | fail) ?_ | refine l_nil ?_ | refine c_region ?_ | refine c_seq ?_ | refine x_then ?_ | refine c_ret ?_  | fail)
  exact x_ret rfl rfl (by repeat (first | exact Res.nil | (apply Res.tmp; rfl) | (apply Res.cell; rfl; exact (by repeat (first | exact List.Mem.head _ | apply List.Mem.tail)); rfl; rfl))) rfl (fun W hW => ⟨rfl, hW.below⟩)
/-! ## Uses -/
theorem uses_calls (u : Un) (w : World) :
    Calls Try.prog 72 ⟨[.agg ⟨u.v⟩]⟩ w fun e w' => ∃ b, e = .returned (.func (.func 83) ⟨[]⟩ ⟨[.pointer (some ⟨b, 0, none⟩)]⟩) ∧ Below w.heap.size w w' ∧ w.heap.size ≤ b ∧ w'.heap[b]? = some (.cells ⟨u.v⟩ 24 (0, 0)) := by
  obtain ⟨n, A, cap, L, B, cab, C⟩ := u
  simp only [Un.v]
  refine fun_enter Try.func72 rfl Try.ntmps72 rfl rfl (satW_nil w) ?_
  repeat (first | refine l_val rfl rfl (by first | exact pureEval_ok rfl  | fail) ?_ | refine l_nil ?_ | refine c_region ?_ | refine c_seq ?_ | refine x_then ?_ | refine r_box rfl rfl rfl rfl (fun _ => ?_) | refine c_ret ?_  | fail)
  refine x_ret rfl rfl (by repeat (first | exact Res.nil | (apply Res.tmp; rfl) | (apply Res.cell; rfl; exact (by repeat (first | exact List.Mem.head _ | apply List.Mem.tail)); rfl; rfl))) rfl (fun W hW => ?_)
  have h := hW.own _ (by repeat (first | exact List.Mem.head _ | apply List.Mem.tail))
  exact ⟨_, rfl, hW.below, Nat.le_of_not_lt h.1, h.2⟩
def usL (m : Nat) : List Us := (List.range (2 * m)).map useOf
theorem usL_len (m : Nat) : (usL m).length = 2 * m := by unfold usL; simp
theorem usL_get {m k : Nat} (h : k < 2 * m) : (usL m)[k]? = some (useOf k) := by unfold usL; rw [List.getElem?_map, List.getElem?_range h]; rfl
theorem useOf_even (k : Nat) : useOf (2 * k) = ⟨k, false⟩ := by unfold useOf; rw [show 2 * k / 2 = k by omega, decide_eq_false (by omega)]
theorem useOf_odd (k : Nat) : useOf (2 * k + 1) = ⟨k, true⟩ := by unfold useOf; rw [show (2 * k + 1) / 2 = k by omega, decide_eq_true (by omega)]
def usA (u : Us) : List Value := [.agg ⟨usE u⟩]
theorem uses_it (R : Nat → Prop) (b : Nat) (u : Un) (W : World) (hl : u.L.length ≤ 1000) (hbox : W.heap[b]? = some (.cells ⟨u.v⟩ 24 (0, 0))) (hR : ∀ k, R k → k < W.heap.size) (hRb : R b) :
    It Try.prog 83 [.pointer (some ⟨b, 0, none⟩)] usA (usL u.L.length) R W := by
  obtain ⟨n, A, cap, L, B, cab, C⟩ := u
  simp only [Un.v] at hl hbox ⊢
  intro lp J Jx cJ cJx hy h0
  have hb : Ext W R b 0 [.int .i64 n, .slice A L.length cap, .slice B C.length cab] := extOf hbox hRb
  have hs : SatW W R (J 0) [] W := ⟨Same.refl _ _, hR, List.nodup_nil, fun p hp => (by cases hp), cJ 0, cJ 0 _ _ _ _ h0 (Same.refl _ _) fun b hb => (by cases hb)⟩
  refine fun_enter Try.func83 rfl Try.ntmps83 rfl rfl hs ?_
  repeat (first | refine l_val rfl rfl (by first | exact pureEval_ok rfl | exact v_load_ext rfl (by assumption) rfl (by rfl)  | fail) ?_ | refine l_nil ?_ | refine c_region ?_ | refine c_seq ?_ | refine x_then ?_ | refine c_block ?_  | fail)
  refine c_loopD (ι := Nat) (fun k => k ≤ L.length) (fun _ => []) (fun k => J (2 * k)) (fun k => [(0, .func (.yield lp) ⟨[]⟩ ⟨[]⟩), (6, .int .i64 L.length), (7, .int .i64 k)]) (fun _ => []) (fun k => L.length - k) 0 (by omega) rfl rfl (by repeat (first | exact EnvSub.nil | refine EnvSub.cons rfl (by first | rfl | (congr 1; done) | (exact congrArg (Value.int _) (by omega)) | (simp; done)) ?_)) (by repeat (first | exact MSub.nil | refine MSub.keep (by first | rfl | assumption) ?_ | refine MSub.drop ?_ | exact MSub.refl _)) ?_
  intro k hk
  by_cases hlt : k < L.length
  · have hlen := usL_len L.length
    have e1 : (usL L.length)[2 * k]'(by omega) = ⟨k, false⟩ := by
      have h := (List.getElem?_eq_some_iff.1 (usL_get (m := L.length) (k := 2 * k) (by omega))).2
      rw [h, useOf_even]
    have e2 : (usL L.length)[2 * k + 1]'(by omega) = ⟨k, true⟩ := by
      have h := (List.getElem?_eq_some_iff.1 (usL_get (m := L.length) (k := 2 * k + 1) (by omega))).2
      rw [h, useOf_odd]
    repeat (first | refine l_val rfl rfl (by first | exact pureEval_ok rfl | exact v_build rfl rfl (by rfl)  | fail) ?_ | refine l_nil ?_ | refine c_region ?_ | refine c_seq ?_ | refine x_then ?_ | refine c_dec_t rfl (by first | omega  | fail) ?_ | refine c_block ?_ | refine c_skip ?_  | fail)
    refine l_yield rfl rfl rfl rfl rfl (cJ (2 * k + 1)) (cJx (2 * k)) (fun S A hj hS => by have := hy (2 * k) (by omega) S A hj hS; rw [e1] at this; exact this) ?_ (fun W0 => ?_)
    · repeat (first | refine l_val rfl rfl (by first | exact pureEval_ok rfl | exact v_build rfl rfl (by rfl)  | fail) ?_  | fail)
      refine l_yield rfl rfl rfl rfl rfl (cJ (2 * k + 1 + 1)) (cJx (2 * k + 1)) (fun S A hj hS => by have := hy (2 * k + 1) (by omega) S A hj hS; rw [e2] at this; exact this) ?_ (fun W0 => ?_)
      · repeat (first | refine l_val rfl rfl (by first | exact v_add rfl rfl (by omega) (by omega) | exact pureEval_ok rfl  | fail) ?_ | refine l_nil ?_ | refine c_region ?_ | refine x_then ?_ | refine c_false rfl ?_ | refine c_skip ?_ | refine x_block ?_  | fail)
        exact x_backD (k + 1) (by omega) (by omega) rfl rfl (by repeat (first | exact EnvSub.nil | refine EnvSub.cons rfl (by first | rfl | (congr 1; done) | (exact congrArg (Value.int _) (by omega)) | (simp; done)) ?_)) (by repeat (first | exact MSub.nil | refine MSub.keep (by first | rfl | assumption) ?_ | refine MSub.drop ?_ | exact MSub.refl _))
      · repeat (first | refine l_val rfl rfl (by first | exact pureEval_ok rfl  | fail) ?_ | refine l_nil ?_ | refine x_then ?_ | refine c_true rfl ?_ | refine c_ret ?_ | refine x_then_ret ?_ | refine x_block_ret ?_  | fail)
        exact x_ret rfl rfl (by repeat (first | exact Res.nil | (apply Res.tmp; rfl) | (apply Res.cell; rfl; exact (by repeat (first | exact List.Mem.head _ | apply List.Mem.tail)); rfl; rfl))) rfl (fun W hW => ⟨⟨_, rfl⟩, .inr ⟨2 * k + 1, by omega, _, hW.word⟩⟩)
    · repeat (first | refine l_val rfl rfl (by first | exact pureEval_ok rfl | exact v_build rfl rfl (by rfl)  | fail) ?_ | refine l_nil ?_ | refine x_then ?_ | refine l_skip rfl rfl ?_ | refine c_true rfl ?_ | refine c_ret ?_ | refine x_then_ret ?_ | refine x_block_ret ?_  | fail)
      exact x_ret rfl rfl (by repeat (first | exact Res.nil | (apply Res.tmp; rfl) | (apply Res.cell; rfl; exact (by repeat (first | exact List.Mem.head _ | apply List.Mem.tail)); rfl; rfl))) rfl (fun W hW => ⟨⟨_, rfl⟩, .inr ⟨2 * k, by omega, _, hW.word⟩⟩)
  · have hkl : k = L.length := by omega
    subst hkl
    have hlen := usL_len L.length
    repeat (first | refine l_val rfl rfl (by first | exact pureEval_ok rfl  | fail) ?_ | refine l_nil ?_ | refine c_region ?_ | refine c_seq ?_ | refine x_then ?_ | refine c_dec_f rfl (by first | omega  | fail) ?_ | refine c_exit ?_ | refine x_then_exit ?_ | refine x_block_same ?_  | fail)
    exact x_end rfl rfl (by repeat (first | exact Res.nil | (apply Res.tmp; rfl) | (apply Res.cell; rfl; exact (by repeat (first | exact List.Mem.head _ | apply List.Mem.tail)); rfl; rfl))) rfl (fun W hW => ⟨⟨_, rfl⟩, .inl ⟨_, by rw [hlen]; exact hW.word⟩⟩)
/-! ## The closure -/
theorem steps_calls' (u : Un) (N : Nat) (w : World) :
    Calls Try.prog 52 ⟨[.agg ⟨u.v⟩, .agg ⟨theTree u.C N⟩]⟩ w fun e w' => ∃ b : OfB, e = .returned b.v ∧ Below w.heap.size w w' ∧ (([(b.g, Obj.cells ⟨[.func (.func 76) ⟨[]⟩ ⟨[.pointer (some ⟨b.u, 0, none⟩), .pointer (some ⟨b.t, 0, none⟩)]⟩]⟩ 135 (0, 0)), (b.mc, .cells ⟨[.map (some b.m)]⟩ 134 (0, 0)), (b.m, .map ⟨[]⟩ 0), (b.t, .cells ⟨theTree u.C N⟩ 82 (0, 0)), (b.u, .cells ⟨u.v⟩ 24 (0, 0))] : List (Nat × Obj)).map (·.1)).Nodup ∧
      ∀ p ∈ ([(b.g, Obj.cells ⟨[.func (.func 76) ⟨[]⟩ ⟨[.pointer (some ⟨b.u, 0, none⟩), .pointer (some ⟨b.t, 0, none⟩)]⟩]⟩ 135 (0, 0)), (b.mc, .cells ⟨[.map (some b.m)]⟩ 134 (0, 0)), (b.m, .map ⟨[]⟩ 0), (b.t, .cells ⟨theTree u.C N⟩ 82 (0, 0)), (b.u, .cells ⟨u.v⟩ 24 (0, 0))] : List (Nat × Obj)), w.heap.size ≤ p.1 ∧ w'.heap[p.1]? = some p.2 := by
  obtain ⟨n, A, cap, L, B, cab, C⟩ := u
  simp only [Un.v]
  unfold theTree
  refine fun_enter Try.func52 rfl Try.ntmps52 rfl rfl (satW_nil w) ?_
  repeat (first | refine l_val rfl rfl (by first | exact pureEval_ok rfl  | fail) ?_ | refine l_nil ?_ | refine c_region ?_ | refine c_seq ?_ | refine x_then ?_ | refine r_box rfl rfl rfl rfl (fun _ => ?_) | refine r_makeMap rfl rfl (fun _ => ?_) | refine r_alloc rfl rfl rfl (by first | exact aggL  | fail) (fun _ => ?_) | refine r_store rfl rfl rfl rfl rfl rfl rfl (by repeat (first | exact Upd.head | apply Upd.tail)) (by rfl) ?_ | refine c_ret ?_  | fail)
  rename_i bu bt bm bmc bg
  exact x_ret rfl rfl (by repeat (first | exact Res.nil | (apply Res.tmp; rfl) | (apply Res.cell; rfl; exact (by repeat (first | exact List.Mem.head _ | apply List.Mem.tail)); rfl; rfl))) rfl (fun W hW => ⟨⟨bm, bmc, bu, bt, bg⟩, rfl, hW.below, hW.nodup, fun p hp => ⟨Nat.le_of_not_lt (hW.own p hp).1, (hW.own p hp).2⟩⟩)
end R23
end Go.Proofs

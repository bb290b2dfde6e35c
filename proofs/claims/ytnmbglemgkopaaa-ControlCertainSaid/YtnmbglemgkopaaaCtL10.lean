/- Uncertain networks: the law Certain. -/
import Derived.Test.YtnmbglemgkopaaaStEar2
import Derived.Test.YtnmbglemgkopaaaCtI
import Derived.Test.YtnmbglemgkopaaaCtW
import Derived.Test.YtnmbglemgkopaaaCtSan
set_option linter.unusedSectionVars false
set_option linter.unusedVariables false
set_option linter.unusedSimpArgs false
namespace Go.Proofs
open Go.RowKit Go.Kin Go.Kin.St Go.Kin.Ct
open R22 (lkE chk EarQ ear earQ_none earQ_some)
namespace R23
theorem red_nil (N : Nat) (x : Lk) : redL [] N x = x := by
  have hc : ∀ (f : Nat) (p : Int), climb [] f p = ([], p) := fun f p => climb_none rfl f
  have hg : ∀ p q : Int, gap [] N p q = 0 := fun p q => rfl
  unfold redL root
  rw [hc, hc, hg, hg]
  obtain ⟨a, b, c, d⟩ := x
  simp
theorem redE_nil (N : Nat) (L : List Lk) : redE [] N L = edges L := by
  unfold redE net
  rw [show L.map (redL [] N) = L from by
    rw [show redL [] N = id from funext fun x => red_nil N x, List.map_id]]
theorem chkU_nil (n : Int) (L : List Lk) : chkU n L [] = chk n L := by
  by_cases h : chk n L = 0
  · rw [chkU_0 h (by decide) ⟨fun i x hx => by simp at hx, fun p _ => by rw [climb_none rfl]; rfl⟩, h]
  · exact chkU_a h
theorem str_nil (n : Int) (L : List Lk) : str n L [] = ear n L := by
  unfold str ear
  rw [chkU_nil, redE_nil]
set_option maxRecDepth 100000 in
set_option maxHeartbeats 40000000 in
theorem law10 (n : Int) (A : Option Addr) (cap : Nat) (L : List Lk) (w : World) (hA : Kin.At w A 4 (L.map lkE)) :
    Calls Try.prog 10 ⟨[.agg ⟨[.int .i64 n, .slice A L.length cap]⟩]⟩ w fun e w' => e = .returned (.bool true) ∧ Below w.heap.size w w' := by
  have hfe : ∀ (W : World), Calls Try.prog 13 ⟨[.agg ⟨[.int .i64 n, .slice A L.length cap, .slice none 0 0]⟩]⟩ W fun e w' => e = .returned (.bool (fewB n L.length 0)) ∧ Below W.heap.size W w' := fun W => Few_calls ⟨n, A, cap, L, none, 0, []⟩ W
  have hU : ∀ (mem : List (Nat × Obj)) (W : World), SatW w (base w) noJ mem W → (Un.mk n A cap L none 0 []).In W := fun mem W hW => un_in (hA.sat hW) at_no
  have h22 : ∀ (mem : List (Nat × Obj)) (W : World), fewB n L.length 0 = true → SatW w (base w) noJ mem W → Calls Try.prog 22 ⟨[.agg ⟨[.int .i64 n, .slice A L.length cap, .slice none 0 0]⟩]⟩ W (StrQ n L [] W) := fun mem W hf hW => Strong_calls ⟨n, A, cap, L, none, 0, []⟩ W (hU mem W hW) (by have := (few_yes (C := []) hf).1; show L.length ≤ 1000; omega) (fun h0 => by have := (few_yes (C := []) hf).2.2 h0; exact ⟨this.1, this.2.1⟩)
  have h31 : ∀ (mem : List (Nat × Obj)) (W : World), fewB n L.length 0 = true → SatW w (base w) noJ mem W → Calls Try.prog 31 ⟨[.agg ⟨[.int .i64 n, .slice A L.length cap]⟩]⟩ W (EarQ n L W) := fun mem W hf hW => R22.Ear_calls n A cap L W (by have := (few_yes (C := []) hf).1; omega) (hA.sat hW)
  refine fun_enter Try.func10 rfl Try.ntmps10 rfl rfl (satW_nil w) ?_
  repeat (first | refine l_val rfl rfl (by first | exact pureEval_ok rfl  | fail) ?_ | refine l_nil ?_ | refine c_region ?_ | refine c_seq ?_ | refine x_then ?_ | refine r_box rfl rfl rfl rfl (fun _ => ?_)  | fail)
  refine r_call rfl rfl rfl (fun W hW => sane_calls W) ?_
  repeat (first | refine l_val rfl rfl (by first | exact pureEval_ok rfl | exact v_load rfl (by repeat (first | exact List.Mem.head _ | apply List.Mem.tail)) rfl (by rfl) | exact v_build rfl rfl (by rfl)  | fail) ?_ | refine l_nil ?_ | refine c_region ?_ | refine c_seq ?_ | refine x_then ?_ | refine r_alloc rfl rfl rfl (by first | exact aggL  | fail) (fun _ => ?_) | refine r_store rfl rfl rfl rfl rfl rfl rfl (by repeat (first | exact Upd.head | apply Upd.tail)) (by rfl) ?_ | refine c_false rfl ?_ | refine c_skip ?_  | fail)
  refine r_call rfl rfl rfl (fun W hW => hfe W) ?_
  cases hf : fewB n L.length 0 with
  | false =>
    repeat (first | refine l_val rfl rfl (by first | exact pureEval_ok rfl  | fail) ?_ | refine l_nil ?_ | refine c_region ?_ | refine c_seq ?_ | refine x_then ?_ | refine c_true rfl ?_ | refine c_ret ?_ | refine x_then_ret ?_  | fail)
    exact x_ret rfl rfl (by repeat (first | exact Res.nil | (apply Res.tmp; rfl) | (apply Res.cell; rfl; exact (by repeat (first | exact List.Mem.head _ | apply List.Mem.tail)); rfl; rfl))) rfl (fun W hW => ⟨rfl, hW.below⟩)
  | true =>
    cases hs : ear n L with
    | none =>
      have hs' : str n L [] = none := by rw [str_nil]; exact hs
      repeat (first | refine l_val rfl rfl (by first | exact pureEval_ok rfl | exact v_load rfl (by repeat (first | exact List.Mem.head _ | apply List.Mem.tail)) rfl (by rfl)  | fail) ?_ | refine l_nil ?_ | refine c_region ?_ | refine c_seq ?_ | refine x_then ?_ | refine c_false rfl ?_ | refine c_skip ?_  | fail)
      refine r_call (v := noV (chkU n L [])) rfl rfl rfl (fun W hW => (h22 _ W hf hW).mono fun e W' hq => ?_) ?_
      · rcases hq with ⟨_, g2, g3⟩ | ⟨t', b, g1, _⟩
        · exact ⟨g2, g3⟩
        · rw [hs'] at g1; cases g1
      unfold noV
      rw [chkU_nil]
      repeat (first | refine l_val rfl rfl (by first | exact pureEval_ok rfl | exact v_load rfl (by repeat (first | exact List.Mem.head _ | apply List.Mem.tail)) rfl (by rfl)  | fail) ?_ | refine l_nil ?_ | refine c_region ?_ | refine c_seq ?_ | refine x_then ?_  | fail)
      refine r_call (v := R22.noV (chk n L)) rfl rfl rfl (fun W hW => earQ_none (h31 _ W hf hW) hs) ?_
      unfold R22.noV
      repeat (first | refine l_val rfl rfl (by first | exact pureEval_ok rfl  | fail) ?_ | refine l_nil ?_ | refine c_region ?_ | refine c_seq ?_ | refine x_then ?_ | refine l_dec_t rfl rfl rfl rfl rfl (by first | omega  | fail) ?_  | fail)
      refine r_call rfl rfl rfl (fun W hW => sameI_calls none none 0 0 [] [] W at_no at_no (by decide) (by decide)) ?_
      rw [decide_eq_true rfl]
      repeat (first | refine l_val rfl rfl (by first | exact pureEval_ok rfl  | fail) ?_ | refine l_nil ?_ | refine x_then ?_ | refine c_ret ?_  | fail)
      exact x_ret rfl rfl (by repeat (first | exact Res.nil | (apply Res.tmp; rfl) | (apply Res.cell; rfl; exact (by repeat (first | exact List.Mem.head _ | apply List.Mem.tail)); rfl; rfl))) rfl (fun W hW => ⟨rfl, hW.below⟩)
    | some t =>
      have hs' : str n L [] = some t := by rw [str_nil]; exact hs
      have h0 := (str_least hs').1
      obtain ⟨n1, n2, -⟩ := chkU_ok h0
      obtain ⟨N, rfl⟩ : ∃ N : Nat, n = N := ⟨n.toNat, by omega⟩
      have hlen := tmL_len (N := N) (t := t)
      repeat (first | refine l_val rfl rfl (by first | exact pureEval_ok rfl | exact v_load rfl (by repeat (first | exact List.Mem.head _ | apply List.Mem.tail)) rfl (by rfl)  | fail) ?_ | refine l_nil ?_ | refine c_region ?_ | refine c_seq ?_ | refine x_then ?_ | refine c_false rfl ?_ | refine c_skip ?_  | fail)
      refine r_call1 (ι := Nat) (bk := fun b => b) (v := fun b => yesV N b) (o := fun b => .cells ⟨flatI (tmL N t) ++ []⟩ 3 (0, 0)) rfl rfl rfl (fun W hW => (h22 _ W hf hW).mono fun e W' hq => ?_) (fun b1 => ?_)
      · rcases hq with ⟨g, _⟩ | ⟨t', b, g1, g2, g3, g4, g5⟩
        · rw [hs'] at g; cases g
        · rw [hs'] at g1
          cases g1
          rw [Int.toNat_natCast] at g2 g5
          exact ⟨b, g2, g3, g4, by rw [g5, List.append_nil]; unfold tmL; rw [flatI_ivec]⟩
      unfold yesV
      repeat (first | refine l_val rfl rfl (by first | exact pureEval_ok rfl | exact v_load rfl (by repeat (first | exact List.Mem.head _ | apply List.Mem.tail)) rfl (by rfl)  | fail) ?_ | refine l_nil ?_ | refine c_region ?_ | refine c_seq ?_ | refine x_then ?_  | fail)
      refine r_call1 (ι := Nat) (bk := fun b => b) (v := fun b => R22.yesV N b) (o := fun b => .cells ⟨flatI (tmL N t) ++ []⟩ 3 (0, 0)) rfl rfl rfl (fun W hW => (earQ_some (h31 _ W hf hW) hs).mono fun e W' hq => ?_) (fun b2 => ?_)
      · obtain ⟨b, g2, g3, g4, g5⟩ := hq
        rw [Int.toNat_natCast] at g2 g5
        exact ⟨b, g2, g3, g4, by rw [g5, List.append_nil]; unfold tmL; rw [flatI_ivec]⟩
      unfold R22.yesV
      repeat (first | refine l_val rfl rfl (by first | exact pureEval_ok rfl  | fail) ?_ | refine l_nil ?_ | refine c_region ?_ | refine c_seq ?_ | refine x_then ?_ | refine l_dec_t rfl rfl rfl rfl rfl (by first | omega  | fail) ?_  | fail)
      refine r_call (v := .bool true) rfl rfl rfl (fun W hW => ?_) ?_
      · have := sameI_calls (some ⟨b1, 0, none⟩) (some ⟨b2, 0, none⟩) N N (tmL N t) (tmL N t) W (SatW.rows (b := b1) (rest := []) hW (by repeat (first | exact List.Mem.head _ | apply List.Mem.tail)) rfl (in_len _)) (SatW.rows (b := b2) (rest := []) hW (by repeat (first | exact List.Mem.head _ | apply List.Mem.tail)) rfl (in_len _)) (by omega) (by omega)
        rw [hlen, decide_eq_true rfl] at this
        exact this
      repeat (first | refine l_val rfl rfl (by first | exact pureEval_ok rfl  | fail) ?_ | refine l_nil ?_ | refine x_then ?_ | refine c_ret ?_  | fail)
      exact x_ret rfl rfl (by repeat (first | exact Res.nil | (apply Res.tmp; rfl) | (apply Res.cell; rfl; exact (by repeat (first | exact List.Mem.head _ | apply List.Mem.tail)); rfl; rfl))) rfl (fun W hW => ⟨rfl, hW.below⟩)
end R23
end Go.Proofs

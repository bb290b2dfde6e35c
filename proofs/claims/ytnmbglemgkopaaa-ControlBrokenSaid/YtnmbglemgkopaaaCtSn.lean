/- Uncertain networks: the chapter's examples, reckoned. Plain Lean. -/
import Derived.Test.YtnmbglemgkopaaaCtK
import Derived.Test.YtnmbglemgkopaaaCtN
import Derived.Test.YtnmbglemgkopaaaCtQ
set_option linter.unusedSectionVars false
set_option linter.unusedVariables false
set_option linter.unusedSimpArgs false
namespace Go.Proofs
open Go.RowKit Go.Kin Go.Kin.St Go.Kin.Ct
open R22 (chk chk_0 chk_1 chk_2 lkE)
open R13 (Clk)
namespace R23
theorem ends_of {n : Int} {C : List Lk} (h : ∀ i : Nat, i < C.length → ∀ x, C[i]? = some x → Cal n x ∧ into C x.to = some i) : Ends n C := fun i x hx => h i (List.getElem?_eq_some_iff.1 hx).1 x hx
theorem ends_one {n : Int} {x : Lk} (h : Cal n x) (h2 : into [x] x.to = some 0) : Ends n [x] := fun i y hy => by
  cases i with
  | zero => cases hy; exact ⟨h, h2⟩
  | succ i => simp at hy
theorem okT_of {N : Nat} {C : List Lk} (h : ((List.range N).all fun p : Nat => (into C (climb C N p).2).isNone) = true) : okT N C := fun p hp => by
  have := List.all_eq_true.1 h p (List.mem_range.2 hp)
  exact Option.isNone_iff_eq_none.1 this
def C1 : List Lk := [⟨0, 1, 3, 5⟩]
def L2 : List Lk := [⟨0, 1, 4, 9⟩]
def L3 : List Lk := [⟨1, 2, 2, 4⟩]
def L4 : List Lk := [⟨0, 1, 9, 10⟩, ⟨0, 2, 0, 99⟩]
def C4 : List Lk := [⟨1, 2, 8, 8⟩]
def C5 : List Lk := [⟨0, 2, 1, 1⟩, ⟨1, 2, 1, 1⟩]
theorem chk_a : chkU 2 [] C1 = 0 := chkU_0 (by decide) (by decide) ⟨ends_one (by decide) (by decide), okT_of (by decide)⟩
theorem chk_b : chkU 2 L2 C1 = 0 := chkU_0 (by decide) (by decide) ⟨ends_one (by decide) (by decide), okT_of (by decide)⟩
theorem chk_c : chkU 3 L3 C1 = 0 := chkU_0 (by decide) (by decide) ⟨ends_one (by decide) (by decide), okT_of (by decide)⟩
theorem chk_d : chkU 3 L4 C4 = 0 := chkU_0 (by decide) (by decide) ⟨ends_one (by decide) (by decide), okT_of (by decide)⟩
theorem chk_e : chkU 3 [] C5 = 230 := chkU_230 (by decide) (by decide) fun h => by
  have := (h.1 1 ⟨1, 2, 1, 1⟩ rfl).2
  revert this
  decide
theorem chk_f : chkU 0 [] [] = 1 := chkU_a (by decide)
theorem play_a : PlayOK 2 [] C1 [10, 0] [4] := ⟨chk_a, rfl, (by decide : ∀ x ∈ [(10 : Int), 0], 0 ≤ x ∧ x ≤ 1125899906842624), rfl, fun i hi => by
  have : i = 0 := by simp [C1] at hi; omega
  subst this
  decide⟩
theorem play_al : plL C1 2 [10, 0] [4] = [10, 14] := by decide
theorem play_no : ¬ PlayOK 2 [] C1 [-1, 0] [4] := fun h => by
  have := h.2.2.1 (-1) (by simp)
  omega
theorem play_ne : plE 2 [] C1 [-1, 0] [4] = 1 := by unfold plE; rw [if_neg play_no, if_pos chk_a]
theorem str_a : ∃ t, str 2 [] C1 = some t ∧ (List.range 2).map t = [0, 0] := by
  have hl : Least (2 : Int).toNat (redE C1 (2 : Int).toNat []) (fun _ => 0) (fun _ => 0) := ⟨fun e he => by simp [redE, net, edges] at he, fun _ _ => Int.le_refl _, fun s _ h x hx => h x hx⟩
  obtain ⟨t, h1, h2⟩ := str_of chk_a hl
  refine ⟨t, h1, ?_⟩
  have e0 := h2 0 (by decide)
  have e1 := h2 1 (by decide)
  simp [List.range_succ, ← e0, ← e1]
theorem red_c : redE C1 3 L3 = [⟨0, 2, 7⟩, ⟨2, 0, -7⟩] := rfl
theorem str_c : ∃ t, str 3 L3 C1 = some t ∧ (List.range 3).map t = [0, 0, 7] := by
  have hl : Least (3 : Int).toNat (redE C1 (3 : Int).toNat L3) (fun _ => 0) (fun x => if x = 2 then 7 else 0) := by
    rw [show (3 : Int).toNat = 3 from rfl, red_c]
    refine ⟨fun e he => ?_, fun x _ => by split <;> omega, fun s hs h x hx => ?_⟩
    · simp only [List.mem_cons, List.not_mem_nil, or_false] at he
      rcases he with rfl | rfl <;> decide
    · have h1 := hs ⟨2, 0, -7⟩ (by simp)
      have h2 := h 0 (by omega)
      have h3 := h x hx
      simp only at h1 h2 h3 ⊢
      split
      · rename_i e; subst e; omega
      · exact h3
  obtain ⟨t, h1, h2⟩ := str_of chk_c hl
  refine ⟨t, h1, ?_⟩
  have e0 := h2 0 (by decide)
  have e1 := h2 1 (by decide)
  have e2 := h2 2 (by decide)
  simp [List.range_succ, ← e0, ← e1, ← e2]
theorem acc_b : accepts (net C1 2 L2) [⟨0, true⟩] = true := by decide
theorem acc_b2 : accepts (net C1 2 L2) [⟨0, false⟩] = false := by decide
theorem accU_b : accU 2 L2 C1 [⟨0, true⟩] = true := by rw [accU_is ⟨chk_b, by decide, by decide⟩]; exact acc_b
theorem accU_b2 : accU 2 L2 C1 [⟨0, false⟩] = false := by rw [accU_is ⟨chk_b, by decide, by decide⟩]; exact acc_b2
theorem str_b : str 2 L2 C1 = none := acc_str (by simp) acc_b
def cl0 (A B C : Option Addr) : Clk := ⟨2, [⟨0, 8, 0⟩], [⟨0, 1, 1, 2⟩], [⟨0, 2, 0, 99⟩], A, B, C, 1, 1, 1⟩
theorem cl0_k (A B C : Option Addr) : (cl0 A B C).k = 0 := by
  show Tm.chk 2 [⟨0, 8, 0⟩] [⟨0, 1, 1, 2⟩] [⟨0, 2, 0, 99⟩] = 0
  decide
theorem cl0_L (A B C : Option Addr) : frL (cl0 A B C).ts (cl0 A B C).ps (cl0 A B C).n.toNat ++ spL (cl0 A B C).sp = L4 := by
  show frL [⟨0, 8, 0⟩] [⟨0, 1, 1, 2⟩] 2 ++ spL [⟨0, 2, 0, 99⟩] = L4
  decide
theorem cl0_C (A B C : Option Addr) : clL (cl0 A B C).ts (cl0 A B C).ps (cl0 A B C).n.toNat = C4 := by
  show clL [⟨0, 8, 0⟩] [⟨0, 1, 1, 2⟩] 2 = C4
  decide
theorem of_e (A B C : Option Addr) : ofE (cl0 A B C) = 0 := ofE_ok (cl0_k A B C) (by show ¬ (63 : Int) < 2; decide) (by rw [cl0_L]; decide)
theorem of_all (A B C : Option Addr) : ofE (cl0 A B C) = 0 ∧ ofN (cl0 A B C) = 3 ∧ ofL (cl0 A B C) = L4 ∧ ofC (cl0 A B C) = C4 := by
  obtain ⟨h1, h2, h3⟩ := of_yes (of_e A B C)
  exact ⟨of_e A B C, by rw [h1]; rfl, by rw [h2, cl0_L], by rw [h3, cl0_C]⟩
end R23
end Go.Proofs

/- Uncertain networks: Play, as the program has it. -/
import Derived.Test.YtcodoembnjemkaaCtIc
set_option linter.unusedSectionVars false
set_option linter.unusedVariables false
set_option linter.unusedSimpArgs false
namespace Go.Proofs
open Go.RowKit Go.Kin Go.Kin.St Go.Kin.Ct
open R22
namespace R23
/-- numbers of a list -/
def tf (l : List Int) (i : Nat) : Int := l.getD i 0
theorem tf_get {l : List Int} {i : Nat} {x : Int} (h : l[i]? = some x) : tf l i = x := by unfold tf; rw [List.getD_eq_getElem?_getD, h]; rfl
def Times (t : List Int) : Prop := ∀ x ∈ t, 0 ≤ x ∧ x ≤ 1125899906842624
def Dur (C : List Lk) (d : List Int) : Prop := d.length = C.length ∧ ∀ i, i < C.length → loOf C i ≤ tf d i ∧ tf d i ≤ hiOf C i
/-- what Play asks -/
def PlayOK (n : Int) (L C : List Lk) (t d : List Int) : Prop := chkU n L C = 0 ∧ t.length = n ∧ Times t ∧ Dur C d
noncomputable def plE (n : Int) (L C : List Lk) (t d : List Int) : Int := @ite _ (PlayOK n L C t d) (Classical.propDecidable _) 0 (if chkU n L C = 0 then 1 else chkU n L C)
def plL (C : List Lk) (N : Nat) (t d : List Int) : List Int := (List.range N).map fun p : Nat => at_ C N (tf t) (tf d) p
noncomputable def plR (n : Int) (L C : List Lk) (t d : List Int) : List Int := @ite _ (PlayOK n L C t d) (Classical.propDecidable _) (plL C n.toNat t d) []
theorem plE_ok {n : Int} {L C : List Lk} {t d : List Int} (h : PlayOK n L C t d) : plE n L C t d = 0 ∧ plR n L C t d = plL C n.toNat t d := ⟨if_pos h, if_pos h⟩
theorem plE_chk {n : Int} {L C : List Lk} {t d : List Int} (h : chkU n L C ≠ 0) : plE n L C t d = chkU n L C ∧ plR n L C t d = [] := ⟨by unfold plE; rw [if_neg (fun g => h g.1), if_neg h], if_neg (fun g => h g.1)⟩
theorem plE_arg {n : Int} {L C : List Lk} {t d : List Int} (h0 : chkU n L C = 0) (h : ¬ (t.length = n ∧ Times t ∧ Dur C d)) : plE n L C t d = 1 ∧ plR n L C t d = [] := ⟨by unfold plE; rw [if_neg (fun g => h g.2), if_pos h0], if_neg (fun g => h g.2)⟩
/-- what Play answers -/
def PlayQ (n : Int) (L C : List Lk) (t d : List Int) (w : World) (e : Ending) (w' : World) : Prop := ∃ v, e = .returned (.tuple ⟨[v, .int .i64 (plE n L C t d)]⟩) ∧ RowQ (plR n L C t d) w v w' ∧ Below w.heap.size w w'
theorem RowQ.nil {w w' : World} : RowQ [] w (.slice none 0 0) w' := .inl ⟨rfl, rfl⟩
theorem plL_len {C : List Lk} {N : Nat} {t d : List Int} : (plL C N t d).length = N := by unfold plL; simp
theorem plL_take {C : List Lk} {N k : Nat} {t d : List Int} (h : k < N) : (plL C N t d).take (k + 1) = (plL C N t d).take k ++ [at_ C N (tf t) (tf d) k] := by
  rw [List.take_add_one, show (plL C N t d)[k]? = some (at_ C N (tf t) (tf d) k) by unfold plL; rw [List.getElem?_map, List.getElem?_range h]; rfl]; rfl
/-! ## Times that are none -/
theorem badN_calls (x : Int) (w : World) :
    Calls Try.prog 57 ⟨[.int .i64 x]⟩ w fun e w' => e = .returned (.bool (decide (¬ (0 ≤ x ∧ x ≤ 1125899906842624)))) ∧ Below w.heap.size w w' := by
  refine fun_enter Try.func57 rfl Try.ntmps57 rfl rfl (satW_nil w) ?_
  by_cases h1 : x < 0
  · rw [decide_eq_true (by omega)]
    repeat (first | refine l_val rfl rfl (by first | exact pureEval_ok rfl  | fail) ?_ | refine l_nil ?_ | refine c_region ?_ | refine c_seq ?_ | refine x_then ?_ | refine l_skip rfl rfl ?_ | refine c_ret ?_ | refine l_dec_t rfl rfl rfl rfl rfl (by first | omega  | fail) ?_  | fail)
    exact x_ret rfl rfl (by repeat (first | exact Res.nil | (apply Res.tmp; rfl) | (apply Res.cell; rfl; exact (by repeat (first | exact List.Mem.head _ | apply List.Mem.tail)); rfl; rfl))) rfl (fun W hW => ⟨rfl, hW.below⟩)
  · by_cases h2 : 1125899906842624 < x
    · rw [decide_eq_true (by omega)]
      repeat (first | refine l_val rfl rfl (by first | exact pureEval_ok rfl  | fail) ?_ | refine l_nil ?_ | refine c_region ?_ | refine c_seq ?_ | refine x_then ?_ | refine c_ret ?_ | refine l_dec_f rfl rfl rfl rfl rfl (by first | omega  | fail) ?_  | fail)
      exact x_ret rfl rfl (by repeat (first | exact Res.nil | (apply Res.tmp; rfl) | (apply Res.cell; rfl; exact (by repeat (first | exact List.Mem.head _ | apply List.Mem.tail)); rfl; rfl))) rfl (fun W hW => ⟨by rw [decide_eq_true h2], hW.below⟩)
    · rw [decide_eq_false (by omega)]
      repeat (first | refine l_val rfl rfl (by first | exact pureEval_ok rfl  | fail) ?_ | refine l_nil ?_ | refine c_region ?_ | refine c_seq ?_ | refine x_then ?_ | refine c_ret ?_ | refine l_dec_f rfl rfl rfl rfl rfl (by first | omega  | fail) ?_  | fail)
      exact x_ret rfl rfl (by repeat (first | exact Res.nil | (apply Res.tmp; rfl) | (apply Res.cell; rfl; exact (by repeat (first | exact List.Mem.head _ | apply List.Mem.tail)); rfl; rfl))) rfl (fun W hW => ⟨by rw [decide_eq_false h2], hW.below⟩)
theorem indexN_calls (T : Option Addr) (cap : Nat) (t : List Int) (w : World) (hT : Kin.At w T 1 (t.map inE)) (hl : t.length ≤ 9223372036854775807) :
    Calls Try.prog 60 ⟨[.slice T t.length cap, .func (.func 57) ⟨[]⟩ ⟨[]⟩]⟩ w fun e w' => ∃ r : {r : Int // 0 ≤ r ↔ ¬ Times t}, e = .returned (.int .i64 r.1) ∧ Below w.heap.size w w' := by
  refine fun_enter Try.func60 rfl Try.ntmps60 rfl rfl (satW_nil w) ?_
  repeat (first | refine l_val rfl rfl (by first | exact pureEval_ok rfl  | fail) ?_ | refine l_nil ?_ | refine c_region ?_ | refine c_seq ?_ | refine x_then ?_ | refine c_block ?_  | fail)
  refine c_loop (ι := Nat) (fun k => k ≤ t.length ∧ Times (t.take k)) (fun k => [(0, .slice T t.length cap), (1, .func (.func 57) ⟨[]⟩ ⟨[]⟩), (7, .int .i64 t.length), (8, .int .i64 k)]) (fun _ => []) (fun k => t.length - k) 0 ⟨Nat.zero_le _, fun u hu => by simp at hu⟩ (by repeat (first | exact EnvSub.nil | refine EnvSub.cons rfl (by first | rfl | (congr 1; done) | (exact congrArg (Value.int _) (by omega)) | (simp; done)) ?_)) (by repeat (first | exact MSub.nil | refine MSub.keep (by first | rfl | assumption) ?_ | refine MSub.drop ?_ | exact MSub.refl _)) ?_
  rintro k ⟨hk, hF⟩
  by_cases hlt : k < t.length
  · obtain ⟨y, hy⟩ : ∃ y, t[k]? = some y := ⟨_, List.getElem?_eq_getElem hlt⟩
    obtain ⟨b', o, rfl, hc⟩ := hT k (inE y) (by simp [hy])
    have he := ext_of hc
    rw [Nat.mul_one] at he
    repeat (first | refine l_val rfl rfl (by first | exact pureEval_ok rfl | exact v_load_ext0 rfl (by assumption) rfl (by rfl) | exact v_index rfl rfl rfl rfl (by omega) (by omega) (by with_reducible first | exact idx2 _ _   | fail)  | fail) ?_ | refine l_nil ?_ | refine c_region ?_ | refine c_seq ?_ | refine x_then ?_ | refine c_dec_t rfl (by first | omega  | fail) ?_ | refine c_block ?_ | refine c_skip ?_  | fail)
    refine r_callv rfl rfl rfl rfl rfl (fun W hW => badN_calls y W) ?_
    by_cases hg : 0 ≤ y ∧ y ≤ 1125899906842624
    · rw [decide_eq_false (fun h => h hg)]
      repeat (first | refine l_val rfl rfl (by first | exact v_add rfl rfl (by omega) (by omega) | exact pureEval_ok rfl  | fail) ?_ | refine l_nil ?_ | refine c_region ?_ | refine x_then ?_ | refine c_false rfl ?_ | refine c_skip ?_ | refine x_block ?_  | fail)
      refine x_back (k + 1) ⟨hlt, fun z hz => ?_⟩ (by omega) (by repeat (first | exact EnvSub.nil | refine EnvSub.cons rfl (by first | rfl | (congr 1; done) | (exact congrArg (Value.int _) (by omega)) | (simp; done)) ?_)) (by repeat (first | exact MSub.nil | refine MSub.keep (by first | rfl | assumption) ?_ | refine MSub.drop ?_ | exact MSub.refl _))
      rw [List.take_add_one, hy] at hz
      rcases List.mem_append.1 hz with h | h
      · exact hF z h
      · simp only [Option.toList_some, List.mem_singleton] at h
        rw [h]; exact hg
    · rw [decide_eq_true hg]
      have hno : ¬ Times t := fun h => hg (h y (List.mem_of_getElem? hy))
      repeat (first | refine l_val rfl rfl (by first | exact pureEval_ok rfl  | fail) ?_ | refine l_nil ?_ | refine c_region ?_ | refine c_seq ?_ | refine x_then ?_ | refine c_true rfl ?_ | refine c_ret ?_ | refine x_then_ret ?_ | refine x_block_ret ?_  | fail)
      exact x_ret rfl rfl (by repeat (first | exact Res.nil | (apply Res.tmp; rfl) | (apply Res.cell; rfl; exact (by repeat (first | exact List.Mem.head _ | apply List.Mem.tail)); rfl; rfl))) rfl (fun W hW => ⟨⟨(k : Int), ⟨fun _ => hno, fun _ => by omega⟩⟩, rfl, hW.below⟩)
  · have hkl : k = t.length := by omega
    subst hkl
    rw [List.take_length] at hF
    repeat (first | refine l_val rfl rfl (by first | exact pureEval_ok rfl  | fail) ?_ | refine l_nil ?_ | refine c_region ?_ | refine c_seq ?_ | refine x_then ?_ | refine c_dec_f rfl (by first | omega  | fail) ?_ | refine c_ret ?_ | refine c_exit ?_ | refine x_then_exit ?_ | refine x_block_same ?_  | fail)
    exact x_ret rfl rfl (by repeat (first | exact Res.nil | (apply Res.tmp; rfl) | (apply Res.cell; rfl; exact (by repeat (first | exact List.Mem.head _ | apply List.Mem.tail)); rfl; rfl))) rfl (fun W hW => ⟨⟨-1, ⟨fun h => by omega, fun h => absurd hF h⟩⟩, rfl, hW.below⟩)
theorem containsN_calls (T : Option Addr) (cap : Nat) (t : List Int) (w : World) (hT : Kin.At w T 1 (t.map inE)) (hl : t.length ≤ 9223372036854775807) :
    Calls Try.prog 56 ⟨[.slice T t.length cap, .func (.func 57) ⟨[]⟩ ⟨[]⟩]⟩ w fun e w' => e = .returned (.bool (@decide (¬ Times t) (Classical.propDecidable _))) ∧ Below w.heap.size w w' := by
  refine fun_enter Try.func56 rfl Try.ntmps56 rfl rfl (satW_nil w) ?_
  repeat (first | refine l_val rfl rfl (by first | exact pureEval_ok rfl  | fail) ?_ | refine l_nil ?_ | refine c_region ?_ | refine c_seq ?_ | refine x_then ?_  | fail)
  refine r_callI rfl rfl rfl (fun W hW => indexN_calls T cap t W (hT.sat hW) hl) ?_
  rintro ⟨r, hr⟩
  simp only
  by_cases h : Times t
  · have : ¬ 0 ≤ r := fun h2 => hr.1 h2 h
    repeat (first | refine l_val rfl rfl (by first | exact pureEval_ok rfl  | fail) ?_ | refine l_nil ?_ | refine x_then ?_ | refine c_ret ?_  | fail)
    refine x_ret rfl rfl (by repeat (first | exact Res.nil | (apply Res.tmp; rfl) | (apply Res.cell; rfl; exact (by repeat (first | exact List.Mem.head _ | apply List.Mem.tail)); rfl; rfl))) rfl (fun W hW => ⟨?_, hW.below⟩)
    rw [decide_eq_false this, @decide_eq_false _ (Classical.propDecidable _) (fun h2 : ¬ Times t => h2 h)]
  · have : 0 ≤ r := hr.2 h
    repeat (first | refine l_val rfl rfl (by first | exact pureEval_ok rfl  | fail) ?_ | refine l_nil ?_ | refine x_then ?_ | refine c_ret ?_  | fail)
    refine x_ret rfl rfl (by repeat (first | exact Res.nil | (apply Res.tmp; rfl) | (apply Res.cell; rfl; exact (by repeat (first | exact List.Mem.head _ | apply List.Mem.tail)); rfl; rfl))) rfl (fun W hW => ⟨?_, hW.below⟩)
    rw [decide_eq_true this, @decide_eq_true _ (Classical.propDecidable _) h]
theorem tf_bd {C : List Lk} {d : List Int} {N : Nat} (hT : Tree N C) (hd : Dur C d) {i : Nat} (hi : i < C.length) : 0 ≤ tf d i ∧ tf d i ≤ 1099511627776 := by
  have h1 := hd.2 i hi
  have h2 := cal_of hT hi
  omega
theorem lsumD {C : List Lk} {d : List Int} {N j : Nat} {p : Int} (hT : Tree N C) (hd : Dur C d) : -(1099511627776 * (((climb C j p).1.length : Nat) : Int)) ≤ lsum (tf d) (climb C j p).1 ∧ lsum (tf d) (climb C j p).1 ≤ 1099511627776 * (((climb C j p).1.length : Nat) : Int) := by
  have key : ∀ l : List Nat, (∀ i ∈ l, i < C.length) → -(1099511627776 * (l.length : Int)) ≤ lsum (tf d) l ∧ lsum (tf d) l ≤ 1099511627776 * (l.length : Int) := by
    intro l
    induction l with
    | nil => intro _; simp [lsum]
    | cons i l ih =>
      intro h
      have h1 := ih fun j hj => h j (List.mem_cons_of_mem _ hj)
      have h2 := tf_bd hT hd (h i List.mem_cons_self)
      simp only [lsum, List.length_cons]
      omega
  exact key _ (climb_mem j p)
end R23
end Go.Proofs

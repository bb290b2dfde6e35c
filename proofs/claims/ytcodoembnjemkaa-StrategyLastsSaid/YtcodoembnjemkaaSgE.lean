/- Lists of numbers: a number or a number of a kind is looked for. -/
import Derived.Test.YtcodoembnjemkaaSgC
import Derived.Test.YtcodoembnjemkaaEng34
set_option linter.unusedSectionVars false
set_option linter.unusedVariables false
set_option linter.unusedSimpArgs false
namespace Go.Proofs
open Go.RowKit Go.Kin Go.Kin.St Go.Kin.Ct Go.Kin.Sg
namespace R24
/-- the first place of a kind -/
structure IdxOf (p : Int → Bool) (t : List Int) where
  r : Int
  ok : (r = -1 ∧ ∀ x ∈ t, p x = false) ∨ ∃ i : Nat, r = i ∧ i < t.length ∧ (∀ x ∈ t.take i, p x = false) ∧ ∃ x, t[i]? = some x ∧ p x = true
theorem idx_any {p : Int → Bool} {t : List Int} (r : IdxOf p t) : decide (0 ≤ r.r) = t.any p := by
  rcases r.ok with ⟨h1, h2⟩ | ⟨i, h1, h2, _, x, h3, h4⟩
  · rw [decide_eq_false (by omega)]
    cases ha : t.any p with
    | false => rfl
    | true =>
      obtain ⟨x, hx, hp⟩ := List.any_eq_true.1 ha
      rw [h2 x hx] at hp; cases hp
  · rw [decide_eq_true (by omega)]
    exact (List.any_eq_true.2 ⟨x, List.mem_of_getElem? h3, h4⟩).symm
set_option maxRecDepth 100000 in
set_option maxHeartbeats 40000000 in
theorem indexF_calls (g : Nat) [Ent Try.prog g] (fs cs : List Value) (p : Int → Bool) (T : Option Addr) (cap : Nat) (t : List Int) (w : World) (hT : Kin.At w T 1 (t.map inE)) (hl : t.length ≤ 9223372036854775807)
    (hp : ∀ x ∈ t, ∀ W, Later w W → Calls Try.prog g ⟨fs ++ [.int .i64 x] ++ cs⟩ W fun e w' => e = .returned (.bool (p x)) ∧ Below W.heap.size W w') :
    Calls Try.prog 60 ⟨[.slice T t.length cap, .func (.func g) ⟨fs⟩ ⟨cs⟩]⟩ w fun e w' => ∃ r : IdxOf p t, e = .returned (.int .i64 r.r) ∧ Below w.heap.size w w' := by
  refine fun_enter Try.func60 rfl Try.ntmps60 rfl rfl (satW_nil w) ?_
  repeat (first | refine l_val rfl rfl (by first | exact pureEval_ok rfl  | fail) ?_ | refine l_nil ?_ | refine c_region ?_ | refine c_seq ?_ | refine x_then ?_ | refine c_block ?_  | fail)
  refine c_loop (ι := Nat) (fun k => k ≤ t.length ∧ ∀ x ∈ t.take k, p x = false) (fun k => [(0, .slice T t.length cap), (1, .func (.func g) ⟨fs⟩ ⟨cs⟩), (7, .int .i64 t.length), (8, .int .i64 k)]) (fun _ => []) (fun k => t.length - k) 0 ⟨Nat.zero_le _, fun u hu => by simp at hu⟩ (by repeat (first | exact EnvSub.nil | refine EnvSub.cons rfl (by first | rfl | (congr 1; done) | (exact congrArg (Value.int _) (by omega)) | (simp; done)) ?_)) (by repeat (first | exact MSub.nil | refine MSub.keep (by first | rfl | assumption) ?_ | refine MSub.drop ?_ | exact MSub.refl _)) ?_
  rintro k ⟨hk, hF⟩
  by_cases hlt : k < t.length
  · obtain ⟨y, hy⟩ : ∃ y, t[k]? = some y := ⟨_, List.getElem?_eq_getElem hlt⟩
    obtain ⟨b', o, rfl, hc⟩ := hT k (inE y) (by simp [hy])
    have he := ext_of hc
    rw [Nat.mul_one] at he
    repeat (first | refine l_val rfl rfl (by first | exact pureEval_ok rfl | exact v_load_ext0 rfl (by assumption) rfl (by rfl) | exact v_index rfl rfl rfl rfl (by omega) (by omega) (by with_reducible first | exact idx2 _ _   | fail)  | fail) ?_ | refine l_nil ?_ | refine c_region ?_ | refine c_seq ?_ | refine x_then ?_ | refine c_dec_t rfl (by first | omega  | fail) ?_ | refine c_block ?_ | refine c_skip ?_  | fail)
    refine r_callv rfl rfl rfl rfl rfl (fun W hW => hp y (List.mem_of_getElem? hy) W hW.below) ?_
    cases hg : p y with
    | false =>
      repeat (first | refine l_val rfl rfl (by first | exact v_add rfl rfl (by omega) (by omega) | exact pureEval_ok rfl  | fail) ?_ | refine l_nil ?_ | refine c_region ?_ | refine x_then ?_ | refine c_false rfl ?_ | refine c_skip ?_ | refine x_block ?_  | fail)
      refine x_back (k + 1) ⟨hlt, fun z hz => ?_⟩ (by omega) (by repeat (first | exact EnvSub.nil | refine EnvSub.cons rfl (by first | rfl | (congr 1; done) | (exact congrArg (Value.int _) (by omega)) | (simp; done)) ?_)) (by repeat (first | exact MSub.nil | refine MSub.keep (by first | rfl | assumption) ?_ | refine MSub.drop ?_ | exact MSub.refl _))
      rw [List.take_add_one, hy] at hz
      rcases List.mem_append.1 hz with h | h
      · exact hF z h
      · simp only [Option.toList_some, List.mem_singleton] at h
        rw [h]; exact hg
    | true =>
      repeat (first | refine l_val rfl rfl (by first | exact pureEval_ok rfl  | fail) ?_ | refine l_nil ?_ | refine c_region ?_ | refine c_seq ?_ | refine x_then ?_ | refine c_true rfl ?_ | refine c_ret ?_ | refine x_then_ret ?_ | refine x_block_ret ?_  | fail)
      exact x_ret rfl rfl (by repeat (first | exact Res.nil | (apply Res.tmp; rfl) | (apply Res.cell; rfl; exact (by repeat (first | exact List.Mem.head _ | apply List.Mem.tail)); rfl; rfl))) rfl (fun W hW => ⟨⟨(k : Int), .inr ⟨k, rfl, hlt, hF, y, hy, hg⟩⟩, rfl, hW.below⟩)
  · have hkl : k = t.length := by omega
    subst hkl
    rw [List.take_length] at hF
    repeat (first | refine l_val rfl rfl (by first | exact pureEval_ok rfl  | fail) ?_ | refine l_nil ?_ | refine c_region ?_ | refine c_seq ?_ | refine x_then ?_ | refine c_dec_f rfl (by first | omega  | fail) ?_ | refine c_ret ?_ | refine c_exit ?_ | refine x_then_exit ?_ | refine x_block_same ?_  | fail)
    exact x_ret rfl rfl (by repeat (first | exact Res.nil | (apply Res.tmp; rfl) | (apply Res.cell; rfl; exact (by repeat (first | exact List.Mem.head _ | apply List.Mem.tail)); rfl; rfl))) rfl (fun W hW => ⟨⟨-1, .inl ⟨rfl, hF⟩⟩, rfl, hW.below⟩)
set_option maxRecDepth 100000 in
set_option maxHeartbeats 40000000 in
theorem containsF_calls (g : Nat) [Ent Try.prog g] (fs cs : List Value) (p : Int → Bool) (T : Option Addr) (cap : Nat) (t : List Int) (w : World) (hT : Kin.At w T 1 (t.map inE)) (hl : t.length ≤ 9223372036854775807)
    (hp : ∀ x ∈ t, ∀ W, Later w W → Calls Try.prog g ⟨fs ++ [.int .i64 x] ++ cs⟩ W fun e w' => e = .returned (.bool (p x)) ∧ Below W.heap.size W w') :
    Calls Try.prog 56 ⟨[.slice T t.length cap, .func (.func g) ⟨fs⟩ ⟨cs⟩]⟩ w fun e w' => e = .returned (.bool (t.any p)) ∧ Below w.heap.size w w' := by
  refine fun_enter Try.func56 rfl Try.ntmps56 rfl rfl (satW_nil w) ?_
  repeat (first | refine l_val rfl rfl (by first | exact pureEval_ok rfl  | fail) ?_ | refine l_nil ?_ | refine c_region ?_ | refine c_seq ?_ | refine x_then ?_  | fail)
  refine r_callI rfl rfl rfl (fun W hW => indexF_calls g fs cs p T cap t W (hT.sat hW) hl fun x hx W' hW' => hp x hx W' (Later.step hW.below hW')) ?_
  intro r
  repeat (first | refine l_val rfl rfl (by first | exact pureEval_ok rfl  | fail) ?_ | refine l_nil ?_ | refine x_then ?_ | refine c_ret ?_  | fail)
  exact x_ret rfl rfl (by repeat (first | exact Res.nil | (apply Res.tmp; rfl) | (apply Res.cell; rfl; exact (by repeat (first | exact List.Mem.head _ | apply List.Mem.tail)); rfl; rfl))) rfl (fun W hW => ⟨by rw [← idx_any r], hW.below⟩)
set_option maxRecDepth 100000 in
set_option maxHeartbeats 40000000 in
theorem index_calls (v : Int) (T : Option Addr) (cap : Nat) (t : List Int) (w : World) (hT : Kin.At w T 1 (t.map inE)) (hl : t.length ≤ 9223372036854775807) :
    Calls Try.prog 61 ⟨[.slice T t.length cap, .int .i64 v]⟩ w fun e w' => ∃ r : IdxOf (fun x => decide (v = x)) t, e = .returned (.int .i64 r.r) ∧ Below w.heap.size w w' := by
  refine fun_enter Try.func61 rfl Try.ntmps61 rfl rfl (satW_nil w) ?_
  repeat (first | refine l_val rfl rfl (by first | exact pureEval_ok rfl  | fail) ?_ | refine l_nil ?_ | refine c_region ?_ | refine c_seq ?_ | refine x_then ?_ | refine c_block ?_  | fail)
  refine c_loop (ι := Nat) (fun k => k ≤ t.length ∧ ∀ x ∈ t.take k, decide (v = x) = false) (fun k => [(0, .slice T t.length cap), (1, .int .i64 v), (7, .int .i64 t.length), (8, .int .i64 k)]) (fun _ => []) (fun k => t.length - k) 0 ⟨Nat.zero_le _, fun u hu => by simp at hu⟩ (by repeat (first | exact EnvSub.nil | refine EnvSub.cons rfl (by first | rfl | (congr 1; done) | (exact congrArg (Value.int _) (by omega)) | (simp; done)) ?_)) (by repeat (first | exact MSub.nil | refine MSub.keep (by first | rfl | assumption) ?_ | refine MSub.drop ?_ | exact MSub.refl _)) ?_
  rintro k ⟨hk, hF⟩
  by_cases hlt : k < t.length
  · obtain ⟨y, hy⟩ : ∃ y, t[k]? = some y := ⟨_, List.getElem?_eq_getElem hlt⟩
    obtain ⟨b', o, rfl, hc⟩ := hT k (inE y) (by simp [hy])
    have he := ext_of hc
    rw [Nat.mul_one] at he
    have hF' := fun (_ : Unit) => hF
    clear hF
    by_cases hg : v = y
    · repeat (first | refine l_val rfl rfl (by first | exact pureEval_ok rfl | exact v_load_ext0 rfl (by assumption) rfl (by rfl) | exact v_index rfl rfl rfl rfl (by omega) (by omega) (by with_reducible first | exact idx2 _ _   | fail)  | fail) ?_ | refine l_nil ?_ | refine c_region ?_ | refine c_seq ?_ | refine x_then ?_ | refine c_dec_t rfl (by first | omega  | fail) ?_ | refine c_block ?_ | refine c_skip ?_ | refine c_ret ?_ | refine x_then_ret ?_ | refine x_block_ret ?_  | fail)
      exact x_ret rfl rfl (by repeat (first | exact Res.nil | (apply Res.tmp; rfl) | (apply Res.cell; rfl; exact (by repeat (first | exact List.Mem.head _ | apply List.Mem.tail)); rfl; rfl))) rfl (fun W hW => ⟨⟨(k : Int), .inr ⟨k, rfl, hlt, hF' (), y, hy, decide_eq_true hg⟩⟩, rfl, hW.below⟩)
    · repeat (first | refine l_val rfl rfl (by first | exact v_add rfl rfl (by omega) (by omega) | exact pureEval_ok rfl | exact v_load_ext0 rfl (by assumption) rfl (by rfl) | exact v_index rfl rfl rfl rfl (by omega) (by omega) (by with_reducible first | exact idx2 _ _   | fail)  | fail) ?_ | refine l_nil ?_ | refine c_region ?_ | refine c_seq ?_ | refine x_then ?_ | refine c_dec_t rfl (by first | omega  | fail) ?_ | refine c_dec_f rfl (by first | omega  | fail) ?_ | refine c_block ?_ | refine c_skip ?_ | refine x_block ?_  | fail)
      refine x_back (k + 1) ⟨hlt, fun z hz => ?_⟩ (by omega) (by repeat (first | exact EnvSub.nil | refine EnvSub.cons rfl (by first | rfl | (congr 1; done) | (exact congrArg (Value.int _) (by omega)) | (simp; done)) ?_)) (by repeat (first | exact MSub.nil | refine MSub.keep (by first | rfl | assumption) ?_ | refine MSub.drop ?_ | exact MSub.refl _))
      rw [List.take_add_one, hy] at hz
      rcases List.mem_append.1 hz with h | h
      · exact hF' () z h
      · simp only [Option.toList_some, List.mem_singleton] at h
        rw [h]; exact decide_eq_false hg
  · have hkl : k = t.length := by omega
    subst hkl
    rw [List.take_length] at hF
    repeat (first | refine l_val rfl rfl (by first | exact pureEval_ok rfl  | fail) ?_ | refine l_nil ?_ | refine c_region ?_ | refine c_seq ?_ | refine x_then ?_ | refine c_dec_f rfl (by first | omega  | fail) ?_ | refine c_ret ?_ | refine c_exit ?_ | refine x_then_exit ?_ | refine x_block_same ?_  | fail)
    exact x_ret rfl rfl (by repeat (first | exact Res.nil | (apply Res.tmp; rfl) | (apply Res.cell; rfl; exact (by repeat (first | exact List.Mem.head _ | apply List.Mem.tail)); rfl; rfl))) rfl (fun W hW => ⟨⟨-1, .inl ⟨rfl, hF⟩⟩, rfl, hW.below⟩)
theorem any_eq {v : Int} {t : List Int} : (t.any fun x => decide (v = x)) = t.contains v := by
  cases h : t.contains v with
  | true => exact List.any_eq_true.2 ⟨v, List.contains_iff_mem.1 h, decide_eq_true rfl⟩
  | false =>
    cases h2 : t.any fun x => decide (v = x) with
    | false => rfl
    | true =>
      obtain ⟨x, hx, he⟩ := List.any_eq_true.1 h2
      rw [of_decide_eq_true he, List.contains_iff_mem.2 hx] at h; cases h
set_option maxRecDepth 100000 in
set_option maxHeartbeats 40000000 in
theorem contains_calls (v : Int) (T : Option Addr) (cap : Nat) (t : List Int) (w : World) (hT : Kin.At w T 1 (t.map inE)) (hl : t.length ≤ 9223372036854775807) :
    Calls Try.prog 35 ⟨[.slice T t.length cap, .int .i64 v]⟩ w fun e w' => e = .returned (.bool (t.contains v)) ∧ Below w.heap.size w w' := by
  refine fun_enter Try.func35 rfl Try.ntmps35 rfl rfl (satW_nil w) ?_
  repeat (first | refine l_val rfl rfl (by first | exact pureEval_ok rfl  | fail) ?_ | refine l_nil ?_ | refine c_region ?_ | refine c_seq ?_ | refine x_then ?_  | fail)
  refine r_callI rfl rfl rfl (fun W hW => index_calls v T cap t W (hT.sat hW) hl) ?_
  intro r
  repeat (first | refine l_val rfl rfl (by first | exact pureEval_ok rfl  | fail) ?_ | refine l_nil ?_ | refine x_then ?_ | refine c_ret ?_  | fail)
  exact x_ret rfl rfl (by repeat (first | exact Res.nil | (apply Res.tmp; rfl) | (apply Res.cell; rfl; exact (by repeat (first | exact List.Mem.head _ | apply List.Mem.tail)); rfl; rfl))) rfl (fun W hW => ⟨by rw [← any_eq, ← idx_any r], hW.below⟩)
/-- a closure that asks whether a number lacks in a list -/
theorem lacks_calls (f : Nat) (hf : f = 97 ∨ f = 83) (v : Int) (bx : Nat) (T : Option Addr) (cap : Nat) (t : List Int) (w : World) (hB : w.cell? ⟨bx, 0, none⟩ = some (.slice T t.length cap)) (hT : Kin.At w T 1 (t.map inE)) (hl : t.length ≤ 9223372036854775807) :
    Calls Try.prog f ⟨[] ++ [.int .i64 v] ++ [.pointer (some ⟨bx, 0, none⟩)]⟩ w fun e w' => e = .returned (.bool (!t.contains v)) ∧ Below w.heap.size w w' := by
  have hE : Ext w (base w) bx 0 [.slice T t.length cap] := ext_of fun j v hj => by
    cases j with
    | zero => cases hj; exact hB
    | succ j => cases hj
  rcases hf with rfl | rfl
  · refine fun_enter Try.func97 rfl Try.ntmps97 rfl rfl (satW_nil w) ?_
    repeat (first | refine l_val rfl rfl (by first | exact pureEval_ok rfl | exact v_load_ext0 rfl (by assumption) rfl (by rfl)  | fail) ?_ | refine l_nil ?_ | refine c_region ?_ | refine c_seq ?_ | refine x_then ?_  | fail)
    refine r_call rfl rfl rfl (fun W hW => contains_calls v T cap t W (hT.sat hW) hl) ?_
    repeat (first | refine l_val rfl rfl (by first | exact pureEval_ok rfl  | fail) ?_ | refine l_nil ?_ | refine x_then ?_ | refine c_ret ?_  | fail)
    exact x_ret rfl rfl (by repeat (first | exact Res.nil | (apply Res.tmp; rfl) | (apply Res.cell; rfl; exact (by repeat (first | exact List.Mem.head _ | apply List.Mem.tail)); rfl; rfl))) rfl (fun W hW => ⟨rfl, hW.below⟩)
  · refine fun_enter Try.func83 rfl Try.ntmps83 rfl rfl (satW_nil w) ?_
    repeat (first | refine l_val rfl rfl (by first | exact pureEval_ok rfl | exact v_load_ext0 rfl (by assumption) rfl (by rfl)  | fail) ?_ | refine l_nil ?_ | refine c_region ?_ | refine c_seq ?_ | refine x_then ?_  | fail)
    refine r_call rfl rfl rfl (fun W hW => contains_calls v T cap t W (hT.sat hW) hl) ?_
    repeat (first | refine l_val rfl rfl (by first | exact pureEval_ok rfl  | fail) ?_ | refine l_nil ?_ | refine x_then ?_ | refine c_ret ?_  | fail)
    exact x_ret rfl rfl (by repeat (first | exact Res.nil | (apply Res.tmp; rfl) | (apply Res.cell; rfl; exact (by repeat (first | exact List.Mem.head _ | apply List.Mem.tail)); rfl; rfl))) rfl (fun W hW => ⟨rfl, hW.below⟩)
/-- all of a list are in another one -/
def allIn (l m : List Int) : Bool := !(l.any fun x => !m.contains x)
theorem allIn_iff {l m : List Int} : allIn l m = true ↔ ∀ x ∈ l, x ∈ m := by
  unfold allIn
  rw [Bool.not_eq_true', List.any_eq_false]
  constructor
  · intro h x hx
    have := h x hx
    simpa using this
  · intro h x hx
    simpa using h x hx
set_option maxRecDepth 100000 in
set_option maxHeartbeats 40000000 in
theorem within_calls (A B : Option Addr) (ca cb : Nat) (l m : List Int) (w : World) (hA : Kin.At w A 1 (l.map inE)) (hB : Kin.At w B 1 (m.map inE)) (hl : l.length ≤ 9223372036854775807) (hm : m.length ≤ 9223372036854775807) :
    Calls Try.prog 51 ⟨[.slice A l.length ca, .slice B m.length cb]⟩ w fun e w' => e = .returned (.bool (allIn l m)) ∧ Below w.heap.size w w' := by
  refine fun_enter Try.func51 rfl Try.ntmps51 rfl rfl (satW_nil w) ?_
  repeat (first | refine l_val rfl rfl (by first | exact pureEval_ok rfl  | fail) ?_ | refine l_nil ?_ | refine c_region ?_ | refine c_seq ?_ | refine x_then ?_ | refine r_box rfl rfl rfl rfl (fun _ => ?_)  | fail)
  rename_i b1
  refine r_call rfl rfl rfl (fun W hW => containsF_calls 83 [] [.pointer (some ⟨b1, 0, none⟩)] (fun x => !m.contains x) A ca l W (hA.sat hW) hl fun x hx W' hW' => ?_) ?_
  · have hb := hW.cellAt (b := b1) (by repeat (first | exact List.Mem.head _ | apply List.Mem.tail)) 0
    exact lacks_calls 83 (.inr rfl) x b1 B cb m W' (hW'.cell hb) ((hB.sat hW).later hW') hm
  repeat (first | refine l_val rfl rfl (by first | exact pureEval_ok rfl  | fail) ?_ | refine l_nil ?_ | refine x_then ?_ | refine c_ret ?_  | fail)
  exact x_ret rfl rfl (by repeat (first | exact Res.nil | (apply Res.tmp; rfl) | (apply Res.cell; rfl; exact (by repeat (first | exact List.Mem.head _ | apply List.Mem.tail)); rfl; rfl))) rfl (fun W hW => ⟨rfl, hW.below⟩)
end R24
end Go.Proofs

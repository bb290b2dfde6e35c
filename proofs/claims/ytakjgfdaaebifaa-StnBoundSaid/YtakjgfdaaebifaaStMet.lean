/- Whether times are a schedule: in the law, in the specification, in the program. -/
import Derived.Test.YtakjgfdaaebifaaStChk
import Derived.Test.YtakjgfdaaebifaaEng7
set_option linter.unusedSectionVars false
set_option linter.unusedVariables false
set_option linter.unusedSimpArgs false
namespace Go.Proofs
open Go.RowKit Go.Kin Go.Kin.St
namespace R22
def tf (t : List Int) : Nat → Int := fun i => t.getD i 0
def lkB (t : List Int) (x : Lk) : Bool := decide (x.lo ≤ tf t x.to.toNat - tf t x.fr.toNat ∧ tf t x.to.toNat - tf t x.fr.toNat ≤ x.hi)
def metB (l : List Lk) (t : List Int) : Bool := l.all (lkB t)
theorem metB_sol (l : List Lk) (t : List Int) : metB l t = true ↔ Sol (edges l) (tf t) := by
  rw [sol_links]; simp [metB, lkB]
def inE (v : Int) : List Value := [.int .i64 v]
/-- times as they come in -/
def Tm (t : List Int) : Prop := ∀ v ∈ t, 0 ≤ v ∧ v ≤ 1152921504606846976

theorem at_int {w : World} {T : Option Addr} {t : List Int} {i : Int} (h : At w T 1 (t.map inE)) (h0 : 0 ≤ i) (hi : i < t.length) :
    ∃ b o, T = some ⟨b, o, none⟩ ∧ Ext w (base w) b (o + i.toNat) [.int .i64 (tf t i.toNat)] := by
  have hg : t[i.toNat]? = some (tf t i.toNat) := by unfold tf; rw [List.getD_eq_getElem?_getD, List.getElem?_eq_getElem (by omega)]; rfl
  obtain ⟨b, o, hT, hc⟩ := h i.toNat (inE (tf t i.toNat)) (by simp [hg])
  exact ⟨b, o, hT, ext_of (by rw [Nat.mul_one] at hc; exact hc)⟩
theorem tf_in {t : List Int} (h : Tm t) (i : Nat) : 0 ≤ tf t i ∧ tf t i ≤ 1152921504606846976 := by
  unfold tf
  rw [List.getD_eq_getElem?_getD]
  cases hg : t[i]? with
  | none => simp
  | some v => exact h v (List.mem_of_getElem? hg)

theorem Met_calls (n : Int) (A T : Option Addr) (cap capT : Nat) (l : List Lk) (t : List Int) (w : World) (hl : l.length ≤ 1000) (ht : t.length ≤ 1000) (hA : At w A 4 (l.map lkE)) (hT : At w T 1 (t.map inE))
    (hF : Fine n l) (hn : (t.length : Int) = n) (hr : Tm t) :
    Calls Try.prog 29 ⟨[.slice A l.length cap, .slice T t.length capT]⟩ w fun e w' => e = .returned (.bool (metB l t)) ∧ Below w.heap.size w w' := by
  refine fun_enter Try.func29 rfl Try.ntmps29 rfl rfl (satW_nil w) ?_
  repeat (first | refine l_val rfl rfl (by first | exact pureEval_ok rfl ) ?_ | refine l_nil ?_ | refine c_region ?_ | refine c_seq ?_ | refine x_then ?_ | refine c_block ?_ )
  refine c_loop (ι := Nat) (fun k => k ≤ l.length ∧ ∀ x ∈ l.take k, lkB t x = true) (fun k => [(0, .slice A l.length cap), (1, .slice T t.length capT), (5, .int .i64 k)]) (fun _ => []) (fun k => l.length - k) 0 ⟨by omega, by simp⟩ (by repeat (first | exact EnvSub.nil | refine EnvSub.cons rfl (by first | rfl | (congr 1; done) | (exact congrArg (Value.int _) (by omega)) | (simp; done)) ?_)) (by repeat (first | exact MSub.nil | refine MSub.keep (by first | rfl | assumption) ?_ | refine MSub.drop ?_ | exact MSub.refl _)) ?_
  rintro k ⟨hk, hM⟩
  by_cases hlt : k < l.length
  · obtain ⟨x, hx⟩ : ∃ x, l[k]? = some x := ⟨_, List.getElem?_eq_getElem hlt⟩
    obtain ⟨b, o, rfl, hc⟩ := hA k (lkE x) (by simp [hx])
    have he := ext_of hc
    have hin : x ∈ l := List.mem_of_getElem? hx
    have hf := hF x hin
    unfold Lk.Fine at hf
    obtain ⟨b1, o1, rfl, e1⟩ := at_int hT (i := x.fr) (by omega) (by omega)
    obtain ⟨b2, o2, h2, e2⟩ := at_int hT (i := x.to) (by omega) (by omega)
    cases h2
    have r1 := tf_in hr x.fr.toNat
    have r2 := tf_in hr x.to.toNat
    repeat' (first | refine l_val rfl rfl (by first | exact v_add rfl rfl (by omega) (by omega) | exact pureEval_ok rfl | exact v_load_ext rfl (by assumption) rfl (by rfl) | exact v_index rfl rfl rfl rfl (by omega) (by omega) (by with_reducible first | exact idx4 _ _ _  ) ) ?_ | refine l_nil ?_ | refine c_region ?_ | refine c_seq ?_ | refine x_then ?_ | refine l_skip rfl rfl ?_ | refine c_true rfl ?_ | refine c_dec_t rfl (by first | omega ) ?_ | refine c_block ?_ | refine c_skip ?_ | refine c_ret ?_ | refine x_then_ret ?_ | refine x_block ?_ | refine x_block_ret ?_ | refine c_reads rfl (by decide +kernel) ?_ | refine q_val rfl rfl (by first | exact v_sub rfl rfl (by omega) (by omega) | exact pureEval_ok rfl | exact v_load_ext0 rfl (by assumption) rfl (by rfl) | exact v_load_ext rfl (by assumption) rfl (by rfl) | exact v_index rfl rfl rfl rfl (by omega) (by omega) (by with_reducible first | exact idx4 _ _ _  | exact idx6 _ _  ) ) ?_ | refine q_nil ?_ | refine l_dec rfl rfl rfl rfl rfl (fun _ => ?_) (fun _ => ?_) | refine c_dec rfl (fun _ => ?_) (fun _ => ?_) )
    all_goals first
      | (refine x_ret rfl rfl (by repeat (first | exact Res.nil | (apply Res.tmp; rfl) | (apply Res.cell; rfl; exact (by repeat (first | exact List.Mem.head _ | apply List.Mem.tail)); rfl; rfl))) rfl (fun W hW => ⟨?_, hW.below⟩)
         have hno : metB l t = false := by
           rw [Bool.eq_false_iff]
           intro h
           have h3 := List.all_eq_true.1 h x hin
           simp only [lkB, decide_eq_true_eq] at h3
           omega
         rw [hno])
      | (refine x_back (k + 1) ⟨hlt, ?_⟩ (by omega) (by repeat (first | exact EnvSub.nil | refine EnvSub.cons rfl (by first | rfl | (congr 1; done) | (exact congrArg (Value.int _) (by omega)) | (simp; done)) ?_)) (by repeat (first | exact MSub.nil | refine MSub.keep (by first | rfl | assumption) ?_ | refine MSub.drop ?_ | exact MSub.refl _))
         intro y hy
         rw [List.take_add_one, hx] at hy
         rcases List.mem_append.1 hy with h | h
         · exact hM y h
         · simp only [Option.toList_some, List.mem_singleton] at h
           rw [h]; simp only [lkB, decide_eq_true_eq]; omega)
  · have hkl : k = l.length := by omega
    subst hkl
    rw [List.take_length] at hM
    repeat' (first | refine l_val rfl rfl (by first | exact pureEval_ok rfl ) ?_ | refine l_nil ?_ | refine c_region ?_ | refine c_seq ?_ | refine x_then ?_ | refine c_dec_f rfl (by first | omega ) ?_ | refine c_ret ?_ | refine c_exit ?_ | refine x_then_exit ?_ | refine x_block_same ?_ )
    refine x_ret rfl rfl (by repeat (first | exact Res.nil | (apply Res.tmp; rfl) | (apply Res.cell; rfl; exact (by repeat (first | exact List.Mem.head _ | apply List.Mem.tail)); rfl; rfl))) rfl (fun W hW => ⟨?_, hW.below⟩)
    have hyes : metB l t = true := List.all_eq_true.2 hM
    rw [hyes]

def tmB (t : List Int) : Bool := t.all fun v => decide (0 ≤ v ∧ v ≤ 1152921504606846976)
theorem tmB_iff (t : List Int) : tmB t = true ↔ Tm t := by simp [tmB, Tm]
/-- as the law asks -/
def schB (n : Int) (l : List Lk) (t : List Int) : Bool := decide ((t.length : Int) = n) && (tmB t && metB l t)

theorem met_calls (n : Int) (A T : Option Addr) (cap capT : Nat) (l : List Lk) (t : List Int) (w : World) (hl : l.length ≤ 1000) (ht : t.length ≤ 1000) (hA : At w A 4 (l.map lkE)) (hT : At w T 1 (t.map inE)) (hF : Fine n l) (hn : n ≤ 64) :
    Calls Try.prog 25 ⟨[.agg ⟨netCells n A l.length cap⟩, .slice T t.length capT]⟩ w fun e w' => e = .returned (.bool (schB n l t)) ∧ Below w.heap.size w w' := by
  refine fun_enter Try.func25 rfl Try.ntmps25 rfl rfl (satW_nil w) ?_
  repeat' (first | refine l_val rfl rfl (by first | exact pureEval_ok rfl | exact v_load rfl (by repeat (first | exact List.Mem.head _ | apply List.Mem.tail)) rfl (by rfl) ) ?_ | refine l_nil ?_ | refine c_region ?_ | refine c_seq ?_ | refine x_then ?_ | refine r_box rfl rfl rfl rfl (fun _ => ?_) | refine c_block ?_ | refine c_skip ?_ | refine c_ret ?_ | refine x_then_ret ?_ | refine c_dec rfl (fun _ => ?_) (fun _ => ?_) )
  · rename_i b1 h1
    refine x_ret rfl rfl (by repeat (first | exact Res.nil | (apply Res.tmp; rfl) | (apply Res.cell; rfl; exact (by repeat (first | exact List.Mem.head _ | apply List.Mem.tail)); rfl; rfl))) rfl (fun W hW => ⟨?_, hW.below⟩)
    have : schB n l t = false := by unfold schB; rw [decide_eq_false h1]; rfl
    rw [this]
  · rename_i b1 h1
    refine c_loop (ι := Nat) (fun k => k ≤ t.length ∧ ∀ v ∈ t.take k, 0 ≤ v ∧ v ≤ 1152921504606846976) (fun k => [(1, .slice T t.length capT), (2, .pointer (some ⟨b1, 0, none⟩)), (15, .slice T t.length capT), (16, .int .i64 t.length), (17, .int .i64 k)])
      (fun _ => [(b1, .cells ⟨netCells n A l.length cap⟩ 24 (0, 0))]) (fun k => t.length - k) 0 ⟨by omega, by simp⟩ (by repeat (first | exact EnvSub.nil | refine EnvSub.cons rfl (by first | rfl | (congr 1; done) | (exact congrArg (Value.int _) (by omega)) | (simp; done)) ?_)) (by repeat (first | exact MSub.nil | refine MSub.keep (by first | rfl | assumption) ?_ | refine MSub.drop ?_ | exact MSub.refl _)) ?_
    rintro k ⟨hk, hM⟩
    by_cases hlt : k < t.length
    · obtain ⟨b, o, rfl, he⟩ := at_int hT (i := k) (by omega) (by omega)
      simp only [Int.toNat_natCast] at he
      have hg : t[k]? = some (tf t k) := by unfold tf; rw [List.getD_eq_getElem?_getD, List.getElem?_eq_getElem hlt]; rfl
      repeat' (first | refine l_val rfl rfl (by first | exact v_add rfl rfl (by omega) (by omega) | exact pureEval_ok rfl | exact v_load_ext0 rfl (by assumption) rfl (by rfl) | exact v_index rfl rfl rfl rfl (by omega) (by omega) (by with_reducible first | exact idx2 _ _  ) ) ?_ | refine l_nil ?_ | refine c_region ?_ | refine c_seq ?_ | refine x_then ?_ | refine l_skip rfl rfl ?_ | refine c_true rfl ?_ | refine c_dec_t rfl (by first | omega ) ?_ | refine c_block ?_ | refine c_skip ?_ | refine c_ret ?_ | refine x_then_ret ?_ | refine x_block ?_ | refine x_block_ret ?_ | refine l_dec rfl rfl rfl rfl rfl (fun _ => ?_) (fun _ => ?_) | refine c_dec rfl (fun _ => ?_) (fun _ => ?_) )
      all_goals first
        | (refine x_ret rfl rfl (by repeat (first | exact Res.nil | (apply Res.tmp; rfl) | (apply Res.cell; rfl; exact (by repeat (first | exact List.Mem.head _ | apply List.Mem.tail)); rfl; rfl))) rfl (fun W hW => ⟨?_, hW.below⟩)
           have hno : schB n l t = false := by
             have : tmB t = false := by
               rw [Bool.eq_false_iff]; intro h
               have := (tmB_iff t).1 h _ (List.mem_of_getElem? hg)
               omega
             unfold schB; rw [this]; simp
           rw [hno])
        | (refine x_back (k + 1) ⟨hlt, ?_⟩ (by omega) (by repeat (first | exact EnvSub.nil | refine EnvSub.cons rfl (by first | rfl | (congr 1; done) | (exact congrArg (Value.int _) (by omega)) | (simp; done)) ?_)) (by repeat (first | exact MSub.nil | refine MSub.keep (by first | rfl | assumption) ?_ | refine MSub.drop ?_ | exact MSub.refl _))
           intro y hy
           rw [List.take_add_one, hg] at hy
           rcases List.mem_append.1 hy with h | h
           · exact hM y h
           · simp only [Option.toList_some, List.mem_singleton] at h
             rw [h]; omega)
    · have hkl : k = t.length := by omega
      subst hkl
      rw [List.take_length] at hM
      have hr : Tm t := hM
      have hlen : (t.length : Int) = n := by omega
      repeat (first | refine l_val rfl rfl (by first | exact pureEval_ok rfl | exact v_load rfl (by repeat (first | exact List.Mem.head _ | apply List.Mem.tail)) rfl (by rfl) ) ?_ | refine l_nil ?_ | refine c_region ?_ | refine c_seq ?_ | refine x_then ?_ | refine c_dec_f rfl (by first | omega ) ?_ | refine c_block ?_ | refine c_exit ?_ | refine x_then_exit ?_ | refine x_block_same ?_ )
      refine c_loop (ι := Nat) (fun k => k ≤ l.length ∧ ∀ x ∈ l.take k, lkB t x = true) (fun k => [(1, .slice T t.length capT), (29, .slice A l.length cap), (30, .int .i64 l.length), (31, .int .i64 k)])
        (fun _ => []) (fun k => l.length - k) 0 ⟨by omega, by simp⟩ (by repeat (first | exact EnvSub.nil | refine EnvSub.cons rfl (by first | rfl | (congr 1; done) | (exact congrArg (Value.int _) (by omega)) | (simp; done)) ?_)) (by repeat (first | exact MSub.nil | refine MSub.keep (by first | rfl | assumption) ?_ | refine MSub.drop ?_ | exact MSub.refl _)) ?_
      rintro k ⟨hk, hM⟩
      by_cases hlt : k < l.length
      · obtain ⟨x, hx⟩ : ∃ x, l[k]? = some x := ⟨_, List.getElem?_eq_getElem hlt⟩
        obtain ⟨b, o, rfl, hc⟩ := hA k (lkE x) (by simp [hx])
        have he := ext_of hc
        have hin : x ∈ l := List.mem_of_getElem? hx
        have hf := hF x hin
        unfold Lk.Fine at hf
        obtain ⟨b1, o1, rfl, e1⟩ := at_int hT (i := x.fr) (by omega) (by omega)
        obtain ⟨b2, o2, h2, e2⟩ := at_int hT (i := x.to) (by omega) (by omega)
        cases h2
        have r1 := tf_in hr x.fr.toNat
        have r2 := tf_in hr x.to.toNat
        repeat' (first | refine l_val rfl rfl (by first | exact v_add rfl rfl (by omega) (by omega) | exact pureEval_ok rfl | exact v_load rfl (by repeat (first | exact List.Mem.head _ | apply List.Mem.tail)) rfl (by rfl) | exact v_load_ext0 rfl (by assumption) rfl (by rfl) | exact v_index rfl rfl rfl rfl (by omega) (by omega) (by with_reducible first | exact idx4 _ _ _  ) ) ?_ | refine l_nil ?_ | refine c_region ?_ | refine c_seq ?_ | refine x_then ?_ | refine l_skip rfl rfl ?_ | refine r_alloc rfl rfl rfl (by first | rfl ) (fun _ => ?_) | refine r_store rfl rfl rfl rfl rfl rfl rfl (by repeat (first | exact Upd.head | apply Upd.tail)) (by rfl) ?_ | refine c_true rfl ?_ | refine c_dec_t rfl (by first | omega ) ?_ | refine c_block ?_ | refine c_skip ?_ | refine c_ret ?_ | refine x_then_ret ?_ | refine x_block ?_ | refine x_block_ret ?_ | refine c_reads rfl (by decide +kernel) ?_ | refine q_val rfl rfl (by first | exact v_sub rfl rfl (by omega) (by omega) | exact pureEval_ok rfl | exact v_load rfl (by repeat (first | exact List.Mem.head _ | apply List.Mem.tail)) rfl (by rfl) | exact v_load_ext0 rfl (by assumption) rfl (by rfl) | exact v_index rfl rfl rfl rfl (by omega) (by omega) (by with_reducible first | exact idx6 _ _  ) ) ?_ | refine q_nil ?_ | refine l_dec rfl rfl rfl rfl rfl (fun _ => ?_) (fun _ => ?_) | refine c_dec rfl (fun _ => ?_) (fun _ => ?_) )
        all_goals first
          | (refine x_ret rfl rfl (by repeat (first | exact Res.nil | (apply Res.tmp; rfl) | (apply Res.cell; rfl; exact (by repeat (first | exact List.Mem.head _ | apply List.Mem.tail)); rfl; rfl))) rfl (fun W hW => ⟨?_, hW.below⟩)
             have hno : schB n l t = false := by
               have : metB l t = false := by
                 rw [Bool.eq_false_iff]
                 intro h
                 have h3 := List.all_eq_true.1 h x hin
                 simp only [lkB, decide_eq_true_eq] at h3
                 omega
               unfold schB; rw [this]; simp
             rw [hno])
          | (refine x_back (k + 1) ⟨hlt, ?_⟩ (by omega) (by repeat (first | exact EnvSub.nil | refine EnvSub.cons rfl (by first | rfl | (congr 1; done) | (exact congrArg (Value.int _) (by omega)) | (simp; done)) ?_)) (by repeat (first | exact MSub.nil | refine MSub.keep (by first | rfl | assumption) ?_ | refine MSub.drop ?_ | exact MSub.refl _))
             intro y hy
             rw [List.take_add_one, hx] at hy
             rcases List.mem_append.1 hy with h | h
             · exact hM y h
             · simp only [Option.toList_some, List.mem_singleton] at h
               rw [h]; simp only [lkB, decide_eq_true_eq]; omega)
      · have hkl : k = l.length := by omega
        subst hkl
        rw [List.take_length] at hM
        repeat' (first | refine l_val rfl rfl (by first | exact pureEval_ok rfl ) ?_ | refine l_nil ?_ | refine c_region ?_ | refine c_seq ?_ | refine x_then ?_ | refine c_dec_f rfl (by first | omega ) ?_ | refine c_ret ?_ | refine c_exit ?_ | refine x_then_exit ?_ | refine x_block_same ?_ )
        refine x_ret rfl rfl (by repeat (first | exact Res.nil | (apply Res.tmp; rfl) | (apply Res.cell; rfl; exact (by repeat (first | exact List.Mem.head _ | apply List.Mem.tail)); rfl; rfl))) rfl (fun W hW => ⟨?_, hW.below⟩)
        have hyes : schB n l t = true := by
          have : metB l t = true := List.all_eq_true.2 hM
          unfold schB; rw [this, (tmB_iff t).2 hr, decide_eq_true hlen]; rfl
        rw [hyes]
end R22
end Go.Proofs

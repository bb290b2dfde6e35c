/- Intervals: small functions, sums, intersections, walked. -/
import Derived.Test.YtfebhegaomdcoaaTy
import Derived.Test.YtfebhegaomdcoaaEng13
import Derived.Test.YtfebhegaomdcoaaIvMath
set_option linter.unusedSectionVars false
set_option linter.unusedVariables false
set_option linter.unusedSimpArgs false
namespace Go.Proofs
open Go.RowKit Go.Kin Go.Kin.Iv
namespace R21

def rgE (a b : Int) : List Value := [.int .i64 a, .int .i64 b]
def rgP (p : Int × Int) : List Value := rgE p.1 p.2
def inE (v : Int) : List Value := [.int .i64 v]
theorem rg_len (l : List (Int × Int)) : ∀ r ∈ l.map rgP, r.length = 2 := fun r hr => by obtain ⟨x, _, rfl⟩ := List.mem_map.1 hr; rfl
theorem in_len (l : List Int) : ∀ r ∈ l.map inE, r.length = 1 := fun r hr => by obtain ⟨x, _, rfl⟩ := List.mem_map.1 hr; rfl
def allB (l : List (Int × Int)) : Bool := l.all fun p => vB p.1 p.2
/-- numbers that a Go int holds -/
def i64 (n : Int) : Prop := -9223372036854775808 ≤ n ∧ n ≤ 9223372036854775807

theorem span_calls (a b : Int) (w : World) : Calls Try.prog 36 ⟨[.int .i64 a, .int .i64 b]⟩ w fun e w' => e = .returned (.agg ⟨rgE a b⟩) ∧ Below w.heap.size w w' := by
  refine fun_enter Try.func36 rfl Try.ntmps36 rfl rfl (satW_nil w) ?_
  repeat (first | refine l_val rfl rfl (by first | exact pureEval_ok rfl | exact v_build rfl rfl (by rfl) ) ?_ | refine l_nil ?_ | refine c_region ?_ | refine c_seq ?_ | refine x_then ?_ | refine r_alloc rfl rfl rfl (by first | exact aggL ) (fun _ => ?_) | refine r_store rfl rfl rfl rfl rfl rfl rfl (by repeat (first | exact Upd.head | apply Upd.tail)) (by rfl) ?_ | refine c_ret ?_ )
  exact x_ret rfl rfl (by repeat (first | exact Res.nil | (apply Res.tmp; rfl) | (apply Res.cell; rfl; exact (by repeat (first | exact List.Mem.head _ | apply List.Mem.tail)); rfl; rfl))) rfl (fun W hW => ⟨rfl, hW.below⟩)

theorem valid_calls (A : Option Addr) (cap : Nat) (l : List (Int × Int)) (w : World) (hl : l.length ≤ 1000) (hA : At w A 2 (l.map rgP)) :
    Calls Try.prog 37 ⟨[.slice A l.length cap]⟩ w fun e w' => e = .returned (.bool (allB l)) ∧ Below w.heap.size w w' := by
  refine fun_enter Try.func37 rfl Try.ntmps37 rfl rfl (satW_nil w) ?_
  repeat (first | refine l_val rfl rfl (by first | exact pureEval_ok rfl ) ?_ | refine l_nil ?_ | refine c_region ?_ | refine c_seq ?_ | refine x_then ?_ | refine c_block ?_ )
  refine c_loop (ι := Nat) (fun k => k ≤ l.length ∧ allB (l.take k) = true) (fun k => [(5, .slice A l.length cap), (6, .int .i64 l.length), (7, .int .i64 k)]) (fun _ => []) (fun k => l.length - k) 0 ⟨by omega, rfl⟩ (by repeat (first | exact EnvSub.nil | refine EnvSub.cons rfl (by first | rfl | (congr 1; done) | (exact congrArg (Value.int _) (by omega)) | (simp; done)) ?_)) (by repeat (first | exact MSub.nil | refine MSub.keep (by first | rfl | assumption) ?_ | refine MSub.drop ?_ | exact MSub.refl _)) ?_
  rintro k ⟨hk, hM⟩
  by_cases hlt : k < l.length
  · obtain ⟨p, hp⟩ : ∃ p, l[k]? = some p := ⟨_, List.getElem?_eq_getElem hlt⟩
    obtain ⟨b, o, rfl, hc⟩ := hA k (rgP p) (by simp [hp])
    have he : Ext w (base w) b (o + k * 2) [.int .i64 p.1, .int .i64 p.2] := ext_of hc
    cases hv : vB p.1 p.2 with
    | true =>
      obtain ⟨g1, g2, g3⟩ := vB_iff.1 hv
      repeat (first | refine l_val rfl rfl (by first | exact v_add rfl rfl (by omega) (by omega) | exact pureEval_ok rfl | exact v_load rfl (by repeat (first | exact List.Mem.head _ | apply List.Mem.tail)) rfl (by rfl) | exact v_load_ext0 rfl (by assumption) rfl (by rfl) | exact v_index rfl rfl rfl rfl (by omega) (by omega) (by with_reducible first | exact idx4 _ _ _  ) ) ?_ | refine l_nil ?_ | refine c_region ?_ | refine c_seq ?_ | refine x_then ?_ | refine r_alloc rfl rfl rfl (by first | exact aggL ) (fun _ => ?_) | refine r_store rfl rfl rfl rfl rfl rfl rfl (by repeat (first | exact Upd.head | apply Upd.tail)) (by rfl) ?_ | refine c_dec_t rfl (by first | omega ) ?_ | refine c_dec_f rfl (by first | omega | exact fun h => h rfl ) ?_ | refine c_block ?_ | refine c_skip ?_ | refine x_block ?_ | refine l_dec_f rfl rfl rfl rfl rfl (by first | omega ) ?_ )
      refine x_back (k + 1) ⟨hlt, ?_⟩ (by omega) (by repeat (first | exact EnvSub.nil | refine EnvSub.cons rfl (by first | rfl | (congr 1; done) | (exact congrArg (Value.int _) (by omega)) | (simp; done)) ?_)) (by repeat (first | exact MSub.nil | refine MSub.keep (by first | rfl | assumption) ?_ | refine MSub.drop ?_ | exact MSub.refl _))
      unfold allB at hM ⊢
      rw [List.take_add_one, hp, List.all_append, hM]
      simp [hv]
    | false =>
      have hno : allB l = false := by
        unfold allB
        rw [List.all_eq_false]
        exact ⟨p, List.mem_of_getElem? hp, by rw [hv]; exact Bool.false_ne_true⟩
      rw [hno]
      have hv := vB_no.1 hv
      repeat' (first | refine l_val rfl rfl (by first | exact pureEval_ok rfl | exact v_load rfl (by repeat (first | exact List.Mem.head _ | apply List.Mem.tail)) rfl (by rfl) | exact v_load_ext0 rfl (by assumption) rfl (by rfl) | exact v_index rfl rfl rfl rfl (by omega) (by omega) (by with_reducible first | exact idx4 _ _ _  ) ) ?_ | refine l_nil ?_ | refine c_region ?_ | refine c_seq ?_ | refine x_then ?_ | refine l_skip rfl rfl ?_ | refine r_alloc rfl rfl rfl (by first | exact aggL ) (fun _ => ?_) | refine r_store rfl rfl rfl rfl rfl rfl rfl (by repeat (first | exact Upd.head | apply Upd.tail)) (by rfl) ?_ | refine c_true rfl ?_ | refine c_dec_t rfl (by first | omega ) ?_ | refine c_block ?_ | refine c_skip ?_ | refine c_ret ?_ | refine x_then_ret ?_ | refine x_block_ret ?_ | refine l_dec rfl rfl rfl rfl rfl (fun _ => ?_) (fun _ => ?_) )
      all_goals first
        | exact x_ret rfl rfl (by repeat (first | exact Res.nil | (apply Res.tmp; rfl) | (apply Res.cell; rfl; exact (by repeat (first | exact List.Mem.head _ | apply List.Mem.tail)); rfl; rfl))) rfl (fun W hW => ⟨rfl, hW.below⟩)
        | (exfalso; omega)
  · have hkl : k = l.length := by omega
    subst hkl
    rw [List.take_length] at hM
    rw [hM]
    repeat (first | refine l_val rfl rfl (by first | exact pureEval_ok rfl ) ?_ | refine l_nil ?_ | refine c_region ?_ | refine c_seq ?_ | refine x_then ?_ | refine c_dec_f rfl (by first | omega ) ?_ | refine c_ret ?_ | refine c_exit ?_ | refine x_then_exit ?_ | refine x_block_same ?_ )
    exact x_ret rfl rfl (by repeat (first | exact Res.nil | (apply Res.tmp; rfl) | (apply Res.cell; rfl; exact (by repeat (first | exact List.Mem.head _ | apply List.Mem.tail)); rfl; rfl))) rfl (fun W hW => ⟨rfl, hW.below⟩)

theorem rValid_calls (a b : Int) (w : World) : Calls Try.prog 39 ⟨[.agg ⟨rgE a b⟩]⟩ w fun e w' => e = .returned (.bool (vB a b)) ∧ Below w.heap.size w w' := by
  refine fun_enter Try.func39 rfl Try.ntmps39 rfl rfl (satW_nil w) ?_
  by_cases h1 : -1099511627776 ≤ a
  · by_cases h2 : a ≤ b
    · repeat (first | refine l_val rfl rfl (by first | exact pureEval_ok rfl | exact v_load rfl (by repeat (first | exact List.Mem.head _ | apply List.Mem.tail)) rfl (by rfl) ) ?_ | refine l_nil ?_ | refine c_region ?_ | refine c_seq ?_ | refine x_then ?_ | refine r_box rfl rfl rfl rfl (fun _ => ?_) | refine c_ret ?_ | refine l_dec_t rfl rfl rfl rfl rfl (by first | omega ) ?_ )
      refine x_ret rfl rfl (by repeat (first | exact Res.nil | (apply Res.tmp; rfl) | (apply Res.cell; rfl; exact (by repeat (first | exact List.Mem.head _ | apply List.Mem.tail)); rfl; rfl))) rfl (fun W hW => ⟨?_, hW.below⟩)
      unfold vB; congr 2; simp [h1, h2]
    · repeat (first | refine l_val rfl rfl (by first | exact pureEval_ok rfl | exact v_load rfl (by repeat (first | exact List.Mem.head _ | apply List.Mem.tail)) rfl (by rfl) ) ?_ | refine l_nil ?_ | refine c_region ?_ | refine c_seq ?_ | refine x_then ?_ | refine l_skip rfl rfl ?_ | refine r_box rfl rfl rfl rfl (fun _ => ?_) | refine c_ret ?_ | refine l_dec_t rfl rfl rfl rfl rfl (by first | omega ) ?_ | refine l_dec_f rfl rfl rfl rfl rfl (by first | omega ) ?_ )
      refine x_ret rfl rfl (by repeat (first | exact Res.nil | (apply Res.tmp; rfl) | (apply Res.cell; rfl; exact (by repeat (first | exact List.Mem.head _ | apply List.Mem.tail)); rfl; rfl))) rfl (fun W hW => ⟨?_, hW.below⟩)
      unfold vB; simp [h2]
  · repeat (first | refine l_val rfl rfl (by first | exact pureEval_ok rfl | exact v_load rfl (by repeat (first | exact List.Mem.head _ | apply List.Mem.tail)) rfl (by rfl) ) ?_ | refine l_nil ?_ | refine c_region ?_ | refine c_seq ?_ | refine x_then ?_ | refine l_skip rfl rfl ?_ | refine r_box rfl rfl rfl rfl (fun _ => ?_) | refine c_ret ?_ | refine l_dec_f rfl rfl rfl rfl rfl (by first | omega ) ?_ )
    refine x_ret rfl rfl (by repeat (first | exact Res.nil | (apply Res.tmp; rfl) | (apply Res.cell; rfl; exact (by repeat (first | exact List.Mem.head _ | apply List.Mem.tail)); rfl; rfl))) rfl (fun W hW => ⟨?_, hW.below⟩)
    unfold vB; simp [h1]

/-! ## Results -/
def rsL (lo hi : Int) : Int := if vB lo hi then lo else 0
def rsH (lo hi : Int) : Int := if vB lo hi then hi else 0
def rsE (lo hi : Int) : Int := if vB lo hi then 0 else 2
def rsV (lo hi : Int) : Value := .tuple ⟨[.agg ⟨rgE (rsL lo hi) (rsH lo hi)⟩, .int .i64 (rsE lo hi)]⟩
theorem rs_yes {lo hi : Int} (h : vB lo hi = true) : rsV lo hi = .tuple ⟨[.agg ⟨rgE lo hi⟩, .int .i64 0]⟩ := by unfold rsV rsL rsH rsE; simp [h]
theorem rs_no {lo hi : Int} (h : vB lo hi = false) : rsV lo hi = .tuple ⟨[.agg ⟨rgE 0 0⟩, .int .i64 2]⟩ := by unfold rsV rsL rsH rsE; simp [h]

theorem result_calls (a b : Int) (w : World) : Calls Try.prog 40 ⟨[.agg ⟨rgE a b⟩]⟩ w fun e w' => e = .returned (rsV a b) ∧ Below w.heap.size w w' := by
  refine fun_enter Try.func40 rfl Try.ntmps40 rfl rfl (satW_nil w) ?_
  repeat (first | refine l_val rfl rfl (by first | exact pureEval_ok rfl | exact v_load rfl (by repeat (first | exact List.Mem.head _ | apply List.Mem.tail)) rfl (by rfl) ) ?_ | refine l_nil ?_ | refine c_region ?_ | refine c_seq ?_ | refine x_then ?_ | refine r_box rfl rfl rfl rfl (fun _ => ?_) | refine r_alloc rfl rfl rfl (by first | exact aggL ) (fun _ => ?_) )
  refine r_call rfl rfl rfl (fun W hW => rValid_calls a b W) ?_
  cases h : vB a b with
  | true =>
    repeat (first | refine l_val rfl rfl (by first | exact pureEval_ok rfl | exact v_load rfl (by repeat (first | exact List.Mem.head _ | apply List.Mem.tail)) rfl (by rfl) ) ?_ | refine l_nil ?_ | refine c_region ?_ | refine c_seq ?_ | refine x_then ?_ | refine r_store rfl rfl rfl rfl rfl rfl rfl (by repeat (first | exact Upd.head | apply Upd.tail)) (by rfl) ?_ | refine c_false rfl ?_ | refine c_skip ?_ | refine c_ret ?_ )
    exact x_ret rfl rfl (by repeat (first | exact Res.nil | (apply Res.tmp; rfl) | (apply Res.cell; rfl; exact (by repeat (first | exact List.Mem.head _ | apply List.Mem.tail)); rfl; rfl))) rfl (fun W hW => ⟨by rw [rs_yes h]; rfl, hW.below⟩)
  | false =>
    repeat (first | refine l_val rfl rfl (by first | exact pureEval_ok rfl | exact v_build rfl rfl (by rfl) ) ?_ | refine l_nil ?_ | refine c_region ?_ | refine c_seq ?_ | refine x_then ?_ | refine r_store rfl rfl rfl rfl rfl rfl rfl (by repeat (first | exact Upd.head | apply Upd.tail)) (by rfl) ?_ | refine c_true rfl ?_ | refine c_ret ?_ | refine x_then_ret ?_ )
    exact x_ret rfl rfl (by repeat (first | exact Res.nil | (apply Res.tmp; rfl) | (apply Res.cell; rfl; exact (by repeat (first | exact List.Mem.head _ | apply List.Mem.tail)); rfl; rfl))) rfl (fun W hW => ⟨by rw [rs_no h]; rfl, hW.below⟩)

/-- the least and the greatest number -/
def mnL (a : Int) (l : List Int) : Int := l.foldl min a
def mxL (a : Int) (l : List Int) : Int := l.foldl max a
theorem hull_calls (a : Int) (A : Option Addr) (cap : Nat) (l : List Int) (w : World) (hl : l.length ≤ 1000) (hA : At w A 1 (l.map inE)) :
    Calls Try.prog 38 ⟨[.int .i64 a, .slice A l.length cap]⟩ w fun e w' => e = .returned (rsV (mnL a l) (mxL a l)) ∧ Below w.heap.size w w' := by
  refine fun_enter Try.func38 rfl Try.ntmps38 rfl rfl (satW_nil w) ?_
  repeat (first | refine l_val rfl rfl (by first | exact pureEval_ok rfl | exact v_build rfl rfl (by rfl) ) ?_ | refine l_nil ?_ | refine c_region ?_ | refine c_seq ?_ | refine x_then ?_ | refine r_alloc rfl rfl rfl (by first | exact aggL ) (fun _ => ?_) | refine r_store rfl rfl rfl rfl rfl rfl rfl (by repeat (first | exact Upd.head | apply Upd.tail)) (by rfl) ?_ | refine c_block ?_ )
  rename_i y1
  refine c_loop (ι := Nat) (fun k => k ≤ l.length) (fun k => [(4, .pointer (some ⟨y1, 0, none⟩)), (11, .slice A l.length cap), (12, .int .i64 l.length), (13, .int .i64 k)])
    (fun k => [(y1, .cells ⟨rgE (mnL a (l.take k)) (mxL a (l.take k))⟩ 23 (0, 0))]) (fun k => l.length - k) 0 (by omega) (by repeat (first | exact EnvSub.nil | refine EnvSub.cons rfl (by first | rfl | (congr 1; done) | (exact congrArg (Value.int _) (by omega)) | (simp; done)) ?_)) (by repeat (first | exact MSub.nil | refine MSub.keep (by first | rfl | assumption) ?_ | refine MSub.drop ?_ | exact MSub.refl _)) ?_
  intro k hk
  by_cases hlt : k < l.length
  · obtain ⟨p, hp⟩ : ∃ p, l[k]? = some p := ⟨_, List.getElem?_eq_getElem hlt⟩
    obtain ⟨b, o, rfl, hc⟩ := hA k (inE p) (by simp [hp])
    rw [Nat.mul_one] at hc
    have he : Ext w (base w) b (o + k) [.int .i64 p] := ext_of hc
    have e1 : mnL a (l.take (k + 1)) = min (mnL a (l.take k)) p := by unfold mnL; rw [List.take_add_one, hp]; simp
    have e2 : mxL a (l.take (k + 1)) = max (mxL a (l.take k)) p := by unfold mxL; rw [List.take_add_one, hp]; simp
    repeat (first | refine l_val rfl rfl (by first | exact v_add rfl rfl (by omega) (by omega) | exact pureEval_ok rfl | exact v_load rfl (by repeat (first | exact List.Mem.head _ | apply List.Mem.tail)) rfl (by rfl) | exact v_load_ext0 rfl (by assumption) rfl (by rfl) | exact v_index rfl rfl rfl rfl (by omega) (by omega) (by with_reducible first | exact idx2 _ _  ) ) ?_ | refine l_nil ?_ | refine c_region ?_ | refine c_seq ?_ | refine x_then ?_ | refine r_store rfl rfl rfl rfl rfl rfl rfl (by repeat (first | exact Upd.head | apply Upd.tail)) (by rfl) ?_ | refine c_dec_t rfl (by first | omega ) ?_ | refine c_block ?_ | refine c_skip ?_ | refine x_block ?_ )
    refine x_back (k + 1) hlt (by omega) (by repeat (first | exact EnvSub.nil | refine EnvSub.cons rfl (by first | rfl | (congr 1; done) | (exact congrArg (Value.int _) (by omega)) | (simp; done)) ?_)) ?_
    simp only [e1, e2]
    exact (by repeat (first | exact MSub.nil | refine MSub.keep (by first | rfl | assumption) ?_ | refine MSub.drop ?_ | exact MSub.refl _))
  · have hkl : k = l.length := by omega
    subst hkl
    rw [List.take_length]
    repeat (first | refine l_val rfl rfl (by first | exact pureEval_ok rfl | exact v_load rfl (by repeat (first | exact List.Mem.head _ | apply List.Mem.tail)) rfl (by rfl) ) ?_ | refine l_nil ?_ | refine c_region ?_ | refine c_seq ?_ | refine x_then ?_ | refine r_buildSlice rfl rfl rfl rfl rfl rfl (by rfl) (fun _ => ?_) | refine c_dec_f rfl (by first | omega ) ?_ | refine c_exit ?_ | refine x_then_exit ?_ | refine x_block_same ?_ )
    rename_i y2
    have hall : ∀ x y, allB [(x, y)] = vB x y := fun x y => by simp [allB]
    refine r_call rfl rfl rfl (fun W hW => hall _ _ ▸ valid_calls (some ⟨y2, 0, none⟩) 1 [(mnL a l, mxL a l)] W (by simp) (hW.rows (b := y2) (by repeat (first | exact List.Mem.head _ | apply List.Mem.tail)) (rest := []) rfl (rg_len _))) ?_
    cases h : vB (mnL a l) (mxL a l) with
    | true =>
      repeat (first | refine l_val rfl rfl (by first | exact pureEval_ok rfl | exact v_load rfl (by repeat (first | exact List.Mem.head _ | apply List.Mem.tail)) rfl (by rfl) ) ?_ | refine l_nil ?_ | refine c_region ?_ | refine c_seq ?_ | refine x_then ?_ | refine r_store rfl rfl rfl rfl rfl rfl rfl (by repeat (first | exact Upd.head | apply Upd.tail)) (by rfl) ?_ | refine c_false rfl ?_ | refine c_skip ?_ | refine c_ret ?_ )
      exact x_ret rfl rfl (by repeat (first | exact Res.nil | (apply Res.tmp; rfl) | (apply Res.cell; rfl; exact (by repeat (first | exact List.Mem.head _ | apply List.Mem.tail)); rfl; rfl))) rfl (fun W hW => ⟨by rw [rs_yes h]; rfl, hW.below⟩)
    | false =>
      repeat (first | refine l_val rfl rfl (by first | exact pureEval_ok rfl | exact v_build rfl rfl (by rfl) ) ?_ | refine l_nil ?_ | refine c_region ?_ | refine c_seq ?_ | refine x_then ?_ | refine r_store rfl rfl rfl rfl rfl rfl rfl (by repeat (first | exact Upd.head | apply Upd.tail)) (by rfl) ?_ | refine c_true rfl ?_ | refine c_ret ?_ | refine x_then_ret ?_ )
      exact x_ret rfl rfl (by repeat (first | exact Res.nil | (apply Res.tmp; rfl) | (apply Res.cell; rfl; exact (by repeat (first | exact List.Mem.head _ | apply List.Mem.tail)); rfl; rfl))) rfl (fun W hW => ⟨by rw [rs_no h]; rfl, hW.below⟩)
end R21
end Go.Proofs

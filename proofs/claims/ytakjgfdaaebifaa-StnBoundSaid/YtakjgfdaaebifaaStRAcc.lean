/- The specification's Accepts. -/
import Derived.Test.YtakjgfdaaebifaaStBound2
set_option linter.unusedSectionVars false
set_option linter.unusedVariables false
set_option linter.unusedSimpArgs false
namespace Go.Proofs
open Go.RowKit Go.Kin Go.Kin.St
namespace R22
/-- where a step begins, where it ends, and its weight -/
def frV (x : Lk) (lower : Bool) : Int × Int × Int := if lower = true then (x.to, x.fr, -x.lo) else (x.fr, x.to, x.hi)

theorem From_calls (x : Lk) (lower : Bool) (w : World) (hx : -1099511627776 ≤ x.lo ∧ x.lo ≤ 1099511627776) :
    Calls Try.prog 30 ⟨[.agg ⟨lkE x⟩, .bool lower]⟩ w fun e w' => e = .returned (.tuple ⟨[.int .i64 (frV x lower).1, .int .i64 (frV x lower).2.1, .int .i64 (frV x lower).2.2]⟩) ∧ Below w.heap.size w w' := by
  refine fun_enter Try.func30 rfl Try.ntmps30 rfl rfl (satW_nil w) ?_
  cases lower with
  | true =>
    repeat (first | refine l_val rfl rfl (by first | exact pureEval_ok rfl ) ?_ | refine l_nil ?_ | refine c_region ?_ | refine c_seq ?_ | refine x_then ?_ | refine r_box rfl rfl rfl rfl (fun _ => ?_) | refine c_true rfl ?_ | refine c_ret ?_ | refine x_then_ret ?_ | refine c_reads rfl (by decide +kernel) ?_ | refine q_val rfl rfl (by first | exact v_neg rfl (by omega) (by omega) | exact pureEval_ok rfl | exact v_load rfl (by repeat (first | exact List.Mem.head _ | apply List.Mem.tail)) rfl (by rfl) ) ?_ | refine q_nil ?_ )
    exact x_ret rfl rfl (by repeat (first | exact Res.nil | (apply Res.tmp; rfl) | (apply Res.cell; rfl; exact (by repeat (first | exact List.Mem.head _ | apply List.Mem.tail)); rfl; rfl))) rfl (fun W hW => ⟨rfl, hW.below⟩)
  | false =>
    repeat (first | refine l_val rfl rfl (by first | exact pureEval_ok rfl ) ?_ | refine l_nil ?_ | refine c_region ?_ | refine c_seq ?_ | refine x_then ?_ | refine r_box rfl rfl rfl rfl (fun _ => ?_) | refine c_false rfl ?_ | refine c_skip ?_ | refine c_ret ?_ | refine c_reads rfl (by decide +kernel) ?_ | refine q_val rfl rfl (by first | exact pureEval_ok rfl | exact v_load rfl (by repeat (first | exact List.Mem.head _ | apply List.Mem.tail)) rfl (by rfl) ) ?_ | refine q_nil ?_ )
    exact x_ret rfl rfl (by repeat (first | exact Res.nil | (apply Res.tmp; rfl) | (apply Res.cell; rfl; exact (by repeat (first | exact List.Mem.head _ | apply List.Mem.tail)); rfl; rfl))) rfl (fun W hW => ⟨rfl, hW.below⟩)

def usE (u : Us) : List Value := [.int .i64 u.link, .bool u.lower]
/-- What Accepts answers. -/
def acB (n : Int) (l : List Lk) (us : List Us) : Bool := decide (chk n l = 0 ∧ us ≠ [] ∧ us.length ≤ 256) && accepts l us
def acV (n : Int) (l : List Lk) (us : List Us) : Value := .tuple ⟨[.bool (acB n l us), .int .i64 (chk n l)]⟩
theorem ac_bad {n : Int} {l : List Lk} {us : List Us} (h : chk n l ≠ 0 ∨ us.length < 1 ∨ 256 < us.length) : acB n l us = false := by
  unfold acB
  rw [decide_eq_false]
  · rfl
  · rintro ⟨h1, h2, h3⟩
    rcases h with h | h | h
    · exact h h1
    · exact h2 (List.eq_nil_of_length_eq_zero (by omega))
    · omega
theorem ac_ok {n : Int} {l : List Lk} {us : List Us} (h : chk n l = 0) (h1 : 1 ≤ us.length) (h2 : us.length ≤ 256) : acB n l us = accepts l us := by
  unfold acB
  rw [decide_eq_true ⟨h, by rintro rfl; simp at h1, h2⟩, Bool.true_and]

theorem known_take {l : List Lk} {us : List Us} (h : ∀ u ∈ us, 0 ≤ u.link ∧ u.link < l.length) {u : Us} (hu : u ∈ us) : ∃ x, l[u.link.toNat]? = some x ∧ stepOf l u = some (if u.lower = true then dn x else up x) := by
  obtain ⟨h1, h2⟩ := h u hu
  refine ⟨_, List.getElem?_eq_getElem (show u.link.toNat < l.length by omega), ?_⟩
  unfold stepOf
  rw [if_pos h1, List.getElem?_eq_getElem (by omega)]; rfl
theorem known_not {l : List Lk} {us : List Us} {u : Us} (hu : u ∈ us) (h : ¬ (0 ≤ u.link ∧ u.link < l.length)) : known l us = false := by
  unfold known
  rw [List.all_eq_false]
  refine ⟨u, hu, ?_⟩
  simp only [Bool.and_eq_true, decide_eq_true_eq]
  exact h
theorem frV_ed (x : Lk) (lower : Bool) : (if lower = true then dn x else up x) = ⟨(frV x lower).1.toNat, (frV x lower).2.1.toNat, (frV x lower).2.2⟩ := by
  cases lower <;> rfl
theorem frV_fine {n : Int} {x : Lk} (h : x.Fine n) (lower : Bool) : 0 ≤ (frV x lower).1 ∧ 0 ≤ (frV x lower).2.1 ∧ -1099511627776 ≤ (frV x lower).2.2 ∧ (frV x lower).2.2 ≤ 1099511627776 := by
  unfold Lk.Fine at h
  unfold frV
  cases lower
  · rw [if_neg (by decide)]; simp only; omega
  · rw [if_pos rfl]; simp only; omega
theorem run_cons {l : List Lk} {u : Us} {us : List Us} {x : Lk} {p : Nat} {s : Int} (h : stepOf l u = some (if u.lower = true then dn x else up x)) :
    run l p s (u :: us) = if (frV x u.lower).1.toNat = p then run l (frV x u.lower).2.1.toNat (s + (frV x u.lower).2.2) us else none := by
  rw [frV_ed] at h
  simp only [run, h]

theorem rAccepts_calls (n : Int) (A U : Option Addr) (cap capU : Nat) (l : List Lk) (us : List Us) (w : World) (hl : l.length ≤ 1000) (hu : us.length ≤ 1000) (hA : At w A 4 (l.map lkE)) (hU : At w U 2 (us.map usE)) :
    Calls Try.prog 15 ⟨[.agg ⟨netCells n A l.length cap⟩, .slice U us.length capU]⟩ w fun e w' => e = .returned (acV n l us) ∧ Below w.heap.size w w' := by
  refine fun_enter Try.func15 rfl Try.ntmps15 rfl rfl (satW_nil w) ?_
  repeat (first | refine l_val rfl rfl (by first | exact pureEval_ok rfl | exact v_load rfl (by repeat (first | exact List.Mem.head _ | apply List.Mem.tail)) rfl (by rfl) ) ?_ | refine l_nil ?_ | refine c_region ?_ | refine c_seq ?_ | refine x_then ?_ | refine r_box rfl rfl rfl rfl (fun _ => ?_) )
  refine r_call rfl rfl rfl (fun W hW => rcheck_calls n A cap l W hl (hA.sat hW)) ?_
  repeat' (first | refine l_val rfl rfl (by first | exact pureEval_ok rfl ) ?_ | refine l_nil ?_ | refine c_region ?_ | refine c_seq ?_ | refine x_then ?_ | refine l_skip rfl rfl ?_ | refine c_true rfl ?_ | refine c_block ?_ | refine c_skip ?_ | refine c_ret ?_ | refine x_then_ret ?_ | refine l_dec rfl rfl rfl rfl rfl (fun _ => ?_) (fun _ => ?_) | refine c_dec rfl (fun _ => ?_) (fun _ => ?_) )
  · rename_i b1 h0
    refine x_ret rfl rfl (by repeat (first | exact Res.nil | (apply Res.tmp; rfl) | (apply Res.cell; rfl; exact (by repeat (first | exact List.Mem.head _ | apply List.Mem.tail)); rfl; rfl))) rfl (fun W hW => ⟨?_, hW.below⟩)
    unfold acV; rw [ac_bad (.inl h0)]
  · rename_i b1 h0 h1
    have h0 := Decidable.not_not.1 h0
    refine x_ret rfl rfl (by repeat (first | exact Res.nil | (apply Res.tmp; rfl) | (apply Res.cell; rfl; exact (by repeat (first | exact List.Mem.head _ | apply List.Mem.tail)); rfl; rfl))) rfl (fun W hW => ⟨?_, hW.below⟩)
    unfold acV; rw [ac_bad (.inr (by omega)), h0]
  · rename_i b1 h0 h1 h2
    have h0 := Decidable.not_not.1 h0
    refine x_ret rfl rfl (by repeat (first | exact Res.nil | (apply Res.tmp; rfl) | (apply Res.cell; rfl; exact (by repeat (first | exact List.Mem.head _ | apply List.Mem.tail)); rfl; rfl))) rfl (fun W hW => ⟨?_, hW.below⟩)
    unfold acV; rw [ac_bad (.inr (by omega)), h0]
  · rename_i b1 h0 h1 h2
    have h0 := Decidable.not_not.1 h0
    obtain ⟨c1, c2, c3, hF⟩ := chk_fine h0
    refine c_loop (ι := Nat) (fun k => k ≤ us.length ∧ ∀ u ∈ us.take k, 0 ≤ u.link ∧ u.link < l.length) (fun k => [(1, .slice U us.length capU), (2, .pointer (some ⟨b1, 0, none⟩)), (7, .int .i64 k)])
      (fun _ => [(b1, .cells ⟨netCells n A l.length cap⟩ 24 (0, 0))]) (fun k => us.length - k) 0 ⟨by omega, by simp⟩ (by repeat (first | exact EnvSub.nil | refine EnvSub.cons rfl (by first | rfl | (congr 1; done) | (exact congrArg (Value.int _) (by omega)) | (simp; done)) ?_)) (by repeat (first | exact MSub.nil | refine MSub.keep (by first | rfl | assumption) ?_ | refine MSub.drop ?_ | exact MSub.refl _)) ?_
    rintro k ⟨hk, hM⟩
    by_cases hlt : k < us.length
    · obtain ⟨u, hu⟩ : ∃ u, us[k]? = some u := ⟨_, List.getElem?_eq_getElem hlt⟩
      have hmem : u ∈ us := List.mem_of_getElem? hu
      obtain ⟨b, o, rfl, hc⟩ := hU k (usE u) (by simp [hu])
      have he := ext_of hc
      by_cases hin : 0 ≤ u.link ∧ u.link < l.length
      · obtain ⟨hi1, hi2⟩ := hin
        repeat (first | refine l_val rfl rfl (by first | exact v_add rfl rfl (by omega) (by omega) | exact pureEval_ok rfl ) ?_ | refine l_nil ?_ | refine c_region ?_ | refine c_seq ?_ | refine x_then ?_ | refine c_dec_t rfl (by first | omega ) ?_ | refine c_dec_f rfl (by first | omega ) ?_ | refine c_block ?_ | refine c_skip ?_ | refine x_block ?_ | refine c_reads rfl (by decide +kernel) ?_ | refine q_val rfl rfl (by first | exact pureEval_ok rfl | exact v_load rfl (by repeat (first | exact List.Mem.head _ | apply List.Mem.tail)) rfl (by rfl) | exact v_load_ext0 rfl (by assumption) rfl (by rfl) | exact v_index rfl rfl rfl rfl (by omega) (by omega) (by with_reducible first | exact idx4 _ _ _  ) ) ?_ | refine q_nil ?_ | refine q_dec_f rfl rfl rfl rfl (by first | omega ) ?_ )
        refine x_back (k + 1) ⟨hlt, ?_⟩ (by omega) (by repeat (first | exact EnvSub.nil | refine EnvSub.cons rfl (by first | rfl | (congr 1; done) | (exact congrArg (Value.int _) (by omega)) | (simp; done)) ?_)) (by repeat (first | exact MSub.nil | refine MSub.keep (by first | rfl | assumption) ?_ | refine MSub.drop ?_ | exact MSub.refl _))
        intro y hy
        rw [List.take_add_one, hu] at hy
        rcases List.mem_append.1 hy with h | h
        · exact hM y h
        · simp only [Option.toList_some, List.mem_singleton] at h
          rw [h]; exact ⟨hi1, hi2⟩
      · have hno : accepts l us = false := accepts_known (known_not hmem hin)
        repeat' (first | refine l_val rfl rfl (by first | exact pureEval_ok rfl ) ?_ | refine l_nil ?_ | refine c_region ?_ | refine c_seq ?_ | refine x_then ?_ | refine c_true rfl ?_ | refine c_dec_t rfl (by first | omega ) ?_ | refine c_block ?_ | refine c_skip ?_ | refine c_ret ?_ | refine x_then_ret ?_ | refine x_block_ret ?_ | refine c_reads rfl (by decide +kernel) ?_ | refine q_val rfl rfl (by first | exact pureEval_ok rfl | exact v_load rfl (by repeat (first | exact List.Mem.head _ | apply List.Mem.tail)) rfl (by rfl) | exact v_load_ext0 rfl (by assumption) rfl (by rfl) | exact v_index rfl rfl rfl rfl (by omega) (by omega) (by with_reducible first | exact idx4 _ _ _  ) ) ?_ | refine q_nil ?_ | refine q_skip rfl rfl ?_ | refine q_dec rfl rfl rfl rfl (fun _ => ?_) (fun _ => ?_) )
        all_goals first
          | (exfalso; omega)
          | (refine x_ret rfl rfl (by repeat (first | exact Res.nil | (apply Res.tmp; rfl) | (apply Res.cell; rfl; exact (by repeat (first | exact List.Mem.head _ | apply List.Mem.tail)); rfl; rfl))) rfl (fun W hW => ⟨?_, hW.below⟩)
             unfold acV; rw [ac_ok h0 (by omega) (by omega), h0, hno])
    · have hkl : k = us.length := by omega
      subst hkl
      rw [List.take_length] at hM
      obtain ⟨ul, hul⟩ : ∃ u, us[us.length - 1]? = some u := ⟨_, List.getElem?_eq_getElem (by omega)⟩
      have hml : ul ∈ us := List.mem_of_getElem? hul
      obtain ⟨xl, hxl, hsl⟩ := known_take hM hml
      have hfl := frV_fine (hF xl (List.mem_of_getElem? hxl)) ul.lower
      have hfx := hF xl (List.mem_of_getElem? hxl)
      unfold Lk.Fine at hfx
      obtain ⟨bu, ou, rfl, hcu⟩ := hU (us.length - 1) (usE ul) (by simp [hul])
      obtain ⟨bx, ox, rfl, hcx⟩ := hA ul.link.toNat (lkE xl) (by simp [hxl])
      have heu := ext_of hcu
      rw [show us.length - 1 = ((us.length : Int) - 1).toNat by omega] at heu
      have hex := ext_of hcx
      have hlk := hM ul hml
      have hle : lastEnd l us = (frV xl ul.lower).2.1.toNat := by
        unfold lastEnd
        rw [List.getLast?_eq_getElem?, hul]
        simp only [hsl, frV_ed]
      repeat (first | refine l_val rfl rfl (by first | exact v_sub rfl rfl (by omega) (by omega) | exact pureEval_ok rfl | exact v_load_ext0 rfl (by assumption) rfl (by rfl) | exact v_index rfl rfl rfl rfl (by omega) (by omega) (by with_reducible first | exact idx8 _ _ _  ) ) ?_ | refine l_nil ?_ | refine c_region ?_ | refine c_seq ?_ | refine x_then ?_ | refine r_alloc rfl rfl rfl (by first | exact aggL ) (fun _ => ?_) | refine r_store rfl rfl rfl rfl rfl rfl rfl (by repeat (first | exact Upd.head | apply Upd.tail)) (by rfl) ?_ | refine c_dec_f rfl (by first | omega ) ?_ | refine c_exit ?_ | refine x_then_exit ?_ | refine x_block_same ?_ | refine c_reads rfl (by decide +kernel) ?_ | refine q_val rfl rfl (by first | exact pureEval_ok rfl | exact v_load rfl (by repeat (first | exact List.Mem.head _ | apply List.Mem.tail)) rfl (by rfl) | exact v_load_ext0 rfl (by assumption) rfl (by rfl) | exact v_index rfl rfl rfl rfl (by omega) (by omega) (by with_reducible first | exact idx8 _ _ _  ) ) ?_ )
      refine q_call rfl rfl rfl (fun W hW => From_calls xl ul.lower W (by omega)) ?_
      repeat (first | refine l_val rfl rfl (by first | exact pureEval_ok rfl ) ?_ | refine l_nil ?_ | refine c_region ?_ | refine c_seq ?_ | refine x_then ?_ | refine c_block ?_ | refine q_val rfl rfl (by first | exact pureEval_ok rfl ) ?_ | refine q_nil ?_ )
      refine c_loop (ι := Nat × Int × Int) (fun p => p.1 ≤ us.length ∧ 0 ≤ p.2.1 ∧ run l (lastEnd l us) 0 us = run l p.2.1.toNat p.2.2 (us.drop p.1) ∧ -1099511627776 * (p.1 : Int) ≤ p.2.2 ∧ p.2.2 ≤ 1099511627776 * (p.1 : Int))
        (fun p => [(1, .slice (some ⟨bu, ou, none⟩) us.length capU), (2, .pointer (some ⟨b1, 0, none⟩)), (10, .int .i64 p.2.1), (12, .int .i64 p.2.2), (13, .int .i64 p.1)])
        (fun _ => [(b1, .cells ⟨netCells n (some ⟨bx, ox, none⟩) l.length cap⟩ 24 (0, 0))]) (fun p => us.length - p.1) (0, (frV xl ul.lower).2.1, 0) ⟨by simp only; omega, hfl.2.1, by rw [hle]; rfl, by simp, by simp⟩ (by repeat (first | exact EnvSub.nil | refine EnvSub.cons rfl (by first | rfl | (congr 1; done) | (exact congrArg (Value.int _) (by omega)) | (simp; done)) ?_)) (by repeat (first | exact MSub.nil | refine MSub.keep (by first | rfl | assumption) ?_ | refine MSub.drop ?_ | exact MSub.refl _)) ?_
      rintro ⟨k, at1, sm⟩ ⟨hk2, ha0, hrun, hs1, hs2⟩
      simp only at hk2 ha0 hrun hs1 hs2 ⊢
      by_cases hlt2 : k < us.length
      · obtain ⟨u, hu⟩ : ∃ u, us[k]? = some u := ⟨_, List.getElem?_eq_getElem hlt2⟩
        have hmem : u ∈ us := List.mem_of_getElem? hu
        obtain ⟨x, hx, hst⟩ := known_take hM hmem
        have hfl2 := frV_fine (hF x (List.mem_of_getElem? hx)) u.lower
        have hfx2 := hF x (List.mem_of_getElem? hx)
        unfold Lk.Fine at hfx2
        obtain ⟨bu', ou', e1, hcu2⟩ := hU k (usE u) (by simp [hu])
        cases e1
        obtain ⟨bx', ox', e2, hcx2⟩ := hA u.link.toNat (lkE x) (by simp [hx])
        cases e2
        have heu2 := ext_of hcu2
        have hex2 := ext_of hcx2
        have hlk2 := hM u hmem
        have hdrop : us.drop k = u :: us.drop (k + 1) := by
          rw [List.drop_eq_getElem_cons hlt2]
          rw [List.getElem?_eq_getElem hlt2] at hu
          cases hu; rfl
        rw [hdrop, run_cons hst] at hrun
        obtain ⟨fa, hfa⟩ : ∃ z, (frV x u.lower).1 = z := ⟨_, rfl⟩
        obtain ⟨fb, hfb⟩ : ∃ z, (frV x u.lower).2.1 = z := ⟨_, rfl⟩
        obtain ⟨fw, hfw⟩ : ∃ z, (frV x u.lower).2.2 = z := ⟨_, rfl⟩
        rw [hfa, hfb, hfw] at hrun hfl2
        have hFr := fun W => From_calls x u.lower W (by omega)
        rw [hfa, hfb, hfw] at hFr
        repeat (first | refine l_val rfl rfl (by first | exact pureEval_ok rfl ) ?_ | refine l_nil ?_ | refine c_region ?_ | refine c_seq ?_ | refine x_then ?_ | refine c_dec_t rfl (by first | omega ) ?_ | refine c_block ?_ | refine c_skip ?_ | refine c_reads rfl (by decide +kernel) ?_ | refine q_val rfl rfl (by first | exact pureEval_ok rfl | exact v_load rfl (by repeat (first | exact List.Mem.head _ | apply List.Mem.tail)) rfl (by rfl) | exact v_load_ext0 rfl (by assumption) rfl (by rfl) | exact v_load_ext rfl (by assumption) rfl (by rfl) | exact v_index rfl rfl rfl rfl (by omega) (by omega) (by with_reducible first | exact idx4 _ _ _  | exact idx8 _ _ _  ) ) ?_ )
        refine q_call rfl rfl rfl (fun W hW => hFr W) ?_
        by_cases hat : fa = at1
        · rw [if_pos (by rw [hat])] at hrun
          repeat (first | refine l_val rfl rfl (by first | exact v_add rfl rfl (by omega) (by omega) | exact pureEval_ok rfl ) ?_ | refine l_nil ?_ | refine c_region ?_ | refine c_seq ?_ | refine x_then ?_ | refine c_dec_f rfl (by first | omega ) ?_ | refine c_skip ?_ | refine x_block ?_ | refine q_val rfl rfl (by first | exact pureEval_ok rfl ) ?_ | refine q_nil ?_ )
          refine x_back (k + 1, fb, sm + fw) ⟨hlt2, hfl2.2.1, hrun, by simp only; omega, by simp only; omega⟩ (by simp only; omega) (by repeat (first | exact EnvSub.nil | refine EnvSub.cons rfl (by first | rfl | (congr 1; done) | (exact congrArg (Value.int _) (by omega)) | (simp; done)) ?_)) (by repeat (first | exact MSub.nil | refine MSub.keep (by first | rfl | assumption) ?_ | refine MSub.drop ?_ | exact MSub.refl _))
        · rw [if_neg (by omega)] at hrun
          have hno : accepts l us = false := by unfold accepts; rw [hrun]
          repeat (first | refine l_val rfl rfl (by first | exact pureEval_ok rfl ) ?_ | refine l_nil ?_ | refine c_region ?_ | refine c_seq ?_ | refine x_then ?_ | refine c_dec_t rfl (by first | omega ) ?_ | refine c_ret ?_ | refine x_then_ret ?_ | refine x_block_ret ?_ | refine q_val rfl rfl (by first | exact pureEval_ok rfl ) ?_ | refine q_nil ?_ )
          refine x_ret rfl rfl (by repeat (first | exact Res.nil | (apply Res.tmp; rfl) | (apply Res.cell; rfl; exact (by repeat (first | exact List.Mem.head _ | apply List.Mem.tail)); rfl; rfl))) rfl (fun W hW => ⟨?_, hW.below⟩)
          unfold acV; rw [ac_ok h0 (by omega) (by omega), h0, hno]
      · have hkl2 : k = us.length := by omega
        subst hkl2
        rw [List.drop_length] at hrun
        have hyes : accepts l us = decide (sm < 0) := by unfold accepts; rw [hrun]; rfl
        repeat (first | refine l_val rfl rfl (by first | exact pureEval_ok rfl ) ?_ | refine l_nil ?_ | refine c_region ?_ | refine c_seq ?_ | refine x_then ?_ | refine c_dec_f rfl (by first | omega ) ?_ | refine c_ret ?_ | refine c_exit ?_ | refine x_then_exit ?_ | refine x_block_same ?_ )
        refine x_ret rfl rfl (by repeat (first | exact Res.nil | (apply Res.tmp; rfl) | (apply Res.cell; rfl; exact (by repeat (first | exact List.Mem.head _ | apply List.Mem.tail)); rfl; rfl))) rfl (fun W hW => ⟨?_, hW.below⟩)
        unfold acV; rw [ac_ok h0 (by omega) (by omega), h0, hyes]
end R22
end Go.Proofs

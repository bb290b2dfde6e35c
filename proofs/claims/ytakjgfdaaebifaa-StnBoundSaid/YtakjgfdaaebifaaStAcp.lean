/- Accepts, walked. -/
import Derived.Test.YtakjgfdaaebifaaStRAcc
import Derived.Test.YtakjgfdaaebifaaEng11
set_option linter.unusedSectionVars false
set_option linter.unusedVariables false
set_option linter.unusedSimpArgs false
namespace Go.Proofs
open Go.RowKit Go.Kin Go.Kin.St
namespace R22
theorem eqs_mk {P : Program} {t : TypeId} (h1 : (P.fieldsOf t).toList.all (fun f => f.name != "_") = true) (h2 : P.stoodInHeld t = false) (h3 : P.eqGuardType P.depth t = false) : EqS P t := ⟨h1, h2, h3⟩
theorem eqs56 : EqS Try.prog 56 := eqs_mk (by kernel_rfl) (by kernel_rfl) (by kernel_rfl)
theorem eqs61 : EqS Try.prog 61 := eqs_mk (by kernel_rfl) (by kernel_rfl) (by kernel_rfl)
instance : EqAll Try.prog [56, 61] := ⟨eqs_cons eqs56 (eqs_cons eqs61 eqs_nil)⟩

/-- the map's entries, made from the steps -/
def keyV (s : RS) : Value := .agg ⟨[.int .i64 s.i, .bool s.lower]⟩
def valV (s : RS) : Value := .agg ⟨[.int .i64 s.a, .int .i64 s.b, .int .i64 s.w]⟩
def entsN (rs : List RS) : Nat → List MapEntry
  | 0 => []
  | k + 1 => entsN rs k ++ (match rs[k]? with | some s => [⟨keyV s, valV s, k⟩] | none => [])
def hitB (u : Us) (v : Value) : Bool := (eqV tt [56, 61] 8 56 (.agg ⟨usE u⟩) v).getD false

theorem hit_key (u : Us) (s : RS) : eqV tt [56, 61] 8 56 (.agg ⟨usE u⟩) (keyV s) = some (decide (u.link = s.i) && decide (u.lower = s.lower)) := rfl
theorem hitB_key (u : Us) (s : RS) : hitB u (keyV s) = (decide (u.link = s.i) && decide (u.lower = s.lower)) := rfl
theorem ents_mem {rs : List RS} {k : Nat} {e : MapEntry} (h : e ∈ entsN rs k) : ∃ j s, j < k ∧ rs[j]? = some s ∧ e = ⟨keyV s, valV s, j⟩ := by
  induction k with
  | zero => cases h
  | succ k ih =>
    rcases List.mem_append.1 h with h | h
    · obtain ⟨j, s, h1, h2, h3⟩ := ih h
      exact ⟨j, s, by omega, h2, h3⟩
    · cases hs : rs[k]? with
      | none => rw [hs] at h; cases h
      | some s =>
        rw [hs] at h
        simp only [List.mem_singleton] at h
        exact ⟨k, s, by omega, hs, h⟩
theorem hit_run {rs : List RS} {k : Nat} (u : Us) : ∀ e ∈ entsN rs k, ∀ W : World, (Op.equal 56 (.agg ⟨usE u⟩) e.key).run Try.prog W = .ok (hitB u e.key) W := by
  intro e he W
  obtain ⟨j, s, _, _, rfl⟩ := ents_mem he
  rw [hitB_key]
  exact eq_run (hit_key u s)
theorem findB_app {f : Value → Bool} {xs ys : List MapEntry} {i : Nat} : findB f (xs ++ ys) i = match findB f xs i with | some r => some r | none => findB f ys (i + xs.length) := by
  induction xs generalizing i with
  | nil => rfl
  | cons x xs ih =>
    simp only [List.cons_append, findB]
    cases f x.key with
    | true => rfl
    | false => rw [ih]; simp only [List.length_cons]; rw [show i + 1 + xs.length = i + (xs.length + 1) by omega]
theorem find_none {f : Value → Bool} {xs : List MapEntry} {i : Nat} (h : ∀ e ∈ xs, f e.key = false) : findB f xs i = none := by
  induction xs generalizing i with
  | nil => rfl
  | cons x xs ih => simp only [findB, h x List.mem_cons_self]; exact ih fun e he => h e (List.mem_cons_of_mem _ he)

theorem raw_at {l : List Lk} {k : Nat} {s : RS} (h : (raw l)[k]? = some s) : s.i = k / 2 ∧ s.lower = decide (k % 2 = 1) := by
  have hlen := raw_len l
  have hk : k < (raw l).length := (List.getElem?_eq_some_iff.1 h).1
  have hi : k / 2 < l.length := by omega
  obtain ⟨g1, g2⟩ := raw_get (List.getElem?_eq_getElem hi)
  rcases Nat.mod_two_eq_zero_or_one k with h2 | h2
  · rw [show k = 2 * (k / 2) by omega, g1] at h
    cases h
    exact ⟨rfl, by simp [h2]⟩
  · rw [show k = 2 * (k / 2) + 1 by omega, g2] at h
    cases h
    exact ⟨rfl, by simp [h2]⟩
theorem hit_iff {l : List Lk} {j : Nat} {s : RS} (h : (raw l)[j]? = some s) (u : Us) : hitB u (keyV s) = decide (u = useOf j) := by
  obtain ⟨h1, h2⟩ := raw_at h
  rw [hitB_key, h1, h2]
  obtain ⟨ul, ub⟩ := u
  rw [Bool.eq_iff_iff]
  simp only [useOf, Us.mk.injEq, Bool.and_eq_true, decide_eq_true_eq]
theorem useOf_inj {i j : Nat} (h : useOf i = useOf j) : i = j := by
  simp only [useOf, Us.mk.injEq, decide_eq_decide] at h
  omega

/-- a new key -/
theorem ents_new {l : List Lk} {k : Nat} {s : RS} (h : (raw l)[k]? = some s) : findB (hitB ⟨s.i, s.lower⟩) (entsN (raw l) k) 0 = none := by
  refine find_none fun e he => ?_
  obtain ⟨j, t, hj, ht, rfl⟩ := ents_mem he
  rw [hit_iff ht]
  obtain ⟨h1, h2⟩ := raw_at h
  have hu : (⟨s.i, s.lower⟩ : Us) = useOf k := by simp only [useOf, Us.mk.injEq]; rw [h1, h2]; exact ⟨rfl, rfl⟩
  rw [hu, decide_eq_false]
  intro e
  have := useOf_inj e
  omega
theorem ents_len {l : List Lk} {k : Nat} (h : k ≤ (raw l).length) : (entsN (raw l) k).length = k := by
  induction k with
  | zero => rfl
  | succ k ih =>
    simp only [entsN, List.length_append, ih (by omega)]
    rw [List.getElem?_eq_getElem (show k < (raw l).length by omega)]; rfl

theorem ents_hit {l : List Lk} {k j : Nat} {s : RS} (hj : j < k) (hk : k ≤ (raw l).length) (hs : (raw l)[j]? = some s) : findB (hitB (useOf j)) (entsN (raw l) k) 0 = some (j, valV s) := by
  induction k with
  | zero => omega
  | succ k ih =>
    simp only [entsN]
    rw [findB_app]
    by_cases h : j < k
    · rw [ih h (by omega)]
    · have : j = k := by omega
      subst this
      rw [find_none fun e he => ?_]
      · simp only [hs, findB]
        rw [hit_iff hs, decide_eq_true rfl]
        simp only [ents_len (show j ≤ (raw l).length by omega), Nat.zero_add]
      · obtain ⟨i, t, hi, ht, rfl⟩ := ents_mem he
        rw [hit_iff ht, decide_eq_false]
        intro e
        have := useOf_inj e
        omega

/-- what the map answers -/
def valO (l : List Lk) (u : Us) : Option Ed := stepOf l u
theorem ents_ask {l : List Lk} (u : Us) : (stepOf l u = none ∧ findB (hitB u) (entsN (raw l) (raw l).length) 0 = none) ∨
    ∃ j s x, l[u.link.toNat]? = some x ∧ 0 ≤ u.link ∧ (raw l)[j]? = some s ∧ stepOf l u = some (if u.lower = true then dn x else up x) ∧ s.a = (frV x u.lower).1 ∧ s.b = (frV x u.lower).2.1 ∧ s.w = (frV x u.lower).2.2 ∧ findB (hitB u) (entsN (raw l) (raw l).length) 0 = some (j, valV s) := by
  have hlen := raw_len l
  by_cases h : 0 ≤ u.link ∧ u.link.toNat < l.length
  · obtain ⟨h1, h2⟩ := h
    obtain ⟨x, hx⟩ : ∃ x, l[u.link.toNat]? = some x := ⟨_, List.getElem?_eq_getElem h2⟩
    obtain ⟨g1, g2⟩ := raw_get hx
    have hst : stepOf l u = some (if u.lower = true then dn x else up x) := by
      unfold stepOf
      rw [if_pos h1, hx]; rfl
    obtain ⟨ul, ub⟩ := u
    obtain ⟨n, rfl⟩ : ∃ n : Nat, ul = n := ⟨ul.toNat, by simp only at h1; omega⟩
    simp only [Int.toNat_natCast] at h2 hx g1 g2
    cases ub with
    | false =>
      have hu : useOf (2 * n) = ⟨n, false⟩ := by
        simp only [useOf, Us.mk.injEq]
        refine ⟨by omega, ?_⟩
        rw [decide_eq_false]; omega
      refine .inr ⟨_, _, x, hx, h1, g1, hst, rfl, rfl, rfl, ?_⟩
      rw [← hu]
      exact ents_hit (by omega) (Nat.le_refl _) g1
    | true =>
      have hu : useOf (2 * n + 1) = ⟨n, true⟩ := by
        simp only [useOf, Us.mk.injEq]
        refine ⟨by omega, ?_⟩
        rw [decide_eq_true]; omega
      refine .inr ⟨_, _, x, hx, h1, g2, hst, rfl, rfl, rfl, ?_⟩
      rw [← hu]
      exact ents_hit (by omega) (Nat.le_refl _) g2
  · refine .inl ⟨?_, ?_⟩
    · unfold stepOf
      by_cases h1 : 0 ≤ u.link
      · rw [if_pos h1, List.getElem?_eq_none (by omega)]; rfl
      · rw [if_neg h1]
    · refine find_none fun e he => ?_
      obtain ⟨j, t, hj, ht, rfl⟩ := ents_mem he
      rw [hit_iff ht, decide_eq_false]
      rintro rfl
      simp only [useOf] at h
      omega

theorem Accepts_calls (n : Int) (A U : Option Addr) (cap capU : Nat) (l : List Lk) (us : List Us) (w : World) (hl : l.length ≤ 1000) (hu : us.length ≤ 1000) (hA : At w A 4 (l.map lkE)) (hU : At w U 2 (us.map usE)) :
    Calls Try.prog 14 ⟨[.agg ⟨netCells n A l.length cap⟩, .slice U us.length capU]⟩ w fun e w' => e = .returned (acV n l us) ∧ Below w.heap.size w w' := by
  refine fun_enter Try.func14 rfl Try.ntmps14 rfl rfl (satW_nil w) ?_
  repeat (first | refine l_val rfl rfl (by first | exact pureEval_ok rfl | exact v_load rfl (by repeat (first | exact List.Mem.head _ | apply List.Mem.tail)) rfl (by rfl) ) ?_ | refine l_nil ?_ | refine c_region ?_ | refine c_seq ?_ | refine x_then ?_ | refine r_box rfl rfl rfl rfl (fun _ => ?_) )
  refine r_call rfl rfl rfl (fun W hW => check_calls n A cap l W hl (hA.sat hW)) ?_
  repeat' (first | refine l_val rfl rfl (by first | exact pureEval_ok rfl | exact v_load rfl (by repeat (first | exact List.Mem.head _ | apply List.Mem.tail)) rfl (by rfl) ) ?_ | refine l_nil ?_ | refine c_region ?_ | refine c_seq ?_ | refine x_then ?_ | refine l_skip rfl rfl ?_ | refine r_makeMap rfl rfl (fun _ => ?_) | refine r_alloc rfl rfl rfl (by first | exact aggL ) (fun _ => ?_) | refine r_store rfl rfl rfl rfl rfl rfl rfl (by repeat (first | exact Upd.head | apply Upd.tail)) (by rfl) ?_ | refine c_true rfl ?_ | refine c_skip ?_ | refine c_ret ?_ | refine x_then_ret ?_ | refine l_dec rfl rfl rfl rfl rfl (fun _ => ?_) (fun _ => ?_) | refine c_dec rfl (fun _ => ?_) (fun _ => ?_) )
  · rename_i b1 h0
    refine x_ret rfl rfl (by repeat (first | exact Res.nil | (apply Res.tmp; rfl) | (apply Res.cell; rfl; exact (by repeat (first | exact List.Mem.head _ | apply List.Mem.tail)); rfl; rfl))) rfl (fun W hW => ⟨?_, hW.below⟩)
    unfold acV; rw [ac_bad (.inl h0)]
  · rename_i b1 h0 h1
    have h0 := Decidable.not_not.1 h0
    refine x_ret rfl rfl (by repeat (first | exact Res.nil | (apply Res.tmp; rfl) | (apply Res.cell; rfl; exact (by repeat (first | exact List.Mem.head _ | apply List.Mem.tail)); rfl; rfl))) rfl (fun W hW => ⟨?_, hW.below⟩)
    unfold acV; rw [ac_bad (.inr (by omega)), h0]
  · rename_i b1 h0 h1 h2
    have h0 := Decidable.not_not.1 h0
    refine x_ret rfl rfl (by repeat (first | exact Res.nil | (apply Res.tmp; rfl) | (apply Res.cell; rfl; exact (by repeat (first | exact List.Mem.head _ | apply List.Mem.tail)); rfl; rfl))) rfl (fun W hW => ⟨?_, hW.below⟩)
    unfold acV; rw [ac_bad (.inr (by omega)), h0]
  · rename_i b1 h0 h1 h2 b2 b3
    have h0 := Decidable.not_not.1 h0
    obtain ⟨c1, c2, c3, hF⟩ := chk_fine h0
    refine r_call1 (ι := Nat) (bk := fun b => b) rfl rfl rfl (fun W hW => steps_calls n A l.length cap W) (fun b9 => ?_)
    repeat (first | refine l_nil ?_ | refine x_then ?_ | refine c_block ?_ )
    refine c_range rsE (raw l) (Rd w b9) [(b9, .cells ⟨netCells n A l.length cap⟩ 24 (0, 0))] (ι := Nat) (fun p => p)
      (fun p => p ≤ (raw l).length)
      (fun p => (b3, .cells ⟨[.map (some b2)]⟩ 63 (0, 0)) :: (b2, .map ⟨entsN (raw l) p⟩ p) :: [])
      (fun _ _ => False) 0 rfl (fun W W1 hW hs => it_of hl hA hF c2 hW (by repeat (first | exact List.Mem.head _ | apply List.Mem.tail)) hs) (fun b hb => hb.imp id fun e => by simp [e]) (fun _ _ => rfl) (by decide) rfl (Nat.zero_le _) (by repeat (first | exact MSub.nil | refine MSub.keep (by first | rfl | assumption) ?_ | refine MSub.drop ?_ | exact MSub.refl _))
      (env' := [(6, .pointer (some ⟨b3, 0, none⟩))]) (by repeat (first | exact EnvSub.nil | refine EnvSub.cons rfl (by first | rfl | (congr 1; done) | (exact congrArg (Value.int _) (by omega)) | (simp; done)) ?_)) ?_ ?_ ?_
    · rintro k _ hk m lp W1 hW1 hDl hol
      obtain ⟨s, hs⟩ : ∃ s, (raw l)[k] = s := ⟨_, rfl⟩
      have hs2 : (raw l)[k]? = some s := by rw [List.getElem?_eq_getElem hk, hs]
      rw [hs]
      repeat (first | refine l_nil ?_ | refine c_region ?_ | refine c_seq ?_ | refine x_then ?_ | refine r_alloc rfl rfl rfl (by first | exact aggL ) (fun _ => ?_) | refine r_store rfl rfl rfl rfl rfl rfl rfl (by repeat (first | exact Upd.head | apply Upd.tail)) (by rfl) ?_ )
      refine x_body hW1 hDl hol (fun n2 W2 r hW2 hr2 ho => ?_)
      repeat (first | refine l_val rfl rfl (by first | exact v_load rfl (by repeat (first | exact List.Mem.head _ | apply List.Mem.tail)) rfl (by rfl) ) ?_ | refine c_region ?_ | refine c_block ?_ )
      refine l_do rfl (d_mapNew (hitB ⟨s.i, s.lower⟩) rfl rfl rfl rfl rfl rfl (hit_run ⟨s.i, s.lower⟩) (ents_new hs2) (by repeat (first | exact Upd.head | apply Upd.tail))) ?_
      repeat (first | refine l_nil ?_ | refine x_block ?_ )
      refine x_next (k + 1) rfl hk ?_
      rw [show entsN (raw l) (k + 1) = entsN (raw l) k ++ [⟨keyV s, valV s, k⟩] by simp [entsN, hs2]]
      exact (by repeat (first | exact MSub.nil | refine MSub.keep (by first | rfl | assumption) ?_ | refine MSub.drop ?_ | exact MSub.refl _))
    · rintro B k hk _
      simp only at hk ⊢
      subst hk
      obtain ⟨ul, hul⟩ : ∃ u, us[us.length - 1]? = some u := ⟨_, List.getElem?_eq_getElem (by omega)⟩
      obtain ⟨bu, ou, rfl, hcu⟩ := hU (us.length - 1) (usE ul) (by simp [hul])
      have heu := ext_of hcu
      rw [show us.length - 1 = ((us.length : Int) - 1).toNat by omega] at heu
      obtain ⟨r, at0, hfind, hat0, hle⟩ : ∃ (r : Option (Nat × Value)) (at0 : Int), findB (hitB ul) (entsN (raw l) (raw l).length) 0 = r ∧ 0 ≤ at0 ∧ lastEnd l us = at0.toNat ∧
          (∃ a c : Int, (match r with | some (_, v) => v | none => Value.agg ⟨[.int .i64 0, .int .i64 0, .int .i64 0]⟩) = .agg ⟨[.int .i64 a, .int .i64 at0, .int .i64 c]⟩) := by
        have hg : us.getLast? = some ul := by rw [List.getLast?_eq_getElem?, hul]
        rcases ents_ask (l := l) ul with ⟨hno, hf⟩ | ⟨j, s, x, hx, g0, hs, hst, ea, eb, ew, hf⟩
        · exact ⟨none, 0, hf, by omega, by unfold lastEnd; simp only [hg, hno]; rfl, 0, 0, rfl⟩
        · have hfl := frV_fine (hF x (List.mem_of_getElem? hx)) ul.lower
          exact ⟨some (j, valV s), s.b, hf, by omega, by unfold lastEnd; simp only [hg, hst, frV_ed, eb], s.a, s.w, rfl⟩
      obtain ⟨hle, za, zc, hout⟩ := hle
      repeat (first | refine c_seq ?_ | refine x_then ?_ | refine x_block ?_ | refine c_reads rfl (by decide +kernel) ?_ | refine q_val rfl rfl (by first | exact v_sub rfl rfl (by omega) (by omega) | exact pureEval_ok rfl | exact v_load rfl (by repeat (first | exact List.Mem.head _ | apply List.Mem.tail)) rfl (by rfl) | exact v_load_ext0 rfl (by assumption) rfl (by rfl) | exact v_index rfl rfl rfl rfl (by omega) (by omega) (by with_reducible first | exact idx8 _ _ _  ) ) ?_ )
      refine q_val rfl rfl (v_mapGet (ok := false) (hitB ul) rfl rfl rfl rfl rfl rfl (by repeat (first | exact List.Mem.head _ | apply List.Mem.tail)) (hit_run ul) (by rcases r with _ | ⟨_, _⟩ <;> exact hout) hfind) ?_
      repeat (first | refine l_val rfl rfl (by first | exact pureEval_ok rfl ) ?_ | refine l_nil ?_ | refine c_region ?_ | refine c_seq ?_ | refine x_then ?_ | refine c_block ?_ | refine q_val rfl rfl (by first | exact pureEval_ok rfl ) ?_ | refine q_nil ?_ )
      refine c_loop (ι := Nat × Int × Int) (fun p => p.1 ≤ us.length ∧ 0 ≤ p.2.1 ∧ run l (lastEnd l us) 0 us = run l p.2.1.toNat p.2.2 (us.drop p.1) ∧ -1099511627776 * (p.1 : Int) ≤ p.2.2 ∧ p.2.2 ≤ 1099511627776 * (p.1 : Int))
        (fun p => [(6, .pointer (some ⟨b3, 0, none⟩)), (9, .int .i64 p.2.2), (10, .int .i64 p.2.1), (45, .slice (some ⟨bu, ou, none⟩) us.length capU), (46, .int .i64 us.length), (47, .int .i64 p.1)])
        (fun _ => [(B, .deferred (some [])), (b3, .cells ⟨[.map (some b2)]⟩ 63 (0, 0)), (b2, .map ⟨entsN (raw l) (raw l).length⟩ (raw l).length)]) (fun p => us.length - p.1) (0, at0, 0) ⟨by simp only; omega, hat0, by rw [hle]; rfl, by simp, by simp⟩ (by repeat (first | exact EnvSub.nil | refine EnvSub.cons rfl (by first | rfl | (congr 1; done) | (exact congrArg (Value.int _) (by omega)) | (simp; done)) ?_)) (by repeat (first | exact MSub.nil | refine MSub.keep (by first | rfl | assumption) ?_ | refine MSub.drop ?_ | exact MSub.refl _)) ?_
      rintro ⟨k, at1, sm⟩ ⟨hk2, ha0, hrun, hs1, hs2⟩
      simp only at hk2 ha0 hrun hs1 hs2 ⊢
      by_cases hlt2 : k < us.length
      · obtain ⟨u, hu2⟩ : ∃ u, us[k]? = some u := ⟨_, List.getElem?_eq_getElem hlt2⟩
        obtain ⟨bu', ou', e1, hcu2⟩ := hU k (usE u) (by simp [hu2])
        cases e1
        have heu2 := ext_of hcu2
        have hdrop : us.drop k = u :: us.drop (k + 1) := by
          rw [List.drop_eq_getElem_cons hlt2]
          rw [List.getElem?_eq_getElem hlt2] at hu2
          cases hu2; rfl
        rw [hdrop] at hrun
        rcases ents_ask (l := l) u with ⟨hno, hf⟩ | ⟨j, s, x, hx, g0, hs, hst, ea, eb, ew, hf⟩
        · have hno2 : accepts l us = false := by
            unfold accepts; rw [hrun]; simp only [run, hno]
          repeat (first | refine l_val rfl rfl (by first | exact pureEval_ok rfl | exact v_load rfl (by repeat (first | exact List.Mem.head _ | apply List.Mem.tail)) rfl (by rfl) | exact v_load_ext0 rfl (by assumption) rfl (by rfl) | exact v_index rfl rfl rfl rfl (by omega) (by omega) (by with_reducible first | exact idx4 _ _ _  ) ) ?_ | refine l_nil ?_ | refine c_region ?_ | refine c_seq ?_ | refine x_then ?_ | refine r_alloc rfl rfl rfl (by first | exact aggL ) (fun _ => ?_) | refine r_store rfl rfl rfl rfl rfl rfl rfl (by repeat (first | exact Upd.head | apply Upd.tail)) (by rfl) ?_ | refine c_dec_t rfl (by first | omega ) ?_ | refine c_block ?_ | refine c_skip ?_ )
          refine l_val rfl rfl (v_mapGet (ok := true) (hitB u) rfl rfl rfl rfl rfl rfl (by repeat (first | exact List.Mem.head _ | apply List.Mem.tail)) (hit_run u) rfl hf) ?_
          repeat (first | refine l_val rfl rfl (by first | exact pureEval_ok rfl ) ?_ | refine l_nil ?_ | refine c_region ?_ | refine c_seq ?_ | refine x_then ?_ | refine l_skip rfl rfl ?_ | refine r_alloc rfl rfl rfl (by first | exact aggL ) (fun _ => ?_) | refine r_store rfl rfl rfl rfl rfl rfl rfl (by repeat (first | exact Upd.head | apply Upd.tail)) (by rfl) ?_ | refine c_true rfl ?_ | refine c_ret ?_ | refine x_then_ret ?_ | refine x_block_ret ?_ )
          refine x_rets (Ds := [B]) rfl rfl (by repeat (first | exact Split.nil | exact Split.all | apply Split.mark | apply Split.keep)) rfl (by repeat (first | exact Res.nil | (apply Res.tmp; rfl) | (apply Res.cell; rfl; exact (by repeat (first | exact List.Mem.head _ | apply List.Mem.tail)); rfl; rfl))) rfl (fun W hW => ⟨?_, hW.below⟩)
          unfold acV; rw [ac_ok h0 (by omega) (by omega), h0, hno2]
        · have hfl2 := frV_fine (hF x (List.mem_of_getElem? hx)) u.lower
          rw [run_cons hst, ← ea, ← eb, ← ew] at hrun
          rw [← ea, ← eb, ← ew] at hfl2
          repeat (first | refine l_val rfl rfl (by first | exact pureEval_ok rfl | exact v_load rfl (by repeat (first | exact List.Mem.head _ | apply List.Mem.tail)) rfl (by rfl) | exact v_load_ext0 rfl (by assumption) rfl (by rfl) | exact v_index rfl rfl rfl rfl (by omega) (by omega) (by with_reducible first | exact idx4 _ _ _  ) ) ?_ | refine l_nil ?_ | refine c_region ?_ | refine c_seq ?_ | refine x_then ?_ | refine r_alloc rfl rfl rfl (by first | exact aggL ) (fun _ => ?_) | refine r_store rfl rfl rfl rfl rfl rfl rfl (by repeat (first | exact Upd.head | apply Upd.tail)) (by rfl) ?_ | refine c_dec_t rfl (by first | omega ) ?_ | refine c_block ?_ | refine c_skip ?_ )
          refine l_val rfl rfl (v_mapGet (ok := true) (hitB u) rfl rfl rfl rfl rfl rfl (by repeat (first | exact List.Mem.head _ | apply List.Mem.tail)) (hit_run u) rfl hf) ?_
          by_cases hat : s.a = at1
          · rw [if_pos (by rw [hat])] at hrun
            repeat (first | refine l_val rfl rfl (by first | exact v_add rfl rfl (by omega) (by omega) | exact pureEval_ok rfl | exact v_load rfl (by repeat (first | exact List.Mem.head _ | apply List.Mem.tail)) rfl (by rfl) ) ?_ | refine l_nil ?_ | refine c_region ?_ | refine c_seq ?_ | refine x_then ?_ | refine r_alloc rfl rfl rfl (by first | exact aggL ) (fun _ => ?_) | refine r_store rfl rfl rfl rfl rfl rfl rfl (by repeat (first | exact Upd.head | apply Upd.tail)) (by rfl) ?_ | refine c_dec_f rfl (by first | omega ) ?_ | refine c_skip ?_ | refine x_block ?_ | refine c_reads rfl (by decide +kernel) ?_ | refine q_val rfl rfl (by first | exact v_add rfl rfl (by omega) (by omega) | exact pureEval_ok rfl | exact v_load rfl (by repeat (first | exact List.Mem.head _ | apply List.Mem.tail)) rfl (by rfl) ) ?_ | refine q_nil ?_ )
            refine x_back (k + 1, s.b, sm + s.w) ⟨hlt2, hfl2.2.1, hrun, by simp only; omega, by simp only; omega⟩ (by simp only; omega) (by repeat (first | exact EnvSub.nil | refine EnvSub.cons rfl (by first | rfl | (congr 1; done) | (exact congrArg (Value.int _) (by omega)) | (simp; done)) ?_)) (by repeat (first | exact MSub.nil | refine MSub.keep (by first | rfl | assumption) ?_ | refine MSub.drop ?_ | exact MSub.refl _))
          · rw [if_neg (by omega)] at hrun
            have hno : accepts l us = false := by unfold accepts; rw [hrun]
            repeat (first | refine l_val rfl rfl (by first | exact pureEval_ok rfl | exact v_load rfl (by repeat (first | exact List.Mem.head _ | apply List.Mem.tail)) rfl (by rfl) ) ?_ | refine l_nil ?_ | refine c_region ?_ | refine c_seq ?_ | refine x_then ?_ | refine r_alloc rfl rfl rfl (by first | exact aggL ) (fun _ => ?_) | refine r_store rfl rfl rfl rfl rfl rfl rfl (by repeat (first | exact Upd.head | apply Upd.tail)) (by rfl) ?_ | refine c_dec_t rfl (by first | omega ) ?_ | refine c_ret ?_ | refine x_then_ret ?_ | refine x_block_ret ?_ )
            refine x_rets (Ds := [B]) rfl rfl (by repeat (first | exact Split.nil | exact Split.all | apply Split.mark | apply Split.keep)) rfl (by repeat (first | exact Res.nil | (apply Res.tmp; rfl) | (apply Res.cell; rfl; exact (by repeat (first | exact List.Mem.head _ | apply List.Mem.tail)); rfl; rfl))) rfl (fun W hW => ⟨?_, hW.below⟩)
            unfold acV; rw [ac_ok h0 (by omega) (by omega), h0, hno]
      · have hkl2 : k = us.length := by omega
        subst hkl2
        rw [List.drop_length] at hrun
        have hyes : accepts l us = decide (sm < 0) := by unfold accepts; rw [hrun]; rfl
        repeat (first | refine l_val rfl rfl (by first | exact pureEval_ok rfl ) ?_ | refine l_nil ?_ | refine c_region ?_ | refine c_seq ?_ | refine x_then ?_ | refine c_dec_f rfl (by first | omega ) ?_ | refine c_ret ?_ | refine c_exit ?_ | refine x_then_exit ?_ | refine x_block_same ?_ )
        refine x_rets (Ds := [B]) rfl rfl (by repeat (first | exact Split.nil | exact Split.all | apply Split.mark | apply Split.keep)) rfl (by repeat (first | exact Res.nil | (apply Res.tmp; rfl) | (apply Res.cell; rfl; exact (by repeat (first | exact List.Mem.head _ | apply List.Mem.tail)); rfl; rfl))) rfl (fun W hW => ⟨?_, hW.below⟩)
        unfold acV; rw [ac_ok h0 (by omega) (by omega), h0, hyes]
    · intro B c i h
      exact h.elim
end R22
end Go.Proofs

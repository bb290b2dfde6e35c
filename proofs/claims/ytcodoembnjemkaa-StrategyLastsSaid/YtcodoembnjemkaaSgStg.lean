/- Games on networks: few positions. -/
import Derived.Test.YtcodoembnjemkaaSgInto
import Derived.Test.YtcodoembnjemkaaSgFd
import Derived.Test.YtcodoembnjemkaaCtMath
import Derived.Test.YtcodoembnjemkaaSgPc
set_option linter.unusedSectionVars false
set_option linter.unusedVariables false
set_option linter.unusedSimpArgs false
namespace Go.Proofs
open Go.RowKit Go.Kin Go.Kin.St Go.Kin.Ct Go.Kin.Sg
namespace R24
def kF (n T : Int) : Nat := if 1 ≤ T ∧ T ≤ 15 then (T.toNat + 2) ^ (min n.toNat 7) else 1
open Classical in
noncomputable def fwB (n : Int) (L C : List Lk) (T : Int) : Bool := R23.fewB n L.length C.length && decide (kF n T ≤ 3000 ∨ chkS n L C T ≠ 0)
theorem pow17 {T k : Nat} (hT : T ≤ 15) (hk : k ≤ 7) : (T + 2) ^ k ≤ 410338673 :=
  Nat.le_trans (Nat.pow_le_pow_left (show T + 2 ≤ 17 by omega) k) (Nat.le_trans (Nat.pow_le_pow_right (by omega) hk) (by decide))
theorem powS2 {T k : Nat} : (((T + 2) ^ k : Nat) : Int) * ((T : Int) + 2) = (((T + 2) ^ (k + 1) : Nat) : Int) := by rw [Nat.pow_succ]; push_cast; rfl
theorem fewB_len {n : Int} {l c : Nat} (h : R23.fewB n l c = true) : l ≤ 300 ∧ c ≤ 300 := by unfold R23.fewB at h; have := of_decide_eq_true h; omega
theorem fwB_ok {n : Int} {L C : List Lk} {T : Int} (h : fwB n L C T = true) : L.length ≤ 300 ∧ C.length ≤ 300 ∧ (chkS n L C T = 0 → (T.toNat + 2) ^ n.toNat ≤ 3000) := by
  unfold fwB at h
  rw [Bool.and_eq_true] at h
  obtain ⟨h1, h2⟩ := fewB_len h.1
  refine ⟨h1, h2, fun h0 => ?_⟩
  rcases of_decide_eq_true h.2 with h3 | h3
  · obtain ⟨_, t1, t2, n6, _⟩ := chkS_ok h0
    unfold kF at h3
    rw [if_pos ⟨t1, t2⟩, show min n.toNat 7 = n.toNat by omega] at h3
    exact h3
  · exact absurd h0 h3
set_option maxRecDepth 100000 in
set_option maxHeartbeats 80000000 in
theorem FewS_calls (u : R23.Un) (T : Int) (w : World) (hA : u.In w) :
    Calls Try.prog 9 ⟨[.agg ⟨u.v⟩, .int .i64 T]⟩ w fun e w' => e = .returned (.bool (fwB u.n u.L u.C T)) ∧ Below w.heap.size w w' := by
  have hfw : ∀ (mem : List (Nat × Obj)) (W : World), SatW w (base w) noJ mem W → Calls Try.prog 25 ⟨[.agg ⟨u.v⟩]⟩ W fun e w' => e = .returned (.bool (R23.fewB u.n u.L.length u.C.length)) ∧ Below W.heap.size W w' := fun mem W hW => R23.Few_calls u W
  have hck : R23.fewB u.n u.L.length u.C.length = true → ∀ (mem : List (Nat × Obj)) (W : World), SatW w (base w) noJ mem W → Calls Try.prog 14 ⟨[.agg ⟨u.v⟩, .int .i64 T]⟩ W fun e w' => e = .returned (.int .i64 (chkS u.n u.L u.C T)) ∧ Below W.heap.size W w' := fun hf mem W hW => by
    obtain ⟨h1, h2⟩ := fewB_len hf
    exact CheckR_calls u T W (hA.sat hW) (by omega) (by omega)
  obtain ⟨n, A, cap, L, B, cab, C⟩ := u
  simp only [R23.Un.v] at hfw hck ⊢
  refine fun_enter Try.func9 rfl Try.ntmps9 rfl rfl (satW_nil w) ?_
  repeat (first | refine l_val rfl rfl (by first | exact pureEval_ok rfl | exact v_load rfl (by repeat (first | exact List.Mem.head _ | apply List.Mem.tail)) rfl (by rfl)  | fail) ?_ | refine l_nil ?_ | refine c_region ?_ | refine c_seq ?_ | refine x_then ?_ | refine r_box rfl rfl rfl rfl (fun _ => ?_)  | fail)
  refine r_call rfl rfl rfl (fun W hW => hfw _ W hW) ?_
  cases hf : R23.fewB n L.length C.length with
  | false =>
    have hv : fwB n L C T = false := by unfold fwB; rw [hf]; rfl
    rw [hv]
    repeat (first | refine l_val rfl rfl (by first | exact pureEval_ok rfl  | fail) ?_ | refine l_nil ?_ | refine c_region ?_ | refine c_seq ?_ | refine x_then ?_ | refine c_true rfl ?_ | refine c_ret ?_ | refine x_then_ret ?_  | fail)
    exact x_ret rfl rfl (by repeat (first | exact Res.nil | (apply Res.tmp; rfl) | (apply Res.cell; rfl; exact (by repeat (first | exact List.Mem.head _ | apply List.Mem.tail)); rfl; rfl))) rfl (fun W hW => ⟨rfl, hW.below⟩)
  | true =>
    have hck := hck hf
    repeat (first | refine l_val rfl rfl (by first | exact pureEval_ok rfl  | fail) ?_ | refine l_nil ?_ | refine c_region ?_ | refine c_seq ?_ | refine x_then ?_ | refine c_false rfl ?_ | refine c_block ?_ | refine c_skip ?_  | fail)
    rename_i b2
    obtain ⟨M, hM⟩ : ∃ M, (if 1 ≤ T ∧ T ≤ 15 then min n.toNat 7 else 0) = M := ⟨_, rfl⟩
    have hM7 : M ≤ 7 := by rw [← hM]; split <;> omega
    obtain ⟨t, ht⟩ : ∃ t : Nat, (if 1 ≤ T ∧ T ≤ 15 then T.toNat else 0) = t := ⟨_, rfl⟩
    have ht15 : t ≤ 15 := by rw [← ht]; split <;> omega
    have hkF : kF n T = (t + 2) ^ M := by
      unfold kF
      by_cases hT : 1 ≤ T ∧ T ≤ 15
      · rw [if_pos hT] at hM ht
        rw [if_pos hT, hM, ht]
      · rw [if_neg hT] at hM
        rw [if_neg hT, ← hM, Nat.pow_zero]
    refine c_loop (ι := Nat) (fun k => k ≤ M) (fun k => [(1, .int .i64 T), (2, .pointer (some ⟨b2, 0, none⟩)), (6, .int .i64 (((t + 2) ^ k : Nat) : Int)), (7, .int .i64 k)]) (fun _ => [(b2, .cells ⟨[.int .i64 n, .slice A L.length cap, .slice B C.length cab]⟩ 24 (0, 0))]) (fun k => M - k) 0 (Nat.zero_le _) (by repeat (first | exact EnvSub.nil | refine EnvSub.cons rfl (by first | rfl | (congr 1; done) | (exact congrArg (Value.int _) (by omega)) | (simp; done)) ?_)) (by repeat (first | exact MSub.nil | refine MSub.keep (by first | rfl | assumption) ?_ | refine MSub.drop ?_ | exact MSub.refl _)) ?_
    intro k hk
    have hp1 := pow17 (T := t) (k := k) ht15 (by omega)
    by_cases hlt : k < M
    · have hp2 := pow17 (T := t) (k := k + 1) ht15 (by omega)
      have hps := powS2 (T := t) (k := k)
      have hT : 1 ≤ T ∧ T ≤ 15 := by
        by_cases h : 1 ≤ T ∧ T ≤ 15
        · exact h
        · rw [if_neg h] at hM; omega
      rw [if_pos hT] at hM ht
      have hTt : T = (t : Int) := by omega
      obtain ⟨hT1, hT2⟩ := hT
      subst hTt
      have hkn : (k : Int) < n := by omega
      repeat (first | refine l_val rfl rfl (by first | exact v_add rfl rfl (by omega) (by omega) | exact v_mul rfl rfl (by omega) (by omega) | exact pureEval_ok rfl | exact v_load rfl (by repeat (first | exact List.Mem.head _ | apply List.Mem.tail)) rfl (by rfl)  | fail) ?_ | refine l_nil ?_ | refine c_region ?_ | refine c_seq ?_ | refine x_then ?_ | refine c_dec_t rfl (by first | omega  | fail) ?_ | refine c_block ?_ | refine c_skip ?_ | refine x_block ?_ | refine l_dec_t rfl rfl rfl rfl rfl (by first | omega  | fail) ?_  | fail)
      rw [hps]
      exact x_back (k + 1) hlt (by omega) (by repeat (first | exact EnvSub.nil | refine EnvSub.cons rfl (by first | rfl | (congr 1; done) | (exact congrArg (Value.int _) (by omega)) | (simp; done)) ?_)) (by repeat (first | exact MSub.nil | refine MSub.keep (by first | rfl | assumption) ?_ | refine MSub.drop ?_ | exact MSub.refl _))
    have hkM : k = M := by omega
    subst hkM
    have hcase : ¬ ((k : Int) < n) ∨ ((k : Int) < n ∧ 6 < (k : Int)) ∨ ((k : Int) < n ∧ (k : Int) ≤ 6 ∧ T < 1) ∨ ((k : Int) < n ∧ (k : Int) ≤ 6 ∧ 1 ≤ T ∧ 15 < T) := by
      by_cases hT : 1 ≤ T ∧ T ≤ 15
      · rw [if_pos hT] at hM; omega
      · omega
    have hkt : ∀ {X : Prop}, ((((t + 2) ^ k : Nat) : Int) ≤ 3000 ∨ X) → (kF n T ≤ 3000 ∨ X) := fun h => h.imp_left fun h => by rw [hkF]; omega
    by_cases h3 : (((t + 2) ^ k : Nat) : Int) ≤ 3000
    · have hv : fwB n L C T = true := by
        unfold fwB; rw [hf, Bool.true_and]; exact decide_eq_true (hkt (.inl h3))
      rw [hv]
      rcases hcase with q1 | ⟨q1, q2⟩ | ⟨q1, q2, q3⟩ | ⟨q1, q2, q3, q4⟩
      all_goals
        repeat (first | refine l_val rfl rfl (by first | exact pureEval_ok rfl | exact v_load rfl (by repeat (first | exact List.Mem.head _ | apply List.Mem.tail)) rfl (by rfl)  | fail) ?_ | refine l_nil ?_ | refine c_region ?_ | refine c_seq ?_ | refine x_then ?_ | refine l_skip rfl rfl ?_ | refine c_false rfl ?_ | refine c_dec_f rfl (by first | omega  | fail) ?_ | refine c_ret ?_ | refine c_exit ?_ | refine x_then_exit ?_ | refine x_block_same ?_ | refine l_dec_t rfl rfl rfl rfl rfl (by first | omega  | fail) ?_ | refine l_dec_f rfl rfl rfl rfl rfl (by first | omega  | fail) ?_  | fail)
        exact x_ret rfl rfl (by repeat (first | exact Res.nil | (apply Res.tmp; rfl) | (apply Res.cell; rfl; exact (by repeat (first | exact List.Mem.head _ | apply List.Mem.tail)); rfl; rfl))) rfl (fun W hW => ⟨rfl, hW.below⟩)
    · have hv : fwB n L C T = decide (chkS n L C T ≠ 0) := by
        unfold fwB; rw [hf, Bool.true_and, Bool.eq_iff_iff, decide_eq_true_iff, decide_eq_true_iff]
        constructor
        · rintro (h | h)
          · rw [hkF] at h; omega
          · exact h
        · exact fun h => .inr h
      rw [hv]
      rcases hcase with q1 | ⟨q1, q2⟩ | ⟨q1, q2, q3⟩ | ⟨q1, q2, q3, q4⟩
      all_goals
        repeat (first | refine l_val rfl rfl (by first | exact pureEval_ok rfl | exact v_load rfl (by repeat (first | exact List.Mem.head _ | apply List.Mem.tail)) rfl (by rfl)  | fail) ?_ | refine l_nil ?_ | refine c_region ?_ | refine c_seq ?_ | refine x_then ?_ | refine l_skip rfl rfl ?_ | refine c_false rfl ?_ | refine c_dec_f rfl (by first | omega  | fail) ?_ | refine c_exit ?_ | refine x_then_exit ?_ | refine x_block_same ?_ | refine l_dec_t rfl rfl rfl rfl rfl (by first | omega  | fail) ?_ | refine l_dec_f rfl rfl rfl rfl rfl (by first | omega  | fail) ?_  | fail)
        refine r_call rfl rfl rfl (fun W hW => hck _ W hW) ?_
        repeat (first | refine l_val rfl rfl (by first | exact pureEval_ok rfl  | fail) ?_ | refine l_nil ?_ | refine x_then ?_ | refine c_ret ?_  | fail)
        exact x_ret rfl rfl (by repeat (first | exact Res.nil | (apply Res.tmp; rfl) | (apply Res.cell; rfl; exact (by repeat (first | exact List.Mem.head _ | apply List.Mem.tail)); rfl; rfl))) rfl (fun W hW => ⟨rfl, hW.below⟩)
end R24
end Go.Proofs

set_option linter.unusedSectionVars false
set_option linter.unusedVariables false
set_option linter.unusedSimpArgs false
namespace Go.Proofs
open Go.RowKit Go.Kin Go.Kin.St Go.Kin.Ct Go.Kin.Sg
namespace R24
theorem winsV_no {n : Int} {L C : List Lk} {T : Int} {rows : List DW} (h : rdC n L C T rows ≠ 0) : winsV n L C T rows = .tuple ⟨[.bool false, .int .i64 (rdC n L C T rows)]⟩ := if_pos h
theorem winsV_yes {n T : Nat} {L C : List Lk} {rows : List DW} (h : rdC n L C T rows = 0) : winsV n L C T rows = .tuple ⟨[.bool (wnG ⟨n, T, L, C⟩ rows), .int .i64 0]⟩ := by
  unfold winsV; rw [if_neg (fun g => g h), Int.toNat_natCast, Int.toNat_natCast]
theorem spoilsV_yes {n T : Nat} {L C : List Lk} {rows : List DW} (h : rdC n L C T rows = 0) : spoilsV n L C T rows = .tuple ⟨[.bool (spG ⟨n, T, L, C⟩ rows), .int .i64 0]⟩ := by
  unfold spoilsV; rw [if_neg (fun g => g h), Int.toNat_natCast, Int.toNat_natCast]
theorem rdC_small {n : Int} {L C : List Lk} {T : Int} {rows : List DW} (h : rdC n L C T rows = 0) : rows.length ≤ 10000000 ∧ ∀ r ∈ rows, r.l.length ≤ 1000 ∧ r.d.length ≤ 1000 := by
  obtain ⟨h0, hok⟩ := rdC_ok h
  obtain ⟨_, t1, t2, n6, _⟩ := chkS_ok h0
  refine ⟨?_, fun r hr => ?_⟩
  · by_cases h2 : 4096 < rows.length
    · rw [rdC_2 h0 h2] at h; cases h
    · omega
  · obtain ⟨i, hi, rfl⟩ := List.mem_iff_getElem.1 hr
    have ho := hok i _ (List.getElem?_eq_getElem hi)
    have hinc := toN_inc ho.o
    have hl := nodup_lt (m := n.toNat) (l := toN rows[i].d) (hinc.imp fun h => Nat.ne_of_lt h) (fun x hx => by
      unfold toN at hx
      obtain ⟨y, hy, rfl⟩ := List.mem_map.1 hx
      obtain ⟨j, hj, rfl⟩ := List.mem_iff_getElem.1 hy
      have := pv_inc ho.o (List.getElem?_eq_getElem hj)
      omega)
    have hll := ho.l
    unfold toN at hl
    rw [List.length_map] at hl
    omega
end R24
end Go.Proofs

set_option linter.unusedSectionVars false
set_option linter.unusedVariables false
set_option linter.unusedSimpArgs false
namespace Go.Proofs
open Go.RowKit Go.Kin Go.Kin.St Go.Kin.Ct Go.Kin.Sg
namespace R24
theorem sol_no {n T : Nat} {L C : List Lk} {good : Prop} {ad : Pos → List Dec} {nx : Pos → List Pos} {w w' : World} {e : Ending} (hv : ¬ good) (h : SolQ n T L C good ad nx w e w') : e = .returned (noS 0) ∧ Below w.heap.size w w' := by
  obtain ⟨g1, g2⟩ := h
  rcases g2 with ⟨_, g3⟩ | ⟨g3, _⟩
  · exact ⟨g3, g1⟩
  · exact absurd g3 hv
theorem sol_yes {n T : Nat} {L C : List Lk} {good : Prop} {ad : Pos → List Dec} {nx : Pos → List Pos} {w w' : World} {e : Ending} (hv : good) (h : SolQ n T L C good ad nx w e w') :
    ∃ i : { i : SolI // i.OK ⟨n, T, L, C⟩ ad nx }, e = .returned (yesS i.1) ∧ Below w.heap.size w w' ∧ (i.1.m.map (·.1)).Nodup ∧ ∀ p ∈ i.1.m, w.heap.size ≤ p.1 ∧ w'.heap[p.1]? = some p.2 := by
  obtain ⟨g1, g2⟩ := h
  rcases g2 with ⟨g3, _⟩ | ⟨_, i, g4, g5, g6, g7⟩
  · exact absurd hv g3
  · exact ⟨⟨i, g4⟩, g5, g1, g6, g7⟩
theorem un_in {w0 W : World} {D : Nat → Prop} {J : (Nat → Prop) → World → Prop} {mem : List (Nat × Obj)} {b1 b2 : Nat} {x y : Lk} (n : Int) (hW : SatW w0 D J mem W) (m1 : (b1, Obj.cells ⟨lkE x⟩ 43 (0, 0)) ∈ mem) (m2 : (b2, Obj.cells ⟨lkE y⟩ 43 (0, 0)) ∈ mem) :
    (R23.Un.mk n (some ⟨b1, 0, none⟩) 1 [x] (some ⟨b2, 0, none⟩) 1 [y]).In W := by
  have key : ∀ {b : Nat} {z : Lk}, (b, Obj.cells ⟨lkE z⟩ 43 (0, 0)) ∈ mem → At W (some ⟨b, 0, none⟩) 4 ([z].map lkE) := fun {b z} hm i cs hi => by
    cases i with
    | succ i => simp at hi
    | zero =>
      simp only [List.map_cons, List.map_nil, List.getElem?_cons_zero, Option.some.injEq] at hi
      subst hi
      refine ⟨b, 0, rfl, fun j v hj => ?_⟩
      rw [show 0 + 0 * 4 + j = j by omega, hW.cellAt hm]
      exact hj
  exact ⟨key m1, key m2⟩
theorem un_nil (n : Int) (W : World) : (R23.Un.mk n none 0 [] none 0 []).In W := ⟨fun i r h => by simp at h, fun i r h => by simp at h⟩
theorem str_nil (W : World) : StrIn W none [] := ⟨fun i r h => (by simp at h), fun r hr => (by cases hr), fun r hr => (by cases hr)⟩
theorem int_at {w0 W : World} {D : Nat → Prop} {J : (Nat → Prop) → World → Prop} {mem : List (Nat × Obj)} {b : Nat} {v : Int} (hW : SatW w0 D J mem W) (hm : (b, Obj.cells ⟨[.int .i64 v]⟩ 3 (0, 0)) ∈ mem) : At W (some ⟨b, 0, none⟩) 1 ([v].map inE) := fun i cs hi => by
  cases i with
  | succ i => simp at hi
  | zero =>
    simp only [List.map_cons, List.map_nil, List.getElem?_cons_zero, Option.some.injEq] at hi
    subst hi
    refine ⟨b, 0, rfl, fun j u hj => ?_⟩
    rw [show 0 + 0 * 1 + j = j by omega, hW.cellAt hm]
    exact hj
theorem list_at {w0 W : World} {D : Nat → Prop} {J : (Nat → Prop) → World → Prop} {mem : List (Nat × Obj)} {b : Nat} {l : List Int} (r : List Value) {T : TypeId} {fr : Nat × Nat} (hW : SatW w0 D J mem W) (hm : (b, Obj.cells ⟨flI l ++ r⟩ T fr) ∈ mem) : At W (some ⟨b, 0, none⟩) 1 (l.map inE) := fun i cs hi => by
  rw [List.getElem?_map] at hi
  obtain ⟨x, hx, rfl⟩ := Option.map_eq_some_iff.1 hi
  refine ⟨b, 0, rfl, fun j v hj => ?_⟩
  cases j with
  | succ j => cases hj
  | zero =>
    cases hj
    rw [show 0 + i * 1 + 0 = i by omega, hW.cellAt hm]
    exact flI_get hx _
theorem str_one {w0 W : World} {D : Nat → Prop} {J : (Nat → Prop) → World → Prop} {mem : List (Nat × Obj)} {b b1 b2 : Nat} (hW : SatW w0 D J mem W) (hm : (b, Obj.cells ⟨[.int .i64 0, .slice (some ⟨b1, 0, none⟩) 1 1, .slice (some ⟨b2, 0, none⟩) 1 1]⟩ 57 (0, 0)) ∈ mem) (h1 : (b1, Obj.cells ⟨[.int .i64 0]⟩ 3 (0, 0)) ∈ mem) (h2 : (b2, Obj.cells ⟨[.int .i64 0]⟩ 3 (0, 0)) ∈ mem) :
    StrIn W (some ⟨b, 0, none⟩) [row1 (some ⟨b1, 0, none⟩) (some ⟨b2, 0, none⟩)] := by
  refine ⟨fun i cs hi => ?_, fun r hr => ?_, fun r hr => ?_⟩
  · cases i with
    | succ i => simp at hi
    | zero =>
      simp only [List.map_cons, List.map_nil, List.getElem?_cons_zero, Option.some.injEq] at hi
      subst hi
      refine ⟨b, 0, rfl, fun j u hj => ?_⟩
      rw [show 0 + 0 * 3 + j = j by omega, hW.cellAt hm]
      exact hj
  · rw [List.mem_singleton.1 hr]; exact int_at hW h1
  · rw [List.mem_singleton.1 hr]; exact int_at hW h2
theorem checkS_at {u : R23.Un} {T v : Int} {w : World} (h : chkS u.n u.L u.C T = v) (hA : u.In w) (hl : u.L.length ≤ 1000) (hc : u.C.length ≤ 1000) : Calls Try.prog 13 ⟨[.agg ⟨u.v⟩, .int .i64 T]⟩ w fun e w' => e = .returned (.int .i64 v) ∧ Below w.heap.size w w' := by
  subst h; exact CheckS_calls u T w hA hl hc
theorem wins_at {u : R23.Un} {T : Int} {S : Option Addr} {cs : Nat} {rows : List DW} {w : World} {v : Value} (h : winsV u.n u.L u.C T rows = v) (hA : u.In w) (hl : u.L.length ≤ 1000) (hc : u.C.length ≤ 1000) (hS : StrIn w S rows) (hrl : rows.length ≤ 10000000) (hdl : ∀ r ∈ rows, r.l.length ≤ 1000 ∧ r.d.length ≤ 1000) :
    Calls Try.prog 18 ⟨[.agg ⟨u.v⟩, .int .i64 T, .slice S rows.length cs]⟩ w fun e w' => e = .returned v ∧ Below w.heap.size w w' := by
  subst h; exact Wins_calls u T S cs rows w hA hl hc hS hrl hdl
theorem spoils_at {u : R23.Un} {T : Int} {S : Option Addr} {cs : Nat} {rows : List DW} {w : World} {v : Value} (h : spoilsV u.n u.L u.C T rows = v) (hA : u.In w) (hl : u.L.length ≤ 1000) (hc : u.C.length ≤ 1000) (hS : StrIn w S rows) (hrl : rows.length ≤ 10000000) (hdl : ∀ r ∈ rows, r.l.length ≤ 1000 ∧ r.d.length ≤ 1000) :
    Calls Try.prog 19 ⟨[.agg ⟨u.v⟩, .int .i64 T, .slice S rows.length cs]⟩ w fun e w' => e = .returned v ∧ Below w.heap.size w w' := by
  subst h; exact Spoils_calls u T S cs rows w hA hl hc hS hrl hdl
set_option maxRecDepth 100000 in
set_option maxHeartbeats 400000000 in
theorem sane_calls (w : World) : Calls Try.prog 8 ⟨[]⟩ w fun e w' => e = .returned (.bool true) ∧ Below w.heap.size w w' := by
  refine fun_enter Try.func8 rfl Try.ntmps8 rfl rfl (satW_nil w) ?_
  repeat (first | refine r_alloc rfl rfl rfl rfl (fun _ => ?_) | refine l_val rfl rfl (by first | exact pureEval_ok rfl | exact v_build rfl rfl (by rfl)  | fail) ?_ | refine l_nil ?_ | refine c_region ?_ | refine c_seq ?_ | refine x_then ?_ | refine r_store rfl rfl rfl rfl rfl rfl rfl (by repeat (first | exact Upd.head | apply Upd.tail)) (by rfl) ?_  | fail)
  rename_i b1
  refine r_callL (ι := Nat × Nat) (v := fun i => .agg ⟨[.int .i64 3, .slice (some ⟨i.1, 0, none⟩) 1 1, .slice (some ⟨i.2, 0, none⟩) 1 1]⟩) (ms := fun i => [(i.1, Obj.cells ⟨lkE (foL 1 1)⟩ 43 (0, 0)), (i.2, Obj.cells ⟨lkE foC⟩ 43 (0, 0))]) rfl rfl rfl (fun W hW => follows_calls 1 1 W) ?_
  rintro ⟨f1, f2⟩
  simp only [List.cons_append, List.nil_append]
  refine r_callL (ι := Nat × Nat) (v := fun i => .agg ⟨[.int .i64 3, .slice (some ⟨i.1, 0, none⟩) 1 1, .slice (some ⟨i.2, 0, none⟩) 1 1]⟩) (ms := fun i => [(i.1, Obj.cells ⟨lkE (foL (-1) (-1))⟩ 43 (0, 0)), (i.2, Obj.cells ⟨lkE foC⟩ 43 (0, 0))]) rfl rfl rfl (fun W hW => follows_calls (-1) (-1) W) ?_
  rintro ⟨g1, g2⟩
  simp only [List.cons_append, List.nil_append]
  repeat (first | refine r_alloc rfl rfl rfl rfl (fun _ => ?_) | refine l_val rfl rfl (by first | exact v_load rfl (by repeat (first | exact List.Mem.head _ | apply List.Mem.tail)) rfl (by rfl)  | fail) ?_ | refine l_nil ?_ | refine c_region ?_ | refine c_seq ?_ | refine x_then ?_ | refine r_store rfl rfl rfl rfl rfl rfl rfl (by repeat (first | exact Upd.head | apply Upd.tail)) (by rfl) ?_  | fail)
  rename_i bw bb
  refine r_callL (ι := { i : SolI // i.OK ⟨3, 3, foN 1, [foC]⟩ (adD ⟨3, 3, foN 1, [foC]⟩) (nxD ⟨3, 3, foN 1, [foC]⟩) }) (v := fun i => yesS i.1) (ms := fun i => i.1.m) rfl rfl rfl (fun W hW => (Solve_calls 3 3 (some ⟨f1, 0, none⟩) (some ⟨f2, 0, none⟩) 1 1 (foN 1) [foC] W (un_in 3 hW (by repeat (first | exact List.Mem.head _ | apply List.Mem.tail)) (by repeat (first | exact List.Mem.head _ | apply List.Mem.tail))) (by decide) (by decide) chk_f3 (by decide)).mono fun e w' h => sol_yes vt_f3 h) ?_
  rintro ⟨i1, hi1⟩
  simp only
  refine l_perm List.perm_append_comm ?_
  simp only [List.cons_append, List.nil_append]
  repeat (first | refine l_val rfl rfl (by first | exact pureEval_ok rfl | exact v_load rfl (by repeat (first | exact List.Mem.head _ | apply List.Mem.tail)) rfl (by rfl)  | fail) ?_ | refine l_nil ?_ | refine c_region ?_ | refine c_seq ?_ | refine x_then ?_  | fail)
  refine r_call (v := noS 0) rfl rfl rfl (fun W hW => (Solve_calls 3 2 (some ⟨f1, 0, none⟩) (some ⟨f2, 0, none⟩) 1 1 (foN 1) [foC] W (un_in 3 hW (by repeat (first | exact List.Mem.head _ | apply List.Mem.tail)) (by repeat (first | exact List.Mem.head _ | apply List.Mem.tail))) (by decide) (by decide) chk_f2 (by decide)).mono fun e w' h => sol_no vt_f2 h) ?_
  repeat (first | refine l_val rfl rfl (by first | exact pureEval_ok rfl | exact v_load rfl (by repeat (first | exact List.Mem.head _ | apply List.Mem.tail)) rfl (by rfl)  | fail) ?_ | refine l_nil ?_ | refine c_region ?_ | refine c_seq ?_ | refine x_then ?_  | fail)
  refine r_call (v := noS 0) rfl rfl rfl (fun W hW => (Solve_calls 3 9 (some ⟨g1, 0, none⟩) (some ⟨g2, 0, none⟩) 1 1 (foN (-1)) [foC] W (un_in 3 hW (by repeat (first | exact List.Mem.head _ | apply List.Mem.tail)) (by repeat (first | exact List.Mem.head _ | apply List.Mem.tail))) (by decide) (by decide) chk_g9 (by decide)).mono fun e w' h => sol_no vt_g9 h) ?_
  repeat (first | refine l_val rfl rfl (by first | exact pureEval_ok rfl | exact v_load rfl (by repeat (first | exact List.Mem.head _ | apply List.Mem.tail)) rfl (by rfl)  | fail) ?_ | refine l_nil ?_ | refine c_region ?_ | refine c_seq ?_ | refine x_then ?_  | fail)
  refine r_callL (ι := { i : SolI // i.OK ⟨3, 9, foN (-1), [foC]⟩ (adO ⟨3, 9, foN (-1), [foC]⟩) (nxO ⟨3, 9, foN (-1), [foC]⟩) }) (v := fun i => yesS i.1) (ms := fun i => i.1.m) rfl rfl rfl (fun W hW => (Spoil_calls 3 9 (some ⟨g1, 0, none⟩) (some ⟨g2, 0, none⟩) 1 1 (foN (-1)) [foC] W (un_in 3 hW (by repeat (first | exact List.Mem.head _ | apply List.Mem.tail)) (by repeat (first | exact List.Mem.head _ | apply List.Mem.tail))) (by decide) (by decide) chk_g9 (by decide)).mono fun e w' h => sol_yes vt_g9 h) ?_
  rintro ⟨i2, hi2⟩
  simp only
  refine l_perm List.perm_append_comm ?_
  simp only [List.cons_append, List.nil_append]
  repeat (first | refine l_val rfl rfl (by first | exact pureEval_ok rfl | exact v_load rfl (by repeat (first | exact List.Mem.head _ | apply List.Mem.tail)) rfl (by rfl)  | fail) ?_ | refine l_nil ?_ | refine c_region ?_ | refine c_seq ?_ | refine x_then ?_  | fail)
  refine r_call (v := noS 0) rfl rfl rfl (fun W hW => (Spoil_calls 1 1 none none 0 0 [] [] W (un_nil 1 W) (by decide) (by decide) chk_o1 (by decide)).mono fun e w' h => sol_no (fun h => h vt_o1) h) ?_
  repeat (first | refine l_val rfl rfl (by first | exact pureEval_ok rfl | exact v_load rfl (by repeat (first | exact List.Mem.head _ | apply List.Mem.tail)) rfl (by rfl)  | fail) ?_ | refine l_nil ?_ | refine c_region ?_ | refine c_seq ?_ | refine x_then ?_  | fail)
  refine r_callL (ι := { i : SolI // i.OK ⟨1, 1, [], []⟩ (adD ⟨1, 1, [], []⟩) (nxD ⟨1, 1, [], []⟩) }) (v := fun i => yesS i.1) (ms := fun i => i.1.m) rfl rfl rfl (fun W hW => (Solve_calls 1 1 none none 0 0 [] [] W (un_nil 1 W) (by decide) (by decide) chk_o1 (by decide)).mono fun e w' h => sol_yes vt_o1 h) ?_
  rintro ⟨i3, hi3⟩
  simp only
  refine l_perm List.perm_append_comm ?_
  simp only [List.cons_append, List.nil_append]
  repeat (first | refine l_val rfl rfl (by first | exact pureEval_ok rfl | exact v_load rfl (by repeat (first | exact List.Mem.head _ | apply List.Mem.tail)) rfl (by rfl)  | fail) ?_ | refine l_nil ?_ | refine c_region ?_ | refine c_seq ?_ | refine x_then ?_  | fail)
  obtain ⟨q1, q2⟩ := sol_read (n := 3) (T := 3) chk_f3 (by decide) vt_f3 hi1
  obtain ⟨ql, qr⟩ := rdC_small q1
  refine r_call (v := .tuple ⟨[.bool true, .int .i64 0]⟩) rfl rfl rfl (fun W hW => ?_) ?_
  · obtain ⟨A1, c', hA1, hS1⟩ := strIn_own hi1 (fun p hp => (hW.own p (by repeat (first | exact hp | exact List.mem_append_right _ hp | exact List.mem_append_left _ hp | exact List.mem_append_left _ (List.mem_append_left _ hp) | exact List.mem_append_left _ (List.mem_append_right _ hp) | apply List.Mem.tail))).2)
    have := wins_at (u := ⟨3, some ⟨f1, 0, none⟩, 1, foN 1, some ⟨f2, 0, none⟩, 1, [foC]⟩) (cs := c') ((winsV_yes (n := 3) (T := 3) q1).trans (by rw [q2])) (un_in 3 hW (by repeat (first | exact List.Mem.head _ | apply List.Mem.tail)) (by repeat (first | exact List.Mem.head _ | apply List.Mem.tail))) (show (1 : Nat) ≤ 1000 by decide) (show (1 : Nat) ≤ 1000 by decide) hS1 ql qr
    rw [← hA1] at this
    exact this
  repeat (first | refine l_val rfl rfl (by first | exact pureEval_ok rfl | exact v_load rfl (by repeat (first | exact List.Mem.head _ | apply List.Mem.tail)) rfl (by rfl)  | fail) ?_ | refine l_nil ?_ | refine c_region ?_ | refine c_seq ?_ | refine x_then ?_  | fail)
  obtain ⟨s1, s2⟩ := spo_read (n := 3) (T := 9) chk_g9 (by decide) vt_g9 hi2
  obtain ⟨sl, sr⟩ := rdC_small s1
  refine r_call (v := .tuple ⟨[.bool true, .int .i64 0]⟩) rfl rfl rfl (fun W hW => ?_) ?_
  · obtain ⟨A1, c', hA1, hS1⟩ := strIn_own hi2 (fun p hp => (hW.own p (by repeat (first | exact hp | exact List.mem_append_right _ hp | exact List.mem_append_left _ hp | exact List.mem_append_left _ (List.mem_append_left _ hp) | exact List.mem_append_left _ (List.mem_append_right _ hp) | apply List.Mem.tail))).2)
    have := spoils_at (u := ⟨3, some ⟨g1, 0, none⟩, 1, foN (-1), some ⟨g2, 0, none⟩, 1, [foC]⟩) (cs := c') ((spoilsV_yes (n := 3) (T := 9) s1).trans (by rw [s2])) (un_in 3 hW (by repeat (first | exact List.Mem.head _ | apply List.Mem.tail)) (by repeat (first | exact List.Mem.head _ | apply List.Mem.tail))) (show (1 : Nat) ≤ 1000 by decide) (show (1 : Nat) ≤ 1000 by decide) hS1 sl sr
    rw [← hA1] at this
    exact this
  repeat (first | refine l_val rfl rfl (by first | exact pureEval_ok rfl | exact v_load rfl (by repeat (first | exact List.Mem.head _ | apply List.Mem.tail)) rfl (by rfl)  | fail) ?_ | refine l_nil ?_ | refine c_region ?_ | refine c_seq ?_ | refine x_then ?_  | fail)
  refine r_call (v := .tuple ⟨[.bool false, .int .i64 0]⟩) rfl rfl rfl (fun W hW => ?_) ?_
  · exact wins_at (u := ⟨1, none, 0, [], none, 0, []⟩) (rows := []) ((winsV_yes (n := 1) (T := 1) (rd_nil chk_o1)).trans (by rw [wn_o])) (un_nil 1 W) (by decide) (by decide) (str_nil W) (by decide) (fun r hr => by cases hr)
  repeat (first | refine l_val rfl rfl (by first | exact pureEval_ok rfl | exact v_load rfl (by repeat (first | exact List.Mem.head _ | apply List.Mem.tail)) rfl (by rfl) | exact v_build rfl rfl (by rfl)  | fail) ?_ | refine l_nil ?_ | refine c_region ?_ | refine c_seq ?_ | refine x_then ?_ | refine r_buildSlice rfl rfl rfl rfl rfl rfl (by rfl) (fun _ => ?_)  | fail)
  rename_i d1 d2 d3
  refine r_call (v := .tuple ⟨[.bool true, .int .i64 0]⟩) rfl rfl rfl (fun W hW => ?_) ?_
  · exact wins_at (u := ⟨1, none, 0, [], none, 0, []⟩) (T := 1) (S := some ⟨d3, 0, none⟩) (cs := 1) (rows := [row1 (some ⟨d1, 0, none⟩) (some ⟨d2, 0, none⟩)]) ((winsV_yes (n := 1) (T := 1) (rd_1 (some ⟨d1, 0, none⟩) (some ⟨d2, 0, none⟩))).trans (by rw [wn_1])) (un_nil 1 W) (by decide) (by decide) (str_one hW (b := d3) (b1 := d1) (b2 := d2) (by repeat (first | exact List.Mem.head _ | apply List.Mem.tail)) (by repeat (first | exact List.Mem.head _ | apply List.Mem.tail)) (by repeat (first | exact List.Mem.head _ | apply List.Mem.tail))) (by simp) (fun r hr => by rw [List.mem_singleton.1 hr]; exact ⟨by simp [row1], by simp [row1]⟩)
  repeat (first | refine l_val rfl rfl (by first | exact pureEval_ok rfl | exact v_load rfl (by repeat (first | exact List.Mem.head _ | apply List.Mem.tail)) rfl (by rfl)  | fail) ?_ | refine l_nil ?_ | refine c_region ?_ | refine c_seq ?_ | refine x_then ?_ | refine r_buildSlice rfl rfl rfl rfl rfl rfl (by rfl) (fun _ => ?_)  | fail)
  rename_i d4
  refine r_call1 (ι := PlI) (v := fun i => .tuple ⟨[.slice (some ⟨i.b, 0, none⟩) 3 i.c, .int .i64 0]⟩) (bk := fun i => i.b) (o := fun i => .cells ⟨flI [0, 0, 0] ++ i.r⟩ 3 (0, 0)) rfl rfl rfl (fun W hW => (Play_calls ⟨3, some ⟨f1, 0, none⟩, 1, foN 1, some ⟨f2, 0, none⟩, 1, [foC]⟩ 3 none 0 [] (some ⟨d4, 0, none⟩) 1 [2] W (un_in 3 hW (by repeat (first | exact List.Mem.head _ | apply List.Mem.tail)) (by repeat (first | exact List.Mem.head _ | apply List.Mem.tail))) (show (1 : Nat) ≤ 1000 by decide) (show (1 : Nat) ≤ 1000 by decide) (str_nil W) (by decide) (fun r hr => by cases hr) (int_at hW (b := d4) (by repeat (first | exact List.Mem.head _ | apply List.Mem.tail)))).mono ?_) (fun i => ?_)
  · rintro e w' ⟨h1, h2⟩
    rcases h2 with ⟨h3, _⟩ | ⟨_, i, h3, h4, h5⟩
    · exact absurd plc_f3 h3
    · rw [show plA ⟨((3 : Int)).toNat, ((3 : Int)).toNat, foN 1, [foC]⟩ [2] (tabW []) = [0, 0, 0] from pl_f3] at h3 h5
      exact ⟨i, h3, h1, h4, h5⟩
  repeat (first | refine l_val rfl rfl (by first | exact pureEval_ok rfl | exact v_load rfl (by repeat (first | exact List.Mem.head _ | apply List.Mem.tail)) rfl (by rfl)  | fail) ?_ | refine l_nil ?_ | refine c_region ?_ | refine c_seq ?_ | refine x_then ?_ | refine c_false rfl ?_ | refine c_skip ?_  | fail)
  refine r_call (v := .int .i64 1) rfl rfl rfl (fun W hW => checkS_at (u := ⟨1, none, 0, [], none, 0, []⟩) chk_o0 (un_nil 1 W) (by decide) (by decide)) ?_
  repeat (first | refine l_val rfl rfl (by first | exact pureEval_ok rfl | exact v_build rfl rfl (by rfl)  | fail) ?_ | refine l_dec_f rfl rfl rfl rfl rfl (by first | omega | exact fun h => h rfl  | fail) ?_  | fail)
  refine r_call (v := .int .i64 2) rfl rfl rfl (fun W hW => checkS_at (u := ⟨5, none, 0, [], none, 0, []⟩) chk_55 (un_nil 5 W) (by decide) (by decide)) ?_
  repeat (first | refine l_val rfl rfl (by first | exact pureEval_ok rfl | exact v_load rfl (by repeat (first | exact List.Mem.head _ | apply List.Mem.tail)) rfl (by rfl)  | fail) ?_ | refine l_dec_f rfl rfl rfl rfl rfl (by first | omega | exact fun h => h rfl  | fail) ?_  | fail)
  refine r_call (v := .int .i64 0) rfl rfl rfl (fun W hW => checkS_at (u := ⟨3, some ⟨f1, 0, none⟩, 1, foN 1, some ⟨f2, 0, none⟩, 1, [foC]⟩) chk_f15 (un_in 3 hW (by repeat (first | exact List.Mem.head _ | apply List.Mem.tail)) (by repeat (first | exact List.Mem.head _ | apply List.Mem.tail))) (show (1 : Nat) ≤ 1000 by decide) (show (1 : Nat) ≤ 1000 by decide)) ?_
  repeat (first | refine l_val rfl rfl (by first | exact pureEval_ok rfl  | fail) ?_ | refine l_nil ?_ | refine c_region ?_ | refine c_seq ?_ | refine x_then ?_ | refine r_buildSlice rfl rfl rfl rfl rfl rfl (by rfl) (fun _ => ?_) | refine c_false rfl ?_ | refine c_skip ?_  | fail)
  rename_i d5
  refine r_call (v := .bool true) rfl rfl rfl (fun W hW => same15_calls (some ⟨i.b, 0, none⟩) (some ⟨d5, 0, none⟩) i.c 3 [0, 0, 0] [0, 0, 0] W (list_at i.r hW (b := i.b) (T := 3) (fr := (0, 0)) (by repeat (first | exact List.Mem.head _ | apply List.Mem.tail))) (list_at [] hW (b := d5) (T := 3) (fr := (0, 0)) (by repeat (first | exact List.Mem.head _ | apply List.Mem.tail))) (by decide)) ?_
  repeat (first | refine l_val rfl rfl (by first | exact pureEval_ok rfl  | fail) ?_ | refine l_nil ?_ | refine x_then ?_ | refine c_ret ?_  | fail)
  exact x_ret rfl rfl (by repeat (first | exact Res.nil | (apply Res.tmp; rfl) | (apply Res.cell; rfl; exact (by repeat (first | exact List.Mem.head _ | apply List.Mem.tail)); rfl; rfl))) rfl (fun W hW => ⟨rfl, hW.below⟩)
end R24
end Go.Proofs

set_option linter.unusedSectionVars false
set_option linter.unusedVariables false
set_option linter.unusedSimpArgs false
namespace Go.Kin.Ct
open Go.Kin.St
/-! ## The rounds -/
/-! ## The greatest of the least times -/
end Go.Kin.Ct

set_option linter.unusedSectionVars false
set_option linter.unusedVariables false
set_option linter.unusedSimpArgs false
namespace Go.Kin.Sg
open Go.Kin.St Go.Kin.Ct
/-- what a play has met, where the desk keeps to fixed times -/
structure Dk (G : Gm) (z : Nat → Int) (k : Nat) (l : List Int) : Prop where
  len : l.length = G.n
  ex : ∀ q : Nat, q < G.n → into G.C (q : Int) = none → kn l q = if z q < k then z q + 1 else 0
  yes : ∀ (q i : Nat) x, q < G.n → into G.C (q : Int) = some i → G.C[i]? = some x → kn l q ≠ 0 → kn l x.fr.toNat ≠ 0 ∧ x.lo ≤ kn l q - kn l x.fr.toNat ∧ kn l q - kn l x.fr.toNat ≤ x.hi
  no : ∀ (q i : Nat) x, q < G.n → into G.C (q : Int) = some i → G.C[i]? = some x → kn l q = 0 → kn l x.fr.toNat ≠ 0 → (k : Int) + 1 - kn l x.fr.toNat ≤ x.hi
theorem at_up {n : Nat} {C : List Lk} (h : Tree n C) {t d : Nat → Int} {p : Nat} (hp : p < n) {i : Nat} (hi : into C (p : Int) = some i) : ∃ q : Nat, q < n ∧ frm C i = q ∧ at_ C n t d p = at_ C n t d q + d i ∧ (chain C n p).length = (chain C n q).length + 1 := by
  obtain ⟨q, h1, h2, h3, h4⟩ := h.up hp hi
  refine ⟨q, h1, h2, ?_, by rw [h3]; rfl⟩
  unfold at_
  rw [h3, h4, lsum]
  omega
theorem at_top {n : Nat} {C : List Lk} {t d : Nat → Int} {p : Nat} (hi : into C (p : Int) = none) : at_ C n t d p = t p := by
  unfold at_
  rw [(Tree.top hi).1, (Tree.top hi).2]
  simp [lsum]
/-! ## No called points -/
end Go.Kin.Sg

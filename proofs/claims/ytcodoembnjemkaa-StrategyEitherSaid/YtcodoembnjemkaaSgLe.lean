/- Games on networks: few positions. -/
import Derived.Test.YtcodoembnjemkaaSgInto
import Derived.Test.YtcodoembnjemkaaSgFd
set_option linter.unusedSectionVars false
set_option linter.unusedVariables false
set_option linter.unusedSimpArgs false
namespace Go.Proofs
open Go.RowKit Go.Kin Go.Kin.St Go.Kin.Ct Go.Kin.Sg
namespace R24
def kF (n T : Int) : Nat := if 1 ≤ T ∧ T ≤ 15 then (T.toNat + 2) ^ (min n.toNat 7) else 1
open Classical in
noncomputable def fwB (n : Int) (L C : List Lk) (T : Int) : Bool := R23.fewB n L.length C.length && decide (kF n T ≤ 3000 ∨ chkS n L C T ≠ 0)
theorem pow17 {T k : Nat} (hT : T ≤ 15) (hk : k ≤ 7) : (T + 2) ^ k ≤ 410338673 :=
  Nat.le_trans (Nat.pow_le_pow_left (show T + 2 ≤ 17 by omega) k) (Nat.le_trans (Nat.pow_le_pow_right (by omega) hk) (by decide))
theorem powS2 {T k : Nat} : (((T + 2) ^ k : Nat) : Int) * ((T : Int) + 2) = (((T + 2) ^ (k + 1) : Nat) : Int) := by rw [Nat.pow_succ]; push_cast; rfl
theorem fewB_len {n : Int} {l c : Nat} (h : R23.fewB n l c = true) : l ≤ 300 ∧ c ≤ 300 := by unfold R23.fewB at h; have := of_decide_eq_true h; omega
theorem fwB_ok {n : Int} {L C : List Lk} {T : Int} (h : fwB n L C T = true) : L.length ≤ 300 ∧ C.length ≤ 300 ∧ (chkS n L C T = 0 → (T.toNat + 2) ^ n.toNat ≤ 3000) := by
  unfold fwB at h
  rw [Bool.and_eq_true] at h
  obtain ⟨h1, h2⟩ := fewB_len h.1
  refine ⟨h1, h2, fun h0 => ?_⟩
  rcases of_decide_eq_true h.2 with h3 | h3
  · obtain ⟨_, t1, t2, n6, _⟩ := chkS_ok h0
    unfold kF at h3
    rw [if_pos ⟨t1, t2⟩, show min n.toNat 7 = n.toNat by omega] at h3
    exact h3
  · exact absurd h0 h3
set_option maxRecDepth 100000 in
set_option maxHeartbeats 80000000 in
theorem FewS_calls (u : R23.Un) (T : Int) (w : World) (hA : u.In w) :
    Calls Try.prog 9 ⟨[.agg ⟨u.v⟩, .int .i64 T]⟩ w fun e w' => e = .returned (.bool (fwB u.n u.L u.C T)) ∧ Below w.heap.size w w' := by
  have hfw : ∀ (mem : List (Nat × Obj)) (W : World), SatW w (base w) noJ mem W → Calls Try.prog 25 ⟨[.agg ⟨u.v⟩]⟩ W fun e w' => e = .returned (.bool (R23.fewB u.n u.L.length u.C.length)) ∧ Below W.heap.size W w' := fun mem W hW => R23.Few_calls u W
  have hck : R23.fewB u.n u.L.length u.C.length = true → ∀ (mem : List (Nat × Obj)) (W : World), SatW w (base w) noJ mem W → Calls Try.prog 14 ⟨[.agg ⟨u.v⟩, .int .i64 T]⟩ W fun e w' => e = .returned (.int .i64 (chkS u.n u.L u.C T)) ∧ Below W.heap.size W w' := fun hf mem W hW => by
    obtain ⟨h1, h2⟩ := fewB_len hf
    exact CheckR_calls u T W (hA.sat hW) (by omega) (by omega)
  obtain ⟨n, A, cap, L, B, cab, C⟩ := u
  simp only [R23.Un.v] at hfw hck ⊢
  refine fun_enter Try.func9 rfl Try.ntmps9 rfl rfl (satW_nil w) ?_
  repeat (first | refine l_val rfl rfl (by first | exact pureEval_ok rfl | exact v_load rfl (by repeat (first | exact List.Mem.head _ | apply List.Mem.tail)) rfl (by rfl)  | fail) ?_ | refine l_nil ?_ | refine c_region ?_ | refine c_seq ?_ | refine x_then ?_ | refine r_box rfl rfl rfl rfl (fun _ => ?_)  | fail)
  refine r_call rfl rfl rfl (fun W hW => hfw _ W hW) ?_
  cases hf : R23.fewB n L.length C.length with
  | false =>
    have hv : fwB n L C T = false := by unfold fwB; rw [hf]; rfl
    rw [hv]
    repeat (first | refine l_val rfl rfl (by first | exact pureEval_ok rfl  | fail) ?_ | refine l_nil ?_ | refine c_region ?_ | refine c_seq ?_ | refine x_then ?_ | refine c_true rfl ?_ | refine c_ret ?_ | refine x_then_ret ?_  | fail)
    exact x_ret rfl rfl (by repeat (first | exact Res.nil | (apply Res.tmp; rfl) | (apply Res.cell; rfl; exact (by repeat (first | exact List.Mem.head _ | apply List.Mem.tail)); rfl; rfl))) rfl (fun W hW => ⟨rfl, hW.below⟩)
  | true =>
    have hck := hck hf
    repeat (first | refine l_val rfl rfl (by first | exact pureEval_ok rfl  | fail) ?_ | refine l_nil ?_ | refine c_region ?_ | refine c_seq ?_ | refine x_then ?_ | refine c_false rfl ?_ | refine c_block ?_ | refine c_skip ?_  | fail)
    rename_i b2
    obtain ⟨M, hM⟩ : ∃ M, (if 1 ≤ T ∧ T ≤ 15 then min n.toNat 7 else 0) = M := ⟨_, rfl⟩
    have hM7 : M ≤ 7 := by rw [← hM]; split <;> omega
    obtain ⟨t, ht⟩ : ∃ t : Nat, (if 1 ≤ T ∧ T ≤ 15 then T.toNat else 0) = t := ⟨_, rfl⟩
    have ht15 : t ≤ 15 := by rw [← ht]; split <;> omega
    have hkF : kF n T = (t + 2) ^ M := by
      unfold kF
      by_cases hT : 1 ≤ T ∧ T ≤ 15
      · rw [if_pos hT] at hM ht
        rw [if_pos hT, hM, ht]
      · rw [if_neg hT] at hM
        rw [if_neg hT, ← hM, Nat.pow_zero]
    refine c_loop (ι := Nat) (fun k => k ≤ M) (fun k => [(1, .int .i64 T), (2, .pointer (some ⟨b2, 0, none⟩)), (6, .int .i64 (((t + 2) ^ k : Nat) : Int)), (7, .int .i64 k)]) (fun _ => [(b2, .cells ⟨[.int .i64 n, .slice A L.length cap, .slice B C.length cab]⟩ 24 (0, 0))]) (fun k => M - k) 0 (Nat.zero_le _) (by repeat (first | exact EnvSub.nil | refine EnvSub.cons rfl (by first | rfl | (congr 1; done) | (exact congrArg (Value.int _) (by omega)) | (simp; done)) ?_)) (by repeat (first | exact MSub.nil | refine MSub.keep (by first | rfl | assumption) ?_ | refine MSub.drop ?_ | exact MSub.refl _)) ?_
    intro k hk
    have hp1 := pow17 (T := t) (k := k) ht15 (by omega)
    by_cases hlt : k < M
    · have hp2 := pow17 (T := t) (k := k + 1) ht15 (by omega)
      have hps := powS2 (T := t) (k := k)
      have hT : 1 ≤ T ∧ T ≤ 15 := by
        by_cases h : 1 ≤ T ∧ T ≤ 15
        · exact h
        · rw [if_neg h] at hM; omega
      rw [if_pos hT] at hM ht
      have hTt : T = (t : Int) := by omega
      obtain ⟨hT1, hT2⟩ := hT
      subst hTt
      have hkn : (k : Int) < n := by omega
      repeat (first | refine l_val rfl rfl (by first | exact v_add rfl rfl (by omega) (by omega) | exact v_mul rfl rfl (by omega) (by omega) | exact pureEval_ok rfl | exact v_load rfl (by repeat (first | exact List.Mem.head _ | apply List.Mem.tail)) rfl (by rfl)  | fail) ?_ | refine l_nil ?_ | refine c_region ?_ | refine c_seq ?_ | refine x_then ?_ | refine c_dec_t rfl (by first | omega  | fail) ?_ | refine c_block ?_ | refine c_skip ?_ | refine x_block ?_ | refine l_dec_t rfl rfl rfl rfl rfl (by first | omega  | fail) ?_  | fail)
      rw [hps]
      exact x_back (k + 1) hlt (by omega) (by repeat (first | exact EnvSub.nil | refine EnvSub.cons rfl (by first | rfl | (congr 1; done) | (exact congrArg (Value.int _) (by omega)) | (simp; done)) ?_)) (by repeat (first | exact MSub.nil | refine MSub.keep (by first | rfl | assumption) ?_ | refine MSub.drop ?_ | exact MSub.refl _))
    have hkM : k = M := by omega
    subst hkM
    have hcase : ¬ ((k : Int) < n) ∨ ((k : Int) < n ∧ 6 < (k : Int)) ∨ ((k : Int) < n ∧ (k : Int) ≤ 6 ∧ T < 1) ∨ ((k : Int) < n ∧ (k : Int) ≤ 6 ∧ 1 ≤ T ∧ 15 < T) := by
      by_cases hT : 1 ≤ T ∧ T ≤ 15
      · rw [if_pos hT] at hM; omega
      · omega
    have hkt : ∀ {X : Prop}, ((((t + 2) ^ k : Nat) : Int) ≤ 3000 ∨ X) → (kF n T ≤ 3000 ∨ X) := fun h => h.imp_left fun h => by rw [hkF]; omega
    by_cases h3 : (((t + 2) ^ k : Nat) : Int) ≤ 3000
    · have hv : fwB n L C T = true := by
        unfold fwB; rw [hf, Bool.true_and]; exact decide_eq_true (hkt (.inl h3))
      rw [hv]
      rcases hcase with q1 | ⟨q1, q2⟩ | ⟨q1, q2, q3⟩ | ⟨q1, q2, q3, q4⟩
      all_goals
        repeat (first | refine l_val rfl rfl (by first | exact pureEval_ok rfl | exact v_load rfl (by repeat (first | exact List.Mem.head _ | apply List.Mem.tail)) rfl (by rfl)  | fail) ?_ | refine l_nil ?_ | refine c_region ?_ | refine c_seq ?_ | refine x_then ?_ | refine l_skip rfl rfl ?_ | refine c_false rfl ?_ | refine c_dec_f rfl (by first | omega  | fail) ?_ | refine c_ret ?_ | refine c_exit ?_ | refine x_then_exit ?_ | refine x_block_same ?_ | refine l_dec_t rfl rfl rfl rfl rfl (by first | omega  | fail) ?_ | refine l_dec_f rfl rfl rfl rfl rfl (by first | omega  | fail) ?_  | fail)
        exact x_ret rfl rfl (by repeat (first | exact Res.nil | (apply Res.tmp; rfl) | (apply Res.cell; rfl; exact (by repeat (first | exact List.Mem.head _ | apply List.Mem.tail)); rfl; rfl))) rfl (fun W hW => ⟨rfl, hW.below⟩)
    · have hv : fwB n L C T = decide (chkS n L C T ≠ 0) := by
        unfold fwB; rw [hf, Bool.true_and, Bool.eq_iff_iff, decide_eq_true_iff, decide_eq_true_iff]
        constructor
        · rintro (h | h)
          · rw [hkF] at h; omega
          · exact h
        · exact fun h => .inr h
      rw [hv]
      rcases hcase with q1 | ⟨q1, q2⟩ | ⟨q1, q2, q3⟩ | ⟨q1, q2, q3, q4⟩
      all_goals
        repeat (first | refine l_val rfl rfl (by first | exact pureEval_ok rfl | exact v_load rfl (by repeat (first | exact List.Mem.head _ | apply List.Mem.tail)) rfl (by rfl)  | fail) ?_ | refine l_nil ?_ | refine c_region ?_ | refine c_seq ?_ | refine x_then ?_ | refine l_skip rfl rfl ?_ | refine c_false rfl ?_ | refine c_dec_f rfl (by first | omega  | fail) ?_ | refine c_exit ?_ | refine x_then_exit ?_ | refine x_block_same ?_ | refine l_dec_t rfl rfl rfl rfl rfl (by first | omega  | fail) ?_ | refine l_dec_f rfl rfl rfl rfl rfl (by first | omega  | fail) ?_  | fail)
        refine r_call rfl rfl rfl (fun W hW => hck _ W hW) ?_
        repeat (first | refine l_val rfl rfl (by first | exact pureEval_ok rfl  | fail) ?_ | refine l_nil ?_ | refine x_then ?_ | refine c_ret ?_  | fail)
        exact x_ret rfl rfl (by repeat (first | exact Res.nil | (apply Res.tmp; rfl) | (apply Res.cell; rfl; exact (by repeat (first | exact List.Mem.head _ | apply List.Mem.tail)); rfl; rfl))) rfl (fun W hW => ⟨rfl, hW.below⟩)
end R24
end Go.Proofs

set_option linter.unusedSectionVars false
set_option linter.unusedVariables false
set_option linter.unusedSimpArgs false
namespace Go.Proofs
open Go.RowKit Go.Kin Go.Kin.St Go.Kin.Ct Go.Kin.Sg
namespace R24
theorem winsV_no {n : Int} {L C : List Lk} {T : Int} {rows : List DW} (h : rdC n L C T rows ≠ 0) : winsV n L C T rows = .tuple ⟨[.bool false, .int .i64 (rdC n L C T rows)]⟩ := if_pos h
theorem winsV_yes {n T : Nat} {L C : List Lk} {rows : List DW} (h : rdC n L C T rows = 0) : winsV n L C T rows = .tuple ⟨[.bool (wnG ⟨n, T, L, C⟩ rows), .int .i64 0]⟩ := by
  unfold winsV; rw [if_neg (fun g => g h), Int.toNat_natCast, Int.toNat_natCast]
theorem spoilsV_no {n : Int} {L C : List Lk} {T : Int} {rows : List DW} (h : rdC n L C T rows ≠ 0) : spoilsV n L C T rows = .tuple ⟨[.bool false, .int .i64 (rdC n L C T rows)]⟩ := if_pos h
theorem spoilsV_yes {n T : Nat} {L C : List Lk} {rows : List DW} (h : rdC n L C T rows = 0) : spoilsV n L C T rows = .tuple ⟨[.bool (spG ⟨n, T, L, C⟩ rows), .int .i64 0]⟩ := by
  unfold spoilsV; rw [if_neg (fun g => g h), Int.toNat_natCast, Int.toNat_natCast]
theorem rdC_small {n : Int} {L C : List Lk} {T : Int} {rows : List DW} (h : rdC n L C T rows = 0) : rows.length ≤ 10000000 ∧ ∀ r ∈ rows, r.l.length ≤ 1000 ∧ r.d.length ≤ 1000 := by
  obtain ⟨h0, hok⟩ := rdC_ok h
  obtain ⟨_, t1, t2, n6, _⟩ := chkS_ok h0
  refine ⟨?_, fun r hr => ?_⟩
  · by_cases h2 : 4096 < rows.length
    · rw [rdC_2 h0 h2] at h; cases h
    · omega
  · obtain ⟨i, hi, rfl⟩ := List.mem_iff_getElem.1 hr
    have ho := hok i _ (List.getElem?_eq_getElem hi)
    have hinc := toN_inc ho.o
    have hl := nodup_lt (m := n.toNat) (l := toN rows[i].d) (hinc.imp fun h => Nat.ne_of_lt h) (fun x hx => by
      unfold toN at hx
      obtain ⟨y, hy, rfl⟩ := List.mem_map.1 hx
      obtain ⟨j, hj, rfl⟩ := List.mem_iff_getElem.1 hy
      have := pv_inc ho.o (List.getElem?_eq_getElem hj)
      omega)
    have hll := ho.l
    unfold toN at hl
    rw [List.length_map] at hl
    omega
set_option maxRecDepth 100000 in
set_option maxHeartbeats 200000000 in
theorem either_calls (hsane : ∀ w, Calls Try.prog 8 ⟨[]⟩ w fun e w' => e = .returned (.bool true) ∧ Below w.heap.size w w') (u : R23.Un) (T : Int) (S1 S2 : Option Addr) (c1 c2 : Nat) (ra rb : List DW) (w : World) (hA : u.In w) (h1 : StrIn w S1 ra) (h2 : StrIn w S2 rb) :
    Calls Try.prog 4 ⟨[.agg ⟨u.v⟩, .int .i64 T, .slice S1 ra.length c1, .slice S2 rb.length c2]⟩ w fun e w' => e = .returned (.bool true) ∧ Below w.heap.size w w' := by
  have hfew : ∀ (mem : List (Nat × Obj)) (W : World), SatW w (base w) noJ mem W → Calls Try.prog 9 ⟨[.agg ⟨u.v⟩, .int .i64 T]⟩ W fun e w' => e = .returned (.bool (fwB u.n u.L u.C T)) ∧ Below W.heap.size W w' := fun mem W hW => FewS_calls u T W (hA.sat hW)
  have hwi : u.L.length ≤ 1000 → u.C.length ≤ 1000 → ∀ {S : Option Addr} {cs : Nat} {rows : List DW} (mem : List (Nat × Obj)) (W : World), SatW w (base w) noJ mem W → StrIn W S rows → rows.length ≤ 10000000 → (∀ r ∈ rows, r.l.length ≤ 1000 ∧ r.d.length ≤ 1000) → Calls Try.prog 18 ⟨[.agg ⟨u.v⟩, .int .i64 T, .slice S rows.length cs]⟩ W fun e w' => e = .returned (winsV u.n u.L u.C T rows) ∧ Below W.heap.size W w' := fun hl hc S cs rows mem W hW hS hr hd => Wins_calls u T S cs rows W (hA.sat hW) hl hc hS hr hd
  have hsp : u.L.length ≤ 1000 → u.C.length ≤ 1000 → ∀ {S : Option Addr} {cs : Nat} {rows : List DW} (mem : List (Nat × Obj)) (W : World), SatW w (base w) noJ mem W → StrIn W S rows → rows.length ≤ 10000000 → (∀ r ∈ rows, r.l.length ≤ 1000 ∧ r.d.length ≤ 1000) → Calls Try.prog 19 ⟨[.agg ⟨u.v⟩, .int .i64 T, .slice S rows.length cs]⟩ W fun e w' => e = .returned (spoilsV u.n u.L u.C T rows) ∧ Below W.heap.size W w' := fun hl hc S cs rows mem W hW hS hr hd => Spoils_calls u T S cs rows W (hA.sat hW) hl hc hS hr hd
  have hck : u.L.length ≤ 1000 → u.C.length ≤ 1000 → ∀ (mem : List (Nat × Obj)) (W : World), SatW w (base w) noJ mem W → Calls Try.prog 13 ⟨[.agg ⟨u.v⟩, .int .i64 T]⟩ W fun e w' => e = .returned (.int .i64 (chkS u.n u.L u.C T)) ∧ Below W.heap.size W w' := fun hl hc mem W hW => CheckS_calls u T W (hA.sat hW) hl hc
  have hAA : ∀ (mem : List (Nat × Obj)) (W : World), SatW w (base w) noJ mem W → u.In W := fun mem W hW => hA.sat hW
  obtain ⟨n, A, ca, L, B, cb, C⟩ := u
  simp only [R23.Un.v] at hfew hwi hsp hck ⊢
  refine fun_enter Try.func4 rfl Try.ntmps4 rfl rfl (satW_nil w) ?_
  repeat (first | refine l_val rfl rfl (by first | exact pureEval_ok rfl  | fail) ?_ | refine l_nil ?_ | refine c_region ?_ | refine c_seq ?_ | refine x_then ?_ | refine r_box rfl rfl rfl rfl (fun _ => ?_)  | fail)
  refine r_call rfl rfl rfl (fun W hW => hsane W) ?_
  repeat (first | refine l_val rfl rfl (by first | exact pureEval_ok rfl | exact v_load rfl (by repeat (first | exact List.Mem.head _ | apply List.Mem.tail)) rfl (by rfl)  | fail) ?_ | refine l_nil ?_ | refine c_region ?_ | refine c_seq ?_ | refine x_then ?_ | refine c_false rfl ?_ | refine c_skip ?_  | fail)
  refine r_call rfl rfl rfl (fun W hW => hfew _ W hW) ?_
  cases hf : fwB n L C T with
  | false =>
    repeat (first | refine l_val rfl rfl (by first | exact pureEval_ok rfl | exact v_load rfl (by repeat (first | exact List.Mem.head _ | apply List.Mem.tail)) rfl (by rfl)  | fail) ?_ | refine l_nil ?_ | refine c_region ?_ | refine c_seq ?_ | refine x_then ?_ | refine l_skip rfl rfl ?_ | refine c_true rfl ?_ | refine c_ret ?_ | refine x_then_ret ?_  | fail)
    exact x_ret rfl rfl (by repeat (first | exact Res.nil | (apply Res.tmp; rfl) | (apply Res.cell; rfl; exact (by repeat (first | exact List.Mem.head _ | apply List.Mem.tail)); rfl; rfl))) rfl (fun W hW => ⟨rfl, hW.below⟩)
  | true =>
  obtain ⟨hl, hc, hfw⟩ := fwB_ok hf
  have hck := hck (by omega) (by omega)
  have hwi := fun {S cs rows} => hwi (by omega) (by omega) (S := S) (cs := cs) (rows := rows)
  have hsp := fun {S cs rows} => hsp (by omega) (by omega) (S := S) (cs := cs) (rows := rows)
  repeat (first | refine l_val rfl rfl (by first | exact pureEval_ok rfl  | fail) ?_  | fail)
  refine r_call rfl rfl rfl (fun W hW => FewD_calls S1 c1 ra W (h1.later hW.below).r) ?_
  cases hfa : fdB ra with
  | false =>
    repeat (first | refine l_val rfl rfl (by first | exact pureEval_ok rfl | exact v_load rfl (by repeat (first | exact List.Mem.head _ | apply List.Mem.tail)) rfl (by rfl)  | fail) ?_ | refine l_nil ?_ | refine c_region ?_ | refine c_seq ?_ | refine x_then ?_ | refine l_skip rfl rfl ?_ | refine c_true rfl ?_ | refine c_ret ?_ | refine x_then_ret ?_  | fail)
    exact x_ret rfl rfl (by repeat (first | exact Res.nil | (apply Res.tmp; rfl) | (apply Res.cell; rfl; exact (by repeat (first | exact List.Mem.head _ | apply List.Mem.tail)); rfl; rfl))) rfl (fun W hW => ⟨rfl, hW.below⟩)
  | true =>
  obtain ⟨ha1, ha2⟩ := fdB_ok hfa
  repeat (first | refine l_val rfl rfl (by first | exact pureEval_ok rfl  | fail) ?_  | fail)
  refine r_call rfl rfl rfl (fun W hW => FewD_calls S2 c2 rb W (h2.later hW.below).r) ?_
  cases hfb : fdB rb with
  | false =>
    repeat (first | refine l_val rfl rfl (by first | exact pureEval_ok rfl | exact v_load rfl (by repeat (first | exact List.Mem.head _ | apply List.Mem.tail)) rfl (by rfl)  | fail) ?_ | refine l_nil ?_ | refine c_region ?_ | refine c_seq ?_ | refine x_then ?_ | refine l_skip rfl rfl ?_ | refine c_true rfl ?_ | refine c_ret ?_ | refine x_then_ret ?_  | fail)
    exact x_ret rfl rfl (by repeat (first | exact Res.nil | (apply Res.tmp; rfl) | (apply Res.cell; rfl; exact (by repeat (first | exact List.Mem.head _ | apply List.Mem.tail)); rfl; rfl))) rfl (fun W hW => ⟨rfl, hW.below⟩)
  | true =>
  obtain ⟨hb1, hb2⟩ := fdB_ok hfb
  repeat (first | refine l_val rfl rfl (by first | exact pureEval_ok rfl | exact v_load rfl (by repeat (first | exact List.Mem.head _ | apply List.Mem.tail)) rfl (by rfl)  | fail) ?_  | fail)
  refine r_call rfl rfl rfl (fun W hW => hck _ W hW) ?_
  by_cases h0 : chkS n L C T = 0
  rotate_left
  · repeat (first | refine l_val rfl rfl (by first | exact pureEval_ok rfl  | fail) ?_ | refine l_nil ?_ | refine c_region ?_ | refine c_seq ?_ | refine x_then ?_ | refine c_dec_t rfl (by first | omega  | fail) ?_ | refine c_ret ?_ | refine x_then_ret ?_  | fail)
    exact x_ret rfl rfl (by repeat (first | exact Res.nil | (apply Res.tmp; rfl) | (apply Res.cell; rfl; exact (by repeat (first | exact List.Mem.head _ | apply List.Mem.tail)); rfl; rfl))) rfl (fun W hW => ⟨rfl, hW.below⟩)
  rw [h0]
  obtain ⟨k0, t1, t2, t3, t4, t5⟩ := chkS_ok h0
  obtain ⟨n1, n2⟩ := R23.chkU_ok k0
  obtain ⟨t, rfl⟩ : ∃ t : Nat, T = t := ⟨T.toNat, by omega⟩
  obtain ⟨N, rfl⟩ : ∃ N : Nat, n = N := ⟨n.toNat, by omega⟩
  have hfw2 := hfw h0
  rw [Int.toNat_natCast, Int.toNat_natCast] at hfw2
  repeat (first | refine l_val rfl rfl (by first | exact pureEval_ok rfl | exact v_load rfl (by repeat (first | exact List.Mem.head _ | apply List.Mem.tail)) rfl (by rfl)  | fail) ?_ | refine l_nil ?_ | refine c_region ?_ | refine c_seq ?_ | refine x_then ?_ | refine c_false rfl ?_ | refine c_skip ?_  | fail)
  by_cases hv : Vt ⟨N, t, L, C⟩ 0 (List.replicate N 0)
  · refine r_callL (ι := { i : SolI // i.OK ⟨N, t, L, C⟩ (adD ⟨N, t, L, C⟩) (nxD ⟨N, t, L, C⟩) }) (v := fun i => yesS i.1) (ms := fun i => i.1.m) rfl rfl rfl (fun W hW => (Solve_calls N t A B ca cb L C W (hAA _ W hW) (by omega) (by omega) h0 hfw2).mono ?_) ?_
    · rintro e w' ⟨g1, g2⟩
      rcases g2 with ⟨g3, _⟩ | ⟨_, i, g4, g5, g6, g7⟩
      · exact absurd hv g3
      · exact ⟨⟨i, g4⟩, g5, g1, g6, g7⟩
    rintro ⟨i, hi⟩
    simp only
    refine l_perm List.perm_append_comm ?_
    simp only [List.cons_append, List.nil_append]
    repeat (first | refine l_val rfl rfl (by first | exact pureEval_ok rfl | exact v_load rfl (by repeat (first | exact List.Mem.head _ | apply List.Mem.tail)) rfl (by rfl)  | fail) ?_ | refine l_nil ?_ | refine c_region ?_ | refine c_seq ?_ | refine x_then ?_  | fail)
    refine r_call (v := noS 0) rfl rfl rfl (fun W hW => (Spoil_calls N t A B ca cb L C W (hAA _ W hW) (by omega) (by omega) h0 hfw2).mono ?_) ?_
    · rintro e w' ⟨g1, g2⟩
      rcases g2 with ⟨_, g3⟩ | ⟨g3, _⟩
      · exact ⟨g3, g1⟩
      · exact absurd hv g3
    repeat (first | refine l_val rfl rfl (by first | exact pureEval_ok rfl | exact v_load rfl (by repeat (first | exact List.Mem.head _ | apply List.Mem.tail)) rfl (by rfl)  | fail) ?_ | refine l_nil ?_ | refine c_region ?_ | refine c_seq ?_ | refine x_then ?_ | refine c_true rfl ?_ | refine c_false rfl ?_ | refine c_skip ?_  | fail)
    obtain ⟨q1, q2⟩ := sol_read h0 hfw2 hv hi
    obtain ⟨hlen, hrows⟩ := rdC_small q1
    refine r_call (v := .tuple ⟨[.bool true, .int .i64 0]⟩) rfl rfl rfl (fun W hW => ?_) ?_
    · obtain ⟨A1, c', hA1, hS1⟩ := strIn_own hi (fun p hp => (hW.own p (List.mem_cons_of_mem _ hp)).2)
      have := hwi (cs := c') _ W hW hS1 hlen hrows
      rw [← hA1, winsV_yes q1, q2] at this
      exact this
    repeat (first | refine l_val rfl rfl (by first | exact pureEval_ok rfl | exact v_load rfl (by repeat (first | exact List.Mem.head _ | apply List.Mem.tail)) rfl (by rfl)  | fail) ?_ | refine l_nil ?_ | refine c_region ?_ | refine c_seq ?_ | refine x_then ?_  | fail)
    by_cases hr : rdC N L C t rb = 0
    · have hok := (rdC_ok hr).2
      rw [Int.toNat_natCast, Int.toNat_natCast] at hok
      have q3 := no_spoil (L := L) (C := C) hok hv
      refine r_call (v := .tuple ⟨[.bool false, .int .i64 0]⟩) rfl rfl rfl (fun W hW => ?_) ?_
      · have := hsp (cs := c2) _ W hW (h2.later hW.below) (by omega) (fun r hr => by have := hb2 r hr; omega)
        rw [spoilsV_yes hr, q3] at this
        exact this
      repeat (first | refine l_val rfl rfl (by first | exact pureEval_ok rfl  | fail) ?_ | refine l_nil ?_ | refine c_region ?_ | refine c_seq ?_ | refine x_then ?_ | refine c_ret ?_ | refine x_then_ret ?_  | fail)
      exact x_ret rfl rfl (by repeat (first | exact Res.nil | (apply Res.tmp; rfl) | (apply Res.cell; rfl; exact (by repeat (first | exact List.Mem.head _ | apply List.Mem.tail)); rfl; rfl))) rfl (fun W hW => ⟨rfl, hW.below⟩)
    · refine r_call (v := .tuple ⟨[.bool false, .int .i64 (rdC N L C t rb)]⟩) rfl rfl rfl (fun W hW => ?_) ?_
      · have := hsp (cs := c2) _ W hW (h2.later hW.below) (by omega) (fun r hr => by have := hb2 r hr; omega)
        rw [spoilsV_no hr] at this
        exact this
      repeat (first | refine l_val rfl rfl (by first | exact pureEval_ok rfl  | fail) ?_ | refine l_nil ?_ | refine c_region ?_ | refine c_seq ?_ | refine x_then ?_ | refine l_skip rfl rfl ?_ | refine c_ret ?_ | refine x_then_ret ?_ | refine l_dec_t rfl rfl rfl rfl rfl (by first | omega  | fail) ?_  | fail)
      exact x_ret rfl rfl (by repeat (first | exact Res.nil | (apply Res.tmp; rfl) | (apply Res.cell; rfl; exact (by repeat (first | exact List.Mem.head _ | apply List.Mem.tail)); rfl; rfl))) rfl (fun W hW => ⟨rfl, hW.below⟩)
  · refine r_call (v := noS 0) rfl rfl rfl (fun W hW => (Solve_calls N t A B ca cb L C W (hAA _ W hW) (by omega) (by omega) h0 hfw2).mono ?_) ?_
    · rintro e w' ⟨g1, g2⟩
      rcases g2 with ⟨_, g3⟩ | ⟨g3, _⟩
      · exact ⟨g3, g1⟩
      · exact absurd g3 hv
    repeat (first | refine l_val rfl rfl (by first | exact pureEval_ok rfl | exact v_load rfl (by repeat (first | exact List.Mem.head _ | apply List.Mem.tail)) rfl (by rfl)  | fail) ?_ | refine l_nil ?_ | refine c_region ?_ | refine c_seq ?_ | refine x_then ?_  | fail)
    refine r_callL (ι := { i : SolI // i.OK ⟨N, t, L, C⟩ (adO ⟨N, t, L, C⟩) (nxO ⟨N, t, L, C⟩) }) (v := fun i => yesS i.1) (ms := fun i => i.1.m) rfl rfl rfl (fun W hW => (Spoil_calls N t A B ca cb L C W (hAA _ W hW) (by omega) (by omega) h0 hfw2).mono ?_) ?_
    · rintro e w' ⟨g1, g2⟩
      rcases g2 with ⟨g3, _⟩ | ⟨_, i, g4, g5, g6, g7⟩
      · exact absurd hv g3
      · exact ⟨⟨i, g4⟩, g5, g1, g6, g7⟩
    rintro ⟨i, hi⟩
    simp only
    refine l_perm List.perm_append_comm ?_
    simp only [List.cons_append, List.nil_append]
    repeat (first | refine l_val rfl rfl (by first | exact pureEval_ok rfl | exact v_load rfl (by repeat (first | exact List.Mem.head _ | apply List.Mem.tail)) rfl (by rfl)  | fail) ?_ | refine l_nil ?_ | refine c_region ?_ | refine c_seq ?_ | refine x_then ?_ | refine c_false rfl ?_ | refine c_skip ?_  | fail)
    obtain ⟨q1, q2⟩ := spo_read h0 hfw2 hv hi
    obtain ⟨hlen, hrows⟩ := rdC_small q1
    refine r_call (v := .tuple ⟨[.bool true, .int .i64 0]⟩) rfl rfl rfl (fun W hW => ?_) ?_
    · obtain ⟨A1, c', hA1, hS1⟩ := strIn_own hi (fun p hp => (hW.own p (List.mem_cons_of_mem _ hp)).2)
      have := hsp (cs := c') _ W hW hS1 hlen hrows
      rw [← hA1, spoilsV_yes q1, q2] at this
      exact this
    repeat (first | refine l_val rfl rfl (by first | exact pureEval_ok rfl | exact v_load rfl (by repeat (first | exact List.Mem.head _ | apply List.Mem.tail)) rfl (by rfl)  | fail) ?_ | refine l_nil ?_ | refine c_region ?_ | refine c_seq ?_ | refine x_then ?_  | fail)
    by_cases hr : rdC N L C t ra = 0
    · have hok := (rdC_ok hr).2
      rw [Int.toNat_natCast, Int.toNat_natCast] at hok
      have q3 := no_win (L := L) (C := C) hok hv
      refine r_call (v := .tuple ⟨[.bool false, .int .i64 0]⟩) rfl rfl rfl (fun W hW => ?_) ?_
      · have := hwi (cs := c1) _ W hW (h1.later hW.below) (by omega) (fun r hr => by have := ha2 r hr; omega)
        rw [winsV_yes hr, q3] at this
        exact this
      repeat (first | refine l_val rfl rfl (by first | exact pureEval_ok rfl  | fail) ?_ | refine l_nil ?_ | refine c_region ?_ | refine c_seq ?_ | refine x_then ?_ | refine c_ret ?_  | fail)
      exact x_ret rfl rfl (by repeat (first | exact Res.nil | (apply Res.tmp; rfl) | (apply Res.cell; rfl; exact (by repeat (first | exact List.Mem.head _ | apply List.Mem.tail)); rfl; rfl))) rfl (fun W hW => ⟨rfl, hW.below⟩)
    · refine r_call (v := .tuple ⟨[.bool false, .int .i64 (rdC N L C t ra)]⟩) rfl rfl rfl (fun W hW => ?_) ?_
      · have := hwi (cs := c1) _ W hW (h1.later hW.below) (by omega) (fun r hr => by have := ha2 r hr; omega)
        rw [winsV_no hr] at this
        exact this
      repeat (first | refine l_val rfl rfl (by first | exact pureEval_ok rfl  | fail) ?_ | refine l_nil ?_ | refine c_region ?_ | refine c_seq ?_ | refine x_then ?_ | refine l_skip rfl rfl ?_ | refine c_ret ?_ | refine l_dec_t rfl rfl rfl rfl rfl (by first | omega  | fail) ?_  | fail)
      exact x_ret rfl rfl (by repeat (first | exact Res.nil | (apply Res.tmp; rfl) | (apply Res.cell; rfl; exact (by repeat (first | exact List.Mem.head _ | apply List.Mem.tail)); rfl; rfl))) rfl (fun W hW => ⟨rfl, hW.below⟩)
end R24
end Go.Proofs

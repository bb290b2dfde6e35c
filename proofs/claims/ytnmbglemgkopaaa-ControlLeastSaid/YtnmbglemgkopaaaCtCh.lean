/- Uncertain networks: chain, of the law: the called links that lead to a point, as a set. -/
import Derived.Test.YtnmbglemgkopaaaCtC
import Derived.Test.YtnmbglemgkopaaaEng31
set_option linter.unusedSectionVars false
set_option linter.unusedVariables false
set_option linter.unusedSimpArgs false
namespace Go.Kin.Ct
open Go.Kin.St
theorem climb_sub {n : Nat} {C : List Lk} (h : Tree n C) : ∀ (m : Nat) {p : Nat}, p < n → ∀ i ∈ (climb C m p).1, i ∈ chain C n p
  | 0, p, hp, i, hi => by cases hi
  | m + 1, p, hp, i, hi => by
    cases hin : into C (p : Int) with
    | none => rw [climb_none hin] at hi; cases hi
    | some j =>
      obtain ⟨q, hq, hf, hc, hr⟩ := h.up hp hin
      rw [climb_some hin, hf] at hi
      rw [hc]
      rcases List.mem_cons.1 hi with rfl | hi
      · exact List.mem_cons_self
      · exact List.mem_cons_of_mem _ (climb_sub h m hq i hi)
theorem climb_nodup {n : Nat} {C : List Lk} (h : Tree n C) : ∀ (m : Nat) {p : Nat}, p < n → (climb C m p).1.Nodup
  | 0, p, hp => List.nodup_nil
  | m + 1, p, hp => by
    cases hin : into C (p : Int) with
    | none => rw [climb_none hin]; exact List.nodup_nil
    | some j =>
      obtain ⟨q, hq, hf, hc, hr⟩ := h.up hp hin
      have hn := h.nodup _ hp rfl
      rw [hc] at hn
      rw [climb_some hin, hf]
      exact List.nodup_cons.2 ⟨fun hm => (List.nodup_cons.1 hn).1 (climb_sub h m hq j hm), climb_nodup h m hq⟩
theorem climb_new {n : Nat} {C : List Lk} (h : Tree n C) {m p i : Nat} (hp : p < n) (hl : (climb C m p).1.length = m) (hi : into C (climb C m p).2 = some i) : i ∉ (climb C m p).1 := fun hm => by
  have h1 := climb_nodup h (m + 1) hp
  rw [Go.Proofs.R23.climb_snoc hl hi] at h1
  have h2 := (List.nodup_append.1 h1).2.2 i hm i (by simp)
  exact h2 rfl
end Go.Kin.Ct
namespace Go.Proofs
open Go.RowKit Go.Kin Go.Kin.St Go.Kin.Ct
open R22
namespace R23
set_option maxRecDepth 100000 in
set_option maxHeartbeats 40000000 in
theorem chainM_calls (u : Un) (N p : Nat) (w : World) (hn : u.n = N) (hN : N ≤ 64) (hA : u.In w) (hl : u.C.length ≤ 256) (hT : Tree N u.C) (hp : p < N) :
    Calls Try.prog 53 ⟨[.agg ⟨u.v⟩, .int .i64 p]⟩ w fun e w' => ∃ b, e = .returned (.map (some b)) ∧ Below w.heap.size w w' ∧ w.heap.size ≤ b ∧ w'.heap[b]? = some (setO (chain u.C N p)) := by
  have hB := hA.c
  obtain ⟨n, A, cap, L, B, cab, C⟩ := u
  simp only [Un.v] at hn hl hT hB ⊢
  subst hn
  refine fun_enter Try.func53 rfl Try.ntmps53 rfl rfl (satW_nil w) ?_
  repeat (first | refine l_val rfl rfl (by first | exact pureEval_ok rfl | exact v_load rfl (by repeat (first | exact List.Mem.head _ | apply List.Mem.tail)) rfl (by rfl)  | fail) ?_ | refine l_nil ?_ | refine c_region ?_ | refine c_seq ?_ | refine x_then ?_ | refine r_box rfl rfl rfl rfl (fun _ => ?_) | refine r_makeMap rfl rfl (fun _ => ?_) | refine c_block ?_  | fail)
  rename_i b1 b2
  refine c_loop (ι := Nat) (fun k => k ≤ N ∧ ((climb C k p).1.length = k ∨ into C (climb C k p).2 = none)) (fun k => [(1, .int .i64 (climb C k p).2), (2, .pointer (some ⟨b1, 0, none⟩)), (5, .map (some b2)), (10, .int .i64 N), (11, .int .i64 k)])
    (fun k => [(b2, setO (climb C k p).1), (b1, .cells ⟨[.int .i64 N, .slice A L.length cap, .slice B C.length cab]⟩ 24 (0, 0))]) (fun k => N - k) 0 ⟨Nat.zero_le _, .inl rfl⟩ (by repeat (first | exact EnvSub.nil | refine EnvSub.cons rfl (by first | rfl | (congr 1; done) | (exact congrArg (Value.int _) (by omega)) | (simp; done)) ?_)) (by repeat (first | exact MSub.nil | refine MSub.keep (by first | rfl | assumption) ?_ | refine MSub.drop ?_ | exact MSub.refl _)) ?_
  rintro k ⟨hk, hcl⟩
  by_cases hlt : k < N
  · obtain ⟨q, hq⟩ : ∃ q, (climb C k p).2 = q := ⟨_, rfl⟩
    obtain ⟨s, hs⟩ : ∃ s, (climb C k p).1 = s := ⟨_, rfl⟩
    rw [hq, hs] at hcl
    rw [hq, hs]
    have hnext : ∀ i, into C q = some i → i ∉ s ∧ climb C (k + 1) p = (s ++ [i], frm C i) := fun i hi => by
      have h1 := hcl.resolve_right (by rw [hi]; simp)
      have h3 : into C (climb C k p).2 = some i := by rw [hq]; exact hi
      have h4 := climb_new hT hp (by rw [hs]; exact h1) h3
      have h5 := climb_snoc (by rw [hs]; exact h1) h3
      rw [hs] at h4 h5
      exact ⟨h4, h5⟩
    have hstay : into C q = none → climb C (k + 1) p = (s, q) := fun hi => by
      rw [climb_stop (by rw [hq]; exact hi) 1, ← hs, ← hq]
    have hcl' := fun (_ : Unit) => hcl
    clear hcl
    repeat (first | refine l_val rfl rfl (by first | exact pureEval_ok rfl | exact v_load rfl (by repeat (first | exact List.Mem.head _ | apply List.Mem.tail)) rfl (by rfl)  | fail) ?_ | refine l_nil ?_ | refine c_region ?_ | refine c_seq ?_ | refine x_then ?_ | refine c_dec_t rfl (by first | omega  | fail) ?_ | refine c_block ?_ | refine c_skip ?_  | fail)
    refine c_loop (ι := Nat) (fun j => j ≤ C.length ∧ ∀ x ∈ C.take j, x.to ≠ q) (fun j => [(1, .int .i64 q), (2, .pointer (some ⟨b1, 0, none⟩)), (5, .map (some b2)), (10, .int .i64 N), (11, .int .i64 k), (14, .slice B C.length cab), (15, .int .i64 C.length), (16, .int .i64 j)])
      (fun _ => [(b2, setO s), (b1, .cells ⟨[.int .i64 N, .slice A L.length cap, .slice B C.length cab]⟩ 24 (0, 0))]) (fun j => C.length - j) 0 ⟨Nat.zero_le _, fun x hx => by simp at hx⟩ (by repeat (first | exact EnvSub.nil | refine EnvSub.cons rfl (by first | rfl | (congr 1; done) | (exact congrArg (Value.int _) (by omega)) | (simp; done)) ?_)) (by repeat (first | exact MSub.nil | refine MSub.keep (by first | rfl | assumption) ?_ | refine MSub.drop ?_ | exact MSub.refl _)) ?_
    rintro j ⟨hj, hno⟩
    by_cases hjl : j < C.length
    · obtain ⟨x, hx⟩ : ∃ x, C[j]? = some x := ⟨_, List.getElem?_eq_getElem hjl⟩
      obtain ⟨bc, oc, rfl, hcc⟩ := hB j (lkE x) (by simp [hx])
      have hec := ext_of hcc
      by_cases hxq : x.to = q
      · have hin := into_at hno hx hxq
        obtain ⟨g1, g2⟩ := hnext j hin
        have g3 : frm C j = x.fr := by unfold frm; rw [hx]
        rw [g3] at g2
        have g4 : decide (j ∈ s) = false := decide_eq_false g1
        have hno' := fun (_ : Unit) => hno
        clear hno hnext hstay
        repeat (first | refine l_val rfl rfl (by first | exact v_add rfl rfl (by omega) (by omega) | exact pureEval_ok rfl | exact v_load rfl (by repeat (first | exact List.Mem.head _ | apply List.Mem.tail)) rfl (by rfl) | exact v_load_ext0 rfl (by assumption) rfl (by rfl) | exact v_index rfl rfl rfl rfl (by omega) (by omega) (by with_reducible first | exact idx4 _ _ _   | fail)  | fail) ?_ | refine l_nil ?_ | refine c_region ?_ | refine c_seq ?_ | refine x_then ?_ | refine r_alloc rfl rfl rfl (by first | exact aggL  | fail) (fun _ => ?_) | refine r_store rfl rfl rfl rfl rfl rfl rfl (by repeat (first | exact Upd.head | apply Upd.tail)) (by rfl) ?_ | refine c_true rfl ?_ | refine c_dec_t rfl (by first | omega  | fail) ?_ | refine c_block ?_ | refine c_skip ?_ | refine c_exit ?_ | refine x_then_exit ?_ | refine x_block ?_ | refine x_block_same ?_ | refine x_block_other rfl ?_ | refine l_dec_t rfl rfl rfl rfl rfl (by first | omega  | fail) ?_ | refine l_val rfl rfl (v_setGet rfl rfl rfl rfl rfl (by repeat (first | exact List.Mem.head _ | apply List.Mem.tail)) g4) ?_ | refine l_do rfl (d_setNew rfl rfl rfl rfl rfl g1 (by repeat (first | exact Upd.head | apply Upd.tail))) ?_  | fail)
        exact x_back (k + 1) ⟨hlt, by rw [g2]; rcases hcl' () with h | h <;> first | (left; simp [h]; done) | (rw [hin] at h; cases h)⟩ (by omega) (by rw [g2]; exact (by repeat (first | exact EnvSub.nil | refine EnvSub.cons rfl (by first | rfl | (congr 1; done) | (exact congrArg (Value.int _) (by omega)) | (simp; done)) ?_))) (by rw [g2]; exact (by repeat (first | exact MSub.nil | refine MSub.keep (by first | rfl | assumption) ?_ | refine MSub.drop ?_ | exact MSub.refl _)))
      · have hno2 : ∀ y ∈ C.take (j + 1), y.to ≠ q := fun y hy => by
          rw [List.take_add_one, hx] at hy
          rcases List.mem_append.1 hy with h | h
          · exact hno y h
          · simp at h; rw [h]; exact hxq
        have hno' := fun (_ : Unit) => hno2
        clear hno hnext hstay hno2
        repeat (first | refine l_val rfl rfl (by first | exact v_add rfl rfl (by omega) (by omega) | exact pureEval_ok rfl | exact v_load rfl (by repeat (first | exact List.Mem.head _ | apply List.Mem.tail)) rfl (by rfl) | exact v_load_ext0 rfl (by assumption) rfl (by rfl) | exact v_index rfl rfl rfl rfl (by omega) (by omega) (by with_reducible first | exact idx4 _ _ _   | fail)  | fail) ?_ | refine l_nil ?_ | refine c_region ?_ | refine c_seq ?_ | refine x_then ?_ | refine l_skip rfl rfl ?_ | refine r_alloc rfl rfl rfl (by first | exact aggL  | fail) (fun _ => ?_) | refine r_store rfl rfl rfl rfl rfl rfl rfl (by repeat (first | exact Upd.head | apply Upd.tail)) (by rfl) ?_ | refine c_false rfl ?_ | refine c_dec_t rfl (by first | omega  | fail) ?_ | refine c_block ?_ | refine c_skip ?_ | refine x_block ?_ | refine l_dec_f rfl rfl rfl rfl rfl (by first | omega  | fail) ?_  | fail)
        exact x_back (j + 1) ⟨hjl, hno' ()⟩ (by omega) (by repeat (first | exact EnvSub.nil | refine EnvSub.cons rfl (by first | rfl | (congr 1; done) | (exact congrArg (Value.int _) (by omega)) | (simp; done)) ?_)) (by repeat (first | exact MSub.nil | refine MSub.keep (by first | rfl | assumption) ?_ | refine MSub.drop ?_ | exact MSub.refl _))
    · have hje : j = C.length := by omega
      subst hje
      rw [List.take_length] at hno
      have hin := into_no hno
      have g2 := hstay hin
      clear hno hnext hstay
      repeat (first | refine l_val rfl rfl (by first | exact v_add rfl rfl (by omega) (by omega) | exact pureEval_ok rfl  | fail) ?_ | refine l_nil ?_ | refine c_region ?_ | refine c_seq ?_ | refine x_then ?_ | refine c_dec_f rfl (by first | omega  | fail) ?_ | refine c_exit ?_ | refine x_then_exit ?_ | refine x_block ?_ | refine x_block_same ?_  | fail)
      exact x_back (k + 1) ⟨hlt, by rw [g2]; exact .inr hin⟩ (by omega) (by rw [g2]; exact (by repeat (first | exact EnvSub.nil | refine EnvSub.cons rfl (by first | rfl | (congr 1; done) | (exact congrArg (Value.int _) (by omega)) | (simp; done)) ?_))) (by rw [g2]; exact (by repeat (first | exact MSub.nil | refine MSub.keep (by first | rfl | assumption) ?_ | refine MSub.drop ?_ | exact MSub.refl _)))
  · have hke : k = N := by omega
    subst hke
    repeat (first | refine l_val rfl rfl (by first | exact pureEval_ok rfl  | fail) ?_ | refine l_nil ?_ | refine c_region ?_ | refine c_seq ?_ | refine x_then ?_ | refine c_dec_f rfl (by first | omega  | fail) ?_ | refine c_ret ?_ | refine c_exit ?_ | refine x_then_exit ?_ | refine x_block_same ?_  | fail)
    exact x_ret rfl rfl (by repeat (first | exact Res.nil | (apply Res.tmp; rfl) | (apply Res.cell; rfl; exact (by repeat (first | exact List.Mem.head _ | apply List.Mem.tail)); rfl; rfl))) rfl (fun W hW => ⟨b2, rfl, hW.below, Nat.le_of_not_lt (hW.own (b2, _) (by repeat (first | exact List.Mem.head _ | apply List.Mem.tail))).1, (hW.own (b2, _) (by repeat (first | exact List.Mem.head _ | apply List.Mem.tail))).2⟩)
end R23
end Go.Proofs

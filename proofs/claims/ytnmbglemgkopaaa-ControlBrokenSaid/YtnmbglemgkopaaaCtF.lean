/- Uncertain networks: the specification's reduced steps. -/
import Derived.Test.YtnmbglemgkopaaaCtC
set_option linter.unusedSectionVars false
set_option linter.unusedVariables false
set_option linter.unusedSimpArgs false
namespace Go.Proofs
open Go.RowKit Go.Kin Go.Kin.St Go.Kin.Ct
open R22
namespace R23
/-- a step, as it lies -/
def edE (e : Ed) : List Value := [.int .i64 (e.a : Int), .int .i64 (e.b : Int), .int .i64 e.w]
def flatE (l : List Ed) : List Value := (l.map edE).flatten
theorem flatE_len (l : List Ed) : (flatE l).length = l.length * 3 := by
  induction l with
  | nil => rfl
  | cons x l ih => unfold flatE at ih ⊢; rw [List.map_cons, List.flatten_cons, List.length_append, ih, List.length_cons]; show 3 + _ = _; omega
theorem flatE_app (l m : List Ed) : flatE (l ++ m) = flatE l ++ flatE m := by unfold flatE; rw [List.map_append, List.flatten_append]
theorem flatE_snoc (l : List Ed) (e : Ed) : flatE (l ++ [e]) = flatE l ++ edE e := by rw [flatE_app]; unfold flatE; simp
theorem edE_len (l : List Ed) : ∀ r ∈ l.map edE, r.length = 3 := fun r hr => by obtain ⟨x, _, rfl⟩ := List.mem_map.1 hr; rfl
theorem edE_ne (l : List Ed) : ∀ r ∈ l.map edE, r ≠ [] := fun r hr => by obtain ⟨x, _, rfl⟩ := List.mem_map.1 hr; simp [edE]
theorem From_calls (x : Lk) (lower : Bool) (w : World) (hx : -1099511627776 ≤ x.lo ∧ x.lo ≤ 1099511627776) :
    Calls Try.prog 73 ⟨[.agg ⟨lkE x⟩, .bool lower]⟩ w fun e w' => e = .returned (.tuple ⟨[.int .i64 (sideP lower x), .int .i64 (sideQ lower x), .int .i64 (sideW lower x)]⟩) ∧ Below w.heap.size w w' := by
  refine fun_enter Try.func73 rfl Try.ntmps73 rfl rfl (satW_nil w) ?_
  cases lower
  · repeat (first | refine l_val rfl rfl (by first | exact pureEval_ok rfl  | fail) ?_ | refine l_nil ?_ | refine c_region ?_ | refine c_seq ?_ | refine x_then ?_ | refine r_box rfl rfl rfl rfl (fun _ => ?_) | refine c_false rfl ?_ | refine c_skip ?_ | refine c_ret ?_ | refine c_reads rfl (by decide +kernel) ?_ | refine q_val rfl rfl (by first | exact pureEval_ok rfl | exact v_load rfl (by repeat (first | exact List.Mem.head _ | apply List.Mem.tail)) rfl (by rfl)  | fail) ?_ | refine q_nil ?_  | fail)
    exact x_ret rfl rfl (by repeat (first | exact Res.nil | (apply Res.tmp; rfl) | (apply Res.cell; rfl; exact (by repeat (first | exact List.Mem.head _ | apply List.Mem.tail)); rfl; rfl))) rfl (fun W hW => ⟨rfl, hW.below⟩)
  · repeat (first | refine l_val rfl rfl (by first | exact pureEval_ok rfl  | fail) ?_ | refine l_nil ?_ | refine c_region ?_ | refine c_seq ?_ | refine x_then ?_ | refine r_box rfl rfl rfl rfl (fun _ => ?_) | refine c_true rfl ?_ | refine c_ret ?_ | refine x_then_ret ?_ | refine c_reads rfl (by decide +kernel) ?_ | refine q_val rfl rfl (by first | exact v_neg rfl (by omega) (by omega) | exact pureEval_ok rfl | exact v_load rfl (by repeat (first | exact List.Mem.head _ | apply List.Mem.tail)) rfl (by rfl)  | fail) ?_ | refine q_nil ?_  | fail)
    exact x_ret rfl rfl (by repeat (first | exact Res.nil | (apply Res.tmp; rfl) | (apply Res.cell; rfl; exact (by repeat (first | exact List.Mem.head _ | apply List.Mem.tail)); rfl; rfl))) rfl (fun W hW => ⟨rfl, hW.below⟩)
set_option maxRecDepth 100000 in
set_option maxHeartbeats 40000000 in
theorem Reduced_calls (u : Un) (N : Nat) (x : Lk) (lower : Bool) (w : World) (hn : u.n = N) (hN : N ≤ 64) (hA : u.In w) (hl : u.C.length ≤ 256) (hT : Tree N u.C) (hF : Fine N u.L) (hx : x ∈ u.L) :
    Calls Try.prog 49 ⟨[.agg ⟨u.v⟩, .agg ⟨lkE x⟩, .bool lower]⟩ w fun e w' => e = .returned (.agg ⟨edE (redS u.C N lower x)⟩) ∧ Below w.heap.size w w' := by
  have hch : ∀ (p : Nat) (mem : List (Nat × Obj)) (W : World), p < N → SatW w (base w) noJ mem W → Calls Try.prog 42 ⟨[.agg ⟨u.v⟩, .int .i64 p]⟩ W fun e w' => ∃ i : Nat × Nat × List Value, e = .returned (chV u.C N p i.1 i.2.1) ∧ Below W.heap.size W w' ∧ W.heap.size ≤ i.1 ∧ w'.heap[i.1]? = some (.cells ⟨flatI (chL u.C N p) ++ i.2.2⟩ 3 (0, 0)) := fun p mem W h hW => ChainT_calls u N p W hn hN (hA.sat hW) hl hT h
  have hgp : ∀ (p q : Nat) (mem : List (Nat × Obj)) (W : World), p < N → q < N → SatW w (base w) noJ mem W → Calls Try.prog 74 ⟨[.agg ⟨u.v⟩, .int .i64 p, .int .i64 q]⟩ W fun e w' => e = .returned (.int .i64 (gap u.C N p q)) ∧ Below W.heap.size W w' := fun p q mem W h1 h2 hW => Gap_calls u N p q W hn hN (hA.sat hW) hl hT h1 h2
  obtain ⟨n, A, cap, L, B, cab, C⟩ := u
  simp only [Un.v] at hl hn hT hF hx hch hgp ⊢
  subst hn
  obtain ⟨p, q, hp, hq, e1, e2⟩ := side_in hF hx lower
  have hfx := hF x hx
  unfold Lk.Fine at hfx
  obtain ⟨r, r1, r2, -⟩ := hT.root_in hp
  obtain ⟨s, s1, s2, -⟩ := hT.root_in hq
  have hgb := gap_bd hT (p : Int) (q : Int)
  have hsw : -1099511627776 ≤ sideW lower x ∧ sideW lower x ≤ 1099511627776 := by
    unfold sideW
    cases lower
    · simp only [Bool.false_eq_true, if_false]; omega
    · simp only [if_pos]; omega
  have hred : redS C N lower x = ⟨r, s, sideW lower x - gap C N p q⟩ := by
    unfold redS
    rw [e1, e2, r2, s2]
    simp only [Int.toNat_natCast]
  rw [hred]
  refine fun_enter Try.func49 rfl Try.ntmps49 rfl rfl (satW_nil w) ?_
  repeat (first | refine l_val rfl rfl (by first | exact pureEval_ok rfl | exact v_load rfl (by repeat (first | exact List.Mem.head _ | apply List.Mem.tail)) rfl (by rfl)  | fail) ?_ | refine l_nil ?_ | refine c_region ?_ | refine c_seq ?_ | refine x_then ?_ | refine r_box rfl rfl rfl rfl (fun _ => ?_) | refine r_alloc rfl rfl rfl (by first | exact aggL  | fail) (fun _ => ?_)  | fail)
  refine r_call rfl rfl rfl (fun W hW => From_calls x lower W (by omega)) ?_
  rw [e1, e2]
  generalize sideW lower x = sw at *
  repeat (first | refine l_val rfl rfl (by first | exact pureEval_ok rfl | exact v_load rfl (by repeat (first | exact List.Mem.head _ | apply List.Mem.tail)) rfl (by rfl)  | fail) ?_ | refine l_nil ?_ | refine c_region ?_ | refine c_seq ?_ | refine x_then ?_  | fail)
  refine r_call1 (ι := Nat × Nat × List Value) (v := fun i => chV C N p i.1 i.2.1) (bk := fun i => i.1) (o := fun i => .cells ⟨flatI (chL C N p) ++ i.2.2⟩ 3 (0, 0)) rfl rfl rfl (fun W hW => hch p _ W hp hW) ?_
  rintro ⟨ba, ca, ra⟩
  unfold chV
  rw [r2]
  repeat (first | refine l_val rfl rfl (by first | exact pureEval_ok rfl | exact v_load rfl (by repeat (first | exact List.Mem.head _ | apply List.Mem.tail)) rfl (by rfl)  | fail) ?_ | refine l_nil ?_ | refine c_region ?_ | refine c_seq ?_ | refine x_then ?_  | fail)
  refine r_call1 (ι := Nat × Nat × List Value) (v := fun i => chV C N q i.1 i.2.1) (bk := fun i => i.1) (o := fun i => .cells ⟨flatI (chL C N q) ++ i.2.2⟩ 3 (0, 0)) rfl rfl rfl (fun W hW => hch q _ W hq hW) ?_
  rintro ⟨bb, cb, rb⟩
  unfold chV
  rw [s2]
  repeat (first | refine l_val rfl rfl (by first | exact pureEval_ok rfl | exact v_load rfl (by repeat (first | exact List.Mem.head _ | apply List.Mem.tail)) rfl (by rfl)  | fail) ?_ | refine l_nil ?_ | refine c_region ?_ | refine c_seq ?_ | refine x_then ?_  | fail)
  refine r_call rfl rfl rfl (fun W hW => hgp p q _ W hp hq hW) ?_
  generalize gap C N p q = gp at *
  repeat (first | refine l_val rfl rfl (by first | exact v_sub rfl rfl (by omega) (by omega) | exact v_build rfl rfl (by rfl)  | fail) ?_ | refine l_nil ?_ | refine x_then ?_ | refine r_store rfl rfl rfl rfl rfl rfl rfl (by repeat (first | exact Upd.head | apply Upd.tail)) (by rfl) ?_ | refine c_ret ?_  | fail)
  exact x_ret rfl rfl (by repeat (first | exact Res.nil | (apply Res.tmp; rfl) | (apply Res.cell; rfl; exact (by repeat (first | exact List.Mem.head _ | apply List.Mem.tail)); rfl; rfl))) rfl (fun W hW => ⟨rfl, hW.below⟩)
/-- rows of steps in new memory -/
structure ES where
  i : Nat
  b : Nat
  c : Nat
  r : List Value
def StepsQ (E : List Ed) (w : World) (e : Ending) (w' : World) : Prop :=
  ∃ b cap rest, e = .returned (.slice (some ⟨b, 0, none⟩) E.length cap) ∧ Below w.heap.size w w' ∧ w.heap.size ≤ b ∧ w'.heap[b]? = some (.cells ⟨flatE E ++ rest⟩ 98 (0, 0))
theorem redE_take {C L : List Lk} {N k : Nat} {x : Lk} (hx : L[k]? = some x) : (redE C N L).take (2 * k + 1) = (redE C N L).take (2 * k) ++ [redS C N false x] ∧ (redE C N L).take (2 * (k + 1)) = (redE C N L).take (2 * k + 1) ++ [redS C N true x] := by
  have h1 : (redE C N L)[2 * k]? = some (redS C N false x) := by unfold redE net; rw [edges_up, List.getElem?_map, hx]; rfl
  have h2 : (redE C N L)[2 * k + 1]? = some (redS C N true x) := by unfold redE net; rw [edges_dn, List.getElem?_map, hx, redS_dn]; rfl
  refine ⟨by rw [List.take_add_one, h1]; rfl, ?_⟩
  rw [show 2 * (k + 1) = 2 * k + 1 + 1 by omega, List.take_add_one, h2]; rfl
set_option maxRecDepth 100000 in
set_option maxHeartbeats 40000000 in
theorem rsteps_calls (u : Un) (N : Nat) (w : World) (hn : u.n = N) (hN : N ≤ 64) (hA : u.In w) (hl : u.C.length ≤ 256) (hll : u.L.length ≤ 256) (hT : Tree N u.C) (hF : Fine N u.L) :
    Calls Try.prog 47 ⟨[.agg ⟨u.v⟩]⟩ w (StepsQ (redE u.C N u.L) w) := by
  have hrd : ∀ (x : Lk) (lower : Bool) (mem : List (Nat × Obj)) (W : World), x ∈ u.L → SatW w (base w) noJ mem W → Calls Try.prog 49 ⟨[.agg ⟨u.v⟩, .agg ⟨lkE x⟩, .bool lower]⟩ W fun e w' => e = .returned (.agg ⟨edE (redS u.C N lower x)⟩) ∧ Below W.heap.size W w' := fun x lower mem W h hW => Reduced_calls u N x lower W hn hN (hA.sat hW) hl hT hF h
  have hB := hA.l
  obtain ⟨n, A, cap, L, B, cab, C⟩ := u
  simp only [Un.v] at hB hl hll hn hT hF hrd ⊢
  subst hn
  refine fun_enter Try.func47 rfl Try.ntmps47 rfl rfl (satW_nil w) ?_
  repeat (first | refine l_val rfl rfl (by first | exact pureEval_ok rfl  | fail) ?_ | refine l_nil ?_ | refine c_region ?_ | refine c_seq ?_ | refine x_then ?_ | refine r_box rfl rfl rfl rfl (fun _ => ?_) | refine r_buildSlice rfl rfl rfl rfl rfl rfl (by rfl) (fun _ => ?_) | refine c_block ?_  | fail)
  rename_i b1 b0
  have hel : (redE C N L).length = 2 * L.length := redE_len
  refine c_loop (ι := ES) (fun s => s.i ≤ L.length ∧ Grow 3 (2 * s.i) (flatE ((redE C N L).take (2 * s.i))) s.c s.r) (fun s => [(1, .pointer (some ⟨b1, 0, none⟩)), (2, .slice none 0 0), (3, .slice (some ⟨s.b, 0, none⟩) (2 * s.i) s.c), (4, .int .i64 s.i)])
    (fun s => [(s.b, .cells ⟨flatE ((redE C N L).take (2 * s.i)) ++ s.r⟩ 98 (0, 0)), (b1, .cells ⟨[.int .i64 N, .slice A L.length cap, .slice B C.length cab]⟩ 24 (0, 0))]) (fun s => L.length - s.i) ⟨0, b0, 0, []⟩ ⟨Nat.zero_le _, ⟨rfl, rfl, Nat.le_refl _, (show (0 : Nat) ≤ maxLen by decide)⟩⟩ (by repeat (first | exact EnvSub.nil | refine EnvSub.cons rfl (by first | rfl | (congr 1; done) | (exact congrArg (Value.int _) (by omega)) | (simp; done)) ?_)) (by repeat (first | exact MSub.nil | refine MSub.keep (by first | rfl | assumption) ?_ | refine MSub.drop ?_ | exact MSub.refl _)) ?_
  rintro ⟨k, bo, co, ro⟩ ⟨hk, hg⟩
  simp only at hk hg ⊢
  by_cases hlt : k < L.length
  · obtain ⟨x, hx⟩ : ∃ x, L[k]? = some x := ⟨_, List.getElem?_eq_getElem hlt⟩
    obtain ⟨b', o, rfl, hc⟩ := hB k (lkE x) (by simp [hx])
    have he := ext_of hc
    have hin := List.mem_of_getElem? hx
    obtain ⟨t1, t2⟩ := redE_take (C := C) (N := N) hx
    repeat (first | refine l_val rfl rfl (by first | exact pureEval_ok rfl | exact v_load rfl (by repeat (first | exact List.Mem.head _ | apply List.Mem.tail)) rfl (by rfl)  | fail) ?_ | refine l_nil ?_ | refine c_region ?_ | refine c_seq ?_ | refine x_then ?_ | refine c_dec_t rfl (by first | omega  | fail) ?_ | refine c_block ?_ | refine c_skip ?_  | fail)
    refine c_new 1 2 [(7, .cal (.agg ⟨edE (redS C N false x)⟩)), (8, .new 1), (9, .app 2 (some 0) 3)] [(7,[]),(8,[1]),(9,[2,0])] [(9,1),(9,0)] rfl (by decide +kernel) rfl ?_; repeat (first | refine e_val rfl rfl rfl rfl (by first | exact pureEval_ok rfl | exact v_load rfl (by repeat (first | exact List.Mem.head _ | apply List.Mem.tail)) rfl (by rfl) | exact v_load_ext0 rfl (by assumption) rfl (by rfl) | exact v_index rfl rfl rfl rfl (by omega) (by omega) (by with_reducible first | exact idx4 _ _ _   | fail)  | fail) ?_  | fail)
    refine e_call rfl rfl rfl rfl rfl (fun W hW => hrd x false _ W hin hW) ?_
    repeat (first | refine e_new rfl rfl rfl rfl (by first | exact n_buildSlice rfl rfl rfl rfl (by rfl)  | fail) (fun _ => ?_)  | fail)
    refine e_app (xs := flatE ((redE C N L).take (2 * k)) ++ edE (redS C N false x)) (n := 2 * k + 1) rfl rfl rfl rfl rfl (by decide) (by rw [List.length_append, flatE_len, List.length_take, hel]; show min (2 * k) (2 * L.length) * 3 + 3 = _; omega) (by unfold maxLen; omega) rfl (a_append (m := 1) (ys := edE (redS C N false x)) rfl rfl rfl rfl (news_own (by repeat (first | exact List.Mem.head _ | apply List.Mem.tail))) (by repeat (first | exact List.Mem.head _ | apply List.Mem.tail)) hg rfl (allOne_mem rfl) rfl rfl (by omega) (by unfold maxLen; omega)) (fun b7 c7 r7 hg7 => ?_)
    rw [← flatE_snoc, ← t1] at hg7 ⊢
    repeat (first | refine x_then ?_ | refine e_val rfl rfl rfl rfl (by first | exact pureEval_ok rfl  | fail) ?_ | refine e_nil rfl ?_  | fail)
    refine c_new 2 2 [(7, .cal (.agg ⟨edE (redS C N true x)⟩)), (8, .new 2), (9, .app 3 (some 1) 3)] [(7,[]),(8,[2]),(9,[3,1])] [(9,2),(9,1)] rfl (by decide +kernel) rfl ?_; repeat (first | refine e_val rfl rfl rfl rfl (by first | exact pureEval_ok rfl | exact v_load rfl (by repeat (first | exact List.Mem.head _ | apply List.Mem.tail)) rfl (by rfl) | exact v_load_ext0 rfl (by assumption) rfl (by rfl) | exact v_index rfl rfl rfl rfl (by omega) (by omega) (by with_reducible first | exact idx4 _ _ _   | fail)  | fail) ?_  | fail)
    refine e_call rfl rfl rfl rfl rfl (fun W hW => hrd x true _ W hin hW) ?_
    repeat (first | refine e_new rfl rfl rfl rfl (by first | exact n_buildSlice rfl rfl rfl rfl (by rfl)  | fail) (fun _ => ?_)  | fail)
    refine e_app (xs := flatE ((redE C N L).take (2 * k + 1)) ++ edE (redS C N true x)) (n := 2 * k + 1 + 1) rfl rfl rfl rfl rfl (by decide) (by rw [List.length_append, flatE_len, List.length_take, hel]; show min (2 * k + 1) (2 * L.length) * 3 + 3 = _; omega) (by unfold maxLen; omega) rfl (a_append (m := 1) (ys := edE (redS C N true x)) rfl rfl rfl rfl (news_own (by repeat (first | exact List.Mem.head _ | apply List.Mem.tail))) (by repeat (first | exact List.Mem.head _ | apply List.Mem.tail)) hg7 rfl (allOne_mem rfl) rfl rfl (by omega) (by unfold maxLen; omega)) (fun b8 c8 r8 hg8 => ?_)
    rw [← flatE_snoc, ← t2] at hg8 ⊢
    repeat (first | refine l_val rfl rfl (by first | exact v_add rfl rfl (by omega) (by omega) | exact pureEval_ok rfl  | fail) ?_ | refine l_nil ?_ | refine c_region ?_ | refine x_then ?_ | refine x_block ?_ | refine e_val rfl rfl rfl rfl (by first | exact pureEval_ok rfl  | fail) ?_ | refine e_nil rfl ?_  | fail)
    exact x_back ⟨k + 1, b8, c8, r8⟩ ⟨hlt, hg8⟩ (by simp only; omega) (by repeat (first | exact EnvSub.nil | refine EnvSub.cons rfl (by first | rfl | (congr 1; done) | (exact congrArg (Value.int _) (by omega)) | (simp; done)) ?_)) (by repeat (first | exact MSub.nil | refine MSub.keep (by first | rfl | assumption) ?_ | refine MSub.drop ?_ | exact MSub.refl _))
  · have hkl : k = L.length := by omega
    subst hkl
    have hle : 2 * L.length = (redE C N L).length := hel.symm
    repeat (first | refine l_val rfl rfl (by first | exact pureEval_ok rfl | exact v_load rfl (by repeat (first | exact List.Mem.head _ | apply List.Mem.tail)) rfl (by rfl)  | fail) ?_ | refine l_nil ?_ | refine c_region ?_ | refine c_seq ?_ | refine x_then ?_ | refine c_dec_f rfl (by first | omega  | fail) ?_ | refine c_ret ?_ | refine c_exit ?_ | refine x_then_exit ?_ | refine x_block_same ?_  | fail)
    exact x_ret rfl rfl (by repeat (first | exact Res.nil | (apply Res.tmp; rfl) | (apply Res.cell; rfl; exact (by repeat (first | exact List.Mem.head _ | apply List.Mem.tail)); rfl; rfl))) rfl (fun W hW => ⟨bo, co, ro, by rw [hel], hW.below, Nat.le_of_not_lt (hW.own (bo, _) (by repeat (first | exact List.Mem.head _ | apply List.Mem.tail))).1, by
      have h9 := (hW.own (bo, _) (by repeat (first | exact List.Mem.head _ | apply List.Mem.tail))).2
      rw [hle, List.take_length] at h9
      exact h9⟩)
end R23
end Go.Proofs

set_option linter.unusedSectionVars false
set_option linter.unusedVariables false
set_option linter.unusedSimpArgs false
namespace Go.Proofs
open Go.RowKit Go.Kin Go.Kin.St Go.Kin.Ct
open R22
namespace R23
theorem flagged_within {K W : Int} {p : (Nat → Int) × Bool} {e : Ed} (h : Within K p.1) (h1 : -W ≤ e.w) (h2 : e.w ≤ W) : Within (K + W) (flagged p e).1 := by
  rw [flagged_fst]; exact raise_within h h1 h2
theorem flagged_eq (p : (Nat → Int) × Bool) (e : Ed) : flagged p e = if p.1 e.a < p.1 e.b - e.w then (iset p.1 e.a (p.1 e.b - e.w), true) else p := rfl
theorem flag_within {E : List Ed} {W : Int} (hw : ∀ e ∈ E, -W ≤ e.w ∧ e.w ≤ W) (hW : 0 ≤ W) {f : Nat → Int} {K : Int} (hK : Within K f) (k : Nat) : Within (K + W * k) ((E.take k).foldl flagged (f, false)).1 := by
  induction k with
  | zero => simpa using hK
  | succ k ih =>
    rw [show K + W * ((k + 1 : Nat) : Int) = K + W * k + W by rw [Int.natCast_succ, Int.mul_add, Int.mul_one]; omega]
    by_cases hk : k < E.length
    · have hx := List.getElem?_eq_getElem hk
      rw [List.take_add_one, hx, List.foldl_append]
      have := hw _ (List.getElem_mem hk)
      exact flagged_within ih this.1 this.2
    · rw [List.take_of_length_le (by omega)] at ih ⊢
      exact ih.mono (by omega)
set_option maxRecDepth 100000 in
set_option maxHeartbeats 40000000 in
theorem rraise_calls (T : Option Addr) (cap : Nat) (E : List Ed) (N b : Nat) (f : Nat → Int) (K : Int) (w : World) (hl : E.length ≤ 60) (hA : At w T 3 (E.map edE)) (hE : In N E) (hN : N ≤ 64)
    (hw : ∀ e ∈ E, -34084860461056 ≤ e.w ∧ e.w ≤ 34084860461056) (hK : Within K f) (hK2 : K ≤ 4611686018427387904) (hb : w.heap[b]? = some (.cells ⟨ivec N f⟩ 3 (0, 0))) (hAb : ∀ a, T = some a → E ≠ [] → a.block ≠ b) :
    Calls Try.prog 48 ⟨[.slice T E.length cap, .slice (some ⟨b, 0, none⟩) N N]⟩ w fun e w' => ∃ u : Unit, e = .returned (.tuple ⟨[.slice (some ⟨b, 0, none⟩) N N, .bool (E.foldl flagged (f, false)).2]⟩) ∧ Same (fun k => k ≠ b) w w' ∧
      w'.heap[b]? = some (.cells ⟨ivec N (E.foldl flagged (f, false)).1⟩ 3 (0, 0)) := by
  have hsat : SatW w (fun k => k < w.heap.size ∧ k ≠ b) noJ [(b, .cells ⟨ivec N f⟩ 3 (0, 0))] w :=
    ⟨Same.refl _ _, fun _ h => h.1, by simp, fun p hp => by rw [List.mem_singleton.1 hp]; exact ⟨fun h => h.2 rfl, hb⟩, closed_noJ, trivial⟩
  refine fun_enter Try.func48 rfl Try.ntmps48 rfl rfl hsat ?_
  repeat (first | refine l_val rfl rfl (by first | exact pureEval_ok rfl  | fail) ?_ | refine l_nil ?_ | refine c_region ?_ | refine c_seq ?_ | refine x_then ?_ | refine c_block ?_  | fail)
  refine c_loop (ι := Nat) (fun k => k ≤ E.length) (fun k => [(0, .slice T E.length cap), (1, .slice (some ⟨b, 0, none⟩) N N), (4, .slice none 0 0), (5, .bool false), (6, .bool ((E.take k).foldl flagged (f, false)).2), (7, .int .i64 k)])
    (fun k => [(b, .cells ⟨ivec N ((E.take k).foldl flagged (f, false)).1⟩ 3 (0, 0))]) (fun k => E.length - k) 0 (Nat.zero_le _) (by repeat (first | exact EnvSub.nil | refine EnvSub.cons rfl (by first | rfl | (congr 1; done) | (exact congrArg (Value.int _) (by omega)) | (simp; done)) ?_)) (by repeat (first | exact MSub.nil | refine MSub.keep (by first | rfl | assumption) ?_ | refine MSub.drop ?_ | exact MSub.refl _)) ?_
  intro k hk
  by_cases hlt : k < E.length
  · obtain ⟨x, hx⟩ : ∃ x, E[k]? = some x := ⟨_, List.getElem?_eq_getElem hlt⟩
    obtain ⟨b', o, rfl, hc⟩ := hA k (edE x) (by simp [hx])
    have he : Ext w (fun k => k < w.heap.size ∧ k ≠ b) b' (o + k * 3) (edE x) := ⟨⟨lt_of_cell (hc 0 _ rfl), hAb _ rfl (fun e => by subst e; simp at hlt)⟩, hc⟩
    have hin := List.mem_of_getElem? hx
    obtain ⟨w1, w2⟩ := hw x hin
    obtain ⟨n1, n2⟩ := hE x hin
    have hfold : (E.take (k + 1)).foldl flagged (f, false) = flagged ((E.take k).foldl flagged (f, false)) x := by
      rw [List.take_add_one, hx, List.foldl_append]; rfl
    have hwi := flag_within hw (by omega) hK k
    obtain ⟨p, hp⟩ : ∃ p, (E.take k).foldl flagged (f, false) = p := ⟨_, rfl⟩
    rw [hp] at hfold hwi ⊢
    have w3 := hwi x.a
    have w4 := hwi x.b
    by_cases hb2 : p.1 x.a < p.1 x.b - x.w
    · have hq : flagged p x = (iset p.1 x.a (p.1 x.b - x.w), true) := by rw [flagged_eq, if_pos hb2]
      rw [hq] at hfold
      repeat (first | refine l_val rfl rfl (by first | exact v_add rfl rfl (by omega) (by omega) | exact pureEval_ok rfl | exact v_load_ext0 rfl (by assumption) rfl (by rfl) | exact v_index rfl rfl rfl rfl (by omega) (by omega) (by with_reducible first | exact idx4 _ _ _   | fail)  | fail) ?_ | refine l_nil ?_ | refine c_region ?_ | refine c_seq ?_ | refine x_then ?_ | refine r_alloc rfl rfl rfl (by first | exact aggL  | fail) (fun _ => ?_) | refine r_store rfl rfl rfl rfl rfl rfl rfl (by repeat (first | exact Upd.head | apply Upd.tail)) (by rfl) ?_ | refine c_dec_t rfl (by first | omega  | fail) ?_ | refine c_block ?_ | refine c_skip ?_ | refine x_block ?_ | refine c_reads rfl (by decide +kernel) ?_ | refine c_cut rfl (by decide +kernel) ?_ | refine q_val rfl rfl (by first | exact v_add rfl rfl (by omega) (by omega) | exact pureEval_ok rfl | exact v_load rfl (by repeat (first | exact List.Mem.head _ | apply List.Mem.tail)) rfl (by rfl) | exact v_index rfl rfl rfl rfl (by omega) (by omega) (by with_reducible first | exact idx1 _   | fail) | exact v_load_at rfl (by repeat (first | exact List.Mem.head _ | apply List.Mem.tail)) rfl rfl (by first | exact ivec_get (by omega)  | fail)  | fail) ?_ | refine q_nil ?_ | refine h_val rfl rfl (by first | exact v_sub rfl rfl (by omega) (by omega) | exact pureEval_ok rfl | exact v_load rfl (by repeat (first | exact List.Mem.head _ | apply List.Mem.tail)) rfl (by rfl) | exact v_index rfl rfl rfl rfl (by omega) (by omega) (by with_reducible first | exact idx1 _   | fail) | exact v_load_at rfl (by repeat (first | exact List.Mem.head _ | apply List.Mem.tail)) rfl rfl (by first | exact ivec_get (by omega)  | fail)  | fail) ?_ | refine h_do1 rfl (by decide +kernel) (by decide +kernel) rfl rfl (by first | exact d_store_at rfl rfl rfl rfl rfl (by repeat (first | exact Upd.head | apply Upd.tail)) (by first | (rw [ivec_length]; omega)  | fail) (by first | exact ivec_set  | fail)  | fail) ?_  | fail)
      refine x_back (k + 1) hlt (by omega) ?_ ?_
      · rw [hfold]; exact (by repeat (first | exact EnvSub.nil | refine EnvSub.cons rfl (by first | rfl | (congr 1; done) | (exact congrArg (Value.int _) (by omega)) | (simp; done)) ?_))
      · rw [hfold]; exact (by repeat (first | exact MSub.nil | refine MSub.keep (by first | rfl | assumption) ?_ | refine MSub.drop ?_ | exact MSub.refl _))
    · have hq : flagged p x = p := by rw [flagged_eq, if_neg hb2]
      rw [hq] at hfold
      repeat (first | refine l_val rfl rfl (by first | exact v_add rfl rfl (by omega) (by omega) | exact pureEval_ok rfl | exact v_load_ext0 rfl (by assumption) rfl (by rfl) | exact v_index rfl rfl rfl rfl (by omega) (by omega) (by with_reducible first | exact idx4 _ _ _   | fail)  | fail) ?_ | refine l_nil ?_ | refine c_region ?_ | refine c_seq ?_ | refine x_then ?_ | refine r_alloc rfl rfl rfl (by first | exact aggL  | fail) (fun _ => ?_) | refine r_store rfl rfl rfl rfl rfl rfl rfl (by repeat (first | exact Upd.head | apply Upd.tail)) (by rfl) ?_ | refine c_dec_t rfl (by first | omega  | fail) ?_ | refine c_dec_f rfl (by first | omega  | fail) ?_ | refine c_block ?_ | refine c_skip ?_ | refine x_block ?_ | refine c_reads rfl (by decide +kernel) ?_ | refine q_val rfl rfl (by first | exact v_add rfl rfl (by omega) (by omega) | exact pureEval_ok rfl | exact v_load rfl (by repeat (first | exact List.Mem.head _ | apply List.Mem.tail)) rfl (by rfl) | exact v_index rfl rfl rfl rfl (by omega) (by omega) (by with_reducible first | exact idx1 _   | fail) | exact v_load_at rfl (by repeat (first | exact List.Mem.head _ | apply List.Mem.tail)) rfl rfl (by first | exact ivec_get (by omega)  | fail)  | fail) ?_ | refine q_nil ?_  | fail)
      refine x_back (k + 1) hlt (by omega) ?_ ?_
      · rw [hfold]; exact (by repeat (first | exact EnvSub.nil | refine EnvSub.cons rfl (by first | rfl | (congr 1; done) | (exact congrArg (Value.int _) (by omega)) | (simp; done)) ?_))
      · rw [hfold]; exact (by repeat (first | exact MSub.nil | refine MSub.keep (by first | rfl | assumption) ?_ | refine MSub.drop ?_ | exact MSub.refl _))
  · have hkl : k = E.length := by omega
    subst hkl
    rw [List.take_length]
    repeat (first | refine l_val rfl rfl (by first | exact pureEval_ok rfl  | fail) ?_ | refine l_nil ?_ | refine c_region ?_ | refine c_seq ?_ | refine x_then ?_ | refine c_dec_f rfl (by first | omega  | fail) ?_ | refine c_ret ?_ | refine c_exit ?_ | refine x_then_exit ?_ | refine x_block_same ?_  | fail)
    refine x_ret rfl rfl (by repeat (first | exact Res.nil | (apply Res.tmp; rfl) | (apply Res.cell; rfl; exact (by repeat (first | exact List.Mem.head _ | apply List.Mem.tail)); rfl; rfl))) rfl (fun W hW => ⟨(), rfl, ?_, (hW.own _ (by repeat (first | exact List.Mem.head _ | apply List.Mem.tail))).2⟩)
    exact hW.same.monoLt fun b hb hne => ⟨hb, hne⟩
end R23
end Go.Proofs

set_option linter.unusedSectionVars false
set_option linter.unusedVariables false
set_option linter.unusedSimpArgs false
namespace Go.Proofs
open Go.RowKit Go.Kin Go.Kin.St Go.Kin.Ct
open R22
namespace R23
/-- the least times that keep all steps, if there are such -/
noncomputable def str (n : Int) (L C : List Lk) : Option (Nat → Int) := if chkU n L C = 0 then found (redE C n.toNat L) (n.toNat + 1) (fun _ => 0) else none
theorem str_bad {n : Int} {L C : List Lk} (h : chkU n L C ≠ 0) : str n L C = none := if_neg h
theorem str_in {n : Int} {L C : List Lk} (h : chkU n L C = 0) : In n.toNat (redE C n.toNat L) := by
  obtain ⟨h1, h2, h3, h4, h5, h6⟩ := chkU_ok h
  exact redE_in h6 (by rw [show ((n.toNat : Nat) : Int) = n by omega]; exact h5)
theorem str_least {n : Int} {L C : List Lk} {t : Nat → Int} (h : str n L C = some t) : chkU n L C = 0 ∧ Least n.toNat (redE C n.toNat L) (fun _ => 0) t := by
  unfold str at h
  split at h
  · rename_i hc
    exact ⟨hc, found_least (str_in hc) h⟩
  · cases h
theorem str_none {n : Int} {L C : List Lk} (h : str n L C = none) (hc : chkU n L C = 0) (s : Nat → Int) : ¬ Sol (redE C n.toNat L) s := by
  unfold str at h
  rw [if_pos hc] at h
  exact found_no (str_in hc) h s
theorem str_of {n : Int} {L C : List Lk} {t : Nat → Int} (hc : chkU n L C = 0) (h : Least n.toNat (redE C n.toNat L) (fun _ => 0) t) : ∃ s, str n L C = some s ∧ ∀ x, x < n.toNat → t x = s x := by
  cases he : str n L C with
  | none => exact absurd h.sol (str_none he hc t)
  | some s => exact ⟨s, rfl, h.uniq (str_least he).2⟩
theorem str_no {n : Int} {L C : List Lk} (h : ∀ s, ¬ Sol (redE C n.toNat L) s) : str n L C = none := by
  cases he : str n L C with
  | none => rfl
  | some s => exact absurd (str_least he).2.sol (h s)
theorem ivec_congr {n : Nat} {f g : Nat → Int} (h : ∀ x, x < n → f x = g x) : ivec n f = ivec n g := by
  unfold ivec vec
  apply List.map_congr_left
  intro x hx
  rw [h x (List.mem_range.1 hx)]
def noV (e : Int) : Value := .tuple ⟨[.slice none 0 0, .bool false, .int .i64 e]⟩
def yesV (n b : Nat) : Value := .tuple ⟨[.slice (some ⟨b, 0, none⟩) n n, .bool true, .int .i64 0]⟩
/-- what Strong answers -/
def StrQ (n : Int) (L C : List Lk) (w : World) (e : Ending) (w' : World) : Prop :=
  (str n L C = none ∧ e = .returned (noV (chkU n L C)) ∧ Below w.heap.size w w') ∨
  (∃ t b, str n L C = some t ∧ e = .returned (yesV n.toNat b) ∧ Below w.heap.size w w' ∧ w.heap.size ≤ b ∧ w'.heap[b]? = some (.cells ⟨ivec n.toNat t⟩ 3 (0, 0)))
theorem pass_withinE {E : List Ed} (hl : E.length ≤ 60) (hw : ∀ e ∈ E, -34084860461056 ≤ e.w ∧ e.w ≤ 34084860461056) (k : Nat) : Within (2045091627663360 * k) (passes E k (fun _ => 0)) := by
  induction k with
  | zero => exact Within.zero (by omega)
  | succ k ih =>
    have h := flag_within hw (by omega) ih E.length
    rw [List.take_length, flagged_fold_fst] at h
    exact h.mono (by omega)
theorem redE_few {C L : List Lk} {N : Nat} (hT : Tree N C) (hL : Fine N L) (hc : C.length ≤ 30) : ∀ e ∈ redE C N L, -34084860461056 ≤ e.w ∧ e.w ≤ 34084860461056 := fun e he => by
  have := redE_wt hT hL he
  omega
set_option maxRecDepth 100000 in
set_option maxHeartbeats 40000000 in
theorem rStrong_calls (u : Un) (w : World) (hA : u.In w) (hl : u.L.length ≤ 1000) (hc : u.C.length ≤ 1000) (hf : chkU u.n u.L u.C = 0 → u.L.length ≤ 30 ∧ u.C.length ≤ 30) :
    Calls Try.prog 23 ⟨[.agg ⟨u.v⟩]⟩ w (StrQ u.n u.L u.C w) := by
  have hck : ∀ (mem : List (Nat × Obj)) (W : World), SatW w (base w) noJ mem W → Calls Try.prog 17 ⟨[.agg ⟨u.v⟩]⟩ W fun e w' => e = .returned (.int .i64 (chkU u.n u.L u.C)) ∧ Below W.heap.size W w' := fun mem W hW => rCheckU_calls u W (hA.sat hW) hl hc
  have hst : ∀ (N : Nat) (mem : List (Nat × Obj)) (W : World), u.n = N → N ≤ 64 → u.C.length ≤ 256 → u.L.length ≤ 256 → Tree N u.C → Fine N u.L → SatW w (base w) noJ mem W → Calls Try.prog 47 ⟨[.agg ⟨u.v⟩]⟩ W (StepsQ (redE u.C N u.L) W) := fun N mem W h1 h2 h3 h4 h5 h6 hW => rsteps_calls u N W h1 h2 (hA.sat hW) h3 h4 h5 h6
  obtain ⟨n, A, cap, L, B, cab, C⟩ := u
  simp only [Un.v] at hl hc hf hck hst ⊢
  refine fun_enter Try.func23 rfl Try.ntmps23 rfl rfl (satW_nil w) ?_
  repeat (first | refine l_val rfl rfl (by first | exact pureEval_ok rfl | exact v_load rfl (by repeat (first | exact List.Mem.head _ | apply List.Mem.tail)) rfl (by rfl)  | fail) ?_ | refine l_nil ?_ | refine c_region ?_ | refine c_seq ?_ | refine x_then ?_ | refine r_box rfl rfl rfl rfl (fun _ => ?_)  | fail)
  rename_i b1
  refine r_call rfl rfl rfl (fun W hW => hck _ W hW) ?_
  by_cases h0 : chkU n L C = 0
  rotate_left
  · repeat (first | refine l_val rfl rfl (by first | exact pureEval_ok rfl  | fail) ?_ | refine l_nil ?_ | refine c_region ?_ | refine c_seq ?_ | refine x_then ?_ | refine c_dec_t rfl (by first | omega  | fail) ?_ | refine c_ret ?_ | refine x_then_ret ?_  | fail)
    exact x_ret rfl rfl (by repeat (first | exact Res.nil | (apply Res.tmp; rfl) | (apply Res.cell; rfl; exact (by repeat (first | exact List.Mem.head _ | apply List.Mem.tail)); rfl; rfl))) rfl (fun W hW => .inl ⟨str_bad h0, rfl, hW.below⟩)
  obtain ⟨f1, f2⟩ := hf h0
  obtain ⟨n1, n2, l1, l2, hF, hT⟩ := chkU_ok h0
  obtain ⟨N, rfl⟩ : ∃ N : Nat, n = N := ⟨n.toNat, by omega⟩
  rw [Int.toNat_natCast] at hT
  have hE : In N (redE C N L) := redE_in hT hF
  have hel : (redE C N L).length = 2 * L.length := redE_len
  have hwt := redE_few hT hF f2
  have h0' := h0
  rw [h0']
  clear h0'
  repeat (first | refine l_val rfl rfl (by first | exact pureEval_ok rfl | exact v_load rfl (by repeat (first | exact List.Mem.head _ | apply List.Mem.tail)) rfl (by rfl)  | fail) ?_ | refine l_nil ?_ | refine c_region ?_ | refine c_seq ?_ | refine x_then ?_ | refine c_false rfl ?_ | refine c_skip ?_  | fail)
  refine r_call1 (ι := Nat × Nat × List Value) (v := fun i => .slice (some ⟨i.1, 0, none⟩) (redE C N L).length i.2.1) (bk := fun i => i.1) (o := fun i => .cells ⟨flatE (redE C N L) ++ i.2.2⟩ 98 (0, 0)) rfl rfl rfl (fun W hW => (hst N _ W rfl (by omega) (by omega) (by omega) hT hF hW).mono fun e W' ⟨b, c, r, g1, g2, g3, g4⟩ => ⟨(b, c, r), g1, g2, g3, g4⟩) ?_
  rintro ⟨be, ce, re⟩
  simp only
  generalize hEd : redE C N L = E at *
  repeat (first | refine l_val rfl rfl (by first | exact pureEval_ok rfl | exact v_load rfl (by repeat (first | exact List.Mem.head _ | apply List.Mem.tail)) rfl (by rfl)  | fail) ?_ | refine l_nil ?_ | refine c_region ?_ | refine c_seq ?_ | refine x_then ?_ | refine r_make rfl rfl rfl rfl rfl rfl (by first | rfl  | fail) (by omega) (by omega) rfl rfl (by first | exact flat_int  | fail) (fun _ => ?_) | refine c_block ?_  | fail)
  rename_i bt
  refine c_loop (ι := Nat × Bool) (fun (k, ch) => k ≤ N + 1 ∧ (ch = true → ∀ j, j < k → ¬ Sol E (passes E j fun _ => 0)) ∧ (ch = false → Sol E (passes E k fun _ => 0)))
    (fun (k, ch) => [(1, .pointer (some ⟨b1, 0, none⟩)), (2, .slice none 0 0), (3, .bool false), (4, .int .i64 0), (6, .slice (some ⟨be, 0, none⟩) E.length ce), (7, .slice (some ⟨bt, 0, none⟩) N N), (8, .bool ch), (9, .int .i64 k)])
    (fun (k, ch) => [(bt, .cells ⟨ivec N (passes E k fun _ => 0)⟩ 3 (0, 0)), (be, .cells ⟨flatE E ++ re⟩ 98 (0, 0)), (b1, .cells ⟨[.int .i64 N, .slice A L.length cap, .slice B C.length cab]⟩ 24 (0, 0))]) (fun (k, ch) => N + 1 - k) (0, true) ⟨Nat.zero_le _, fun _ j hj => by omega, fun h => by cases h⟩ (by repeat (first | exact EnvSub.nil | refine EnvSub.cons rfl (by first | rfl | (congr 1; done) | (exact congrArg (Value.int _) (by omega)) | (simp; done)) ?_)) (by repeat (first | exact MSub.nil | refine MSub.keep (by first | rfl | assumption) ?_ | refine MSub.drop ?_ | exact MSub.refl _)) ?_
  rintro ⟨k, ch⟩ ⟨hk, hno, hyes⟩
  simp only at hk hno hyes ⊢
  cases ch with
  | false =>
    have hs := hyes rfl
    clear hyes hno
    have hst2 : ∃ s, str N L C = some s ∧ ∀ x, x < N → passes E k (fun _ => 0) x = s x := by
      have := str_of (n := N) h0 (by rw [Int.toNat_natCast, hEd]; exact sol_least hE hs)
      rw [Int.toNat_natCast] at this
      exact this
    obtain ⟨s, s1, s2⟩ := hst2
    by_cases hkN : k ≤ N
    · repeat (first | refine l_val rfl rfl (by first | exact pureEval_ok rfl | exact v_load rfl (by repeat (first | exact List.Mem.head _ | apply List.Mem.tail)) rfl (by rfl)  | fail) ?_ | refine l_nil ?_ | refine c_region ?_ | refine c_seq ?_ | refine x_then ?_ | refine c_false rfl ?_ | refine c_skip ?_ | refine c_ret ?_ | refine c_exit ?_ | refine x_then_exit ?_ | refine x_block_same ?_ | refine l_dec_t rfl rfl rfl rfl rfl (by first | omega  | fail) ?_  | fail)
      exact x_ret rfl rfl (by repeat (first | exact Res.nil | (apply Res.tmp; rfl) | (apply Res.cell; rfl; exact (by repeat (first | exact List.Mem.head _ | apply List.Mem.tail)); rfl; rfl))) rfl (fun W hW => .inr ⟨s, bt, s1, rfl, hW.below, Nat.le_of_not_lt (hW.own (bt, _) (by repeat (first | exact List.Mem.head _ | apply List.Mem.tail))).1, by rw [Int.toNat_natCast, ← ivec_congr s2]; exact (hW.own (bt, _) (by repeat (first | exact List.Mem.head _ | apply List.Mem.tail))).2⟩)
    · repeat (first | refine l_val rfl rfl (by first | exact pureEval_ok rfl | exact v_load rfl (by repeat (first | exact List.Mem.head _ | apply List.Mem.tail)) rfl (by rfl)  | fail) ?_ | refine l_nil ?_ | refine c_region ?_ | refine c_seq ?_ | refine x_then ?_ | refine l_skip rfl rfl ?_ | refine c_false rfl ?_ | refine c_skip ?_ | refine c_ret ?_ | refine c_exit ?_ | refine x_then_exit ?_ | refine x_block_same ?_ | refine l_dec_f rfl rfl rfl rfl rfl (by first | omega  | fail) ?_  | fail)
      exact x_ret rfl rfl (by repeat (first | exact Res.nil | (apply Res.tmp; rfl) | (apply Res.cell; rfl; exact (by repeat (first | exact List.Mem.head _ | apply List.Mem.tail)); rfl; rfl))) rfl (fun W hW => .inr ⟨s, bt, s1, rfl, hW.below, Nat.le_of_not_lt (hW.own (bt, _) (by repeat (first | exact List.Mem.head _ | apply List.Mem.tail))).1, by rw [Int.toNat_natCast, ← ivec_congr s2]; exact (hW.own (bt, _) (by repeat (first | exact List.Mem.head _ | apply List.Mem.tail))).2⟩)
  | true =>
    have hno2 := fun (_ : Unit) => hno rfl
    clear hyes hno
    by_cases hkN : k ≤ N
    · have hwp := pass_withinE (by omega) hwt k
      have hff : (E.foldl flagged (passes E k (fun _ => 0), false)).1 = passes E (k + 1) fun _ => 0 := flagged_fold_fst E _
      have hfb := flagged_false E (passes E k fun _ => 0)
      obtain ⟨fl, hfl⟩ : ∃ b, (E.foldl flagged (passes E k (fun _ => 0), false)).2 = b := ⟨_, rfl⟩
      rw [hfl] at hfb
      repeat (first | refine l_val rfl rfl (by first | exact pureEval_ok rfl | exact v_load rfl (by repeat (first | exact List.Mem.head _ | apply List.Mem.tail)) rfl (by rfl)  | fail) ?_ | refine l_nil ?_ | refine c_region ?_ | refine c_seq ?_ | refine x_then ?_ | refine c_true rfl ?_ | refine c_block ?_ | refine c_skip ?_ | refine l_dec_t rfl rfl rfl rfl rfl (by first | omega  | fail) ?_  | fail)
      refine r_callu (ι := Unit) (b := bt) (o := .cells ⟨ivec N (passes E k fun _ => 0)⟩ 3 (0, 0)) (o' := fun _ => .cells ⟨ivec N (passes E (k + 1) fun _ => 0)⟩ 3 (0, 0)) (v := fun _ => .tuple ⟨[.slice (some ⟨bt, 0, none⟩) N N, .bool fl]⟩) rfl rfl rfl (by repeat (first | exact List.Mem.head _ | apply List.Mem.tail)) (fun _ => (by repeat (first | exact Upd.head | apply Upd.tail))) (fun W hW hbt => ?_) (fun _ => ?_)
      · have hne : be ≠ bt := fun e => by
          have := hW.nodup
          subst e
          simp at this
        have h := rraise_calls (some ⟨be, 0, none⟩) ce E N bt (passes E k fun _ => 0) _ W (by omega) (SatW.rows (b := be) (rest := re) (rows := E.map edE) hW (by repeat (first | exact List.Mem.head _ | apply List.Mem.tail)) rfl (edE_len _)) hE (by omega) hwt hwp (by omega) hbt (fun a e _ => by cases e; exact hne)
        rw [hff, hfl] at h
        exact h
      · cases fl with
        | true =>
          have hns : ¬ Sol E (passes E k fun _ => 0) := fun h => by have := hfb.2 h; cases this
          repeat (first | refine l_val rfl rfl (by first | exact v_add rfl rfl (by omega) (by omega) | exact pureEval_ok rfl  | fail) ?_ | refine l_nil ?_ | refine c_region ?_ | refine x_then ?_ | refine x_block ?_  | fail)
          refine x_back (k + 1, true) ⟨by simp only; omega, fun _ j hj => ?_, fun h => by cases h⟩ (by simp only; omega) (by repeat (first | exact EnvSub.nil | refine EnvSub.cons rfl (by first | rfl | (congr 1; done) | (exact congrArg (Value.int _) (by omega)) | (simp; done)) ?_)) (by repeat (first | exact MSub.nil | refine MSub.keep (by first | rfl | assumption) ?_ | refine MSub.drop ?_ | exact MSub.refl _))
          by_cases e : j = k
          · rw [e]; exact hns
          · exact hno2 () j (by simp only at hj; omega)
        | false =>
          have hs := hfb.1 rfl
          repeat (first | refine l_val rfl rfl (by first | exact v_add rfl rfl (by omega) (by omega) | exact pureEval_ok rfl  | fail) ?_ | refine l_nil ?_ | refine c_region ?_ | refine x_then ?_ | refine x_block ?_  | fail)
          exact x_back (k + 1, false) ⟨by simp only; omega, (fun h => by cases h), fun _ => by show Sol E (pass E (passes E k fun _ => 0)); rw [pass_kept hs]; exact hs⟩ (by simp only; omega) (by repeat (first | exact EnvSub.nil | refine EnvSub.cons rfl (by first | rfl | (congr 1; done) | (exact congrArg (Value.int _) (by omega)) | (simp; done)) ?_)) (by repeat (first | exact MSub.nil | refine MSub.keep (by first | rfl | assumption) ?_ | refine MSub.drop ?_ | exact MSub.refl _))
    · have hke : k = N + 1 := by omega
      subst hke
      repeat (first | refine l_val rfl rfl (by first | exact pureEval_ok rfl | exact v_load rfl (by repeat (first | exact List.Mem.head _ | apply List.Mem.tail)) rfl (by rfl)  | fail) ?_ | refine l_nil ?_ | refine c_region ?_ | refine c_seq ?_ | refine x_then ?_ | refine l_skip rfl rfl ?_ | refine c_true rfl ?_ | refine c_false rfl ?_ | refine c_ret ?_ | refine c_exit ?_ | refine x_then_ret ?_ | refine x_then_exit ?_ | refine x_block_same ?_ | refine l_dec_f rfl rfl rfl rfl rfl (by first | omega  | fail) ?_  | fail)
      exact x_ret rfl rfl (by repeat (first | exact Res.nil | (apply Res.tmp; rfl) | (apply Res.cell; rfl; exact (by repeat (first | exact List.Mem.head _ | apply List.Mem.tail)); rfl; rfl))) rfl (fun W hW => .inl ⟨str_no fun s => by rw [Int.toNat_natCast, hEd]; exact none_sol hE (Nat.le_refl N) (hno2 () N (by omega)) s, by rw [h0]; rfl, hW.below⟩)
end R23
end Go.Proofs

/- Clocks: bars and pauses as the program goes through them; when a bar begins. -/
import Derived.Test.YtjagcijgfmclhaaTpB
import Derived.Test.YtjagcijgfmclhaaTmLaw
set_option linter.unusedSectionVars false
set_option linter.unusedVariables false
set_option linter.unusedSimpArgs false
namespace Go.Proofs
open Go.RowKit Go.Kin Go.Kin.Tm
namespace R13
theorem ti62 : TIOk Try.prog 62 ⟨.other, 1, 8, .nilFunc⟩ := ti_mk (tk_other (by kernel_rfl)) (by kernel_rfl)
def tt2 : List (TypeId × TI) := (62, ⟨.other, 1, 8, .nilFunc⟩) :: tt
instance : TT Try.prog tt2 := ⟨tt_cons ti62 (TT.ok (P := Try.prog) (tt := tt))⟩
/-- a bar or a pause as it is handed to the rounds -/
def ptE (x : Pt) : List Value := [.agg ⟨[.int .i64 x.bar, .int .i64 x.b, .int .i64 x.e, .bool x.play]⟩]
/-- the function of the pauses' lengths, at all worlds that keep what lay -/
def LenAt (w : World) (n : Nat) (len : Nat → Int) (lf : FuncId) (caps : List Value) : Prop :=
  ∀ i, i < n → ∀ W, Below w.heap.size w W → Calls Try.prog lf ⟨[.int .i64 i] ++ caps⟩ W fun e W' => e = .returned (.int .i64 (len i)) ∧ Below W.heap.size W W'
/-- what the iterator reads -/
def Rp (w : World) (b1 b2 : Nat) : Nat → Prop := fun k => base w k ∨ k = b1 ∨ k = b2
theorem drop_head {α : Type} {xs r : List α} {j : Nat} {x : α} (h : xs.drop j = x :: r) : ∃ hj : j < xs.length, xs[j] = x ∧ xs.drop (j + 1) = r := by
  have hj : j < xs.length := by
    rcases Nat.lt_or_ge j xs.length with h' | h'
    · exact h'
    · rw [List.drop_eq_nil_of_le h'] at h; cases h
  rw [List.drop_eq_getElem_cons hj] at h
  simp only [List.cons.injEq] at h
  exact ⟨hj, h.1, h.2⟩
structure PS where
  k : Nat
  i : Nat
  j : Nat
  at' : Int
theorem hasP_yes {ps : List Ps} {i : Nat} {k : Int} (h : hasP ps i k = true) : ∃ p, ps[i]? = some p ∧ p.bar = k := by
  unfold hasP at h
  cases hp : ps[i]? with
  | none => rw [hp] at h; cases h
  | some p => rw [hp] at h; exact ⟨p, rfl, of_decide_eq_true h⟩
theorem hasP_no {ps : List Ps} {i : Nat} {k : Int} {p : Ps} (h : hasP ps i k = false) (hp : ps[i]? = some p) : p.bar ≠ k := by
  unfold hasP at h
  rw [hp] at h
  exact of_decide_eq_false h

set_option maxRecDepth 100000 in
set_option maxHeartbeats 4000000 in
theorem parts_itR (R : Nat → Prop) (c : Clk) (len : Nat → Int) (lf : FuncId) [Ent Try.prog lf] (caps : List Value) (w W1 : World) (b1 b2 : Nat) (hRw : ∀ k, base w k → R k) (hR1 : R b1) (hR2 : R b2) (hR : ∀ k, R k → k < W1.heap.size) (hok : Ok c.n c.ts c.ps c.sp) (hA : c.In w) (hlen : ∀ i, i < c.ps.length → 0 ≤ len i ∧ len i ≤ 1048576)
    (hcl : ∀ i, i < c.ps.length → ∀ W, Same R W1 W → Calls Try.prog lf ⟨[.int .i64 i] ++ caps⟩ W fun e W' => e = .returned (.int .i64 (len i)) ∧ Below W.heap.size W W') (hS : Same (base w) w W1) (h1 : W1.heap[b1]? = some (.cells ⟨c.v⟩ 26 (0, 0))) (h2 : W1.heap[b2]? = some (.cells ⟨[.func (.func lf) ⟨[]⟩ ⟨caps⟩]⟩ 62 (0, 0))) :
    It Try.prog 51 [.pointer (some ⟨b1, 0, none⟩), .pointer (some ⟨b2, 0, none⟩)] ptE (pf (tk c.ts) c.ps len c.n.toNat 0 0 0) R W1 := by
  intro lp J Jx cJ cJx hy h0
  obtain ⟨N, hN⟩ : ∃ N, c.n.toNat = N := ⟨_, rfl⟩
  rw [hN] at hy ⊢
  obtain ⟨xs, hxs⟩ : ∃ xs, pf (tk c.ts) c.ps len N 0 0 0 = xs := ⟨_, rfl⟩
  rw [hxs] at hy ⊢
  have hn1 := hok.n1
  have hn2 := hok.n2
  have hl1 := hok.lim.1
  have hl2 := hok.lim.2.1
  have hhead : head0 c.ts = true := by
    obtain ⟨t, e1, e2⟩ := hok.t0
    cases hts : c.ts with
    | nil => rw [hts] at e1; cases e1
    | cons t l => rw [hts] at e1; cases e1; exact decide_eq_true e2
  have hE1 : Ext W1 R b1 0 c.v := ⟨hR1, fun i v hi => by unfold World.cell?; rw [h1, Nat.zero_add]; simpa using hi⟩
  have hE2 : Ext W1 R b2 0 [.func (.func lf) ⟨[]⟩ ⟨caps⟩] := ⟨hR2, fun i v hi => by unfold World.cell?; rw [h2, Nat.zero_add]; simpa using hi⟩
  have hbel : ∀ {J : (Nat → Prop) → World → Prop} {mem : List (Nat × Obj)} {W : World}, SatW W1 R J mem W → Below w.heap.size w W := fun hm =>
    (hS.trans (hm.same.mono fun k hk => hRw k hk)).below (Nat.le_refl _) fun _ hk => hk
  have hs : SatW W1 R (J 0) [] W1 := ⟨Same.refl _ _, hR, List.nodup_nil, fun p hp => (by cases hp), cJ 0, cJ 0 _ _ _ _ h0 (Same.refl _ _) fun b hb => (by cases hb)⟩
  have hB1 : Kin.At W1 c.B 4 (c.ps.map psE) := hA.b.later (hbel hs)
  have hBR : ∀ b o, c.B = some ⟨b, o, none⟩ → ∀ i, i < c.ps.length → R b := fun b o e i hi => by
    obtain ⟨b', o', e', hc⟩ := ext_at hA.b (List.getElem?_eq_getElem hi)
    rw [e] at e'
    cases e'
    exact hRw _ (lt_of_cell (hc 0 _ rfl))
  obtain ⟨n, ts, ps, sp, A, B, C, ca, cb, cc⟩ := c
  dsimp only [Clk.v] at *
  refine fun_enter Try.func51 rfl Try.ntmps51 rfl rfl hs ?_
  repeat (first | refine l_val rfl rfl (by first | exact pureEval_ok rfl | exact v_load_ext0 rfl (by assumption) rfl (by rfl) ) ?_ | refine l_nil ?_ | refine c_region ?_ | refine c_seq ?_ | refine x_then ?_ | refine c_block ?_ )
  refine c_loopD (ι := PS) (fun q => q.k ≤ N ∧ q.i ≤ ps.length ∧ q.i ≤ q.k ∧ 0 ≤ q.at' ∧ q.at' ≤ 65536 * q.k + 1048576 * q.i ∧ q.j ≤ xs.length ∧ xs.drop q.j = pf (tk ts) ps len (N - q.k) q.k q.at' q.i) (fun _ => []) (fun q => J q.j)
    (fun q => [(0, .func (.yield lp) ⟨[]⟩ ⟨[]⟩), (1, .pointer (some ⟨b1, 0, none⟩)), (2, .pointer (some ⟨b2, 0, none⟩)), (4, .int .i64 q.at'), (5, .int .i64 q.i), (10, .int .i64 n), (11, .int .i64 q.k)]) (fun _ => []) (fun q => N - q.k) ⟨0, 0, 0, 0⟩
    ⟨by simp only; omega, by simp only; omega, by simp only; omega, by simp only; omega, by simp only; omega, by simp only; omega, by simp only [List.drop_zero, Nat.sub_zero]; exact hxs.symm⟩ rfl rfl (by repeat (first | exact EnvSub.nil | refine EnvSub.cons rfl (by first | rfl | (congr 1; done) | (exact congrArg (Value.int _) (by omega)) | (simp; done)) ?_)) (by repeat (first | exact MSub.nil | refine MSub.keep (by first | rfl | assumption) ?_ | refine MSub.drop ?_ | exact MSub.refl _)) ?_
  rintro ⟨k, i, j, at'⟩ ⟨q1, q2, q3, q4, q5, q6, q7⟩
  simp only at q1 q2 q3 q4 q5 q6 q7 ⊢
  by_cases hlt : k < N
  · obtain ⟨f, hf⟩ : ∃ f, N - k = f + 1 := ⟨N - k - 1, by omega⟩
    rw [hf] at q7
    simp only [pf] at q7
    obtain ⟨hj1, e1, q8⟩ := drop_head q7
    obtain ⟨T, hT⟩ : ∃ T, tk ts k = T := ⟨_, rfl⟩
    have hTb := hok.bars k (by omega) (by omega)
    rw [hT] at e1 q8 hTb
    clear q7
    repeat (first | refine l_val rfl rfl (by first | exact pureEval_ok rfl | exact v_load_ext0 rfl (by assumption) rfl (by rfl) ) ?_ | refine l_nil ?_ | refine c_region ?_ | refine c_seq ?_ | refine x_then ?_ | refine c_dec_t rfl (by first | omega ) ?_ | refine c_block ?_ | refine c_skip ?_ )
    refine r_call rfl rfl rfl (fun W hW => ticks_calls (⟨n, ts, ps, sp, A, B, C, ca, cb, cc⟩ : Clk) k W (by simp only; omega) (by simp only; omega) hhead hok.asc (by omega) (by omega) (hA.later (hbel hW))) ?_
    simp only [hT]
    repeat (first | refine l_val rfl rfl (by first | exact v_add rfl rfl (by omega) (by omega) | exact pureEval_ok rfl | exact v_load rfl (by repeat (first | exact List.Mem.head _ | apply List.Mem.tail)) rfl (by rfl) | exact v_build rfl rfl (by rfl) ) ?_ | refine l_nil ?_ | refine c_region ?_ | refine c_seq ?_ | refine x_then ?_ | refine r_alloc rfl rfl rfl (by first | exact aggL ) (fun _ => ?_) | refine r_store rfl rfl rfl rfl rfl rfl rfl (by repeat (first | exact Upd.head | apply Upd.tail)) (by rfl) ?_ )
    refine l_yield rfl rfl rfl rfl rfl (cJ (j + 1)) (cJx j) (fun S A hj hS => by have := hy j hj1 S A hj hS; rw [e1] at this; exact this) ?_ (fun W0 => ?_)
    · repeat (first | refine l_val rfl rfl (by first | exact pureEval_ok rfl | exact v_load rfl (by repeat (first | exact List.Mem.head _ | apply List.Mem.tail)) rfl (by rfl) | exact v_load_ext rfl (by assumption) rfl (by rfl) ) ?_ | refine l_nil ?_ | refine c_region ?_ | refine c_seq ?_ | refine x_then ?_ | refine c_false rfl ?_ | refine c_skip ?_ )
      cases hh : hasP ps i k with
      | true =>
        rw [hh, if_pos rfl] at q8
        obtain ⟨hj2, e2, q9⟩ := drop_head q8
        obtain ⟨p, hp, hpb⟩ := hasP_yes hh
        have hil : i < ps.length := (List.getElem?_eq_some_iff.1 hp).1
        obtain ⟨b, o, rfl, hc⟩ := ext_at hB1 hp
        have he : Ext W1 R b (o + i * 4) (psE p) := ⟨hBR b o rfl i hil, hc⟩
        unfold psE at he
        have hli := hlen i hil
        obtain ⟨X, hX⟩ : ∃ X, len i = X := ⟨_, rfl⟩
        have hcall : ∀ W, Same R W1 W → Calls Try.prog lf ⟨[.int .i64 i] ++ caps⟩ W fun e W' => e = .returned (.int .i64 X) ∧ Below W.heap.size W W' := fun W hW => hX ▸ hcl i hil W hW
        rw [hX] at hli e2 q9
        repeat (first | refine l_val rfl rfl (by first | exact pureEval_ok rfl | exact v_load_ext0 rfl (by assumption) rfl (by rfl) | exact v_load_ext rfl (by assumption) rfl (by rfl) | exact v_index rfl rfl rfl rfl (by omega) (by omega) (by with_reducible first | exact idx4 _ _ _  ) ) ?_ | refine l_nil ?_ | refine c_region ?_ | refine c_seq ?_ | refine x_then ?_ | refine c_dec_t rfl (by first | omega ) ?_ | refine l_dec_t rfl rfl rfl rfl rfl (by first | omega ) ?_ )
        refine r_callv rfl rfl rfl rfl rfl (fun W hW => hcall W hW.same) ?_
        repeat (first | refine l_val rfl rfl (by first | exact v_add rfl rfl (by omega) (by omega) | exact pureEval_ok rfl | exact v_load rfl (by repeat (first | exact List.Mem.head _ | apply List.Mem.tail)) rfl (by rfl) | exact v_build rfl rfl (by rfl) ) ?_ | refine l_nil ?_ | refine c_region ?_ | refine c_seq ?_ | refine x_then ?_ | refine r_alloc rfl rfl rfl (by first | exact aggL ) (fun _ => ?_) | refine r_store rfl rfl rfl rfl rfl rfl rfl (by repeat (first | exact Upd.head | apply Upd.tail)) (by rfl) ?_ )
        refine l_yield rfl rfl rfl rfl rfl (cJ (j + 1 + 1)) (cJx (j + 1)) (fun S A hj hS => by have := hy (j + 1) hj2 S A hj hS; rw [e2] at this; exact this) ?_ (fun W0 => ?_)
        · repeat (first | refine l_val rfl rfl (by first | exact v_add rfl rfl (by omega) (by omega) | exact pureEval_ok rfl | exact v_load rfl (by repeat (first | exact List.Mem.head _ | apply List.Mem.tail)) rfl (by rfl) ) ?_ | refine l_nil ?_ | refine c_region ?_ | refine c_seq ?_ | refine x_then ?_ | refine c_false rfl ?_ | refine c_skip ?_ | refine x_block ?_ )
          exact x_backD ⟨k + 1, i + 1, j + 2, at' + T + X⟩ ⟨hlt, hil, by simp only; omega, by simp only; omega, by simp only; omega, hj2, by simp only; rw [show N - (k + 1) = f by omega, q9]; rfl⟩ (by simp only; omega) rfl rfl (by repeat (first | exact EnvSub.nil | refine EnvSub.cons rfl (by first | rfl | (congr 1; done) | (exact congrArg (Value.int _) (by omega)) | (simp; done)) ?_)) (by repeat (first | exact MSub.nil | refine MSub.keep (by first | rfl | assumption) ?_ | refine MSub.drop ?_ | exact MSub.refl _))
        · repeat (first | refine l_val rfl rfl (by first | exact pureEval_ok rfl ) ?_ | refine l_nil ?_ | refine x_then ?_ | refine c_true rfl ?_ | refine c_ret ?_ | refine x_then_ret ?_ | refine x_block_ret ?_ )
          exact x_ret rfl rfl (by repeat (first | exact Res.nil | (apply Res.tmp; rfl) | (apply Res.cell; rfl; exact (by repeat (first | exact List.Mem.head _ | apply List.Mem.tail)); rfl; rfl))) rfl (fun W hW => ⟨⟨_, rfl⟩, .inr ⟨j + 1, by omega, _, hW.word⟩⟩)
      | false =>
        rw [hh, if_neg (by decide)] at q8
        by_cases hil : i < ps.length
        · obtain ⟨p, hp⟩ : ∃ p, ps[i]? = some p := ⟨_, List.getElem?_eq_getElem hil⟩
          have hpb := hasP_no hh hp
          obtain ⟨b, o, rfl, hc⟩ := ext_at hB1 hp
          have he : Ext W1 R b (o + i * 4) (psE p) := ⟨hBR b o rfl i hil, hc⟩
          unfold psE at he
          repeat (first | refine l_val rfl rfl (by first | exact v_add rfl rfl (by omega) (by omega) | exact pureEval_ok rfl | exact v_load_ext0 rfl (by assumption) rfl (by rfl) | exact v_load_ext rfl (by assumption) rfl (by rfl) | exact v_index rfl rfl rfl rfl (by omega) (by omega) (by with_reducible first | exact idx4 _ _ _  ) ) ?_ | refine l_nil ?_ | refine c_region ?_ | refine x_then ?_ | refine c_dec_f rfl (by first | omega ) ?_ | refine c_skip ?_ | refine x_block ?_ | refine l_dec_t rfl rfl rfl rfl rfl (by first | omega ) ?_ )
          exact x_backD ⟨k + 1, i, j + 1, at' + T⟩ ⟨hlt, q2, by simp only; omega, by simp only; omega, by simp only; omega, hj1, by simp only; rw [show N - (k + 1) = f by omega, q8]; rfl⟩ (by simp only; omega) rfl rfl (by repeat (first | exact EnvSub.nil | refine EnvSub.cons rfl (by first | rfl | (congr 1; done) | (exact congrArg (Value.int _) (by omega)) | (simp; done)) ?_)) (by repeat (first | exact MSub.nil | refine MSub.keep (by first | rfl | assumption) ?_ | refine MSub.drop ?_ | exact MSub.refl _))
        · repeat (first | refine l_val rfl rfl (by first | exact v_add rfl rfl (by omega) (by omega) | exact pureEval_ok rfl ) ?_ | refine l_nil ?_ | refine c_region ?_ | refine x_then ?_ | refine l_skip rfl rfl ?_ | refine c_false rfl ?_ | refine c_skip ?_ | refine x_block ?_ | refine l_dec_f rfl rfl rfl rfl rfl (by first | omega ) ?_ )
          exact x_backD ⟨k + 1, i, j + 1, at' + T⟩ ⟨hlt, q2, by simp only; omega, by simp only; omega, by simp only; omega, hj1, by simp only; rw [show N - (k + 1) = f by omega, q8]; rfl⟩ (by simp only; omega) rfl rfl (by repeat (first | exact EnvSub.nil | refine EnvSub.cons rfl (by first | rfl | (congr 1; done) | (exact congrArg (Value.int _) (by omega)) | (simp; done)) ?_)) (by repeat (first | exact MSub.nil | refine MSub.keep (by first | rfl | assumption) ?_ | refine MSub.drop ?_ | exact MSub.refl _))
    · repeat (first | refine l_val rfl rfl (by first | exact pureEval_ok rfl ) ?_ | refine l_nil ?_ | refine x_then ?_ | refine c_true rfl ?_ | refine c_ret ?_ | refine x_then_ret ?_ | refine x_block_ret ?_ )
      exact x_ret rfl rfl (by repeat (first | exact Res.nil | (apply Res.tmp; rfl) | (apply Res.cell; rfl; exact (by repeat (first | exact List.Mem.head _ | apply List.Mem.tail)); rfl; rfl))) rfl (fun W hW => ⟨⟨_, rfl⟩, .inr ⟨j, hj1, _, hW.word⟩⟩)
  · have hkN : k = N := by omega
    subst hkN
    rw [Nat.sub_self] at q7
    have hjl : j = xs.length := by
      have := congrArg List.length q7
      simp only [List.length_drop, pf, List.length_nil] at this
      omega
    repeat (first | refine l_val rfl rfl (by first | exact pureEval_ok rfl ) ?_ | refine l_nil ?_ | refine c_region ?_ | refine c_seq ?_ | refine x_then ?_ | refine c_dec_f rfl (by first | omega ) ?_ | refine c_exit ?_ | refine x_then_exit ?_ | refine x_block_same ?_ )
    exact x_end rfl rfl (by repeat (first | exact Res.nil | (apply Res.tmp; rfl) | (apply Res.cell; rfl; exact (by repeat (first | exact List.Mem.head _ | apply List.Mem.tail)); rfl; rfl))) rfl (fun W hW => ⟨⟨_, rfl⟩, .inl ⟨_, by rw [← hjl]; exact hW.word⟩⟩)
theorem parts_it (c : Clk) (len : Nat → Int) (lf : FuncId) [Ent Try.prog lf] (caps : List Value) (w W1 : World) (b1 b2 : Nat) (hok : Ok c.n c.ts c.ps c.sp) (hA : c.In w) (hlen : ∀ i, i < c.ps.length → 0 ≤ len i ∧ len i ≤ 1048576)
    (hcl : LenAt w c.ps.length len lf caps) (hS : Same (base w) w W1) (h1 : W1.heap[b1]? = some (.cells ⟨c.v⟩ 26 (0, 0))) (h2 : W1.heap[b2]? = some (.cells ⟨[.func (.func lf) ⟨[]⟩ ⟨caps⟩]⟩ 62 (0, 0))) :
    It Try.prog 51 [.pointer (some ⟨b1, 0, none⟩), .pointer (some ⟨b2, 0, none⟩)] ptE (pf (tk c.ts) c.ps len c.n.toNat 0 0 0) (Rp w b1 b2) W1 := by
  refine parts_itR (Rp w b1 b2) c len lf caps w W1 b1 b2 (fun k h => .inl h) (.inr (.inl rfl)) (.inr (.inr rfl)) ?_ hok hA hlen (fun i hi W hW => hcl i hi W ((hS.trans (hW.mono fun k hk => .inl hk)).below (Nat.le_refl _) fun _ hk => hk)) hS h1 h2
  rintro k (h | rfl | rfl)
  · have := hS.size; unfold base at h; omega
  · exact lt_of_heap h1
  · exact lt_of_heap h2
end R13
end Go.Proofs
